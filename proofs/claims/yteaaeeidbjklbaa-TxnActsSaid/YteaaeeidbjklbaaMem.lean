/- Memory: a slice that reads as a list of writes, or of pairs. -/
import Derived.Test.YteaaeeidbjklbaaRows
import Derived.Test.YteaaeeidbjklbaaOver
import Derived.WalkSpells
import Derived.Outline
import Derived.Handy
import Derived.Maps.AppendAt
import Derived.Lib.Hide
import Derived.Deep.QuietTactic
import Derived.BigQuiet
namespace Go.Proofs.Yteaaeeidbjklbaa
open Go.RowKit

theorem bt {w w1 w2 : World} (h : Below w.heap.size w w1) (k : Below w1.heap.size w1 w2) : Below w.heap.size w w2 := h.trans (k.mono h.size)

/-- the slice value '.slice A n c' reads as the cells cs, sz of them an element -/
def Sl (w : World) (sz : Nat) (A : Option Addr) (n c : Nat) (cs : List Value) : Prop :=
  cs.length = n * sz ∧ n ≤ c ∧ c ≤ maxLen ∧ (0 < n → ∃ b o, A = some ⟨b, o, none⟩ ∧ b < w.heap.size ∧ ∀ j u, cs[j]? = some u → w.cell? ⟨b, o + j, none⟩ = some u)

theorem Sl.below {w w' : World} {sz : Nat} {A : Option Addr} {n c : Nat} {cs : List Value} (h : Sl w sz A n c cs) (hb : Below w.heap.size w w') : Sl w' sz A n c cs :=
  ⟨h.1, h.2.1, h.2.2.1, fun hn => by
    obtain ⟨b, o, e, hlt, hc⟩ := h.2.2.2 hn
    exact ⟨b, o, e, Nat.lt_of_lt_of_le hlt hb.size, fun j u hu => (hb.cell (p := ⟨b, o + j, none⟩) hlt).trans (hc j u hu)⟩⟩
theorem Sl.nil_ (w : World) (sz : Nat) : Sl w sz none 0 0 [] := ⟨by simp, Nat.le_refl _, by simp [maxLen], fun h => absurd h (by omega)⟩
theorem Sl.nz {w : World} {sz c : Nat} (A : Option Addr) (h : c ≤ maxLen) : Sl w sz A 0 c [] := ⟨by simp, Nat.zero_le _, h, fun h => absurd h (by omega)⟩
theorem Sl.of_own {w : World} {base e sz n : Nat} {v : Value} {cs : List Value} (h : w.ownsRow base e sz v n cs) : ∃ A c, v = .slice A n c ∧ Sl w sz A n c cs := by
  rcases h.2 with ⟨rfl, rfl⟩ | ⟨g, cap, cur, rfl, hb, hh, hn, hm, hs, ht⟩
  · have : cs = [] := List.eq_nil_of_length_eq_zero (by simpa using h.1)
    subst this
    exact ⟨_, _, rfl, Sl.nil_ w sz⟩
  · refine ⟨_, _, rfl, h.1, hn, hm, fun _ => ⟨g, 0, rfl, (Array.getElem?_eq_some_iff.1 hh).1, fun j u hu => ?_⟩⟩
    have := h.cells (g := g) rfl j u hu
    rwa [Addr.add_lit] at this

def W3.cells (x : W3) : List Value := [.string x.key, .string x.text, .bool x.gone]
def P2.cells (x : P2) : List Value := [.string x.key, .string x.text]
def cW (xs : List W3) : List Value := xs.flatMap W3.cells
def cP (xs : List P2) : List Value := xs.flatMap P2.cells
theorem cW_append (a b : List W3) : cW (a ++ b) = cW a ++ cW b := List.flatMap_append
theorem cP_append (a b : List P2) : cP (a ++ b) = cP a ++ cP b := List.flatMap_append
theorem cW_length : ∀ xs : List W3, (cW xs).length = xs.length * 3
  | [] => rfl
  | x :: l => by simp only [cW, List.flatMap_cons, List.length_append, List.length_cons]; have := cW_length l; unfold cW at this; rw [this]; simp [W3.cells]; omega
theorem cP_length : ∀ xs : List P2, (cP xs).length = xs.length * 2
  | [] => rfl
  | x :: l => by simp only [cP, List.flatMap_cons, List.length_append, List.length_cons]; have := cP_length l; unfold cP at this; rw [this]; simp [P2.cells]; omega
theorem cW_get : ∀ {xs : List W3} {k : Nat} {x : W3}, xs[k]? = some x → (cW xs)[k * 3]? = some (.string x.key) ∧ (cW xs)[k * 3 + 1]? = some (.string x.text) ∧ (cW xs)[k * 3 + 2]? = some (.bool x.gone)
  | [], k, x, h => by simp at h
  | y :: l, 0, x, h => by
    obtain rfl : y = x := by simpa using h
    exact ⟨rfl, rfl, rfl⟩
  | y :: l, k + 1, x, h => by
    have ih := cW_get (xs := l) (k := k) (by simpa using h)
    have e : ∀ j, (cW (y :: l))[j + 3]? = (cW l)[j]? := fun j => rfl
    rw [show (k + 1) * 3 = k * 3 + 3 from by omega, show k * 3 + 3 + 1 = k * 3 + 1 + 3 from by omega, show k * 3 + 3 + 2 = k * 3 + 2 + 3 from by omega, e, e, e]
    exact ih
theorem cP_get : ∀ {xs : List P2} {k : Nat} {x : P2}, xs[k]? = some x → (cP xs)[k * 2]? = some (.string x.key) ∧ (cP xs)[k * 2 + 1]? = some (.string x.text)
  | [], k, x, h => by simp at h
  | y :: l, 0, x, h => by
    obtain rfl : y = x := by simpa using h
    exact ⟨rfl, rfl⟩
  | y :: l, k + 1, x, h => by
    have ih := cP_get (xs := l) (k := k) (by simpa using h)
    have e : ∀ j, (cP (y :: l))[j + 2]? = (cP l)[j]? := fun j => rfl
    rw [show (k + 1) * 2 = k * 2 + 2 from by omega, show k * 2 + 2 + 1 = k * 2 + 1 + 2 from by omega, e, e]
    exact ih

abbrev SlW (w : World) (A : Option Addr) (n c : Nat) (xs : List W3) : Prop := Sl w 3 A n c (cW xs)
abbrev SlP (w : World) (A : Option Addr) (n c : Nat) (xs : List P2) : Prop := Sl w 2 A n c (cP xs)

theorem slW_len {w : World} {A : Option Addr} {n c : Nat} {xs : List W3} (h : SlW w A n c xs) : xs.length = n := by
  have h1 := h.1; rw [cW_length] at h1; omega
theorem slP_len {w : World} {A : Option Addr} {n c : Nat} {xs : List P2} (h : SlP w A n c xs) : xs.length = n := by
  have h1 := h.1; rw [cP_length] at h1; omega
theorem sl_max {w : World} {sz : Nat} {A : Option Addr} {n c : Nat} {cs : List Value} (h : Sl w sz A n c cs) : n ≤ c ∧ c ≤ 9223372036854775807 := by
  have h1 := h.2.1; have h2 := h.2.2.1; unfold maxLen at h2; omega
theorem slW_get {w : World} {A : Option Addr} {n c : Nat} {xs : List W3} (h : SlW w A n c xs) {k : Nat} (hk : k < n) :
    ∃ b o x, A = some ⟨b, o, none⟩ ∧ b < w.heap.size ∧ xs[k]? = some x ∧ w.cell? ⟨b, o + k * 3, none⟩ = some (.string x.key) ∧ w.cell? ⟨b, o + k * 3 + 1, none⟩ = some (.string x.text) ∧ w.cell? ⟨b, o + k * 3 + 2, none⟩ = some (.bool x.gone) := by
  obtain ⟨b, o, e, hb, hc⟩ := h.2.2.2 (by omega)
  have hl : k < xs.length := by rw [slW_len h]; exact hk
  have hx : xs[k]? = some xs[k] := List.getElem?_eq_getElem hl
  obtain ⟨h0, h1, h2⟩ := cW_get hx
  exact ⟨b, o, xs[k], e, hb, hx, hc _ _ h0, hc _ _ h1, hc _ _ h2⟩
theorem slP_get {w : World} {A : Option Addr} {n c : Nat} {xs : List P2} (h : SlP w A n c xs) {k : Nat} (hk : k < n) :
    ∃ b o x, A = some ⟨b, o, none⟩ ∧ b < w.heap.size ∧ xs[k]? = some x ∧ w.cell? ⟨b, o + k * 2, none⟩ = some (.string x.key) ∧ w.cell? ⟨b, o + k * 2 + 1, none⟩ = some (.string x.text) := by
  obtain ⟨b, o, e, hb, hc⟩ := h.2.2.2 (by omega)
  have hl : k < xs.length := by rw [slP_len h]; exact hk
  have hx : xs[k]? = some xs[k] := List.getElem?_eq_getElem hl
  obtain ⟨h0, h1⟩ := cP_get hx
  exact ⟨b, o, xs[k], e, hb, hx, hc _ _ h0, hc _ _ h1⟩
theorem slW_at {w : World} {b o n c : Nat} {xs : List W3} (h : SlW w (some ⟨b, o, none⟩) n c xs) {k : Nat} {x : W3} (hx : xs[k]? = some x) :
    b < w.heap.size ∧ w.cell? ⟨b, o + k * 3, none⟩ = some (.string x.key) ∧ w.cell? ⟨b, o + k * 3 + 1, none⟩ = some (.string x.text) ∧ w.cell? ⟨b, o + k * 3 + 2, none⟩ = some (.bool x.gone) := by
  obtain ⟨b', o', y, he, hb, hy, h0, h1, h2⟩ := slW_get h (k := k) (by have := slW_len h; have := (List.getElem?_eq_some_iff.1 hx).1; omega)
  injection he with he; injection he with e1 e2; subst e1; subst e2
  rw [hx] at hy; cases hy
  exact ⟨hb, h0, h1, h2⟩
theorem slP_at {w : World} {b o n c : Nat} {xs : List P2} (h : SlP w (some ⟨b, o, none⟩) n c xs) {k : Nat} {x : P2} (hx : xs[k]? = some x) :
    b < w.heap.size ∧ w.cell? ⟨b, o + k * 2, none⟩ = some (.string x.key) ∧ w.cell? ⟨b, o + k * 2 + 1, none⟩ = some (.string x.text) := by
  obtain ⟨b', o', y, he, hb, hy, h0, h1⟩ := slP_get h (k := k) (by have := slP_len h; have := (List.getElem?_eq_some_iff.1 hx).1; omega)
  injection he with he; injection he with e1 e2; subst e1; subst e2
  rw [hx] at hy; cases hy
  exact ⟨hb, h0, h1⟩
theorem get_some {α : Type} {xs : List α} {k : Nat} {x : α} (h : xs[k]? = some x) : ∃ hk : k < xs.length, xs[k] = x := by
  obtain ⟨hk, e⟩ := List.getElem?_eq_some_iff.1 h
  exact ⟨hk, e⟩

/-- a block that was laid ahead of a call stands behind it -/
theorem kept {w w1 : World} {cs : Array Value} {t : TypeId} (hb : Below (w.alloc (.cells cs t)).heap.size (w.alloc (.cells cs t)) w1) :
    w.heap.size + 1 ≤ w1.heap.size ∧ (∀ j v, cs[j]? = some v → w1.cell? ⟨w.heap.size, j, none⟩ = some v) ∧ (∀ j, w1.frozen? ⟨w.heap.size, j, none⟩ = false) := by
  refine ⟨by have := hb.size; simpa using this, fun j v hv => ?_, fun j => ?_⟩
  · rw [hb.cell (p := ⟨w.heap.size, j, none⟩) (by simp), cell_of_row _ _ j _ _ (0, 0) (heap_alloc_new w _)]; exact hv
  · rw [hb.frozen (p := ⟨w.heap.size, j, none⟩) (by simp)]
    have := heap_alloc_new w (.cells cs t)
    unfold World.frozen?
    rw [this]
    simp
theorem kept3 {w w1 : World} {a b c : Value} {t : TypeId} (hb : Below (w.alloc (.cells #[a, b, c] t)).heap.size (w.alloc (.cells #[a, b, c] t)) w1) :
    w.heap.size + 1 ≤ w1.heap.size ∧ w1.cell? ⟨w.heap.size, 0, none⟩ = some a ∧ w1.cell? ⟨w.heap.size, 1, none⟩ = some b ∧ w1.cell? ⟨w.heap.size, 2, none⟩ = some c ∧
    w1.frozen? ⟨w.heap.size, 0, none⟩ = false ∧ w1.frozen? ⟨w.heap.size, 1, none⟩ = false ∧ w1.frozen? ⟨w.heap.size, 2, none⟩ = false := by
  obtain ⟨h1, h2, h3⟩ := kept hb
  exact ⟨h1, h2 0 a rfl, h2 1 b rfl, h2 2 c rfl, h3 0, h3 1, h3 2⟩
/-- three cells of one block, written in turn -/
theorem set3 {w : World} {b : Nat} {a0 a1 a2 : Value} (c0 : w.cell? ⟨b, 0, none⟩ = some a0) (c1 : w.cell? ⟨b, 1, none⟩ = some a1) (c2 : w.cell? ⟨b, 2, none⟩ = some a2) (x y z : Value) :
    (((w.setCell ⟨b, 0, none⟩ x).setCell ⟨b, 1, none⟩ y).setCell ⟨b, 2, none⟩ z).cell? ⟨b, 0, none⟩ = some x ∧
    (((w.setCell ⟨b, 0, none⟩ x).setCell ⟨b, 1, none⟩ y).setCell ⟨b, 2, none⟩ z).cell? ⟨b, 1, none⟩ = some y ∧
    (((w.setCell ⟨b, 0, none⟩ x).setCell ⟨b, 1, none⟩ y).setCell ⟨b, 2, none⟩ z).cell? ⟨b, 2, none⟩ = some z := by
  have ne : ∀ i j : Nat, i ≠ j → (⟨b, i, none⟩ : Addr) ≠ ⟨b, j, none⟩ := fun i j h e => h (by injection e)
  have far : ∀ (w : World) (i j : Nat) (v : Value), i ≠ j → (w.setCell ⟨b, i, none⟩ v).cell? ⟨b, j, none⟩ = w.cell? ⟨b, j, none⟩ := fun w i j v h => World.cell?_setCell_other w _ _ _ (ne i j h)
  have a0 := World.cell?_setCell_same w ⟨b, 0, none⟩ x c0
  have a1 := World.cell?_setCell_same (w.setCell ⟨b, 0, none⟩ x) ⟨b, 1, none⟩ y ((far w 0 1 x (by omega)).trans c1)
  exact ⟨(far _ 2 0 z (by omega)).trans ((far _ 1 0 y (by omega)).trans a0), (far _ 2 1 z (by omega)).trans a1,
    World.cell?_setCell_same _ ⟨b, 2, none⟩ z ((far _ 1 2 y (by omega)).trans ((far _ 0 2 x (by omega)).trans c2))⟩
end Go.Proofs.Yteaaeeidbjklbaa
