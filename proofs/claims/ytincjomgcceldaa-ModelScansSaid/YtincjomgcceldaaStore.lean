/- Commits and stores: lists of sets with stamps, in memory; what is only read of them. -/
import Derived.Test.YtincjomgcceldaaSum
import Derived.Deep.RegionHeld3
namespace Go.Proofs.Ytincjomgcceldaa
open Go.RowKit

structure Cm where
  stamp : Int
  set : List W3
/-- a commit's two cells -/
structure CmV where
  stamp : Int
  a : Option Addr
  n : Nat
  c : Nat
def CmV.cells (v : CmV) : List Value := [.int .u64 v.stamp, .slice v.a v.n v.c]
def cV (vs : List CmV) : List Value := vs.flatMap CmV.cells
theorem cV_append (a b : List CmV) : cV (a ++ b) = cV a ++ cV b := List.flatMap_append
theorem cV_length : ∀ xs : List CmV, (cV xs).length = xs.length * 2
  | [] => rfl
  | x :: l => by simp only [cV, List.flatMap_cons, List.length_append, List.length_cons]; have := cV_length l; unfold cV at this; rw [this]; simp [CmV.cells]; omega
theorem cV_get : ∀ {xs : List CmV} {k : Nat} {x : CmV}, xs[k]? = some x → (cV xs)[k * 2]? = some (.int .u64 x.stamp) ∧ (cV xs)[k * 2 + 1]? = some (.slice x.a x.n x.c)
  | [], k, x, h => by simp at h
  | y :: l, 0, x, h => by
    obtain rfl : y = x := by simpa using h
    exact ⟨rfl, rfl⟩
  | y :: l, k + 1, x, h => by
    have ih := cV_get (xs := l) (k := k) (by simpa using h)
    have e : ∀ j, (cV (y :: l))[j + 2]? = (cV l)[j]? := fun j => rfl
    rw [show (k + 1) * 2 = k * 2 + 2 from by omega, show k * 2 + 2 + 1 = k * 2 + 1 + 2 from by omega, e, e]
    exact ih
theorem one_cV (xs : List CmV) : ∀ u ∈ cV xs, u.oneCell' = true := by
  intro u hu
  obtain ⟨x, _, hx⟩ := List.mem_flatMap.1 hu
  simp [CmV.cells] at hx; rcases hx with rfl | rfl <;> rfl

/-- a stamp's range -/
def okStamp (s : Int) : Prop := 0 ≤ s ∧ s ≤ 18446744073709551615
/-- the cells tell those commits -/
def Tells (w : World) (vs : List CmV) (xs : List Cm) : Prop :=
  vs.length = xs.length ∧ ∀ (k : Nat) (v : CmV) (x : Cm), vs[k]? = some v → xs[k]? = some x → v.stamp = x.stamp ∧ okStamp x.stamp ∧ SlW w v.a v.n v.c x.set
theorem Tells.below {w w' : World} {vs : List CmV} {xs : List Cm} (h : Tells w vs xs) (hb : Below w.heap.size w w') : Tells w' vs xs :=
  ⟨h.1, fun k v x h1 h2 => let ⟨a, b, c⟩ := h.2 k v x h1 h2; ⟨a, b, c.below hb⟩⟩
theorem Tells.nil_ (w : World) : Tells w [] [] := ⟨rfl, fun k v x h => by simp at h⟩
theorem Tells.snoc {w : World} {vs : List CmV} {xs : List Cm} (h : Tells w vs xs) {v : CmV} {x : Cm} (h1 : v.stamp = x.stamp) (h2 : okStamp x.stamp) (h3 : SlW w v.a v.n v.c x.set) : Tells w (vs ++ [v]) (xs ++ [x]) := by
  refine ⟨by simp [h.1], fun k v' x' hv hx => ?_⟩
  rw [List.getElem?_append] at hv hx
  split at hv
  · rename_i hk
    rw [if_pos (by rw [← h.1]; exact hk)] at hx
    exact h.2 k v' x' hv hx
  · rename_i hk
    rw [if_neg (by rw [← h.1]; exact hk)] at hx
    have h4 := (List.getElem?_eq_some_iff.1 hv).1
    have h5 : k - vs.length = 0 := by simpa using h4
    rw [h5] at hv
    rw [← h.1, h5] at hx
    simp at hv hx
    subst hv; subst hx
    exact ⟨h1, h2, h3⟩

/-- a slice of commits -/
def SlC (w : World) (A : Option Addr) (n c : Nat) (xs : List Cm) : Prop := ∃ vs, Sl w 2 A n c (cV vs) ∧ Tells w vs xs
theorem SlC.below {w w' : World} {A : Option Addr} {n c : Nat} {xs : List Cm} (h : SlC w A n c xs) (hb : Below w.heap.size w w') : SlC w' A n c xs :=
  let ⟨vs, h1, h2⟩ := h; ⟨vs, h1.below hb, h2.below hb⟩
theorem slC_max {w : World} {A : Option Addr} {n c : Nat} {xs : List Cm} (h : SlC w A n c xs) : n ≤ c ∧ c ≤ 9223372036854775807 := let ⟨_, h1, _⟩ := h; sl_max h1
theorem slC_len {w : World} {A : Option Addr} {n c : Nat} {xs : List Cm} (h : SlC w A n c xs) : xs.length = n := by
  obtain ⟨vs, h1, h2⟩ := h
  have := h1.1; rw [cV_length] at this; have := h2.1; omega
theorem SlC.nil_ (w : World) : SlC w none 0 0 [] := ⟨[], Sl.nil_ w 2, Tells.nil_ w⟩
theorem slC_get {w : World} {A : Option Addr} {n c : Nat} {xs : List Cm} (h : SlC w A n c xs) {k : Nat} (hk : k < n) :
    ∃ b o x A' n' c', A = some ⟨b, o, none⟩ ∧ b < w.heap.size ∧ xs[k]? = some x ∧ w.cell? ⟨b, o + k * 2, none⟩ = some (.int .u64 x.stamp) ∧ w.cell? ⟨b, o + k * 2 + 1, none⟩ = some (.slice A' n' c') ∧ okStamp x.stamp ∧ SlW w A' n' c' x.set := by
  obtain ⟨vs, hs, ht⟩ := h
  have hlen : vs.length = n := by have := hs.1; rw [cV_length] at this; omega
  obtain ⟨b, o, e, hb, hc⟩ := hs.2.2.2 (by omega)
  have hv : vs[k]? = some vs[k] := List.getElem?_eq_getElem (by omega)
  have hx : xs[k]? = some (xs[k]'(by rw [← ht.1]; omega)) := List.getElem?_eq_getElem _
  obtain ⟨h0, h1⟩ := cV_get hv
  obtain ⟨e1, e2, e3⟩ := ht.2 k _ _ hv hx
  refine ⟨b, o, _, _, _, _, e, hb, hx, ?_, hc _ _ h1, e2, e3⟩
  rw [← e1]; exact hc _ _ h0
theorem slC_at {w : World} {b o n c : Nat} {xs : List Cm} (h : SlC w (some ⟨b, o, none⟩) n c xs) {k : Nat} {x : Cm} (hx : xs[k]? = some x) :
    ∃ A' n' c', b < w.heap.size ∧ w.cell? ⟨b, o + k * 2, none⟩ = some (.int .u64 x.stamp) ∧ w.cell? ⟨b, o + k * 2 + 1, none⟩ = some (.slice A' n' c') ∧ okStamp x.stamp ∧ SlW w A' n' c' x.set := by
  obtain ⟨b', o', y, A', n', c', he, hb, hy, h0, h1, h2, h3⟩ := slC_get h (k := k) (by have := slC_len h; have := (List.getElem?_eq_some_iff.1 hx).1; omega)
  injection he with he; injection he with e1 e2; subst e1; subst e2
  rw [hx] at hy; cases hy
  exact ⟨A', n', c', hb, h0, h1, h2, h3⟩

/-! ### the last stamp -/
def lastC (xs : List Cm) : Int := match xs.getLast? with | some x => x.stamp | none => 0
theorem lastC_at {xs : List Cm} {k : Nat} {x : Cm} (hx : xs[k]? = some x) (hn : xs.length = k + 1) : lastC xs = x.stamp := by
  unfold lastC; rw [List.getLast?_eq_getElem?, hn, Nat.add_sub_cancel, hx]
theorem lastC_nil : lastC [] = 0 := rfl
theorem lastC_ok {w : World} {A : Option Addr} {n c : Nat} {xs : List Cm} (h : SlC w A n c xs) : okStamp (lastC xs) := by
  rcases Nat.eq_zero_or_pos n with h0 | h0
  · have : xs = [] := List.eq_nil_of_length_eq_zero (by rw [slC_len h, h0])
    subst this; exact ⟨by simp [lastC], by simp [lastC]⟩
  · obtain ⟨b, o, x, A', n', c', _, _, hx, _, _, h2, _⟩ := slC_get h (k := n - 1) (by omega)
    rw [lastC_at hx (by rw [slC_len h]; omega)]; exact h2

theorem last_any {A : Option Addr} {n c : Nat} {xs : List Cm} {w : World} (h : SlC w A n c xs) :
    Calls Try.prog 20 #[.slice A n c] w fun e w' => e = .returned (.int .u64 (lastC xs)) ∧ w = w' := by
  have hm := slC_max h
  have hl := Lib.hid (slC_len h)
  by_cases h0 : n = 0
  · subst h0
    have hx : xs = [] := List.eq_nil_of_length_eq_zero hl.out
    subst hx
    clear h
    go_enter Try.func20, Try.ntmps20
    go_wp2
    go_ret
    exact ⟨rfl, rfl⟩
  · obtain ⟨b, o, x, A', n', c', rfl, hb, hx, c0, c1, h2, h3⟩ := slC_get h (k := n - 1) (by omega)
    have HL := Lib.hid (lastC_at hx (by rw [hl.out]; omega))
    obtain ⟨m, rfl⟩ : ∃ m, n = m + 1 := ⟨n - 1, by omega⟩
    rw [Nat.add_sub_cancel] at c0
    clear hx h c1 h3 h2 hl
    have hne : (((m + 1 : Nat) : Int) == 0) = false := by simp; omega
    have hi0 : (0 : Int) ≤ ((m + 1 : Nat) : Int) - 1 := by omega
    go_enter Try.func20, Try.ntmps20
    go_wp2
    go_ret
    exact ⟨ret_int HL.out.symm, rfl⟩
theorem rlast_any {A : Option Addr} {n c : Nat} {xs : List Cm} {w : World} (h : SlC w A n c xs) :
    Calls Try.prog 21 #[.slice A n c] w fun e w' => e = .returned (.int .u64 (lastC xs)) ∧ w = w' := by
  have hm := slC_max h
  have hl := Lib.hid (slC_len h)
  by_cases h0 : n = 0
  · subst h0
    have hx : xs = [] := List.eq_nil_of_length_eq_zero hl.out
    subst hx
    clear h
    go_enter Try.func21, Try.ntmps21
    go_wp2
    go_ret
    exact ⟨rfl, rfl⟩
  · obtain ⟨b, o, x, A', n', c', rfl, hb, hx, c0, c1, h2, h3⟩ := slC_get h (k := n - 1) (by omega)
    have HL := Lib.hid (lastC_at hx (by rw [hl.out]; omega))
    obtain ⟨m, rfl⟩ : ∃ m, n = m + 1 := ⟨n - 1, by omega⟩
    rw [Nat.add_sub_cancel] at c0
    clear hx h c1 h3 h2 hl
    have hne : (((m + 1 : Nat) : Int) == 0) = false := by simp; omega
    have hi0 : (0 : Int) ≤ ((m + 1 : Nat) : Int) - 1 := by omega
    go_enter Try.func21, Try.ntmps21
    go_wp2
    go_ret
    exact ⟨ret_int HL.out.symm, rfl⟩
end Go.Proofs.Ytincjomgcceldaa
