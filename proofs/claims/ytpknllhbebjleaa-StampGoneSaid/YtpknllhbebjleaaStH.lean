/- Loads and stores of the document's watch; the two watches side by side. -/
import Derived.Test.YtpknllhbebjleaaStG
import Derived.Test.YtpknllhbebjleaaInts
namespace Go.Proofs.Ytpknllhbebjleaa
open Go.RowKit

section
variable {ops : Array Oper} {rest : List Oper} {o : Oper} {a : Act} {w : World} {Q : Exit → Act → World → Prop}
theorem wpList_loadW (hgd : o.guard = none) (x : Operand) (ho : o.op = .load 35 x) (g : Nat) (at_ : Nat → Int) (op : Nat → Bool)
    (hx : a.eval x = .pointer (some ⟨g, 0, none⟩)) (hr : RefW w g at_ op) (h : wpList Try.prog ops Q rest (a.put o.dst (mW at_ op)) w) : wpList Try.prog ops Q (o :: rest) a w :=
  wpList_load_row hgd 35 x ho g hx 35 (arr at_ op) (0, 0) _ hr Try.underlying35 rfl info_W h
theorem wpList_storeW (hgd : o.guard = none) (x y : Operand) (ho : o.op = .store 35 x y) (g : Nat) (at_ : Nat → Int) (op : Nat → Bool)
    (hx : a.eval x = .pointer (some ⟨g, 0, none⟩)) (hy : a.eval y = mW at_ op) {at' : Nat → Int} {op' : Nat → Bool} (hr : RefW w g at' op')
    (h : ∀ w', RefW w' g at_ op → w.grownBy w' (some g) → wpList Try.prog ops Q rest (a.put o.dst undef) w') : wpList Try.prog ops Q (o :: rest) a w :=
  wpList_storeRow hgd 35 x y ho g (arr at_ op) hx hy 35 _ hr info_W rfl (arr_one _ _) h
end
/-- a block, as it was laid -/
abbrev Bk (w : World) (g : Nat) (t : TypeId) (cs : Array Value) : Prop := w.heap[g]? = some (.cells cs t (0, 0))
section
variable {w w1 : World} {g : Nat} {t : TypeId} {cs : Array Value}
theorem Bk.lt (h : Bk w g t cs) : g < w.heap.size := (Array.getElem?_eq_some_iff.1 h).1
theorem Bk.new (w : World) (t : TypeId) (cs : Array Value) : Bk (w.alloc (.cells cs t)) w.heap.size t cs := heap_alloc_new w _
theorem Bk.below (h : Bk w g t cs) (k : Below w.heap.size w w1) : Bk w1 g t cs := (k.block g h.lt).trans h
theorem Bk.turn {b lo hi : Nat} (h : Bk w g t cs) (k : Turn b lo hi w w1) (hne : g ≠ b) : Bk w1 g t cs := (k.g.block g h.lt (fun e => hne (by injection e))).trans h
theorem Bk.cell (h : Bk w g t cs) {i : Nat} {v : Value} (hv : cs[i]? = some v) : w.cell? ⟨g, i, none⟩ = some v := (cell_of_row w g i cs t (0, 0) h).trans hv
theorem below_new {o : Obj} (k : (w.alloc o).grownBy w1 (some w.heap.size)) : Below w.heap.size w w1 :=
  ((Below.refl w.heap.size w).alloc (Nat.le_refl _) o).grown k (by simp) (fun j hj => by cases hj; exact Nat.le_refl _)
end
section
variable {w w1 : World} {b g : Nat} {at_ : Nat → Int} {op : Nat → Bool}
theorem Watch.far (h : Watch w b at_ op) (k : w.grownBy w1 (some g)) (hne : b ≠ g) : Watch w1 b at_ op := by
  obtain ⟨l, n, ⟨hp, ha, ho⟩, hi⟩ := h
  have hs : some b ≠ some g := fun e => hne (by injection e)
  exact ⟨l, n, ⟨⟨Nat.lt_of_lt_of_le hp.lt k.size, fun i hi => (k.cell_far ⟨b, _, none⟩ hp.lt hs).trans (hp.a i hi), fun i hi => (k.cell_far ⟨b, _, none⟩ hp.lt hs).trans (hp.d i hi), (k.cell_far ⟨b, _, none⟩ hp.lt hs).trans hp.m, fun j => (k.frozen_far ⟨b, j, none⟩ hp.lt hs).trans (hp.fr j)⟩,
    fun i hi => (k.cell_far ⟨b, _, none⟩ hp.lt hs).trans (ha i hi), fun i hi => (k.cell_far ⟨b, _, none⟩ hp.lt hs).trans (ho i hi)⟩, hi⟩
theorem okByte_of {n : Int} (h : (Lit.int .u8 n).wf = true) : 0 ≤ n ∧ n ≤ 255 := by
  simp [Lit.wf] at h
  have e1 : IntKind.u8.min = 0 := rfl
  have e2 : IntKind.u8.max = 255 := rfl
  rw [e1, e2] at h
  exact h
/-- closed ones are nought -/
def Zed (at_ : Nat → Int) (op : Nat → Bool) : Prop := ∀ i, i < 8 → op i = false → at_ i = 0
theorem zed_new : Zed (fun _ => 0) (fun _ => false) := fun _ _ _ => rfl
theorem zed_open (h : Zed at_ op) (i : Nat) (a : Int) : Zed (upd at_ i a) (upd op i true) := fun j hj ho => by
  by_cases e : j = i
  · subst e; rw [upd_same] at ho; cases ho
  · rw [upd_other e] at ho ⊢; exact h j hj ho
theorem zed_close (h : Zed at_ op) (i : Nat) : Zed (upd at_ i 0) (upd op i false) := fun j hj ho => by
  by_cases e : j = i
  · subst e; rw [upd_same]
  · rw [upd_other e] at ho ⊢; exact h j hj ho
theorem zed_at (h : Zed at_ op) {i : Nat} (hi : i < 8) : atOf at_ op i = at_ i := by
  unfold atOf
  cases ho : op i with
  | true => simp
  | false => rw [h i hi ho]; simp
end
end Go.Proofs.Ytpknllhbebjleaa
