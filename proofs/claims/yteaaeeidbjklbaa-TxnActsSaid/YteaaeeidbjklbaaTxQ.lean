/- The document's table: a value of twenty-five cells. -/
import Derived.Test.YteaaeeidbjklbaaTxP
import Derived.Deep.MidRow
import Derived.Laws.ResultCell
namespace Go.Proofs.Yteaaeeidbjklbaa
open Go.RowKit Go.Maps

/-- a slice's three words -/
structure SV where
  a : Option Addr
  n : Nat
  c : Nat
abbrev SV.val (s : SV) : Value := .slice s.a s.n s.c
abbrev sv0 : SV := ⟨none, 0, 0⟩
def arrT (at_ : Nat → Int) (op : Nat → Bool) (S : Nat → SV) (V : SV) : Array Value := #[.int .u64 (at_ 0), .int .u64 (at_ 1), .int .u64 (at_ 2), .int .u64 (at_ 3), .int .u64 (at_ 4), .int .u64 (at_ 5), .int .u64 (at_ 6), .int .u64 (at_ 7),
  .bool (op 0), .bool (op 1), .bool (op 2), .bool (op 3), .bool (op 4), .bool (op 5), .bool (op 6), .bool (op 7),
  .slice (S 0).a (S 0).n (S 0).c, .slice (S 1).a (S 1).n (S 1).c, .slice (S 2).a (S 2).n (S 2).c, .slice (S 3).a (S 3).n (S 3).c, .slice (S 4).a (S 4).n (S 4).c, .slice (S 5).a (S 5).n (S 5).c, .slice (S 6).a (S 6).n (S 6).c, .slice (S 7).a (S 7).n (S 7).c, .slice V.a V.n V.c]
abbrev RefT (w : World) (g : Nat) (at_ : Nat → Int) (op : Nat → Bool) (S : Nat → SV) (V : SV) : Prop := w.heap[g]? = some (.cells (arrT at_ op S V) 36 (0, 0))
abbrev mT (at_ : Nat → Int) (op : Nat → Bool) (S : Nat → SV) (V : SV) : Value := .agg (arrT at_ op S V)
theorem info_RT : (Try.prog.info? 36).map (·.size) = some 25 := by kernel_rfl
theorem info_N : (Try.prog.info? 99).map (fun i => (i.zero, i.size, i.bytes)) = some (some (.agg #[.string ⟨#[]⟩, .int .u64 0]), 2, 24) := by kernel_rfl
section
variable {at_ at' : Nat → Int} {op op' : Nat → Bool} {S : Nat → SV} {V : SV} {w w1 : World} {g b M : Nat}
theorem arrT_one (at_ : Nat → Int) (op : Nat → Bool) (S : Nat → SV) (V : SV) : (arrT at_ op S V).all (·.oneCell') = true := by simp [arrT, Value.oneCell']
theorem arrT_at (at_ : Nat → Int) (op : Nat → Bool) (S : Nat → SV) (V : SV) {i : Nat} (hi : i < 8) : (arrT at_ op S V)[i]? = some (.int .u64 (at_ i)) := by
  rcases lt8 hi with rfl | rfl | rfl | rfl | rfl | rfl | rfl | rfl <;> rfl
theorem arrT_op (at_ : Nat → Int) (op : Nat → Bool) (S : Nat → SV) (V : SV) {i : Nat} (hi : i < 8) : (arrT at_ op S V)[8 + i]? = some (.bool (op i)) := by
  rcases lt8 hi with rfl | rfl | rfl | rfl | rfl | rfl | rfl | rfl <;> rfl
theorem arrT_S (at_ : Nat → Int) (op : Nat → Bool) (S : Nat → SV) (V : SV) {i : Nat} (hi : i < 8) : (arrT at_ op S V)[16 + i]? = some (.slice (S i).a (S i).n (S i).c) := by
  rcases lt8 hi with rfl | rfl | rfl | rfl | rfl | rfl | rfl | rfl <;> rfl
theorem arrT_V (at_ : Nat → Int) (op : Nat → Bool) (S : Nat → SV) (V : SV) : (arrT at_ op S V)[24]? = some (.slice V.a V.n V.c) := rfl
theorem arrT_setS (at_ : Nat → Int) (op : Nat → Bool) (S : Nat → SV) (V s : SV) {i : Nat} (hi : i < 8) : (arrT at_ op S V).setIfInBounds (16 + i) (.slice s.a s.n s.c) = arrT at_ op (upd S i s) V := by
  rcases lt8 hi with rfl | rfl | rfl | rfl | rfl | rfl | rfl | rfl <;> rfl
theorem arrT_setV (at_ : Nat → Int) (op : Nat → Bool) (S : Nat → SV) (V s : SV) : (arrT at_ op S V).setIfInBounds 24 (.slice s.a s.n s.c) = arrT at_ op S s := rfl
theorem RefT.lt (h : RefT w g at_ op S V) : g < w.heap.size := (Array.getElem?_eq_some_iff.1 h).1
theorem RefT.a (h : RefT w g at_ op S V) {i : Nat} (hi : i < 8) : w.cell? ⟨g, i, none⟩ = some (.int .u64 (at_ i)) := (cell_of_row w g i _ _ _ h).trans (arrT_at at_ op S V hi)
theorem RefT.o (h : RefT w g at_ op S V) {i : Nat} (hi : i < 8) : w.cell? ⟨g, 8 + i, none⟩ = some (.bool (op i)) := (cell_of_row w g (8 + i) _ _ _ h).trans (arrT_op at_ op S V hi)
theorem RefT.s (h : RefT w g at_ op S V) {i : Nat} (hi : i < 8) : w.cell? ⟨g, 16 + i, none⟩ = some (.slice (S i).a (S i).n (S i).c) := (cell_of_row w g (16 + i) _ _ _ h).trans (arrT_S at_ op S V hi)
theorem RefT.v (h : RefT w g at_ op S V) : w.cell? ⟨g, 24, none⟩ = some (.slice V.a V.n V.c) := (cell_of_row w g 24 _ _ _ h).trans (arrT_V at_ op S V)
theorem RefT.fr (h : RefT w g at_ op S V) (j : Nat) : w.frozen? ⟨g, j, none⟩ = false := frozen_of_row w g j _ _ h
theorem RefT.below (h : RefT w g at_ op S V) (k : Below w.heap.size w w1) : RefT w1 g at_ op S V := (k.block g h.lt).trans h
theorem RefT.chg (h : RefT w g at_ op S V) (k : Chg b M w w1) (h1 : g ≠ b) (h2 : g ≠ M) : RefT w1 g at_ op S V := (k.block g h.lt h1 h2).trans h
theorem RefT.setS (h : RefT w g at_ op S V) {i : Nat} (hi : i < 8) (s : SV) : RefT (w.setCell ⟨g, 16 + i, none⟩ (.slice s.a s.n s.c)) g at_ op (upd S i s) V := by
  have := heap_setCell h (16 + i) (.slice s.a s.n s.c)
  rwa [arrT_setS at_ op S V s hi] at this
theorem RefT.setV (h : RefT w g at_ op S V) (s : SV) : RefT (w.setCell ⟨g, 24, none⟩ (.slice s.a s.n s.c)) g at_ op S s := by
  have := heap_setCell h 24 (.slice s.a s.n s.c)
  rwa [arrT_setV] at this
/-- cells of one block, one behind the other -/
theorem heap_setCells {t : TypeId} : ∀ (vs : List Value) (o : Nat) (w : World) (cs : Array Value), w.heap[g]? = some (.cells cs t (0, 0)) → ∃ cs', (w.setCells g o vs).heap[g]? = some (.cells cs' t (0, 0)) ∧ cs' = (vs.zipIdx o).foldl (fun a p => a.setIfInBounds p.2 p.1) cs
  | [], _, _, cs, h => ⟨cs, h, rfl⟩
  | v :: r, o, w, cs, h => by
    obtain ⟨cs', h1, h2⟩ := heap_setCells r (o + 1) (w.setCell ⟨g, o, none⟩ v) _ (heap_setCell h o v)
    exact ⟨cs', h1, by rw [h2]; rfl⟩
theorem grown_setCells : ∀ (vs : List Value) (o : Nat) (w : World), w.grownBy (w.setCells g o vs) (some g)
  | [], _, w => .refl _ _
  | v :: r, o, w => by
    have h1 := set_grown w g o v
    have h2 := grown_setCells r (o + 1) (w.setCell ⟨g, o, none⟩ v)
    exact ⟨h2.os.trans h1.os, h2.tape.trans h1.tape, h2.output.trans h1.output, Nat.le_trans h1.size h2.size, fun i hi hn => (h2.block i (Nat.lt_of_lt_of_le hi h1.size) hn).trans (h1.block i hi hn)⟩
theorem setW_eq (at_ at' : Nat → Int) (op op' : Nat → Bool) (S : Nat → SV) (V : SV) : ((arr at' op').toList.zipIdx 0).foldl (fun a p => a.setIfInBounds p.2 p.1) (arrT at_ op S V) = arrT at' op' S V := by
  simp [arr, arrT]
theorem RefT.setW (h : RefT w g at_ op S V) (at' : Nat → Int) (op' : Nat → Bool) : RefT (w.setCells g 0 (arr at' op').toList) g at' op' S V := by
  obtain ⟨cs', h1, h2⟩ := heap_setCells (arr at' op').toList 0 w _ h
  exact h1.trans (by rw [h2, setW_eq])
theorem RefT.range (h : RefT w g at_ op S V) : w.rangeAt g 0 (arr at_ op).toList := fun j v hv => by
  rw [Nat.zero_add]
  rw [Array.getElem?_toList] at hv
  have hj : j < 16 := (Array.getElem?_eq_some_iff.1 hv).1
  rcases Nat.lt_or_ge j 8 with h8 | h8
  · rw [arr_at at_ op h8] at hv
    exact (h.a h8).trans hv
  · obtain ⟨i, rfl⟩ : ∃ i, j = 8 + i := ⟨j - 8, by omega⟩
    rw [arr_op at_ op (by omega)] at hv
    exact (h.o (by omega)).trans hv
theorem RefT.rangeT (h : RefT w g at_ op S V) : w.rangeAt g 0 (arrT at_ op S V).toList := fun j v hv => by
  rw [Nat.zero_add, cell_of_row w g j _ _ _ h]
  rwa [Array.getElem?_toList] at hv
end
section
variable {ops : Array Oper} {rest : List Oper} {o : Oper} {a : Act} {w : World} {Q : Exit → Act → World → Prop}
theorem wpList_loadT (hgd : o.guard = none) (x : Operand) (ho : o.op = .load 36 x) (g : Nat) (at_ : Nat → Int) (op : Nat → Bool) (S : Nat → SV) (V : SV)
    (hx : a.eval x = .pointer (some ⟨g, 0, none⟩)) (hr : RefT w g at_ op S V) (h : wpList Try.prog ops Q rest (a.put o.dst (mT at_ op S V)) w) : wpList Try.prog ops Q (o :: rest) a w :=
  wpList_load_row hgd 36 x ho g hx 36 (arrT at_ op S V) (0, 0) _ hr Try.underlying36 rfl info_RT h
theorem wpList_storeT (hgd : o.guard = none) (x y : Operand) (ho : o.op = .store 36 x y) (g : Nat) (at_ : Nat → Int) (op : Nat → Bool) (S : Nat → SV) (V : SV)
    (hx : a.eval x = .pointer (some ⟨g, 0, none⟩)) (hy : a.eval y = mT at_ op S V) {at' : Nat → Int} {op' : Nat → Bool} {S' : Nat → SV} {V' : SV} (hr : RefT w g at' op' S' V')
    (h : ∀ w', RefT w' g at_ op S V → w.grownBy w' (some g) → wpList Try.prog ops Q rest (a.put o.dst undef) w') : wpList Try.prog ops Q (o :: rest) a w :=
  wpList_storeRow hgd 36 x y ho g (arrT at_ op S V) hx hy 36 _ hr info_RT rfl (arrT_one _ _ _ _) h
theorem wpList_storeW (hgd : o.guard = none) (x y : Operand) (ho : o.op = .store 31 x y) (g : Nat) (at_ : Nat → Int) (op : Nat → Bool)
    (hx : a.eval x = .pointer (some ⟨g, 0, none⟩)) (hy : a.eval y = mW at_ op) {at' : Nat → Int} {op' : Nat → Bool} (hr : RefW w g at' op')
    (h : ∀ w', RefW w' g at_ op → w.grownBy w' (some g) → wpList Try.prog ops Q rest (a.put o.dst undef) w') : wpList Try.prog ops Q (o :: rest) a w :=
  wpList_storeRow hgd 31 x y ho g (arr at_ op) hx hy 31 _ hr info_RW14 rfl (arr_one _ _) h
theorem wpList_loadW (hgd : o.guard = none) (x : Operand) (ho : o.op = .load 31 x) (g : Nat) (at_ : Nat → Int) (op : Nat → Bool)
    (hx : a.eval x = .pointer (some ⟨g, 0, none⟩)) (hr : RefW w g at_ op) (h : wpList Try.prog ops Q rest (a.put o.dst (mW at_ op)) w) : wpList Try.prog ops Q (o :: rest) a w :=
  wpList_load_row hgd 31 x ho g hx 31 (arr at_ op) (0, 0) _ hr Try.underlying31 rfl info_RW14 h
/-- the watch, out of the table -/
theorem wpList_loadTW (hgd : o.guard = none) (x : Operand) (ho : o.op = .load 31 x) (g : Nat) (at_ : Nat → Int) (op : Nat → Bool) (S : Nat → SV) (V : SV)
    (hx : a.eval x = .pointer (some ⟨g, 0, none⟩)) (hr : RefT w g at_ op S V) (h : wpList Try.prog ops Q rest (a.put o.dst (mW at_ op)) w) : wpList Try.prog ops Q (o :: rest) a w :=
  wpList_load_mid hgd 31 x ho g 0 hx (arr at_ op).toList _ hr.range Try.underlying31 rfl (by rw [info_RW14]; rfl) h
theorem wpList_storeTW (hgd : o.guard = none) (x y : Operand) (ho : o.op = .store 31 x y) (g : Nat) (at_ : Nat → Int) (op : Nat → Bool)
    (hx : a.eval x = .pointer (some ⟨g, 0, none⟩)) (hy : a.eval y = mW at_ op) {at' : Nat → Int} {op' : Nat → Bool} {S : Nat → SV} {V : SV} (hr : RefT w g at' op' S V)
    (h : ∀ w', RefT w' g at_ op S V → w.grownBy w' (some g) → wpList Try.prog ops Q rest (a.put o.dst undef) w') : wpList Try.prog ops Q (o :: rest) a w := by
  refine wpList_store_mid hgd 31 x y ho g 0 (arr at_ op) hx hy (fun j hj => ?_) info_RW14 (arr_one _ _) (h _ (hr.setW at_ op) (grown_setCells _ _ _))
  rw [Nat.zero_add]
  refine ⟨?_, hr.fr j⟩
  have hj : j < 16 := hj
  rw [cell_of_row w g j _ _ _ hr]
  have : j < (arrT at' op' S V).size := by show j < 25; omega
  simp [Array.getElem?_eq_getElem this]
end
/-- each cell of the table, for a region that draws its order -/
theorem RefT.nums {at_ : Nat → Int} {op : Nat → Bool} {S : Nat → SV} {V : SV} {w : World} {g : Nat} (h : RefT w g at_ op S V) : w.cell? ⟨g, 0, none⟩ = some (.int .u64 (at_ 0)) ∧ w.cell? ⟨g, 1, none⟩ = some (.int .u64 (at_ 1)) ∧ w.cell? ⟨g, 2, none⟩ = some (.int .u64 (at_ 2)) ∧ w.cell? ⟨g, 3, none⟩ = some (.int .u64 (at_ 3)) ∧ w.cell? ⟨g, 4, none⟩ = some (.int .u64 (at_ 4)) ∧ w.cell? ⟨g, 5, none⟩ = some (.int .u64 (at_ 5)) ∧ w.cell? ⟨g, 6, none⟩ = some (.int .u64 (at_ 6)) ∧ w.cell? ⟨g, 7, none⟩ = some (.int .u64 (at_ 7)) ∧ w.cell? ⟨g, 8, none⟩ = some (.bool (op 0)) ∧ w.cell? ⟨g, 9, none⟩ = some (.bool (op 1)) ∧ w.cell? ⟨g, 10, none⟩ = some (.bool (op 2)) ∧ w.cell? ⟨g, 11, none⟩ = some (.bool (op 3)) ∧ w.cell? ⟨g, 12, none⟩ = some (.bool (op 4)) ∧ w.cell? ⟨g, 13, none⟩ = some (.bool (op 5)) ∧ w.cell? ⟨g, 14, none⟩ = some (.bool (op 6)) ∧ w.cell? ⟨g, 15, none⟩ = some (.bool (op 7)) ∧ w.cell? ⟨g, 16, none⟩ = some (.slice (S 0).a (S 0).n (S 0).c) ∧ w.cell? ⟨g, 17, none⟩ = some (.slice (S 1).a (S 1).n (S 1).c) ∧ w.cell? ⟨g, 18, none⟩ = some (.slice (S 2).a (S 2).n (S 2).c) ∧ w.cell? ⟨g, 19, none⟩ = some (.slice (S 3).a (S 3).n (S 3).c) ∧ w.cell? ⟨g, 20, none⟩ = some (.slice (S 4).a (S 4).n (S 4).c) ∧ w.cell? ⟨g, 21, none⟩ = some (.slice (S 5).a (S 5).n (S 5).c) ∧ w.cell? ⟨g, 22, none⟩ = some (.slice (S 6).a (S 6).n (S 6).c) ∧ w.cell? ⟨g, 23, none⟩ = some (.slice (S 7).a (S 7).n (S 7).c) ∧ w.cell? ⟨g, 24, none⟩ = some (.slice V.a V.n V.c) :=
  ⟨cell_of_row w g 0 _ _ _ h, cell_of_row w g 1 _ _ _ h, cell_of_row w g 2 _ _ _ h, cell_of_row w g 3 _ _ _ h, cell_of_row w g 4 _ _ _ h, cell_of_row w g 5 _ _ _ h, cell_of_row w g 6 _ _ _ h, cell_of_row w g 7 _ _ _ h, cell_of_row w g 8 _ _ _ h, cell_of_row w g 9 _ _ _ h, cell_of_row w g 10 _ _ _ h, cell_of_row w g 11 _ _ _ h, cell_of_row w g 12 _ _ _ h, cell_of_row w g 13 _ _ _ h, cell_of_row w g 14 _ _ _ h, cell_of_row w g 15 _ _ _ h, cell_of_row w g 16 _ _ _ h, cell_of_row w g 17 _ _ _ h, cell_of_row w g 18 _ _ _ h, cell_of_row w g 19 _ _ _ h, cell_of_row w g 20 _ _ _ h, cell_of_row w g 21 _ _ _ h, cell_of_row w g 22 _ _ _ h, cell_of_row w g 23 _ _ _ h, cell_of_row w g 24 _ _ _ h⟩
theorem RefT.loadAt {at_ : Nat → Int} {op : Nat → Bool} {S : Nat → SV} {V : SV} {w : World} {g : Nat} (h : RefT w g at_ op S V) : (Instr.loadAt 36 (.pointer (some ⟨g, 0, none⟩))).run Try.prog w = .ok (mT at_ op S V) w :=
  run_loadAt_mid w g 0 36 (arrT at_ op S V).toList _ h.rangeT Try.underlying36 rfl info_RT
theorem RefT.loadAtW {at_ : Nat → Int} {op : Nat → Bool} {S : Nat → SV} {V : SV} {w : World} {g : Nat} (h : RefT w g at_ op S V) : (Instr.loadAt 31 (.pointer (some ⟨g, 0, none⟩))).run Try.prog w = .ok (mW at_ op) w :=
  run_loadAt_mid w g 0 31 (arr at_ op).toList _ h.range Try.underlying31 rfl info_RW14
/-- a load of the whole table, kept whole; of the watch -/
noncomputable def sT (v : Value) : Sem Value := Instr.loadAt 36 v
theorem sT_eq (v : Value) : Instr.loadAt 36 v = sT v := rfl
noncomputable def sW (v : Value) : Sem Value := Instr.loadAt 31 v
theorem sW_eq (v : Value) : Instr.loadAt 31 v = sW v := rfl
theorem RefT.ld {at_ : Nat → Int} {op : Nat → Bool} {S : Nat → SV} {V : SV} {w : World} {g : Nat} (h : RefT w g at_ op S V) : (sT (.pointer (some ⟨g, 0, none⟩))).run Try.prog w = .ok (mT at_ op S V) w := h.loadAt
theorem RefT.ldW {at_ : Nat → Int} {op : Nat → Bool} {S : Nat → SV} {V : SV} {w : World} {g : Nat} (h : RefT w g at_ op S V) : (sW (.pointer (some ⟨g, 0, none⟩))).run Try.prog w = .ok (mW at_ op) w := h.loadAtW
theorem RefT.ldV {at_ : Nat → Int} {op : Nat → Bool} {S : Nat → SV} {V : SV} {w : World} {g : Nat} (h : RefT w g at_ op S V) : (loadVar 36 ⟨g, 0, none⟩).run Try.prog w = .ok (mT at_ op S V) w :=
  run_loadVar_mid w g 0 36 (arrT at_ op S V).toList _ h.rangeT Try.underlying36 rfl info_RT
theorem t_new (w : World) (at_ : Nat → Int) (op : Nat → Bool) (S : Nat → SV) (V : SV) : RefT (w.alloc (.cells (arrT at_ op S V) 36)) w.heap.size at_ op S V := heap_alloc_new w _
theorem ropen_out {at_ : Nat → Int} {op : Nat → Bool} {S : Nat → SV} {V : SV} {id : Int} (hi : id < 0 ∨ 8 ≤ id) (w : World) : Calls Try.prog 39 #[mT at_ op S V, .int .i64 id] w fun e w' => e = .returned (.bool false) ∧ Below w.heap.size w w' := by
  have HB := Lib.hid ((Below.refl w.heap.size w).alloc (Nat.le_refl _) (.cells (arrT at_ op S V) 36))
  rcases hi with hi | hi
  · have h2 : ¬ (0 : Int) ≤ id := by omega
    go_enter Try.func39, Try.ntmps39
    go_wp2
    go_ret
    exact ⟨rfl, HB.out⟩
  · have h2 : (0 : Int) ≤ id := by omega
    have h3 : ¬ id < 8 := by omega
    go_enter Try.func39, Try.ntmps39
    go_wp2
    go_ret
    exact ⟨rfl, HB.out⟩
theorem ropen_in {at_ : Nat → Int} {op : Nat → Bool} {S : Nat → SV} {V : SV} {i : Nat} (hi : i < 8) (w : World) : Calls Try.prog 39 #[mT at_ op S V, .int .i64 i] w fun e w' => e = .returned (.bool (op i)) ∧ Below w.heap.size w w' := by
  have HB := Lib.hid ((Below.refl w.heap.size w).alloc (Nat.le_refl _) (.cells (arrT at_ op S V) 36))
  have i1 : (0 : Int) ≤ (i : Int) := by omega
  have i2 : (i : Int) < 8 := by omega
  have c0 := arrT_op at_ op S V hi
  go_enter Try.func39, Try.ntmps39
  go_wp2
  go_ret
  exact ⟨rfl, HB.out⟩
end Go.Proofs.Yteaaeeidbjklbaa
