/- The document's watch: a value of sixteen cells. -/
import Derived.Test.YteaaeeidbjklbaaStD
import Derived.Deep.WholeRow
namespace Go.Proofs.Yteaaeeidbjklbaa
open Go.RowKit

def arr (at_ : Nat → Int) (op : Nat → Bool) : Array Value := #[.int .u64 (at_ 0), .int .u64 (at_ 1), .int .u64 (at_ 2), .int .u64 (at_ 3), .int .u64 (at_ 4), .int .u64 (at_ 5), .int .u64 (at_ 6), .int .u64 (at_ 7),
  .bool (op 0), .bool (op 1), .bool (op 2), .bool (op 3), .bool (op 4), .bool (op 5), .bool (op 6), .bool (op 7)]
theorem lt8 {k : Nat} (hk : k < 8) : k = 0 ∨ k = 1 ∨ k = 2 ∨ k = 3 ∨ k = 4 ∨ k = 5 ∨ k = 6 ∨ k = 7 := by omega
theorem arr_size (at_ : Nat → Int) (op : Nat → Bool) : (arr at_ op).size = 16 := rfl
theorem arr_at (at_ : Nat → Int) (op : Nat → Bool) {i : Nat} (hi : i < 8) : (arr at_ op)[i]? = some (.int .u64 (at_ i)) := by
  rcases lt8 hi with rfl | rfl | rfl | rfl | rfl | rfl | rfl | rfl <;> rfl
theorem arr_op (at_ : Nat → Int) (op : Nat → Bool) {i : Nat} (hi : i < 8) : (arr at_ op)[8 + i]? = some (.bool (op i)) := by
  rcases lt8 hi with rfl | rfl | rfl | rfl | rfl | rfl | rfl | rfl <;> rfl
theorem arr_setOp (at_ : Nat → Int) (op : Nat → Bool) {i : Nat} (hi : i < 8) (v : Bool) : (arr at_ op).setIfInBounds (8 + i) (.bool v) = arr at_ (upd op i v) := by
  rcases lt8 hi with rfl | rfl | rfl | rfl | rfl | rfl | rfl | rfl <;> rfl
theorem arr_setAt (at_ : Nat → Int) (op : Nat → Bool) {i : Nat} (hi : i < 8) (x : Int) : (arr at_ op).setIfInBounds i (.int .u64 x) = arr (upd at_ i x) op := by
  rcases lt8 hi with rfl | rfl | rfl | rfl | rfl | rfl | rfl | rfl <;> rfl
abbrev RefW (w : World) (g : Nat) (at_ : Nat → Int) (op : Nat → Bool) : Prop := w.heap[g]? = some (.cells (arr at_ op) 31 (0, 0))
abbrev mW (at_ : Nat → Int) (op : Nat → Bool) : Value := .agg (arr at_ op)
section
variable {w : World} {g : Nat} {at_ : Nat → Int} {op : Nat → Bool}
theorem RefW.lt (h : RefW w g at_ op) : g < w.heap.size := (Array.getElem?_eq_some_iff.1 h).1
theorem RefW.a (h : RefW w g at_ op) {i : Nat} (hi : i < 8) : w.cell? ⟨g, i, none⟩ = some (.int .u64 (at_ i)) := (cell_of_row w g i _ _ _ h).trans (arr_at at_ op hi)
theorem RefW.o (h : RefW w g at_ op) {i : Nat} (hi : i < 8) : w.cell? ⟨g, 8 + i, none⟩ = some (.bool (op i)) := (cell_of_row w g (8 + i) _ _ _ h).trans (arr_op at_ op hi)
theorem RefW.fr (h : RefW w g at_ op) (j : Nat) : w.frozen? ⟨g, j, none⟩ = false := frozen_of_row w g j _ _ h
theorem RefW.below {w1 : World} (h : RefW w g at_ op) (k : Below w.heap.size w w1) : RefW w1 g at_ op := (k.block g h.lt).trans h
theorem RefW.turn {w1 : World} {b lo hi : Nat} (h : RefW w g at_ op) (k : Turn b lo hi w w1) (hne : g ≠ b) : RefW w1 g at_ op := (k.g.block g h.lt (fun e => hne (by injection e))).trans h
theorem heap_setCell {w : World} {g : Nat} {cs : Array Value} {t : TypeId} (h : w.heap[g]? = some (.cells cs t (0, 0))) (i : Nat) (v : Value) : (w.setCell ⟨g, i, none⟩ v).heap[g]? = some (.cells (cs.setIfInBounds i v) t (0, 0)) := by
  have hlt := (Array.getElem?_eq_some_iff.1 h).1
  have he := (Array.getElem?_eq_some_iff.1 h).2
  unfold World.setCell
  simp [Array.getElem?_modify, h]
theorem RefW.set (h : RefW w g at_ op) {i : Nat} (hi : i < 8) (x : Int) (v : Bool) : RefW ((w.setCell ⟨g, 8 + i, none⟩ (.bool v)).setCell ⟨g, i, none⟩ (.int .u64 x)) g (upd at_ i x) (upd op i v) := by
  have h1 := heap_setCell h (8 + i) (.bool v)
  rw [arr_setOp at_ op hi] at h1
  have h2 := heap_setCell h1 i (.int .u64 x)
  rwa [arr_setAt at_ _ hi] at h2
theorem two_new (w : World) (o o' : Obj) : ((w.alloc o).alloc o').heap[w.heap.size]? = some o ∧ ((w.alloc o).alloc o').heap[w.heap.size + 1]? = some o' ∧ Below w.heap.size w ((w.alloc o).alloc o') :=
  ⟨(Below.heap_alloc _ _ _ (by simp)).trans (heap_alloc_new w o), by have := heap_alloc_new (w.alloc o) o'; simpa using this, ((Below.refl _ _).alloc (Nat.le_refl _) _).alloc (by simp) _⟩
end
theorem RefW.nums {w : World} {g : Nat} {at_ : Nat → Int} {op : Nat → Bool} (h : RefW w g at_ op) :
    w.cell? ⟨g, 0, none⟩ = some (.int .u64 (at_ 0)) ∧ w.cell? ⟨g, 1, none⟩ = some (.int .u64 (at_ 1)) ∧ w.cell? ⟨g, 2, none⟩ = some (.int .u64 (at_ 2)) ∧ w.cell? ⟨g, 3, none⟩ = some (.int .u64 (at_ 3)) ∧
    w.cell? ⟨g, 4, none⟩ = some (.int .u64 (at_ 4)) ∧ w.cell? ⟨g, 5, none⟩ = some (.int .u64 (at_ 5)) ∧ w.cell? ⟨g, 6, none⟩ = some (.int .u64 (at_ 6)) ∧ w.cell? ⟨g, 7, none⟩ = some (.int .u64 (at_ 7)) ∧
    w.cell? ⟨g, 8, none⟩ = some (.bool (op 0)) ∧ w.cell? ⟨g, 9, none⟩ = some (.bool (op 1)) ∧ w.cell? ⟨g, 10, none⟩ = some (.bool (op 2)) ∧ w.cell? ⟨g, 11, none⟩ = some (.bool (op 3)) ∧
    w.cell? ⟨g, 12, none⟩ = some (.bool (op 4)) ∧ w.cell? ⟨g, 13, none⟩ = some (.bool (op 5)) ∧ w.cell? ⟨g, 14, none⟩ = some (.bool (op 6)) ∧ w.cell? ⟨g, 15, none⟩ = some (.bool (op 7)) :=
  ⟨cell_of_row w g 0 _ _ _ h, cell_of_row w g 1 _ _ _ h, cell_of_row w g 2 _ _ _ h, cell_of_row w g 3 _ _ _ h, cell_of_row w g 4 _ _ _ h, cell_of_row w g 5 _ _ _ h, cell_of_row w g 6 _ _ _ h, cell_of_row w g 7 _ _ _ h, cell_of_row w g 8 _ _ _ h, cell_of_row w g 9 _ _ _ h, cell_of_row w g 10 _ _ _ h, cell_of_row w g 11 _ _ _ h, cell_of_row w g 12 _ _ _ h, cell_of_row w g 13 _ _ _ h, cell_of_row w g 14 _ _ _ h, cell_of_row w g 15 _ _ _ h⟩
/-- a whole row is stored: the world behind it under a name of its own -/
theorem wpList_storeRow {P : Program} {ops : Array Oper} {rest : List Oper} {o : Oper} {a : Act} {w : World} {Q : Exit → Act → World → Prop} (hgd : o.guard = none) (ty : TypeId) (x y : Operand) (ho : o.op = .store ty x y)
    (g : Nat) (cells : Array Value) (hx : a.eval x = .pointer (some ⟨g, 0, none⟩)) (hy : a.eval y = .agg cells)
    (t : TypeId) (old : Array Value) (hg : w.heap[g]? = some (.cells old t (0, 0))) (hi : (P.info? ty).map (·.size) = some cells.size)
    (hold : old.size = cells.size) (h1 : cells.all (·.oneCell') = true)
    (h : ∀ w', w'.heap[g]? = some (.cells cells t (0, 0)) → w.grownBy w' (some g) → wpList P ops Q rest (a.put o.dst undef) w') : wpList P ops Q (o :: rest) a w :=
  wpList_store_row hgd ty x y ho g cells hx hy t old hg hi hold h1 (h _ (setRow_heap w g old cells t (0, 0) hg)
    ⟨rfl, rfl, rfl, by simp, fun k _ hk => setRow_other w g k cells (fun e => hk (by rw [e]))⟩)
theorem arr_one (at_ : Nat → Int) (op : Nat → Bool) : (arr at_ op).all (·.oneCell') = true := by simp [arr, Value.oneCell']
theorem info_RW14 : (Try.prog.info? 31).map (·.size) = some 16 := by kernel_rfl
section
variable {at_ : Nat → Int} {op : Nat → Bool}
set_option maxHeartbeats 2000000 in
theorem rclose_out {id : Int} (hi : id < 0 ∨ 8 ≤ id) (w : World) : Calls Try.prog 38 #[mW at_ op, .int .i64 id] w fun e w' => e = .returned (.tuple #[mW at_ op, .int .i64 7]) ∧ Below w.heap.size w w' := by
  obtain ⟨h1, h2, h3⟩ := two_new w (.cells (arr at_ op) 31) (.cells (arr (fun _ => 0) (fun _ => false)) 31)
  have H1 := Lib.hid h1; have H2 := Lib.hid h2; have H3 := Lib.hid h3; clear h1 h2 h3
  rcases hi with hi | hi
  · go_enter Try.func38, Try.ntmps38
    go_wp2_with (first
      | (refine wpList_load_row rfl 31 _ rfl w.heap.size (by rfl) 31 (arr (at_) (op)) (0, 0) _ H1.out Try.underlying31 rfl info_RW14 ?_)
      | (refine wpList_storeRow rfl 31 _ _ rfl (w.heap.size + 1) (arr (at_) (op)) (by rfl) (by rfl) 31 _ H2.out info_RW14 rfl (arr_one _ _) ?_; intro w5 hg5 hgr5; obtain ⟨n0, n1, n2, n3, n4, n5, n6, n7, n8, n9, n10, n11, n12, n13, n14, n15⟩ := RefW.nums hg5))
    refine bodyPost_ret (by simp [results, Try.results38, go_sem, n0, n1, n2, n3, n4, n5, n6, n7, n8, n9, n10, n11, n12, n13, n14, n15]; try rfl) rfl ?_
    exact ⟨rfl, H3.out.grown hgr5 (by simp; omega) (fun j hj => by cases hj; exact Nat.le_succ _)⟩
  · have hi2 : ¬ id < 0 := by omega
    go_enter Try.func38, Try.ntmps38
    go_wp2_with (first
      | (refine wpList_load_row rfl 31 _ rfl w.heap.size (by rfl) 31 (arr (at_) (op)) (0, 0) _ H1.out Try.underlying31 rfl info_RW14 ?_)
      | (refine wpList_storeRow rfl 31 _ _ rfl (w.heap.size + 1) (arr (at_) (op)) (by rfl) (by rfl) 31 _ H2.out info_RW14 rfl (arr_one _ _) ?_; intro w5 hg5 hgr5; obtain ⟨n0, n1, n2, n3, n4, n5, n6, n7, n8, n9, n10, n11, n12, n13, n14, n15⟩ := RefW.nums hg5))
    refine bodyPost_ret (by simp [results, Try.results38, go_sem, n0, n1, n2, n3, n4, n5, n6, n7, n8, n9, n10, n11, n12, n13, n14, n15]; try rfl) rfl ?_
    exact ⟨rfl, H3.out.grown hgr5 (by simp; omega) (fun j hj => by cases hj; exact Nat.le_succ _)⟩
set_option maxHeartbeats 2000000 in
theorem rclose_no {i : Nat} (hi : i < 8) (ho : op i = false) (w : World) : Calls Try.prog 38 #[mW at_ op, .int .i64 i] w fun e w' => e = .returned (.tuple #[mW at_ op, .int .i64 7]) ∧ Below w.heap.size w w' := by
  obtain ⟨h1, h2, h3⟩ := two_new w (.cells (arr at_ op) 31) (.cells (arr (fun _ => 0) (fun _ => false)) 31)
  have H1 := Lib.hid h1; have H2 := Lib.hid h2; have H3 := Lib.hid h3; clear h1 h2 h3
  have c0 := arr_op at_ op hi
  rw [ho] at c0
  have i1 : (0 : Int) ≤ (i : Int) := by omega
  have i2 : (i : Int) < 8 := by omega
  have i3 : ¬ (i : Int) < 0 := by omega
  go_enter Try.func38, Try.ntmps38
  go_wp2_with (first
    | (refine wpList_load_row rfl 31 _ rfl w.heap.size (by rfl) 31 (arr (at_) (op)) (0, 0) _ H1.out Try.underlying31 rfl info_RW14 ?_)
    | (refine wpList_storeRow rfl 31 _ _ rfl (w.heap.size + 1) (arr (at_) (op)) (by rfl) (by rfl) 31 _ H2.out info_RW14 rfl (arr_one _ _) ?_; intro w5 hg5 hgr5; obtain ⟨n0, n1, n2, n3, n4, n5, n6, n7, n8, n9, n10, n11, n12, n13, n14, n15⟩ := RefW.nums hg5))
  refine bodyPost_ret (by simp [results, Try.results38, go_sem, n0, n1, n2, n3, n4, n5, n6, n7, n8, n9, n10, n11, n12, n13, n14, n15]; try rfl) rfl ?_
  exact ⟨rfl, H3.out.grown hgr5 (by simp; omega) (fun j hj => by cases hj; exact Nat.le_succ _)⟩
set_option maxHeartbeats 2000000 in
theorem rput_free {i : Nat} (hf : FF op i) (a : Int) (w : World) : Calls Try.prog 36 #[mW at_ op, .int .u64 a] w fun e w' => e = .returned (.tuple #[mW (upd at_ i a) (upd op i true), .int .i64 i, .int .i64 0]) ∧ Below w.heap.size w w' := by
  obtain ⟨h1, h2, h3⟩ := two_new w (.cells (arr at_ op) 31) (.cells (arr (fun _ => 0) (fun _ => false)) 31)
  have H1 := Lib.hid h1; have H2 := Lib.hid h2; have H3 := Lib.hid h3; clear h1 h2 h3
  have HF := Lib.hid hf; clear hf
  go_enter Try.func36, Try.ntmps36
  go_wp2
  go_loopw [7] (fun v wr => ∃ k : Nat, k ≤ i ∧ v = .int .i64 k ∧ RefW wr w.heap.size at_ op ∧ wr.heap[w.heap.size + 1]? = some (.cells (arr (fun _ => 0) (fun _ => false)) 31 (0, 0)) ∧ Below w.heap.size w wr) (fun v _ => 8 - (intOf v).toNat)
  case atStart => exact ⟨0, Nat.zero_le _, rfl, H1.out, H2.out, H3.out⟩
  case round =>
    obtain ⟨k, hk, rfl, hr, hz, hb⟩ := hrel
    have HR := Lib.hid hr; have HZ := Lib.hid hz; have HB := Lib.hid hb; clear hr hz hb
    have hi8 : i < 8 := HF.out.1
    have hk8 : k < 8 := by omega
    have i1 : (0 : Int) ≤ (k : Int) := by omega
    have i2 : (k : Int) < 8 := by omega
    have c0 := HR.out.o hk8
    have hlt := HR.out.lt
    by_cases hki : k = i
    · subst hki
      rw [HF.out.2.1] at c0
      have c1 := HR.out.a hk8
      have c2 := (World.cell?_setCell_other wr ⟨w.heap.size, 8 + k, none⟩ ⟨w.heap.size, k, none⟩ (.bool true) (neA (by omega))).trans c1
      have f0 := HR.out.fr (8 + k)
      have f1 := HR.out.fr k
      have HS := Lib.hid (HR.out.set hk8 a true)
      have HZ2 := Lib.hid (show ((wr.setCell ⟨w.heap.size, 8 + k, none⟩ (.bool true)).setCell ⟨w.heap.size, k, none⟩ (.int .u64 a)).heap[w.heap.size + 1]? = some (.cells (arr (fun _ => 0) (fun _ => false)) 31 (0, 0)) by
        rw [Below.heap_setCell _ _ _ _ (by simp), Below.heap_setCell _ _ _ _ (by simp)]; exact HZ.out)
      have HBS := Lib.hid ((HB.out.setCell (p := ⟨w.heap.size, 8 + k, none⟩) (Nat.le_refl _) (.bool true)).setCell (p := ⟨w.heap.size, k, none⟩) (Nat.le_refl _) (.int .u64 a))
      have hsz := HB.out.size
      go_wp2_with (first
        | (refine wpList_load_row rfl 31 _ rfl w.heap.size (by rfl) 31 (arr (upd at_ k a) (upd op k true)) (0, 0) _ HS.out Try.underlying31 rfl info_RW14 ?_)
        | (refine wpList_storeRow rfl 31 _ _ rfl (w.heap.size + 1) (arr (upd at_ k a) (upd op k true)) (by rfl) (by rfl) 31 _ HZ2.out info_RW14 rfl (arr_one _ _) ?_; intro w5 hg5 hgr5; obtain ⟨n0, n1, n2, n3, n4, n5, n6, n7, n8, n9, n10, n11, n12, n13, n14, n15⟩ := RefW.nums hg5))
      refine bodyPost_ret (by simp [results, Try.results36, go_sem, n0, n1, n2, n3, n4, n5, n6, n7, n8, n9, n10, n11, n12, n13, n14, n15]; try rfl) rfl ?_
      exact ⟨rfl, HBS.out.grown hgr5 HBS.out.size (fun j hj => by cases hj; exact Nat.le_succ _)⟩
    · rw [HF.out.2.2 k (by omega)] at c0
      go_wp2
      go_roundw
      case rel => exact ⟨k + 1, by omega, by go_num, HR.out, HZ.out, HB.out⟩
      case measure => simp [intOf]; omega
set_option maxHeartbeats 2000000 in
theorem rput_full (hf : ∀ j, j < 8 → op j = true) (a : Int) (w : World) : Calls Try.prog 36 #[mW at_ op, .int .u64 a] w fun e w' => e = .returned (.tuple #[mW at_ op, .int .i64 0, .int .i64 6]) ∧ Below w.heap.size w w' := by
  obtain ⟨h1, h2, h3⟩ := two_new w (.cells (arr at_ op) 31) (.cells (arr (fun _ => 0) (fun _ => false)) 31)
  have H1 := Lib.hid h1; have H2 := Lib.hid h2; have H3 := Lib.hid h3; clear h1 h2 h3
  have HF := Lib.hid hf; clear hf
  go_enter Try.func36, Try.ntmps36
  go_wp2
  go_loopw [7] (fun v wr => ∃ k : Nat, k ≤ 8 ∧ v = .int .i64 k ∧ RefW wr w.heap.size at_ op ∧ wr.heap[w.heap.size + 1]? = some (.cells (arr (fun _ => 0) (fun _ => false)) 31 (0, 0)) ∧ Below w.heap.size w wr) (fun v _ => 8 - (intOf v).toNat)
  case atStart => exact ⟨0, Nat.zero_le _, rfl, H1.out, H2.out, H3.out⟩
  case round =>
    obtain ⟨k, hk, rfl, hr, hz, hb⟩ := hrel
    have HR := Lib.hid hr; have HZ := Lib.hid hz; have HB := Lib.hid hb; clear hr hz hb
    by_cases hk8 : k < 8
    · have i1 : (0 : Int) ≤ (k : Int) := by omega
      have i2 : (k : Int) < 8 := by omega
      have c0 := HR.out.o hk8
      rw [HF.out k hk8] at c0
      have hlt := HR.out.lt
      go_wp2
      go_roundw
      case rel => exact ⟨k + 1, by omega, by go_num, HR.out, HZ.out, HB.out⟩
      case measure => simp [intOf]; omega
    · obtain rfl : k = 8 := by omega
      go_wp2_with (first
        | (refine wpList_load_row rfl 31 _ rfl w.heap.size (by rfl) 31 (arr at_ op) (0, 0) _ HR.out Try.underlying31 rfl info_RW14 ?_)
        | (refine wpList_storeRow rfl 31 _ _ rfl (w.heap.size + 1) (arr at_ op) (by rfl) (by rfl) 31 _ HZ.out info_RW14 rfl (arr_one _ _) ?_; intro w5 hg5 hgr5; obtain ⟨n0, n1, n2, n3, n4, n5, n6, n7, n8, n9, n10, n11, n12, n13, n14, n15⟩ := RefW.nums hg5))
      refine bodyPost_ret (by simp [results, Try.results36, go_sem, n0, n1, n2, n3, n4, n5, n6, n7, n8, n9, n10, n11, n12, n13, n14, n15]; try rfl) rfl ?_
      exact ⟨rfl, HB.out.grown hgr5 HB.out.size (fun j hj => by cases hj; exact Nat.le_succ _)⟩

theorem rlen_any (w : World) : Calls Try.prog 26 #[mW at_ op] w fun e w' => e = .returned (.int .i64 (cnt op 8)) ∧ Below w.heap.size w w' := by
  have H1 := Lib.hid (heap_alloc_new w (.cells (arr at_ op) 31))
  have H3 := Lib.hid ((Below.refl w.heap.size w).alloc (Nat.le_refl _) (.cells (arr at_ op) 31))
  go_enter Try.func26, Try.ntmps26
  go_wp2
  go_loopw [3, 4] (fun v i wr => ∃ k : Nat, k ≤ 8 ∧ i = .int .i64 k ∧ v = .int .i64 (cnt op k) ∧ RefW wr w.heap.size at_ op ∧ Below w.heap.size w wr) (fun _ i _ => 8 - (intOf i).toNat)
  case atStart => exact ⟨0, Nat.zero_le _, rfl, rfl, H1.out, H3.out⟩
  case round =>
    obtain ⟨k, hk, rfl, rfl, hr, hb⟩ := hrel
    have HR := Lib.hid hr; have HB := Lib.hid hb; clear hr hb
    have hc := cnt_le op k
    by_cases hk8 : k < 8
    · have i1 : (0 : Int) ≤ (k : Int) := by omega
      have i2 : (k : Int) < 8 := by omega
      have c0 := HR.out.o hk8
      have hlt := HR.out.lt
      cases ho : op k with
      | true =>
        rw [ho] at c0
        go_wp2
        go_roundw
        case rel => exact ⟨k + 1, by omega, by go_num, by rw [cnt, if_pos ho]; go_num, HR.out, HB.out⟩
        case measure => simp [intOf]; omega
      | false =>
        rw [ho] at c0
        go_wp2
        go_roundw
        case rel => exact ⟨k + 1, by omega, by go_num, by rw [cnt, if_neg (by rw [ho]; simp)]; simp, HR.out, HB.out⟩
        case measure => simp [intOf]; omega
    · obtain rfl : k = 8 := by omega
      go_wp2
      go_ret
      exact ⟨rfl, HB.out⟩

/-- the least of the first k; whether there was none -/
def LeastTo (at_ : Nat → Int) (op : Nat → Bool) (nn : Int) (k : Nat) (r : Int) (first : Bool) : Prop :=
  (first = true ∧ r = nn ∧ ∀ i, i < k → op i = false) ∨ (first = false ∧ ∃ i, i < k ∧ op i = true ∧ at_ i = r ∧ ∀ j, j < k → op j = true → r ≤ at_ j)
theorem leastTo_no {nn r : Int} {k : Nat} {first : Bool} (h : LeastTo at_ op nn k r first) (ho : op k = false) : LeastTo at_ op nn (k + 1) r first := by
  rcases h with ⟨h1, h2, h3⟩ | ⟨h1, i, hi, hoi, e, hm⟩
  · refine .inl ⟨h1, h2, fun i hi => ?_⟩
    rcases Nat.lt_or_ge i k with h | h
    · exact h3 i h
    · obtain rfl : i = k := by omega
      exact ho
  · refine .inr ⟨h1, i, by omega, hoi, e, fun j hj hoj => ?_⟩
    rcases Nat.lt_or_ge j k with h | h
    · exact hm j h hoj
    · obtain rfl : j = k := by omega
      rw [ho] at hoj; cases hoj
theorem leastTo_first {nn r : Int} {k : Nat} (h : LeastTo at_ op nn k r true) (ho : op k = true) : LeastTo at_ op nn (k + 1) (at_ k) false := by
  rcases h with ⟨_, _, h3⟩ | ⟨h1, _⟩
  · refine .inr ⟨rfl, k, by omega, ho, rfl, fun j hj hoj => ?_⟩
    rcases Nat.lt_or_ge j k with h | h
    · rw [h3 j h] at hoj; cases hoj
    · obtain rfl : j = k := by omega
      exact Int.le_refl _
  · cases h1
theorem leastTo_less {nn r : Int} {k : Nat} (h : LeastTo at_ op nn k r false) (ho : op k = true) (hl : at_ k < r) : LeastTo at_ op nn (k + 1) (at_ k) false := by
  rcases h with ⟨h1, _⟩ | ⟨_, i, hi, hoi, e, hm⟩
  · cases h1
  · refine .inr ⟨rfl, k, by omega, ho, rfl, fun j hj hoj => ?_⟩
    rcases Nat.lt_or_ge j k with h | h
    · have := hm j h hoj; omega
    · obtain rfl : j = k := by omega
      exact Int.le_refl _
theorem leastTo_same {nn r : Int} {k : Nat} (h : LeastTo at_ op nn k r false) (hl : ¬ at_ k < r) : LeastTo at_ op nn (k + 1) r false := by
  rcases h with ⟨h1, _⟩ | ⟨_, i, hi, hoi, e, hm⟩
  · cases h1
  · refine .inr ⟨rfl, i, by omega, hoi, e, fun j hj hoj => ?_⟩
    rcases Nat.lt_or_ge j k with h | h
    · exact hm j h hoj
    · obtain rfl : j = k := by omega
      omega
theorem leastTo_end {nn r : Int} {first : Bool} (h : LeastTo at_ op nn 8 r first) : IsLeast at_ op nn r := by
  rcases h with ⟨_, h2, h3⟩ | ⟨_, h⟩
  · exact .inl ⟨h3, h2⟩
  · exact .inr h
theorem rleast_any (nn : Int) (w : World) : Calls Try.prog 24 #[mW at_ op, .int .u64 nn] w fun e w' => (∃ r, e = .returned (.int .u64 r) ∧ IsLeast at_ op nn r) ∧ Below w.heap.size w w' := by
  have H1 := Lib.hid (heap_alloc_new w (.cells (arr at_ op) 31))
  have H3 := Lib.hid ((Below.refl w.heap.size w).alloc (Nat.le_refl _) (.cells (arr at_ op) 31))
  go_enter Try.func24, Try.ntmps24
  go_wp2
  go_loopw [1, 5, 6] (fun v f i wr => ∃ (k : Nat) (r : Int) (first : Bool), k ≤ 8 ∧ i = .int .i64 k ∧ v = .int .u64 r ∧ f = .bool first ∧ LeastTo at_ op nn k r first ∧ RefW wr w.heap.size at_ op ∧ Below w.heap.size w wr) (fun _ _ i _ => 8 - (intOf i).toNat)
  case atStart => exact ⟨0, nn, true, Nat.zero_le _, rfl, rfl, rfl, .inl ⟨rfl, rfl, fun i h => absurd h (by omega)⟩, H1.out, H3.out⟩
  case round =>
    obtain ⟨k, r, first, hk, rfl, rfl, rfl, hl, hr, hb⟩ := hrel
    have HL := Lib.hid hl; have HR := Lib.hid hr; have HB := Lib.hid hb; clear hl hr hb
    by_cases hk8 : k < 8
    · have i1 : (0 : Int) ≤ (k : Int) := by omega
      have i2 : (k : Int) < 8 := by omega
      have c0 := HR.out.o hk8
      have c1 := HR.out.a hk8
      have hlt := HR.out.lt
      cases ho : op k with
      | false =>
        rw [ho] at c0
        go_wp2
        go_roundw
        case rel => exact ⟨k + 1, r, first, by omega, by go_num, rfl, rfl, leastTo_no HL.out ho, HR.out, HB.out⟩
        case measure => simp [intOf]; omega
      | true =>
        rw [ho] at c0
        cases first with
        | true =>
          go_wp2
          go_roundw
          case rel => exact ⟨k + 1, at_ k, false, by omega, by go_num, rfl, rfl, leastTo_first HL.out ho, HR.out, HB.out⟩
          case measure => simp [intOf]; omega
        | false =>
          by_cases hlr : at_ k < r
          · have hd : decide (at_ k < r) = true := decide_eq_true hlr
            go_wp2
            go_roundw
            case rel => exact ⟨k + 1, at_ k, false, by omega, by go_num, rfl, rfl, leastTo_less HL.out ho hlr, HR.out, HB.out⟩
            case measure => simp [intOf]; omega
          · have hd : decide (at_ k < r) = false := decide_eq_false hlr
            go_wp2
            go_roundw
            case rel => exact ⟨k + 1, r, false, by omega, by go_num, rfl, rfl, leastTo_same HL.out hlr, HR.out, HB.out⟩
            case measure => simp [intOf]; omega
    · obtain rfl : k = 8 := by omega
      go_wp2
      go_ret
      exact ⟨⟨_, rfl, leastTo_end HL.out⟩, HB.out⟩
end
end Go.Proofs.Yteaaeeidbjklbaa
