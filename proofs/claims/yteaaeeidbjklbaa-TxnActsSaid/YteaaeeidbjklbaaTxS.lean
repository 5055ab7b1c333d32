/- The document's table: Begin, End. -/
import Derived.Test.YteaaeeidbjklbaaTxR
namespace Go.Proofs.Yteaaeeidbjklbaa
open Go.RowKit Go.Maps
/-- results: a cell, two slots -/
theorem results_cell_tmp2 {P : Program} {fn : Func} {p u u' : Tmp} {ty : TypeId} (h : fn.results = #[.cell p ty, .tmp u, .tmp u']) (tmps : Array Value) (w : World) :
    (results fn tmps).run P w = ((asAddr (tmps.getD p undef)).run P w).andThen fun a w₁ => ((loadVar ty a).run P w₁).andThen fun v w₂ => .ok (.tuple #[v, tmps.getD u undef, tmps.getD u' undef]) w₂ := by
  simp only [results, h]
  simp [Sem.run_bind, Result.andThen]
abbrev zAt : Nat → Int := fun _ => 0
abbrev zOp : Nat → Bool := fun _ => false
abbrev zS : Nat → SV := fun _ => sv0
section
variable {at_ : Nat → Int} {op : Nat → Bool} {S : Nat → SV} {V : SV}
theorem twoT_new (w : World) (at_ : Nat → Int) (op : Nat → Bool) (S : Nat → SV) (V : SV) : RefT ((w.alloc (.cells (arrT at_ op S V) 36)).alloc (.cells (arrT zAt zOp zS sv0) 36)) w.heap.size at_ op S V ∧
    RefT ((w.alloc (.cells (arrT at_ op S V) 36)).alloc (.cells (arrT zAt zOp zS sv0) 36)) (w.heap.size + 1) zAt zOp zS sv0 ∧ Below w.heap.size w ((w.alloc (.cells (arrT at_ op S V) 36)).alloc (.cells (arrT zAt zOp zS sv0) 36)) :=
  two_new w (.cells (arrT at_ op S V) 36) (.cells (arrT zAt zOp zS sv0) 36)
theorem RefT.grown {w w1 : World} {g G : Nat} (h : RefT w g at_ op S V) (k : w.grownBy w1 (some G)) (hne : g ≠ G) : RefT w1 g at_ op S V := (k.block g h.lt (fun e => hne (by injection e))).trans h
set_option maxHeartbeats 2000000 in
theorem rbegin_full (hf : ∀ j, j < 8 → op j = true) (a : Int) (w : World) : Calls Try.prog 14 #[mT at_ op S V, .int .u64 a] w fun e w' => e = .returned (.tuple #[mT at_ op S V, .int .i64 0, .int .i64 6]) ∧ Below w.heap.size w w' := by
  obtain ⟨h1, h2, h3⟩ := twoT_new w at_ op S V
  have H1 := Lib.hid h1; have H2 := Lib.hid h2; have H3 := Lib.hid h3; have HF := Lib.hid hf; clear h1 h2 h3 hf
  go_enter Try.func14, Try.ntmps14
  go_wp2_with (refine wpList_loadTW rfl _ rfl w.heap.size at_ op S V (by rfl) H1.out ?_)
  refine (rput_full HF.out a _).mono ?_
  rintro e w1 ⟨rfl, hb⟩
  have HT := Lib.hid (H1.out.below hb); have HZ := Lib.hid (H2.out.below hb); have HB := Lib.hid (bt H3.out hb); clear hb
  have hsz := HB.out.size
  have HW := Lib.hid (heap_alloc_new w1 (.cells (arr (fun _ => 0) (fun _ => false)) 31))
  have hbe := (Below.refl w1.heap.size w1).alloc (Nat.le_refl _) (.cells (arr (fun _ => 0) (fun _ => false)) 31)
  have HT2 := Lib.hid (HT.out.below hbe); have HZ2 := Lib.hid (HZ.out.below hbe); have HB2 := Lib.hid (bt HB.out hbe); clear hbe
  have hlz := HZ.out.lt
  go_wp2_with (first
    | (refine wpList_storeW rfl _ _ rfl w1.heap.size at_ op (by rfl) (by rfl) HW.out ?_; intro w2 hr2 hg2; have HT3 := Lib.hid (HT2.out.grown hg2 (by omega)); have HZ3 := Lib.hid (HZ2.out.grown hg2 (by omega)); have HB3 := Lib.hid (HB2.out.grown hg2 (by simp; omega) (fun j hj => by cases hj; omega)); clear hr2 hg2)
    | (refine wpList_loadT rfl _ rfl w.heap.size at_ op S V (by rfl) HT3.out ?_)
    | (refine wpList_storeT rfl _ _ rfl (w.heap.size + 1) at_ op S V (by rfl) (by rfl) HZ3.out ?_; intro w4 hr4 hg4; have HR4 := Lib.hid hr4; have HB4 := Lib.hid (HB3.out.grown hg4 HB3.out.size (fun j hj => by cases hj; omega)); clear hr4 hg4))
  have hld := HR4.out.ldV
  refine bodyPost_ret (v := .tuple #[mT at_ op S V, .int .i64 0, .int .i64 6]) ?_ rfl ⟨rfl, HB4.out⟩
  rw [results_cell_tmp2 Try.results14]
  simp [asAddr, Result.andThen, hld]
set_option maxHeartbeats 2000000 in
theorem rbegin_free {i : Nat} (hf : FF op i) (a : Int) (w : World) : Calls Try.prog 14 #[mT at_ op S V, .int .u64 a] w fun e w' => e = .returned (.tuple #[mT (upd at_ i a) (upd op i true) (upd S i sv0) V, .int .i64 i, .int .i64 0]) ∧ Below w.heap.size w w' := by
  obtain ⟨h1, h2, h3⟩ := twoT_new w at_ op S V
  have H1 := Lib.hid h1; have H2 := Lib.hid h2; have H3 := Lib.hid h3; have HF := Lib.hid hf; clear h1 h2 h3 hf
  have hi8 : i < 8 := HF.out.1
  have i1 : (0 : Int) ≤ (i : Int) := by omega
  have i2 : (i : Int) < 8 := by omega
  go_enter Try.func14, Try.ntmps14
  go_wp2_with (refine wpList_loadTW rfl _ rfl w.heap.size at_ op S V (by rfl) H1.out ?_)
  refine (rput_free HF.out a _).mono ?_
  rintro e w1 ⟨rfl, hb⟩
  have HT := Lib.hid (H1.out.below hb); have HZ := Lib.hid (H2.out.below hb); have HB := Lib.hid (bt H3.out hb); clear hb
  have hsz := HB.out.size
  have HW := Lib.hid (heap_alloc_new w1 (.cells (arr (fun _ => 0) (fun _ => false)) 31))
  have hbe := (Below.refl w1.heap.size w1).alloc (Nat.le_refl _) (.cells (arr (fun _ => 0) (fun _ => false)) 31)
  have HT2 := Lib.hid (HT.out.below hbe); have HZ2 := Lib.hid (HZ.out.below hbe); have HB2 := Lib.hid (bt HB.out hbe); clear hbe
  have hlz := HZ.out.lt
  go_wp2_with (first
    | (refine wpList_storeW rfl _ _ rfl w1.heap.size (upd at_ i a) (upd op i true) (by rfl) (by rfl) HW.out ?_; intro w2 hr2 hg2; have HW3 := Lib.hid hr2; have HT3 := Lib.hid (HT2.out.grown hg2 (by omega)); have HZ3 := Lib.hid (HZ2.out.grown hg2 (by omega)); have HB3 := Lib.hid (HB2.out.grown hg2 (by simp; omega) (fun j hj => by cases hj; omega)); clear hr2 hg2)
    | (refine wpList_loadW rfl _ rfl w1.heap.size (upd at_ i a) (upd op i true) (by rfl) HW3.out ?_)
    | (refine wpList_storeTW rfl _ _ rfl w.heap.size (upd at_ i a) (upd op i true) (by rfl) (by rfl) HT3.out ?_; intro w3 hr3 hg3; have c1 := hr3.s hi8; have f1 := hr3.fr (16 + i); have HT5 := Lib.hid (hr3.setS hi8 sv0); have HZ5 := Lib.hid ((HZ3.out.grown hg3 (by omega)).grown (set_grown w3 w.heap.size (16 + i) (.slice sv0.a sv0.n sv0.c)) (by omega)); have HB5 := Lib.hid ((HB3.out.grown hg3 HB3.out.size (fun j hj => by cases hj; omega)).setCell (p := ⟨w.heap.size, 16 + i, none⟩) (Nat.le_refl _) (.slice sv0.a sv0.n sv0.c)); clear hr3 hg3)
    | (refine wpList_loadT rfl _ rfl w.heap.size (upd at_ i a) (upd op i true) (upd S i sv0) V (by rfl) HT5.out ?_)
    | (refine wpList_storeT rfl _ _ rfl (w.heap.size + 1) (upd at_ i a) (upd op i true) (upd S i sv0) V (by rfl) (by rfl) HZ5.out ?_; intro w4 hr4 hg4; have HR4 := Lib.hid hr4; have HB4 := Lib.hid (HB5.out.grown hg4 HB5.out.size (fun j hj => by cases hj; omega)); clear hr4 hg4))
  have hld := HR4.out.ldV
  refine bodyPost_ret (v := .tuple #[mT (upd at_ i a) (upd op i true) (upd S i sv0) V, .int .i64 i, .int .i64 0]) ?_ rfl ⟨rfl, HB4.out⟩
  rw [results_cell_tmp2 Try.results14]
  simp [asAddr, Result.andThen, hld]
set_option maxHeartbeats 2000000 in
theorem rend_out {id : Int} (hi : id < 0 ∨ 8 ≤ id) (w : World) : Calls Try.prog 16 #[mT at_ op S V, .int .i64 id] w fun e w' => e = .returned (.tuple #[mT (at_) (op) (S) V, .int .i64 7]) ∧ Below w.heap.size w w' := by
  obtain ⟨h1, h2, h3⟩ := twoT_new w at_ op S V
  have H1 := Lib.hid h1; have H2 := Lib.hid h2; have H3 := Lib.hid h3; clear h1 h2 h3
  have HI := Lib.hid hi; clear hi
  go_enter Try.func16, Try.ntmps16
  go_wp2_with (refine wpList_loadTW rfl _ rfl w.heap.size at_ op S V (by rfl) H1.out ?_)
  refine (rclose_out HI.out _).mono ?_
  rintro e w1 ⟨rfl, hb⟩
  have HT := Lib.hid (H1.out.below hb); have HZ := Lib.hid (H2.out.below hb); have HB := Lib.hid (bt H3.out hb); clear hb
  have hsz := HB.out.size
  have HW := Lib.hid (heap_alloc_new w1 (.cells (arr (fun _ => 0) (fun _ => false)) 31))
  have hbe := (Below.refl w1.heap.size w1).alloc (Nat.le_refl _) (.cells (arr (fun _ => 0) (fun _ => false)) 31)
  have HT2 := Lib.hid (HT.out.below hbe); have HZ2 := Lib.hid (HZ.out.below hbe); have HB2 := Lib.hid (bt HB.out hbe); clear hbe
  have hlz := HZ.out.lt
  go_wp2_with (first
    | (refine wpList_storeW rfl _ _ rfl w1.heap.size (at_) (op) (by rfl) (by rfl) HW.out ?_; intro w2 hr2 hg2; have HW3 := Lib.hid hr2; have HT3 := Lib.hid (HT2.out.grown hg2 (by omega)); have HZ3 := Lib.hid (HZ2.out.grown hg2 (by omega)); have HB3 := Lib.hid (HB2.out.grown hg2 (by simp; omega) (fun j hj => by cases hj; omega)); clear hr2 hg2)
    | (refine wpList_loadT rfl _ rfl w.heap.size (at_) (op) (S) V (by rfl) HT3.out ?_)
    | (refine wpList_storeT rfl _ _ rfl (w.heap.size + 1) (at_) (op) (S) V (by rfl) (by rfl) HZ3.out ?_; intro w4 hr4 hg4; have HR4 := Lib.hid hr4; have HB4 := Lib.hid (HB3.out.grown hg4 HB3.out.size (fun j hj => by cases hj; omega)); clear hr4 hg4))
  have hld := HR4.out.ldV
  refine bodyPost_ret (v := .tuple #[mT (at_) (op) (S) V, .int .i64 7]) ?_ rfl ⟨rfl, HB4.out⟩
  rw [results_cell_tmp Try.results16]
  simp [asAddr, Result.andThen, hld]
set_option maxHeartbeats 2000000 in
theorem rend_no {i : Nat} (hi : i < 8) (ho : op i = false) (w : World) : Calls Try.prog 16 #[mT at_ op S V, .int .i64 i] w fun e w' => e = .returned (.tuple #[mT (at_) (op) (S) V, .int .i64 7]) ∧ Below w.heap.size w w' := by
  obtain ⟨h1, h2, h3⟩ := twoT_new w at_ op S V
  have H1 := Lib.hid h1; have H2 := Lib.hid h2; have H3 := Lib.hid h3; clear h1 h2 h3
  have HO := Lib.hid ho; clear ho
  go_enter Try.func16, Try.ntmps16
  go_wp2_with (refine wpList_loadTW rfl _ rfl w.heap.size at_ op S V (by rfl) H1.out ?_)
  refine (rclose_no hi HO.out _).mono ?_
  rintro e w1 ⟨rfl, hb⟩
  have HT := Lib.hid (H1.out.below hb); have HZ := Lib.hid (H2.out.below hb); have HB := Lib.hid (bt H3.out hb); clear hb
  have hsz := HB.out.size
  have HW := Lib.hid (heap_alloc_new w1 (.cells (arr (fun _ => 0) (fun _ => false)) 31))
  have hbe := (Below.refl w1.heap.size w1).alloc (Nat.le_refl _) (.cells (arr (fun _ => 0) (fun _ => false)) 31)
  have HT2 := Lib.hid (HT.out.below hbe); have HZ2 := Lib.hid (HZ.out.below hbe); have HB2 := Lib.hid (bt HB.out hbe); clear hbe
  have hlz := HZ.out.lt
  go_wp2_with (first
    | (refine wpList_storeW rfl _ _ rfl w1.heap.size (at_) (op) (by rfl) (by rfl) HW.out ?_; intro w2 hr2 hg2; have HW3 := Lib.hid hr2; have HT3 := Lib.hid (HT2.out.grown hg2 (by omega)); have HZ3 := Lib.hid (HZ2.out.grown hg2 (by omega)); have HB3 := Lib.hid (HB2.out.grown hg2 (by simp; omega) (fun j hj => by cases hj; omega)); clear hr2 hg2)
    | (refine wpList_loadT rfl _ rfl w.heap.size (at_) (op) (S) V (by rfl) HT3.out ?_)
    | (refine wpList_storeT rfl _ _ rfl (w.heap.size + 1) (at_) (op) (S) V (by rfl) (by rfl) HZ3.out ?_; intro w4 hr4 hg4; have HR4 := Lib.hid hr4; have HB4 := Lib.hid (HB3.out.grown hg4 HB3.out.size (fun j hj => by cases hj; omega)); clear hr4 hg4))
  have hld := HR4.out.ldV
  refine bodyPost_ret (v := .tuple #[mT (at_) (op) (S) V, .int .i64 7]) ?_ rfl ⟨rfl, HB4.out⟩
  rw [results_cell_tmp Try.results16]
  simp [asAddr, Result.andThen, hld]
set_option maxHeartbeats 2000000 in
theorem rend_yes {i : Nat} (hi8 : i < 8) (ho : op i = true) (w : World) : Calls Try.prog 16 #[mT at_ op S V, .int .i64 i] w fun e w' => e = .returned (.tuple #[mT (upd at_ i 0) (upd op i false) (upd S i sv0) V, .int .i64 0]) ∧ Below w.heap.size w w' := by
  obtain ⟨h1, h2, h3⟩ := twoT_new w at_ op S V
  have H1 := Lib.hid h1; have H2 := Lib.hid h2; have H3 := Lib.hid h3; clear h1 h2 h3
  have HO := Lib.hid ho; clear ho
  have i1 : (0 : Int) ≤ (i : Int) := by omega
  have i2 : (i : Int) < 8 := by omega
  go_enter Try.func16, Try.ntmps16
  go_wp2_with (refine wpList_loadTW rfl _ rfl w.heap.size at_ op S V (by rfl) H1.out ?_)
  refine (rclose_yes hi8 HO.out _).mono ?_
  rintro e w1 ⟨rfl, hb⟩
  have HT := Lib.hid (H1.out.below hb); have HZ := Lib.hid (H2.out.below hb); have HB := Lib.hid (bt H3.out hb); clear hb
  have hsz := HB.out.size
  have HW := Lib.hid (heap_alloc_new w1 (.cells (arr (fun _ => 0) (fun _ => false)) 31))
  have hbe := (Below.refl w1.heap.size w1).alloc (Nat.le_refl _) (.cells (arr (fun _ => 0) (fun _ => false)) 31)
  have HT2 := Lib.hid (HT.out.below hbe); have HZ2 := Lib.hid (HZ.out.below hbe); have HB2 := Lib.hid (bt HB.out hbe); clear hbe
  have hlz := HZ.out.lt
  go_wp2_with (first
    | (refine wpList_storeW rfl _ _ rfl w1.heap.size (upd at_ i 0) (upd op i false) (by rfl) (by rfl) HW.out ?_; intro w2 hr2 hg2; have HW3 := Lib.hid hr2; have HT3 := Lib.hid (HT2.out.grown hg2 (by omega)); have HZ3 := Lib.hid (HZ2.out.grown hg2 (by omega)); have HB3 := Lib.hid (HB2.out.grown hg2 (by simp; omega) (fun j hj => by cases hj; omega)); clear hr2 hg2)
    | (refine wpList_loadW rfl _ rfl w1.heap.size (upd at_ i 0) (upd op i false) (by rfl) HW3.out ?_)
    | (refine wpList_storeTW rfl _ _ rfl w.heap.size (upd at_ i 0) (upd op i false) (by rfl) (by rfl) HT3.out ?_; intro w3 hr3 hg3; have c1 := hr3.s hi8; have f1 := hr3.fr (16 + i); have HT5 := Lib.hid (hr3.setS hi8 sv0); have HZ5 := Lib.hid ((HZ3.out.grown hg3 (by omega)).grown (set_grown w3 w.heap.size (16 + i) (.slice sv0.a sv0.n sv0.c)) (by omega)); have HB5 := Lib.hid ((HB3.out.grown hg3 HB3.out.size (fun j hj => by cases hj; omega)).setCell (p := ⟨w.heap.size, 16 + i, none⟩) (Nat.le_refl _) (.slice sv0.a sv0.n sv0.c)); clear hr3 hg3)
    | (refine wpList_loadT rfl _ rfl w.heap.size (upd at_ i 0) (upd op i false) (upd S i sv0) V (by rfl) HT5.out ?_)
    | (refine wpList_storeT rfl _ _ rfl (w.heap.size + 1) (upd at_ i 0) (upd op i false) (upd S i sv0) V (by rfl) (by rfl) HZ5.out ?_; intro w4 hr4 hg4; have HR4 := Lib.hid hr4; have HB4 := Lib.hid (HB5.out.grown hg4 HB5.out.size (fun j hj => by cases hj; omega)); clear hr4 hg4))
  have hld := HR4.out.ldV
  refine bodyPost_ret (v := .tuple #[mT (upd at_ i 0) (upd op i false) (upd S i sv0) V, .int .i64 0]) ?_ rfl ⟨rfl, HB4.out⟩
  rw [results_cell_tmp Try.results16]
  simp [asAddr, Result.andThen, hld]
end
end Go.Proofs.Yteaaeeidbjklbaa
