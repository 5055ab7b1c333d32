/- The document's table: Write, Note. -/
import Derived.Test.YteaaeeidbjklbaaTxS
namespace Go.Proofs.Yteaaeeidbjklbaa
open Go.RowKit Go.Maps
section
variable {at_ : Nat → Int} {op : Nat → Bool} {S : Nat → SV} {V : SV}
abbrev wboxes (w : World) (at_ : Nat → Int) (op : Nat → Bool) (S : Nat → SV) (V : SV) (x : W3) : World := ((w.alloc (.cells (arrT at_ op S V) 36)).alloc (.cells #[.string x.key, .string x.text, .bool x.gone] 38)).alloc (.cells (arrT zAt zOp zS sv0) 36)
theorem threeT_new (w : World) (at_ : Nat → Int) (op : Nat → Bool) (S : Nat → SV) (V : SV) (x : W3) : RefT (wboxes w at_ op S V x) w.heap.size at_ op S V ∧ RefT (wboxes w at_ op S V x) (w.heap.size + 2) zAt zOp zS sv0 ∧
    (wboxes w at_ op S V x).heap[w.heap.size + 1]? = some (.cells #[.string x.key, .string x.text, .bool x.gone] 38 (0, 0)) ∧ Below w.heap.size w (wboxes w at_ op S V x) := by
  obtain ⟨h1, h2, h3⟩ := two_new w (.cells (arrT at_ op S V) 36) (.cells #[.string x.key, .string x.text, .bool x.gone] 38)
  have hs : ((w.alloc (.cells (arrT at_ op S V) 36)).alloc (.cells #[.string x.key, .string x.text, .bool x.gone] 38)).heap.size = w.heap.size + 2 := by simp
  have h4 := heap_alloc_new ((w.alloc (.cells (arrT at_ op S V) 36)).alloc (.cells #[.string x.key, .string x.text, .bool x.gone] 38)) (.cells (arrT zAt zOp zS sv0) 36)
  rw [hs] at h4
  exact ⟨(Below.heap_alloc _ _ _ (by rw [hs]; omega)).trans h1, h4, (Below.heap_alloc _ _ _ (by rw [hs]; omega)).trans h2, h3.alloc (by rw [hs]; omega) _⟩
set_option maxHeartbeats 2000000 in
theorem rwrite_out {id : Int} (hi : id < 0 ∨ 8 ≤ id) (x : W3) (w : World) : Calls Try.prog 22 #[mT at_ op S V, .int .i64 id, .agg #[.string x.key, .string x.text, .bool x.gone]] w fun e w' => e = .returned (.tuple #[mT at_ op S V, .int .i64 7]) ∧ Below w.heap.size w w' := by
  obtain ⟨h1, h2, h3, h4⟩ := threeT_new w at_ op S V x
  have H1 := Lib.hid h1; have H2 := Lib.hid h2; have H4 := Lib.hid h4; have HI := Lib.hid hi; clear h1 h2 h3 h4 hi
  go_enter Try.func22, Try.ntmps22
  go_wp2_with (refine wpList_loadT rfl _ rfl w.heap.size at_ op S V (by rfl) H1.out ?_)
  refine (ropen_out HI.out _).mono ?_
  rintro e w1 ⟨rfl, hb⟩
  have HT := Lib.hid (H1.out.below hb); have HZ := Lib.hid (H2.out.below hb); have HB := Lib.hid (bt H4.out hb); clear hb
  go_wp2_with (first
    | (refine wpList_loadT rfl _ rfl w.heap.size at_ op S V (by rfl) HT.out ?_)
    | (refine wpList_storeT rfl _ _ rfl (w.heap.size + 2) at_ op S V (by rfl) (by rfl) HZ.out ?_; intro w4 hr4 hg4; have HR4 := Lib.hid hr4; have HB4 := Lib.hid (HB.out.grown hg4 HB.out.size (fun j hj => by cases hj; omega)); clear hr4 hg4))
  have hld := HR4.out.ldV
  refine bodyPost_ret (v := .tuple #[mT at_ op S V, .int .i64 7]) ?_ rfl ⟨rfl, HB4.out⟩
  rw [results_cell_tmp Try.results22]
  simp [asAddr, Result.andThen, hld]
set_option maxHeartbeats 2000000 in
theorem rwrite_no {i : Nat} (hi : i < 8) (ho : op i = false) (x : W3) (w : World) : Calls Try.prog 22 #[mT at_ op S V, .int .i64 i, .agg #[.string x.key, .string x.text, .bool x.gone]] w fun e w' => e = .returned (.tuple #[mT at_ op S V, .int .i64 7]) ∧ Below w.heap.size w w' := by
  obtain ⟨h1, h2, h3, h4⟩ := threeT_new w at_ op S V x
  have H1 := Lib.hid h1; have H2 := Lib.hid h2; have H4 := Lib.hid h4; clear h1 h2 h3 h4
  go_enter Try.func22, Try.ntmps22
  go_wp2_with (refine wpList_loadT rfl _ rfl w.heap.size at_ op S V (by rfl) H1.out ?_)
  refine (ropen_in hi _).mono ?_
  rintro e w1 ⟨rfl, hb⟩
  rw [ho]
  have HT := Lib.hid (H1.out.below hb); have HZ := Lib.hid (H2.out.below hb); have HB := Lib.hid (bt H4.out hb); clear hb ho
  go_wp2_with (first
    | (refine wpList_loadT rfl _ rfl w.heap.size at_ op S V (by rfl) HT.out ?_)
    | (refine wpList_storeT rfl _ _ rfl (w.heap.size + 2) at_ op S V (by rfl) (by rfl) HZ.out ?_; intro w4 hr4 hg4; have HR4 := Lib.hid hr4; have HB4 := Lib.hid (HB.out.grown hg4 HB.out.size (fun j hj => by cases hj; omega)); clear hr4 hg4))
  have hld := HR4.out.ldV
  refine bodyPost_ret (v := .tuple #[mT at_ op S V, .int .i64 7]) ?_ rfl ⟨rfl, HB4.out⟩
  rw [results_cell_tmp Try.results22]
  simp [asAddr, Result.andThen, hld]
set_option maxRecDepth 100000 in
set_option maxHeartbeats 4000000 in
theorem rwrite_yes {b M : Nat} {i : Nat} (hi : i < 8) (ho : op i = true) (x : W3) {w : World} {s : List W3} (hs : SlF w b M (S i).a (S i).n (S i).c s) (hr : Rise W3.key s) (hn : s.length ≤ 16) (hb0 : b < w.heap.size) (hM0 : M < w.heap.size) :
    Calls Try.prog 22 #[mT at_ op S V, .int .i64 i, .agg #[.string x.key, .string x.text, .bool x.gone]] w fun e w' => ∃ s' : SV, e = .returned (.tuple #[mT at_ op (upd S i s') V, .int .i64 (putW s x).2]) ∧ SlF w' b M s'.a s'.n s'.c (putW s x).1 ∧ Below w.heap.size w w' := by
  obtain ⟨h1, h2, h3, h4⟩ := threeT_new w at_ op S V x
  have H1 := Lib.hid h1; have H2 := Lib.hid h2; have H3 := Lib.hid h3; have H4 := Lib.hid h4; clear h1 h2 h3 h4
  have hn16 : (S i).n ≤ 16 := by rw [← slW_len hs.1]; exact hn
  have HS := Lib.hid hs; have HR := Lib.hid hr; have HLB := Lib.hid hb0; have HLM := Lib.hid hM0; clear hs hr hb0 hM0 hn
  have i1 : (0 : Int) ≤ (i : Int) := by omega
  have i2 : (i : Int) < 8 := by omega
  go_enter Try.func22, Try.ntmps22
  go_wp2_with (refine wpList_loadT rfl _ rfl w.heap.size at_ op S V (by rfl) H1.out ?_)
  refine (ropen_in hi _).mono ?_
  rintro e w1 ⟨rfl, hb⟩
  rw [ho]
  have HT := Lib.hid (H1.out.below hb); have HZ := Lib.hid (H2.out.below hb); have HB := Lib.hid (bt H4.out hb)
  have HK := Lib.hid ((hb.block _ (Array.getElem?_eq_some_iff.1 H3.out).1).trans H3.out)
  clear hb ho
  go_wp2
  have HTD := Lib.hid (HT.out.below (Below.refl _ _).drew); have HZD := Lib.hid (HZ.out.below (Below.refl _ _).drew); have HBD := Lib.hid (bt HB.out (Below.refl _ _).drew)
  have p1 : w1.drew.cell? ⟨w.heap.size, 16 + i, none⟩ = some (.slice (S i).a (S i).n (S i).c) := HTD.out.s hi
  have p2 : w1.drew.cell? ⟨w.heap.size + 1, 0, none⟩ = some (.string x.key) := cell_of_row w1 (w.heap.size + 1) 0 _ _ _ HK.out
  have p3 : w1.drew.cell? ⟨w.heap.size + 1, 1, none⟩ = some (.string x.text) := cell_of_row w1 (w.heap.size + 1) 1 _ _ _ HK.out
  have p4 : w1.drew.cell? ⟨w.heap.size + 1, 2, none⟩ = some (.bool x.gone) := cell_of_row w1 (w.heap.size + 1) 2 _ _ _ HK.out
  have hgl : w.heap.size < w1.drew.heap.size := HTD.out.lt
  have hxl : w.heap.size + 1 < w1.drew.heap.size := (Array.getElem?_eq_some_iff.1 HK.out).1
  have HPU := Lib.hid (rput17_any (w := w1.drew) (b := b) (M := M) (HS.out.chg (Chg.of_below HBD.out)) (Nat.lt_of_lt_of_le HLB.out HBD.out.size) (Nat.lt_of_lt_of_le HLM.out HBD.out.size) x HR.out hn16)
  go_region_held3 (fun w' => w'.cell? ⟨w.heap.size, 16 + i, none⟩ = some (.slice (S i).a (S i).n (S i).c) ∧ w'.cell? ⟨w.heap.size + 1, 0, none⟩ = some (.string x.key) ∧ w'.cell? ⟨w.heap.size + 1, 1, none⟩ = some (.string x.text) ∧ w'.cell? ⟨w.heap.size + 1, 2, none⟩ = some (.bool x.gone))
    (first | exact ⟨p1, p2, p3, p4⟩ | exact ⟨(hb3.cell (p := ⟨w.heap.size, 16 + i, none⟩) hgl).trans p1, (hb3.cell (p := ⟨w.heap.size + 1, 0, none⟩) hxl).trans p2, (hb3.cell (p := ⟨w.heap.size + 1, 1, none⟩) hxl).trans p3, (hb3.cell (p := ⟨w.heap.size + 1, 2, none⟩) hxl).trans p4⟩)
    ((go_at_call 43; refine HPU.out.mono ?_; rintro e w3 ⟨A3, n3, c3, rfl, hs3, hb3⟩))
  have HS3 := Lib.hid hs3
  have HT3 := Lib.hid (HTD.out.below hb3); have HZ3 := Lib.hid (HZD.out.below hb3); have HB3 := Lib.hid (bt HBD.out hb3)
  clear hs3 hb3 p1 p2 p3 p4 hgl hxl HPU
  by_cases hz : (putW s x).2 = 0
  · have HZP := Lib.hid hz
    rw [hz]
    have c1 := HT3.out.s hi
    have f1 := HT3.out.fr (16 + i)
    have HT5 := Lib.hid (HT3.out.setS hi ⟨A3, n3, c3⟩)
    have hg5 := set_grown w3 w.heap.size (16 + i) (.slice A3 n3 c3)
    have HZ5 := Lib.hid (HZ3.out.grown hg5 (by omega))
    have HB5 := Lib.hid (HB3.out.setCell (p := ⟨w.heap.size, 16 + i, none⟩) (Nat.le_refl _) (.slice A3 n3 c3))
    have HS5 := Lib.hid (show SlF (w3.setCell ⟨w.heap.size, 16 + i, none⟩ (.slice A3 n3 c3)) b M A3 n3 c3 (putW s x).1 from slF_refT HS3.out HT3.out hg5)
    clear hz hg5
    go_wp2_with (first
      | (refine wpList_loadT rfl _ rfl w.heap.size at_ op (upd S i ⟨A3, n3, c3⟩) V (by rfl) HT5.out ?_)
      | (refine wpList_storeT rfl _ _ rfl (w.heap.size + 2) at_ op (upd S i ⟨A3, n3, c3⟩) V (by rfl) (by rfl) HZ5.out ?_; intro w4 hr4 hg4; have HR4 := Lib.hid hr4; have HS4 := Lib.hid (slF_refT HS5.out HZ5.out hg4); have HB4 := Lib.hid (HB5.out.grown hg4 HB5.out.size (fun j hj => by cases hj; omega)); clear hr4 hg4))
    have hld := HR4.out.ldV
    refine bodyPost_ret (v := .tuple #[mT at_ op (upd S i ⟨A3, n3, c3⟩) V, .int .i64 0]) ?_ rfl ⟨⟨A3, n3, c3⟩, by rw [HZP.out], HS4.out, HB4.out⟩
    rw [results_cell_tmp Try.results22]
    simp [asAddr, Result.andThen, hld]
  · have hne : ((putW s x).2 != 0) = true := by simpa using hz
    have HKP := Lib.hid (putW_keep hz)
    go_wp2_with (first
      | (refine wpList_loadT rfl _ rfl w.heap.size at_ op S V (by rfl) HT3.out ?_)
      | (refine wpList_storeT rfl _ _ rfl (w.heap.size + 2) at_ op S V (by rfl) (by rfl) HZ3.out ?_; intro w4 hr4 hg4; have HR4 := Lib.hid hr4; have HB4 := Lib.hid (HB3.out.grown hg4 HB3.out.size (fun j hj => by cases hj; omega)); clear hr4 hg4))
    have hld := HR4.out.ldV
    refine bodyPost_ret (v := .tuple #[mT at_ op S V, .int .i64 (putW s x).2]) ?_ rfl ⟨S i, by rw [upd_same'], by rw [HKP.out]; exact HS.out.chg (Chg.of_below HB4.out), HB4.out⟩
    rw [results_cell_tmp Try.results22]
    simp [asAddr, Result.andThen, hld]
end
end Go.Proofs.Yteaaeeidbjklbaa
