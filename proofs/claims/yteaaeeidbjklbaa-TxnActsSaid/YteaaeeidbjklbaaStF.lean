/- The document's watch: Close of a number that is open. -/
import Derived.Test.YteaaeeidbjklbaaStE
import Derived.Deep.DeepCutAuto
namespace Go.Proofs.Yteaaeeidbjklbaa
open Go.RowKit

/-- the world forgotten, but what is said of it -/
theorem wp_abs {P : Program} {c : Code} {Q : Exit → Act → World → Prop} {a : Act} {w : World} (R : World → Prop) (h : R w) (k : ∀ w', R w' → Code.wp P c Q a w') : Code.wp P c Q a w := k w h
section
variable {at_ : Nat → Int} {op : Nat → Bool}
set_option maxHeartbeats 2000000 in
theorem rclose_yes {i : Nat} (hi : i < 8) (ho : op i = true) (w : World) : Calls Try.prog 38 #[mW at_ op, .int .i64 i] w fun e w' => e = .returned (.tuple #[mW (upd at_ i 0) (upd op i false), .int .i64 0]) ∧ Below w.heap.size w w' := by
  have hE : (((arr at_ op).setIfInBounds (8 + i) (.bool false)).setIfInBounds i (.int .u64 0)) = arr (upd at_ i 0) (upd op i false) := by rw [arr_setOp _ _ hi, arr_setAt _ _ hi]
  obtain ⟨h1, h2, h3⟩ := two_new w (.cells (((arr at_ op).setIfInBounds (8 + i) (.bool false)).setIfInBounds i (.int .u64 0)) 31) (.cells (arr (fun _ => 0) (fun _ => false)) 31)
  have H1 := Lib.hid (h1.trans (by rw [hE])); have H2 := Lib.hid h2; have H3 := Lib.hid h3; clear h1 h2 h3 hE
  have i1 : (0 : Int) ≤ (i : Int) := by omega
  have i2 : (i : Int) < 8 := by omega
  have i3 : ¬ (i : Int) < 0 := by omega
  have i4 : decide ((8 : Int) ≤ (i : Int)) = false := decide_eq_false (by omega)
  have c0 := arr_op at_ op hi
  rw [ho] at c0
  have c1 : ((arr at_ op).setIfInBounds (8 + i) (.bool false))[i]? = some (.int .u64 (at_ i)) := by rw [arr_setOp _ _ hi]; exact arr_at _ _ hi
  go_enter Try.func38, Try.ntmps38
  go_upto_region 5 with (fail)
  refine wp_abs (fun wx => RefW wx w.heap.size (upd at_ i 0) (upd op i false) ∧ wx.heap[w.heap.size + 1]? = some (.cells (arr (fun _ => 0) (fun _ => false)) 31 (0, 0)) ∧ Below w.heap.size w wx) ⟨H1.out, H2.out, H3.out⟩ ?_
  rintro wx ⟨hr, hz, hb⟩
  have HR := Lib.hid hr; have HZ := Lib.hid hz; have HB := Lib.hid hb; clear hr hz hb
  go_wp2_with (first
    | (refine wpList_load_row rfl 31 _ rfl w.heap.size (by rfl) 31 (arr (upd at_ i 0) (upd op i false)) (0, 0) _ HR.out Try.underlying31 rfl info_RW14 ?_)
    | (refine wpList_storeRow rfl 31 _ _ rfl (w.heap.size + 1) (arr (upd at_ i 0) (upd op i false)) (by rfl) (by rfl) 31 _ HZ.out info_RW14 rfl (arr_one _ _) ?_; intro w5 hg5 hgr5; obtain ⟨n0, n1, n2, n3, n4, n5, n6, n7, n8, n9, n10, n11, n12, n13, n14, n15⟩ := RefW.nums hg5))
  refine bodyPost_ret (by simp [results, Try.results38, go_sem, n0, n1, n2, n3, n4, n5, n6, n7, n8, n9, n10, n11, n12, n13, n14, n15]; try rfl) rfl ?_
  exact ⟨rfl, HB.out.grown hgr5 HB.out.size (fun j hj => by cases hj; exact Nat.le_succ _)⟩
end
end Go.Proofs.Yteaaeeidbjklbaa
