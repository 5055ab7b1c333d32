/- What alive answers of a table. -/
import Derived.Test.YteaaeeidbjklbaaTxE
namespace Go.Proofs.Yteaaeeidbjklbaa
open Go.RowKit Go.Maps

theorem ff_new : FF (fun _ => false) 0 := ⟨by omega, rfl, fun j h => absurd h (by omega)⟩
theorem least_one0 (nn a : Int) : IsLeast (upd (fun _ => 0) 0 a) (upd (fun _ => false) 0 true) nn a :=
  .inr ⟨0, by omega, rfl, rfl, fun j hj ho => by
    rcases lt8' hj with rfl | rfl | rfl | rfl | rfl | rfl | rfl | rfl <;> first | exact Int.le_refl _ | cases ho⟩
theorem least_gone0 (nn a : Int) : IsLeast (upd (upd (fun _ => 0) 0 a) 0 0) (upd (upd (fun _ => false) 0 true) 0 false) nn nn :=
  .inl ⟨fun i hi => by rcases lt8' hi with rfl | rfl | rfl | rfl | rfl | rfl | rfl | rfl <;> rfl, rfl⟩
abbrev xA : W3 := ⟨⟨#[97]⟩, ⟨#[120]⟩, false⟩
abbrev xB : W3 := ⟨⟨#[97]⟩, ⟨#[]⟩, false⟩
theorem putA : putW [] xA = ([xA], 0) := by
  unfold putW
  rw [if_neg (by decide), if_neg (by simp [look_nil]), if_neg (by simp)]
  rfl
/-- a set of one write, laid by the call -/
theorem SlF.one {w : World} {b M : Nat} (hb : b < w.heap.size) (hM : M < w.heap.size) (t : TypeId) (x : W3) : SlF (w.alloc (.cells #[.string x.key, .string x.text, .bool x.gone] t)) b M (some ⟨w.heap.size, 0, none⟩) 1 1 [x] :=
  ⟨⟨rfl, Nat.le_refl _, by simp [maxLen], fun _ => ⟨w.heap.size, 0, rfl, by simp, fun j u hu => by
    rw [Nat.zero_add, cell_of_row (w.alloc _) w.heap.size j _ t (0, 0) (heap_alloc_new w _)]
    simpa [cW, W3.cells] using hu⟩⟩, fun b' o e => by cases e; omega⟩
theorem wfZ : ∀ s : ByteArray, (Lit.int .u64 ((fun _ => 0 : ByteArray → Int) s)).wf = true := fun _ => by show (Lit.int .u64 0).wf = true; decide
theorem notesA : notes (fun _ => 0) [xB] 6 xA.key = 6 := by
  show updK (fun _ => 0) xB.key _ xA.key = 6
  rw [show xA.key = xB.key from rfl, updK_same]; rfl
set_option maxRecDepth 100000 in
set_option maxHeartbeats 4000000 in
theorem alive_any (w : World) : Calls Try.prog 10 #[] w fun e w' => e = .returned (.bool true) ∧ Below w.heap.size w w' := by
  go_enter Try.func10, Try.ntmps10
  go_wp2_with fail
  refine (new_any w).mono ?_
  rintro e w1 ⟨rfl, ht, hb⟩
  have HT := Lib.hid ht; have HB1 := Lib.hid hb; clear ht hb
  have HSZ := Lib.hid (show w.heap.size < w1.heap.size from HT.out.own.lt)
  go_wp2_with fail
  refine (begin_free HT.out ff_new 5).mono ?_
  rintro e w2 ⟨rfl, ht, hc⟩
  have HT := Lib.hid ht; have HC := Lib.hid hc; clear ht hc
  go_wp2_with fail
  refine (write_yes HT.out (i := 0) (by omega) rfl xA).mono ?_
  rintro e w3 ⟨he, ht, hc⟩
  rw [show (upd (fun _ => ([] : List W3)) 0 []) 0 = [] from rfl, putA] at he ht
  obtain rfl := he
  have HT := Lib.hid ht; have HC := Lib.hid (HC.out.trans hc); clear ht hc
  go_wp2_with fail
  refine (clash_yes HT.out ni_start (i := 0) (by intro x hx; rw [show (upd (upd (fun _ => ([] : List W3)) 0 []) 0 [xA]) 0 = [xA] from rfl] at hx; simp at hx; subst hx; show (1 : Nat) ≤ maxLen; unfold maxLen; omega) (by omega) rfl).mono ?_
  rintro e w4 ⟨he, hb⟩
  rw [show (upd (upd (fun _ => ([] : List W3)) 0 []) 0 [xA]) 0 = [xA] from rfl, clashN_upto (n := 1) rfl (by intro j x _ _; show (0 : Int) ≤ 5; omega)] at he
  obtain rfl := he
  have HT4 := Lib.hid (HT.out.below hb); have HC := Lib.hid (HC.out.trans (Chg.of_below hb)); clear hb
  obtain ⟨hbl, hMl⟩ := HT4.out.lts
  have HSF := Lib.hid (SlF.one hbl hMl 50 xB)
  have hbe := (Below.refl w4.heap.size w4).alloc (Nat.le_refl _) (.cells #[.string xB.key, .string xB.text, .bool xB.gone] 50)
  have HT5 := Lib.hid (HT4.out.below hbe); have HC5 := Lib.hid (HC.out.trans (Chg.of_below hbe))
  clear hbl hMl hbe
  go_wp2_with fail
  refine (note_any HT5.out ni_start HSF.out (by intro x hx; simp at hx; subst hx; show (1 : Nat) ≤ maxLen; unfold maxLen; omega) (by omega) 6 (by decide) wfZ).mono ?_
  rintro e w6 ⟨rfl, ⟨D', ht, hn⟩, hc⟩
  have HT := Lib.hid ht; have HN := Lib.hid hn; have HC := Lib.hid (HC5.out.trans hc); clear ht hn hc
  go_wp2_with fail
  refine (tset_open HT.out (i := 0) (by omega) rfl).mono ?_
  rintro e w7 ⟨⟨A7, n7, c7, rfl, hs7⟩, hb⟩
  have hn7 : n7 = 1 := (slW_len hs7.1).symm
  subst hn7
  have HT := Lib.hid (HT.out.below hb); have HC := Lib.hid (HC.out.trans (Chg.of_below hb)); clear hb hs7
  go_wp2_with fail
  refine (clash_yes HT.out HN.out (i := 0) (by intro x hx; rw [show (upd (upd (fun _ => ([] : List W3)) 0 []) 0 [xA]) 0 = [xA] from rfl] at hx; simp at hx; subst hx; show (1 : Nat) ≤ maxLen; unfold maxLen; omega) (by omega) rfl).mono ?_
  rintro e w8 ⟨he, hb⟩
  rw [show (upd (upd (fun _ => ([] : List W3)) 0 []) 0 [xA]) 0 = [xA] from rfl, clashN_yes (x := xA) (by simp) (by rw [notesA]; show (5 : Int) < 6; omega)] at he
  obtain rfl := he
  have HT := Lib.hid (HT.out.below hb); have HC := Lib.hid (HC.out.trans (Chg.of_below hb)); clear hb
  go_wp2_with fail
  refine (tleast_any HT.out 9).mono ?_
  rintro e w9 ⟨r, rfl, hl, ht, hc⟩
  obtain rfl := isLeast_one hl (least_one0 9 5)
  have HT := Lib.hid ht; have HC := Lib.hid (HC.out.trans hc); clear ht hc hl
  go_wp2_with fail
  refine (topen_any HT.out).mono ?_
  rintro e w10 ⟨⟨A10, c10, he, _⟩, hb⟩
  obtain rfl : e = .returned (.slice A10 1 c10) := he
  have HT := Lib.hid (HT.out.below hb); have HC := Lib.hid (HC.out.trans (Chg.of_below hb)); clear hb
  go_wp2_with fail
  refine (end_yes HT.out (i := 0) (by omega) rfl).mono ?_
  rintro e w11 ⟨rfl, ht, hc⟩
  have HT := Lib.hid ht; have HC := Lib.hid (HC.out.trans hc); clear ht hc
  go_wp2_with fail
  refine (tleast_any HT.out 9).mono ?_
  rintro e w12 ⟨r, rfl, hl, ht, hc⟩
  obtain rfl := isLeast_one hl (least_gone0 9 5)
  have HT := Lib.hid ht; have HC := Lib.hid (HC.out.trans hc); clear ht hc hl
  go_wp2_with fail
  refine (end_no HT.out (i := 0) (by omega) rfl).mono ?_
  rintro e w13 ⟨rfl, hb⟩
  have HC := Lib.hid (HC.out.trans (Chg.of_below hb)); clear hb
  go_wp2
  go_ret
  exact ⟨rfl, HB1.out.trans (HC.out.below (Nat.le_succ _) (Nat.le_refl _) (Nat.le_of_lt HSZ.out))⟩
end Go.Proofs.Yteaaeeidbjklbaa
