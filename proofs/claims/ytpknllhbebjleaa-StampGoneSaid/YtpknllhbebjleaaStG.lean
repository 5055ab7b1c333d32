/- A new watch; what alive answers; a watch that is nil. -/
import Derived.Test.YtpknllhbebjleaaStF
namespace Go.Proofs.Ytpknllhbebjleaa
open Go.RowKit

def zer : Array Value := #[.int .u64 0, .int .u64 0, .int .u64 0, .int .u64 0, .int .u64 0, .int .u64 0, .int .u64 0, .int .u64 0,
  .bool false, .bool false, .bool false, .bool false, .bool false, .bool false, .bool false, .bool false,
  .int .u64 0, .int .i64 0, .int .u64 0, .int .i64 0, .int .u64 0, .int .i64 0, .int .u64 0, .int .i64 0, .int .u64 0, .int .i64 0, .int .u64 0, .int .i64 0, .int .u64 0, .int .i64 0, .int .u64 0, .int .i64 0,
  .int .u64 0, .int .i64 0, .int .u64 0, .int .i64 0, .int .u64 0, .int .i64 0, .int .u64 0, .int .i64 0, .int .u64 0, .int .i64 0, .int .u64 0, .int .i64 0, .int .u64 0, .int .i64 0, .int .u64 0, .int .i64 0, .int .i64 0]
theorem zer_mark (i : Nat) (hi : i < 16) : zer[16 + i * 2]? = some (.int .u64 0) ∧ zer[16 + i * 2 + 1]? = some (.int .i64 0) := by
  have : i = 0 ∨ i = 1 ∨ i = 2 ∨ i = 3 ∨ i = 4 ∨ i = 5 ∨ i = 6 ∨ i = 7 ∨ i = 8 ∨ i = 9 ∨ i = 10 ∨ i = 11 ∨ i = 12 ∨ i = 13 ∨ i = 14 ∨ i = 15 := by omega
  rcases this with rfl | rfl | rfl | rfl | rfl | rfl | rfl | rfl | rfl | rfl | rfl | rfl | rfl | rfl | rfl | rfl <;> exact ⟨rfl, rfl⟩
theorem Watch.new (w : World) : Watch (w.alloc (.cells zer 33)) w.heap.size (fun _ => 0) (fun _ => false) := by
  have hh := heap_alloc_new w (.cells zer 33)
  have hc : ∀ j, (w.alloc (.cells zer 33)).cell? ⟨w.heap.size, j, none⟩ = zer[j]? := fun j => cell_of_row _ _ j _ _ _ hh
  refine ⟨fun _ => (0, 0), 0, ⟨⟨by simp, fun i hi => by rw [hc]; exact (zer_mark i hi).1, fun i hi => by rw [hc]; exact (zer_mark i hi).2, by rw [hc]; rfl, fun j => frozen_of_row _ _ j _ _ hh⟩, fun i hi => ?_, fun i hi => ?_⟩, ⟨by omega, fun k _ h => absurd h (by omega), fun k h => absurd h (by omega), fun i _ h => by cases h⟩⟩
  · rw [hc]; rcases lt8 hi with rfl | rfl | rfl | rfl | rfl | rfl | rfl | rfl <;> rfl
  · rw [hc]; rcases lt8 hi with rfl | rfl | rfl | rfl | rfl | rfl | rfl | rfl <;> rfl

theorem ff_new : FF (fun _ => false) 0 := ⟨by omega, rfl, fun j h => absurd h (by omega)⟩
theorem ff_one' : FF (upd (fun _ => false) 0 true) 1 := by
  refine ⟨by omega, rfl, fun j h => ?_⟩
  have h0 : j = 0 := Nat.lt_one_iff.1 h
  subst h0; rfl
theorem least_two (nn : Int) : IsLeast (upd (upd (fun _ => 0) 0 5) 1 3) (upd (upd (fun _ => false) 0 true) 1 true) nn 3 :=
  .inr ⟨1, by omega, rfl, rfl, fun j hj ho => by
    rcases lt8 hj with rfl | rfl | rfl | rfl | rfl | rfl | rfl | rfl <;> first | (show (3 : Int) ≤ _; decide) | cases ho⟩
theorem least_left (nn : Int) : IsLeast (upd (upd (upd (fun _ => 0) 0 5) 1 3) 1 0) (upd (upd (upd (fun _ => false) 0 true) 1 true) 1 false) nn 5 :=
  .inr ⟨0, by omega, rfl, rfl, fun j hj ho => by
    rcases lt8 hj with rfl | rfl | rfl | rfl | rfl | rfl | rfl | rfl <;> first | (show (5 : Int) ≤ _; decide) | cases ho⟩

set_option maxHeartbeats 2000000 in
theorem alive_any (w : World) : Calls Try.prog 8 #[] w fun e w' => e = .returned (.bool true) ∧ Below w.heap.size w w' := by
  go_enter Try.func8, Try.ntmps8
  go_wp2_with fail
  have HB0 := Lib.hid ((Below.refl w.heap.size w).alloc (Nat.le_refl _) (.cells zer 33))
  have HL := Lib.hid (show w.heap.size < (w.alloc (.cells zer 33)).heap.size by simp)
  refine (open_free (Watch.new w) ff_new 5).mono ?_
  rintro e w1 ⟨rfl, hw, ht⟩
  have HW := Lib.hid hw; have HT := Lib.hid ht; clear hw ht
  go_wp2_with fail
  refine (open_free HW.out ff_one' 3).mono ?_
  rintro e w2 ⟨rfl, hw, ht⟩
  have HW := Lib.hid hw; have HT := Lib.hid (HT.out.trans ht); clear hw ht
  go_wp2_with fail
  refine (least_any HW.out 9).mono ?_
  rintro e w3 ⟨r, rfl, hl, hw, ht⟩
  obtain rfl := isLeast_one hl (least_two 9)
  have HW := Lib.hid hw; have HT := Lib.hid (HT.out.trans ht); clear hw ht hl
  go_wp2_with fail
  refine (wclose_yes HW.out (i := 1) (by omega) rfl).mono ?_
  rintro e w4 ⟨rfl, hw, ht⟩
  have HW := Lib.hid hw; have HT := Lib.hid (HT.out.trans ht); clear hw ht
  go_wp2_with fail
  refine (wat_in HW.out (i := 0) (by omega)).mono ?_
  rintro e w5 ⟨he, hb⟩
  obtain rfl : e = .returned (.tuple #[.int .u64 5, .bool true]) := he
  have HT := Lib.hid (HT.out.of_below HW.out.lt hb); have HW := Lib.hid (HW.out.below hb); clear hb
  go_wp2_with fail
  refine (wat_in HW.out (i := 1) (by omega)).mono ?_
  rintro e w6 ⟨he, hb⟩
  obtain rfl : e = .returned (.tuple #[.int .u64 0, .bool false]) := he
  have HT := Lib.hid (HT.out.of_below HW.out.lt hb); have HW := Lib.hid (HW.out.below hb); clear hb
  go_wp2_with fail
  refine (least_any HW.out 9).mono ?_
  rintro e w7 ⟨r, rfl, hl, hw, ht⟩
  obtain rfl := isLeast_one hl (least_left 9)
  have HW := Lib.hid hw; have HT := Lib.hid (HT.out.trans ht); clear hw ht hl
  go_wp2_with fail
  refine (len_any HW.out).mono ?_
  rintro e w8 ⟨he, hb⟩
  obtain rfl : e = .returned (.int .i64 1) := he
  have HT := Lib.hid (HT.out.of_below HW.out.lt hb); have HW := Lib.hid (HW.out.below hb); clear hb
  go_wp2_with fail
  refine (wclose_no HW.out (i := 7) (by omega) rfl).mono ?_
  rintro e w9 ⟨rfl, hb⟩
  have HT := Lib.hid (HT.out.of_below HW.out.lt hb); clear hb
  go_wp2
  go_ret
  exact ⟨rfl, HB0.out.trans (HT.out.below (Nat.le_refl _) HL.out)⟩

set_option maxHeartbeats 2000000 in
theorem lawNobody_any {w : World} (at_ id : Int) : Calls Try.prog 5 #[.int .u64 at_, .int .i64 id] w fun e w' => e = .returned (.bool true) ∧ Below w.heap.size w w' := by
  go_enter Try.func5, Try.ntmps5
  go_wp2_with fail
  refine (alive_any w).mono ?_
  rintro e w1 ⟨rfl, hb⟩
  have HB := Lib.hid hb; clear hb
  go_wp2_with fail
  refine (open_nil at_ w1).mono ?_
  rintro e w2 ⟨rfl, hb⟩
  have HB := Lib.hid (bt HB.out hb); clear hb
  go_wp2_with fail
  refine (at_nil id w2).mono ?_
  rintro e w3 ⟨rfl, hb⟩
  have HB := Lib.hid (bt HB.out hb); clear hb
  go_wp2_with fail
  refine (close_nil id w3).mono ?_
  rintro e w4 ⟨rfl, hb⟩
  have HB := Lib.hid (bt HB.out hb); clear hb
  go_wp2_with fail
  refine (least_nil at_ w4).mono ?_
  rintro e w5 ⟨rfl, hb⟩
  have HB := Lib.hid (bt HB.out hb); clear hb
  go_wp2_with fail
  refine (len_nil w5).mono ?_
  rintro e w6 ⟨rfl, hb⟩
  have HB := Lib.hid (bt HB.out hb); clear hb
  go_wp2
  go_ret
  exact ⟨rfl, HB.out⟩
end Go.Proofs.Ytpknllhbebjleaa
