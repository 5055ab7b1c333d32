/- A table: New, Begin, End, Set, Write. -/
import Derived.Test.YteaaeeidbjklbaaTxA
import Derived.Deep.RegionHeld3
namespace Go.Proofs.Yteaaeeidbjklbaa
open Go.RowKit Go.Maps

def zerB (M : Nat) : Array Value := #[.int .u64 0, .int .u64 0, .int .u64 0, .int .u64 0, .int .u64 0, .int .u64 0, .int .u64 0, .int .u64 0,
  .bool false, .bool false, .bool false, .bool false, .bool false, .bool false, .bool false, .bool false,
  .int .u64 0, .int .i64 0, .int .u64 0, .int .i64 0, .int .u64 0, .int .i64 0, .int .u64 0, .int .i64 0, .int .u64 0, .int .i64 0, .int .u64 0, .int .i64 0, .int .u64 0, .int .i64 0, .int .u64 0, .int .i64 0,
  .int .u64 0, .int .i64 0, .int .u64 0, .int .i64 0, .int .u64 0, .int .i64 0, .int .u64 0, .int .i64 0, .int .u64 0, .int .i64 0, .int .u64 0, .int .i64 0, .int .u64 0, .int .i64 0, .int .u64 0, .int .i64 0, .int .i64 0,
  .slice none 0 0, .slice none 0 0, .slice none 0 0, .slice none 0 0, .slice none 0 0, .slice none 0 0, .slice none 0 0, .slice none 0 0, .map (some M)]
theorem lt8' {k : Nat} (hk : k < 8) : k = 0 ∨ k = 1 ∨ k = 2 ∨ k = 3 ∨ k = 4 ∨ k = 5 ∨ k = 6 ∨ k = 7 := by omega
theorem zerB_mark (M i : Nat) (hi : i < 16) : (zerB M)[16 + i * 2]? = some (.int .u64 0) ∧ (zerB M)[16 + i * 2 + 1]? = some (.int .i64 0) := by
  have : i = 0 ∨ i = 1 ∨ i = 2 ∨ i = 3 ∨ i = 4 ∨ i = 5 ∨ i = 6 ∨ i = 7 ∨ i = 8 ∨ i = 9 ∨ i = 10 ∨ i = 11 ∨ i = 12 ∨ i = 13 ∨ i = 14 ∨ i = 15 := by omega
  rcases this with rfl | rfl | rfl | rfl | rfl | rfl | rfl | rfl | rfl | rfl | rfl | rfl | rfl | rfl | rfl | rfl <;> exact ⟨rfl, rfl⟩
theorem tab_new (w : World) : Tab (((w.alloc (.map #[] 0)).alloc (.cells (zerB w.heap.size) 93)).alloc (.cells #[.pointer (some ⟨w.heap.size + 1, 0, none⟩)] 73)) (w.heap.size + 2) (w.heap.size + 1) w.heap.size (fun _ => 0) (fun _ => false) (fun _ => []) 0 (.map []) := by
  have hs1 : (w.alloc (.map #[] 0)).heap.size = w.heap.size + 1 := by simp
  have hs2 : ((w.alloc (.map #[] 0)).alloc (.cells (zerB w.heap.size) 93)).heap.size = w.heap.size + 2 := by simp
  have h2 := heap_alloc_new ((w.alloc (.map #[] 0)).alloc (.cells (zerB w.heap.size) 93)) (.cells #[.pointer (some ⟨w.heap.size + 1, 0, none⟩)] 73)
  rw [hs2] at h2
  have h1 := heap_alloc_new (w.alloc (.map #[] 0)) (.cells (zerB w.heap.size) 93)
  rw [hs1] at h1
  have hh := (Below.heap_alloc _ (.cells #[.pointer (some ⟨w.heap.size + 1, 0, none⟩)] 73) (w.heap.size + 1) (by rw [hs2]; omega)).trans h1
  have ho := ((World.ownsMap_made w Try.prog 9 (plainElem (H := Unit) Try.prog 23)).alloc (.cells (zerB w.heap.size) 93)).alloc (.cells #[.pointer (some ⟨w.heap.size + 1, 0, none⟩)] 73)
  generalize ((w.alloc (.map #[] 0)).alloc (.cells (zerB w.heap.size) 93)).alloc (.cells #[.pointer (some ⟨w.heap.size + 1, 0, none⟩)] 73) = W at *
  have hc : ∀ j, W.cell? ⟨w.heap.size + 1, j, none⟩ = (zerB w.heap.size)[j]? := fun j => cell_of_row _ _ j _ _ _ hh
  refine ⟨cell_of_row _ _ 0 _ _ _ h2, (Array.getElem?_eq_some_iff.1 h2).1, ⟨fun _ => (0, 0), 0, ⟨⟨(Array.getElem?_eq_some_iff.1 hh).1, fun i hi => by rw [hc]; exact (zerB_mark _ i hi).1, fun i hi => by rw [hc]; exact (zerB_mark _ i hi).2, by rw [hc]; rfl, fun j => frozen_of_row _ _ j _ _ hh⟩, fun i hi => ?_, fun i hi => ?_⟩, ⟨by omega, fun k _ h => absurd h (by omega), fun k h => absurd h (by omega), fun i _ h => by cases h⟩⟩,
    fun i hi => ⟨none, 0, 0, ?_, SlF.nil_ _ _ _, rise_nil, by simp⟩, by rw [hc]; rfl, ho, by omega, by omega, by omega⟩
  · rw [hc]; rcases lt8' hi with rfl | rfl | rfl | rfl | rfl | rfl | rfl | rfl <;> rfl
  · rw [hc]; rcases lt8' hi with rfl | rfl | rfl | rfl | rfl | rfl | rfl | rfl <;> rfl
  · rw [hc]; rcases lt8' hi with rfl | rfl | rfl | rfl | rfl | rfl | rfl | rfl <;> rfl
set_option maxHeartbeats 2000000 in
theorem new_any (w : World) : Calls Try.prog 12 #[] w fun e w' => e = .returned (PT (w.heap.size + 2)) ∧ Tab w' (w.heap.size + 2) (w.heap.size + 1) w.heap.size (fun _ => 0) (fun _ => false) (fun _ => []) 0 (.map []) ∧ Below w.heap.size w w' := by
  have hmm := @run_makeMap Try.prog
  have HT := Lib.hid (tab_new w)
  have HB := Lib.hid ((((Below.refl w.heap.size w).alloc (Nat.le_refl _) (.map #[] 0)).alloc (by simp) (.cells (zerB w.heap.size) 93)).alloc (by simp; omega) (.cells #[.pointer (some ⟨w.heap.size + 1, 0, none⟩)] 73))
  go_enter Try.func12, Try.ntmps12
  go_wp2
  go_ret
  exact ⟨rfl, HT.out, HB.out⟩
section
variable {w w1 : World} {g b M : Nat} {at_ : Nat → Int} {op : Nat → Bool} {sets : Nat → List W3} {k : Nat} {D : DataW Unit}
theorem begin_full (h : Tab w g b M at_ op sets k D) (hf : ∀ j, j < 8 → op j = true) (a : Int) : Calls Try.prog 13 #[PT g, .int .u64 a] w fun e w' => e = .returned (.tuple #[.int .i64 0, .int .i64 6]) ∧ Below w.heap.size w w' := by
  have H := Lib.hid h; have HF := Lib.hid hf; clear h hf
  go_enter Try.func13, Try.ntmps13
  go_wp2_with fail
  refine (none_no H.out).mono ?_
  rintro e w1 ⟨rfl, hb1⟩
  have H1 := Lib.hid (H.out.below hb1); have HB := Lib.hid hb1; clear hb1
  have c0 := H1.out.t
  go_wp2_with fail
  refine (open_full H1.out.wt HF.out a).mono ?_
  rintro e w2 ⟨rfl, hb2⟩
  have HB2 := Lib.hid (bt HB.out hb2); clear hb2 c0
  go_wp2
  go_returns
  exact ⟨rfl, HB2.out⟩
theorem begin_free (h : Tab w g b M at_ op sets k D) {i : Nat} (hf : FF op i) (a : Int) : Calls Try.prog 13 #[PT g, .int .u64 a] w fun e w' => e = .returned (.tuple #[.int .i64 i, .int .i64 0]) ∧ Tab w' g b M (upd at_ i a) (upd op i true) (upd sets i []) k D ∧ Chg b M w w' := by
  have H := Lib.hid h; have HF := Lib.hid hf; clear h hf
  have hi8 : i < 8 := HF.out.1
  have i1 : (0 : Int) ≤ (i : Int) := by omega
  have i2 : (i : Int) < 8 := by omega
  go_enter Try.func13, Try.ntmps13
  go_wp2_with fail
  refine (none_no H.out).mono ?_
  rintro e w1 ⟨rfl, hb1⟩
  have H1 := Lib.hid (H.out.below hb1); have HB := Lib.hid hb1; clear hb1
  have c0 := H1.out.t
  go_wp2_with fail
  refine (open_free H1.out.wt HF.out a).mono ?_
  rintro e w2 ⟨rfl, hw2, ht2⟩
  have h2 := H1.out.turn ht2 hw2
  have H2 := Lib.hid h2; have HB2 := Lib.hid ((Chg.of_below HB.out).trans (Chg.of_turn (M := M) ht2)); clear hw2 ht2 c0
  obtain ⟨A0, n0, m0, c1, _⟩ := h2.s i hi8
  have c0 := h2.t
  have f1 := h2.wt.fr (49 + i)
  have hS := h2.set hi8 (SlF.nil_ w2 b M) rise_nil (by simp)
  have HS := Lib.hid hS
  clear h2 hS
  go_wp2
  go_returns
  exact ⟨rfl, HS.out.1, HB2.out.trans HS.out.2⟩
theorem end_out (h : Tab w g b M at_ op sets k D) {id : Int} (hi : id < 0 ∨ 8 ≤ id) : Calls Try.prog 15 #[PT g, .int .i64 id] w fun e w' => e = .returned (.int .i64 7) ∧ Below w.heap.size w w' := by
  have H := Lib.hid h; have HI := Lib.hid hi; clear h hi
  go_enter Try.func15, Try.ntmps15
  go_wp2_with fail
  refine (none_no H.out).mono ?_
  rintro e w1 ⟨rfl, hb1⟩
  have H1 := Lib.hid (H.out.below hb1); have HB := Lib.hid hb1; clear hb1
  have c0 := H1.out.t
  go_wp2_with fail
  refine (close_out b HI.out _).mono ?_
  rintro e w2 ⟨rfl, hb2⟩
  have HB2 := Lib.hid (bt HB.out hb2); clear hb2 c0
  go_wp2
  go_ret
  exact ⟨rfl, HB2.out⟩
theorem end_no (h : Tab w g b M at_ op sets k D) {i : Nat} (hi : i < 8) (ho : op i = false) : Calls Try.prog 15 #[PT g, .int .i64 i] w fun e w' => e = .returned (.int .i64 7) ∧ Below w.heap.size w w' := by
  have H := Lib.hid h; clear h
  go_enter Try.func15, Try.ntmps15
  go_wp2_with fail
  refine (none_no H.out).mono ?_
  rintro e w1 ⟨rfl, hb1⟩
  have H1 := Lib.hid (H.out.below hb1); have HB := Lib.hid hb1; clear hb1
  have c0 := H1.out.t
  go_wp2_with fail
  refine (wclose_no H1.out.wt hi ho).mono ?_
  rintro e w2 ⟨rfl, hb2⟩
  have HB2 := Lib.hid (bt HB.out hb2); clear hb2 c0
  go_wp2
  go_ret
  exact ⟨rfl, HB2.out⟩
theorem end_yes (h : Tab w g b M at_ op sets k D) {i : Nat} (hi : i < 8) (ho : op i = true) : Calls Try.prog 15 #[PT g, .int .i64 i] w fun e w' => e = .returned (.int .i64 0) ∧ Tab w' g b M (upd at_ i 0) (upd op i false) (upd sets i []) k D ∧ Chg b M w w' := by
  have H := Lib.hid h; clear h
  have i1 : (0 : Int) ≤ (i : Int) := by omega
  have i2 : (i : Int) < 8 := by omega
  go_enter Try.func15, Try.ntmps15
  go_wp2_with fail
  refine (none_no H.out).mono ?_
  rintro e w1 ⟨rfl, hb1⟩
  have H1 := Lib.hid (H.out.below hb1); have HB := Lib.hid hb1; clear hb1
  have c0 := H1.out.t
  go_wp2_with fail
  refine (wclose_yes H1.out.wt hi ho).mono ?_
  rintro e w2 ⟨rfl, hw2, ht2⟩
  have h2 := H1.out.turn ht2 hw2
  have H2 := Lib.hid h2; have HB2 := Lib.hid ((Chg.of_below HB.out).trans (Chg.of_turn (M := M) ht2)); clear hw2 ht2 c0
  obtain ⟨A0, n0, m0, c1, _⟩ := h2.s i hi
  have c0 := h2.t
  have f1 := h2.wt.fr (49 + i)
  have hS := h2.set hi (SlF.nil_ w2 b M) rise_nil (by simp)
  have HS := Lib.hid hS
  clear h2 hS
  go_wp2
  go_ret
  exact ⟨rfl, HS.out.1, HB2.out.trans HS.out.2⟩
end
end Go.Proofs.Yteaaeeidbjklbaa
