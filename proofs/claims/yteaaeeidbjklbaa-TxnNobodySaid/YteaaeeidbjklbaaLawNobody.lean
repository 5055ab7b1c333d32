/- The walk of the law TxnNobody: it answers true, whatever comes in. -/
import Derived.Test.YteaaeeidbjklbaaTxN
import Derived.Deep.DeepCutAuto
namespace Go.Proofs.Yteaaeeidbjklbaa
open Go.RowKit Go.Maps

abbrev twoT (w : World) : World := (w.alloc (.cells #[.pointer none] 73)).alloc (.cells #[.pointer none, .pointer (some ⟨w.heap.size, 0, none⟩)] 26)
theorem two_bare (w : World) : Below w.heap.size w (twoT w) ∧ w.heap.size + 1 < (twoT w).heap.size ∧ ∀ p, p < 2 → ∃ t, (twoT w).cell? ⟨w.heap.size + 1, p, none⟩ = some t ∧ Bare (twoT w) t := by
  have hs : (w.alloc (.cells #[.pointer none] 73)).heap.size = w.heap.size + 1 := by simp
  have h2 := heap_alloc_new (w.alloc (.cells #[.pointer none] 73)) (.cells #[.pointer none, .pointer (some ⟨w.heap.size, 0, none⟩)] 26)
  rw [hs] at h2
  have hb := (Below.refl w.heap.size w).alloc (Nat.le_refl _) (.cells #[.pointer none] 73)
  have hb2 := (Below.refl (w.heap.size + 1) (w.alloc (.cells #[.pointer none] 73))).alloc (by rw [hs]; exact Nat.le_refl _) (.cells #[.pointer none, .pointer (some ⟨w.heap.size, 0, none⟩)] 26)
  have h1 := (hb2.block w.heap.size (by omega)).trans (heap_alloc_new w (.cells #[.pointer none] 73))
  refine ⟨hb.trans (hb2.mono (by omega)), (Array.getElem?_eq_some_iff.1 h2).1, fun p hp => ?_⟩
  rcases Nat.lt_or_ge p 1 with h | h
  · obtain rfl : p = 0 := by omega
    exact ⟨_, cell_of_row _ _ 0 _ _ _ h2, .inl rfl⟩
  · obtain rfl : p = 1 := by omega
    exact ⟨_, cell_of_row _ _ 1 _ _ _ h2, .inr ⟨_, rfl, cell_of_row _ _ 0 _ _ _ h1⟩⟩
set_option maxRecDepth 100000 in
set_option maxHeartbeats 4000000 in
theorem lawNobody_any {w : World} (id : Int) (x : W3) (a : Int) :
    Calls Try.prog 5 #[.int .i64 id, .agg #[.string x.key, .string x.text, .bool x.gone], .int .u64 a] w fun e w' => e = .returned (.bool true) ∧ Below w.heap.size w w' := by
  have hbe := (Below.refl w.heap.size w).alloc (Nat.le_refl _) (.cells #[.string x.key, .string x.text, .bool x.gone] 38)
  have HBE := Lib.hid hbe; clear hbe
  have HK0 := Lib.hid (heap_alloc_new w (.cells #[.string x.key, .string x.text, .bool x.gone] 38))
  have HSZ := Lib.hid (show w.heap.size < (w.alloc (.cells #[.string x.key, .string x.text, .bool x.gone] 38)).heap.size by simp)
  go_enter Try.func5, Try.ntmps5
  go_wp2_with fail
  refine (alive_any _).mono ?_
  rintro e w1 ⟨rfl, hb1⟩
  have HB1 := Lib.hid (bt HBE.out hb1)
  have HK1 := Lib.hid ((hb1.block w.heap.size HSZ.out).trans HK0.out)
  clear hb1
  have p0 : w1.cell? ⟨w.heap.size, 0, none⟩ = some (.string x.key) := cell_of_row w1 w.heap.size 0 _ _ _ HK1.out
  have p1 : w1.cell? ⟨w.heap.size, 1, none⟩ = some (.string x.text) := cell_of_row w1 w.heap.size 1 _ _ _ HK1.out
  have p2 : w1.cell? ⟨w.heap.size, 2, none⟩ = some (.bool x.gone) := cell_of_row w1 w.heap.size 2 _ _ _ HK1.out
  have hlt1 : w.heap.size < w1.heap.size := (Array.getElem?_eq_some_iff.1 HK1.out).1
  have HL1 := Lib.hid hlt1
  have HSF := Lib.hid (SlF.one hlt1 hlt1 38 x).1
  clear hlt1
  have hbe := (Below.refl w1.heap.size w1).alloc (Nat.le_refl _) (.cells #[.string x.key, .string x.text, .bool x.gone] 38)
  have HBE1 := Lib.hid (bt HB1.out hbe)
  have HKE1 := Lib.hid ((hbe.block w.heap.size HL1.out).trans HK1.out)
  clear hbe
  go_wp2_with fail
  refine (few_any HSF.out).mono ?_
  rintro e w2 ⟨rfl, hb⟩
  have HB2 := Lib.hid (bt HBE1.out hb)
  have HK2 := Lib.hid ((hb.block w.heap.size (Array.getElem?_eq_some_iff.1 HKE1.out).1).trans HKE1.out)
  clear hb p0 p1 p2
  cases hf : fewB [x] with
  | false =>
    go_wp2
    go_ret
    exact ⟨rfl, HB2.out⟩
  | true =>
  have HFW := Lib.hid hf; clear hf
  go_wp2
  obtain ⟨hb3, hl3, hp3⟩ := two_bare w2
  have HB3 := Lib.hid (bt HB2.out hb3)
  have HK3 := Lib.hid ((hb3.block w.heap.size (Array.getElem?_eq_some_iff.1 HK2.out).1).trans HK2.out)
  have HL3 := Lib.hid hl3; have HP3 := Lib.hid hp3
  clear hb3 hl3 hp3
  obtain ⟨W3, hW3⟩ : ∃ W3, twoT w2 = W3 := ⟨_, rfl⟩
  rw [show (w2.alloc (.cells #[.pointer none] 73)).alloc (.cells #[.pointer none, .pointer (some ⟨w2.heap.size, 0, none⟩)] 26) = W3 from hW3]
  rw [hW3] at HB3 HK3 HL3 HP3
  clear hW3
  go_loopw [25] (fun v wr => ∃ p : Nat, p ≤ 2 ∧ v = .int .i64 p ∧ Below W3.heap.size W3 wr) (fun v _ => 2 - (intOf v).toNat)
  case atStart => exact ⟨0, Nat.zero_le _, rfl, Below.refl _ _⟩
  case round =>
    obtain ⟨p, hp, rfl, hb⟩ := hrel
    have HB := Lib.hid hb; clear hb
    by_cases hpn : p < 2
    · obtain ⟨t, c0, hbt⟩ := HP3.out p hpn
      have c1 := (HB.out.cell (p := ⟨w2.heap.size + 1, p, none⟩) HL3.out).trans c0
      have HT := Lib.hid (hbt.below HB.out)
      clear c0 hbt
      go_wp2_with fail
      have HK := Lib.hid ((HB.out.block w.heap.size (Array.getElem?_eq_some_iff.1 HK3.out).1).trans HK3.out)
      refine (begin_bare HT.out a).mono ?_
      rintro e wn ⟨rfl, hb⟩
      have HT := Lib.hid (HT.out.below hb); have HB := Lib.hid (bt HB.out hb); have HK := Lib.hid ((hb.block w.heap.size (Array.getElem?_eq_some_iff.1 HK.out).1).trans HK.out); clear hb
      clear c1
      go_wp2_with fail
      refine (at_bare HT.out id).mono ?_
      rintro e wn ⟨rfl, hb⟩
      have HT := Lib.hid (HT.out.below hb); have HB := Lib.hid (bt HB.out hb); have HK := Lib.hid ((hb.block w.heap.size (Array.getElem?_eq_some_iff.1 HK.out).1).trans HK.out); clear hb
      go_wp2_with fail
      refine (set_bare HT.out id).mono ?_
      rintro e wn ⟨rfl, hb⟩
      have HT := Lib.hid (HT.out.below hb); have HB := Lib.hid (bt HB.out hb); have HK := Lib.hid ((hb.block w.heap.size (Array.getElem?_eq_some_iff.1 HK.out).1).trans HK.out); clear hb
      have p0 : wn.cell? ⟨w.heap.size, 0, none⟩ = some (.string x.key) := cell_of_row wn w.heap.size 0 _ _ _ HK.out
      have p1 : wn.cell? ⟨w.heap.size, 1, none⟩ = some (.string x.text) := cell_of_row wn w.heap.size 1 _ _ _ HK.out
      have p2 : wn.cell? ⟨w.heap.size, 2, none⟩ = some (.bool x.gone) := cell_of_row wn w.heap.size 2 _ _ _ HK.out
      have hbe := (Below.refl wn.heap.size wn).alloc (Nat.le_refl _) (.cells #[.string x.key, .string x.text, .bool x.gone] 50)
      have HTE := Lib.hid (HT.out.below hbe); have HBE := Lib.hid (bt HB.out hbe); have HKE := Lib.hid ((hbe.block w.heap.size (Array.getElem?_eq_some_iff.1 HK.out).1).trans HK.out)
      clear hbe
      go_wp2_with fail
      refine (note_bare HTE.out _ _ _ _).mono ?_
      rintro e wm ⟨rfl, hb⟩
      have HT := Lib.hid (HTE.out.below hb); have HB := Lib.hid (bt HBE.out hb); have HK := Lib.hid ((hb.block w.heap.size (Array.getElem?_eq_some_iff.1 HKE.out).1).trans HKE.out); clear hb p0 p1 p2
      have p0 : wm.cell? ⟨w.heap.size, 0, none⟩ = some (.string x.key) := cell_of_row wm w.heap.size 0 _ _ _ HK.out
      have p1 : wm.cell? ⟨w.heap.size, 1, none⟩ = some (.string x.text) := cell_of_row wm w.heap.size 1 _ _ _ HK.out
      have p2 : wm.cell? ⟨w.heap.size, 2, none⟩ = some (.bool x.gone) := cell_of_row wm w.heap.size 2 _ _ _ HK.out
      go_wp2_with fail
      refine (write_bare HT.out id x).mono ?_
      rintro e wn ⟨rfl, hb⟩
      have HT := Lib.hid (HT.out.below hb); have HB := Lib.hid (bt HB.out hb); clear hb
      clear p0 p1 p2
      go_wp2_with fail
      refine (end_bare HT.out id).mono ?_
      rintro e wn ⟨rfl, hb⟩
      have HT := Lib.hid (HT.out.below hb); have HB := Lib.hid (bt HB.out hb); clear hb
      go_wp2_with fail
      refine (clash_bare HT.out id).mono ?_
      rintro e wn ⟨rfl, hb⟩
      have HT := Lib.hid (HT.out.below hb); have HB := Lib.hid (bt HB.out hb); clear hb
      go_wp2_with fail
      refine (least_bare HT.out a).mono ?_
      rintro e wn ⟨rfl, hb⟩
      have HT := Lib.hid (HT.out.below hb); have HB := Lib.hid (bt HB.out hb); clear hb
      go_wp2_with fail
      refine (open_bare HT.out).mono ?_
      rintro e wn ⟨rfl, hb⟩
      have HT := Lib.hid (HT.out.below hb); have HB := Lib.hid (bt HB.out hb); clear hb
      go_wp2
      go_roundw
      case rel => exact ⟨p + 1, by omega, by go_num, HB.out⟩
      case measure => simp [intOf]; omega
    · obtain rfl : p = 2 := by omega
      go_wp2
      go_ret
      exact ⟨rfl, bt HB3.out HB.out⟩
end Go.Proofs.Yteaaeeidbjklbaa
