/- The walk of the law TxnNotes: it answers true, whatever comes in. -/
import Derived.Test.YteaaeeidbjklbaaTxH
import Derived.Deep.DeepCutAuto
namespace Go.Proofs.Yteaaeeidbjklbaa
open Go.RowKit Go.Maps

set_option maxRecDepth 100000 in
set_option maxHeartbeats 4000000 in
theorem lawNotes_any {A : Option Addr} {n c : Nat} {xs : List W3} {w : World} (h : SlW w A n c xs) {a st : Int} (hwa : (Lit.int .u64 a).wf = true) (hst : (Lit.int .u64 st).wf = true) :
    Calls Try.prog 7 #[.slice A n c, .int .u64 a, .int .u64 st] w fun e w' => e = .returned (.bool true) ∧ Below w.heap.size w w' := by
  have h_m := sl_max h
  have hl := Lib.hid (slW_len h)
  have HS := Lib.hid h; clear h
  have h0a := okWordT hwa
  have h0st := okWordT hst
  go_enter Try.func7, Try.ntmps7
  go_wp2_with fail
  refine (alive_any w).mono ?_
  rintro e wa ⟨rfl, hb1⟩
  have HB0 := Lib.hid hb1; clear hb1
  go_wp2_with fail
  refine (few_any (HS.out.below HB0.out)).mono ?_
  rintro e wb ⟨rfl, hb⟩
  have HB := Lib.hid (bt HB0.out hb); clear hb
  cases hf : fewB xs with
  | false =>
    go_wp2
    go_ret
    exact ⟨rfl, HB.out⟩
  | true =>
  have HFW := Lib.hid hf; clear hf
  have hnn : n ≤ 60 := by have := fewB_l60 HFW.out; rw [hl.out] at this; exact this
  go_wp2_with fail
  refine (new_any wb).mono ?_
  rintro e w1 ⟨rfl, ht, hb⟩
  have HT := Lib.hid ht; have HB1 := Lib.hid (bt HB.out hb); clear ht hb
  have HSZ := Lib.hid (show wb.heap.size < w1.heap.size from HT.out.own.lt)
  have HBW := Lib.hid (fun (W : World) (hc : Chg (wb.heap.size + 1) wb.heap.size w1 W) => HB1.out.trans (hc.below (Nat.le_trans HB.out.size (Nat.le_succ _)) HB.out.size (Nat.le_trans HB.out.size (Nat.le_of_lt HSZ.out))))
  generalize hg : wb.heap.size + 2 = g at *
  generalize hb' : wb.heap.size + 1 = b at *
  generalize hM : wb.heap.size = M at *
  clear hg hb' hM
  go_wp2_with fail
  refine (begin_free HT.out ff_new a).mono ?_
  rintro e w2 ⟨rfl, ht, hc⟩
  have HT := Lib.hid ht; have HC := Lib.hid hc; clear ht hc
  have HNI := Lib.hid ni_start
  generalize (DataW.map [] : DataW Unit) = D at *
  go_wp2
  go_loopw [33] (fun v wr => ∃ p : Nat, p ≤ n ∧ v = .int .i64 p ∧ Tab wr g b M (upd (fun _ => 0) 0 a) (upd (fun _ => false) 0 true) (upd (upd (fun _ => []) 0 []) 0 (puts ((upd (fun _ => []) 0 []) 0) (xs.take p))) 0 D ∧ Chg b M w1 wr) (fun v _ => n - (intOf v).toNat)
  case atStart => exact ⟨0, Nat.zero_le _, rfl, by rw [show xs.take 0 = [] from rfl, puts_nil, upd_same']; exact HT.out, HC.out⟩
  case round =>
    rename World => wp
    obtain ⟨p, hp, rfl, ht, hc⟩ := hrel
    clear HT HC
    have HT := Lib.hid ht; have HC := Lib.hid hc; clear ht hc
    by_cases hpn : p < n
    · obtain ⟨b', o, x, hA, hbw, hx, h0, h1, h2⟩ := slW_get (HS.out.below (HBW.out _ HC.out)) hpn
      subst hA
      have HX := Lib.hid hx; clear hx
      have hbe := (Below.refl wp.heap.size wp).alloc (Nat.le_refl _) (.cells #[.string x.key, .string x.text, .bool x.gone] 38)
      have HTE := Lib.hid (HT.out.below hbe); have HCE := Lib.hid (HC.out.trans (Chg.of_below hbe)); clear hbe
      go_wp2_with fail
      refine (write_yes HTE.out (i := 0) (by omega) rfl x).mono ?_
      rintro e wq ⟨rfl, ht, hc⟩
      rw [upd_same, upd_upd] at ht
      have HT2 := Lib.hid ht; have HC2 := Lib.hid (HCE.out.trans hc); clear ht hc h0 h1 h2
      generalize (putW (upd (upd (fun _ => []) 0 []) 0 (puts ((upd (fun _ => []) 0 []) 0) (xs.take p)) 0) x).2 = er
      go_wp2
      go_roundw
      case rel => exact ⟨p + 1, by omega, by go_num, by rw [puts_succ HX.out]; exact HT2.out, HC2.out⟩
      case measure => simp [intOf]; omega
    · obtain rfl : p = n := by omega
      have HT0 := HT
      rw [List.take_of_length_le (l := xs) (by rw [hl.out]; exact Nat.le_refl _)] at HT0
      clear HT
      have HT := HT0
      clear HT0
      have HK0 := Lib.hid (show ∀ x ∈ puts ((upd (fun _ => ([] : List W3)) 0 []) 0) xs, x.key.size ≤ 16 from puts16 xs)
      have HL0 := Lib.hid (show (puts ((upd (fun _ => ([] : List W3)) 0 []) 0) xs).length ≤ 16 from (puts_len xs [] rise_nil (by simp)).2)
      generalize puts ((upd (fun _ => ([] : List W3)) 0 []) 0) xs = S0 at HT HK0 HL0
      have HK16 := HK0; clear HK0
      have HKM := Lib.hid (show ∀ x ∈ S0, x.key.size ≤ maxLen from fun x hx => Nat.le_trans (HK16.out x hx) (by unfold maxLen; omega))
      go_wp2_with fail
      refine (tset_open HT.out (i := 0) (by omega) rfl).mono ?_
      rintro e w3 ⟨⟨A7, n7, c7, rfl, hs7⟩, hb⟩
      have HSS : RowKit.Hid (SlF w3 b M A7 n7 c7 S0) := Lib.hid hs7
      have hn7 : n7 ≤ 16 := by rw [← slW_len HSS.out.1]; exact HL0.out
      have HCO := Lib.hid (clash_own (l := S0) (st := st) (a := a) h0st h0a)
      rw [slW_len HSS.out.1] at HCO
      have HT := Lib.hid (HT.out.below hb); have HC := Lib.hid (HC.out.trans (Chg.of_below hb)); clear hb hs7
      go_wp2_with fail
      refine (note_any HT.out HNI.out HSS.out HKM.out (by omega) st hst wfZ).mono ?_
      rintro e w4 ⟨rfl, ⟨D1, ht, hn1⟩, hc⟩
      have HT := Lib.hid ht; have HN1 := Lib.hid hn1; have HSS := Lib.hid (HSS.out.chg hc); have HC := Lib.hid (HC.out.trans hc); clear ht hn1 hc
      go_wp2_with fail
      refine (clash_yes HT.out HN1.out (i := 0) HKM.out (by omega) rfl).mono ?_
      rintro e w4' ⟨he, hb⟩
      obtain rfl : e = .returned (.bool (clashN (notes (fun _ => 0) S0 st) a S0)) := he
      have HT := Lib.hid (HT.out.below hb); have HSS := Lib.hid (HSS.out.chg (Chg.of_below hb)); have HC := Lib.hid (HC.out.trans (Chg.of_below hb)); clear hb
      by_cases hm : st < a
      · go_wp2_with fail
        refine (note_any HT.out HN1.out HSS.out HKM.out (by omega) st hst (notes_wf hst _ wfZ)).mono ?_
        rintro e w5 ⟨rfl, ⟨D2, ht, hn2⟩, hc⟩
        have HT := Lib.hid ht; have HN2 := Lib.hid hn2; have HSS := Lib.hid (HSS.out.chg hc); have HC := Lib.hid (HC.out.trans hc); clear ht hn2 hc
        obtain ⟨hbl, hMl⟩ := HT.out.lts
        have HSF := Lib.hid (SlF.one hbl hMl 50 xLong)
        have hbe := (Below.refl w5.heap.size w5).alloc (Nat.le_refl _) (.cells #[.string xLong.key, .string xLong.text, .bool xLong.gone] 50)
        have HT5 := Lib.hid (HT.out.below hbe); have HC5 := Lib.hid (HC.out.trans (Chg.of_below hbe))
        clear hbl hMl hbe
        go_wp2_with fail
        refine (note_any HT5.out HN2.out HSF.out (by intro x hx; simp at hx; subst hx; show (24 : Nat) ≤ maxLen; unfold maxLen; omega) (by omega) 9223372036854775808 (by decide) (notes_wf hst _ (notes_wf hst _ wfZ))).mono ?_
        rintro e w6 ⟨rfl, ⟨D3, ht, hn3⟩, hc⟩
        have HT6 := Lib.hid ht; have HN3 := Lib.hid hn3; have HC6 := Lib.hid (HC5.out.trans hc); clear ht hn3 hc
        have HE := Lib.hid (clash_again HK16.out (st := st) (mn := st) (a := a) (Int.le_refl _) h0st 9223372036854775808)
        have HQ := Lib.hid (clash_yes HT6.out HN3.out (i := 0) HKM.out (by omega) rfl)
        clear hst hwa
        rcases Nat.eq_zero_or_pos n7 with hz0 | hz0
        · subst hz0
          have HFS := Lib.hid (show clashN (notes (fun _ => 0) S0 st) a S0 = false by rw [HCO.out]; simp)
          rw [HFS.out]
          go_wp2_with fail
          refine HQ.out.mono ?_
          rintro e w7 ⟨he, hb⟩
          obtain rfl : e = .returned (.bool (clashN (notes (notes (notes (fun _ => 0) S0 st) S0 st) [xLong] 9223372036854775808) a S0)) := he
          rw [HE.out, HFS.out]
          have HC7 := Lib.hid (HC6.out.trans (Chg.of_below hb)); clear hb
          go_wp2
          go_ret
          exact ⟨rfl, HBW.out _ HC7.out⟩
        · have hz0I : (0 : Int) < (n7 : Int) := by omega
          by_cases hz1 : a < st
          case neg =>
            have HFS := Lib.hid (show clashN (notes (fun _ => 0) S0 st) a S0 = false by rw [HCO.out, decide_eq_false hz1]; simp)
            have hz2 : st ≤ a := by omega
            have hzd : decide (a < st) = false := decide_eq_false hz1
            rw [HFS.out]
            go_wp2_with fail
            refine HQ.out.mono ?_
            rintro e w7 ⟨he, hb⟩
            obtain rfl : e = .returned (.bool (clashN (notes (notes (notes (fun _ => 0) S0 st) S0 st) [xLong] 9223372036854775808) a S0)) := he
            rw [HE.out, HFS.out]
            have HC7 := Lib.hid (HC6.out.trans (Chg.of_below hb)); clear hb
            go_wp2
            go_ret
            exact ⟨rfl, HBW.out _ HC7.out⟩
          case pos =>
            have HFS := Lib.hid (show clashN (notes (fun _ => 0) S0 st) a S0 = true by rw [HCO.out, decide_eq_true hz1, decide_eq_true hz0I]; rfl)
            rw [HFS.out]
            go_wp2_with fail
            refine HQ.out.mono ?_
            rintro e w7 ⟨he, hb⟩
            obtain rfl : e = .returned (.bool (clashN (notes (notes (notes (fun _ => 0) S0 st) S0 st) [xLong] 9223372036854775808) a S0)) := he
            rw [HE.out, HFS.out]
            have HC7 := Lib.hid (HC6.out.trans (Chg.of_below hb)); clear hb
            go_wp2
            go_ret
            exact ⟨rfl, HBW.out _ HC7.out⟩
      · go_wp2_with fail
        refine (note_any HT.out HN1.out HSS.out HKM.out (by omega) a hwa (notes_wf hst _ wfZ)).mono ?_
        rintro e w5 ⟨rfl, ⟨D2, ht, hn2⟩, hc⟩
        have HT := Lib.hid ht; have HN2 := Lib.hid hn2; have HSS := Lib.hid (HSS.out.chg hc); have HC := Lib.hid (HC.out.trans hc); clear ht hn2 hc
        obtain ⟨hbl, hMl⟩ := HT.out.lts
        have HSF := Lib.hid (SlF.one hbl hMl 50 xLong)
        have hbe := (Below.refl w5.heap.size w5).alloc (Nat.le_refl _) (.cells #[.string xLong.key, .string xLong.text, .bool xLong.gone] 50)
        have HT5 := Lib.hid (HT.out.below hbe); have HC5 := Lib.hid (HC.out.trans (Chg.of_below hbe))
        clear hbl hMl hbe
        go_wp2_with fail
        refine (note_any HT5.out HN2.out HSF.out (by intro x hx; simp at hx; subst hx; show (24 : Nat) ≤ maxLen; unfold maxLen; omega) (by omega) 9223372036854775808 (by decide) (notes_wf hwa _ (notes_wf hst _ wfZ))).mono ?_
        rintro e w6 ⟨rfl, ⟨D3, ht, hn3⟩, hc⟩
        have HT6 := Lib.hid ht; have HN3 := Lib.hid hn3; have HC6 := Lib.hid (HC5.out.trans hc); clear ht hn3 hc
        have HE := Lib.hid (clash_again HK16.out (st := st) (mn := a) (a := a) (by omega) h0st 9223372036854775808)
        have HQ := Lib.hid (clash_yes HT6.out HN3.out (i := 0) HKM.out (by omega) rfl)
        clear hst hwa
        rcases Nat.eq_zero_or_pos n7 with hz0 | hz0
        · subst hz0
          have HFS := Lib.hid (show clashN (notes (fun _ => 0) S0 st) a S0 = false by rw [HCO.out]; simp)
          rw [HFS.out]
          go_wp2_with fail
          refine HQ.out.mono ?_
          rintro e w7 ⟨he, hb⟩
          obtain rfl : e = .returned (.bool (clashN (notes (notes (notes (fun _ => 0) S0 st) S0 a) [xLong] 9223372036854775808) a S0)) := he
          rw [HE.out, HFS.out]
          have HC7 := Lib.hid (HC6.out.trans (Chg.of_below hb)); clear hb
          go_wp2
          go_ret
          exact ⟨rfl, HBW.out _ HC7.out⟩
        · have hz0I : (0 : Int) < (n7 : Int) := by omega
          by_cases hz1 : a < st
          case neg =>
            have HFS := Lib.hid (show clashN (notes (fun _ => 0) S0 st) a S0 = false by rw [HCO.out, decide_eq_false hz1]; simp)
            have hz2 : st ≤ a := by omega
            have hzd : decide (a < st) = false := decide_eq_false hz1
            rw [HFS.out]
            go_wp2_with fail
            refine HQ.out.mono ?_
            rintro e w7 ⟨he, hb⟩
            obtain rfl : e = .returned (.bool (clashN (notes (notes (notes (fun _ => 0) S0 st) S0 a) [xLong] 9223372036854775808) a S0)) := he
            rw [HE.out, HFS.out]
            have HC7 := Lib.hid (HC6.out.trans (Chg.of_below hb)); clear hb
            go_wp2
            go_ret
            exact ⟨rfl, HBW.out _ HC7.out⟩
          case pos =>
            have HFS := Lib.hid (show clashN (notes (fun _ => 0) S0 st) a S0 = true by rw [HCO.out, decide_eq_true hz1, decide_eq_true hz0I]; rfl)
            rw [HFS.out]
            go_wp2_with fail
            refine HQ.out.mono ?_
            rintro e w7 ⟨he, hb⟩
            obtain rfl : e = .returned (.bool (clashN (notes (notes (notes (fun _ => 0) S0 st) S0 a) [xLong] 9223372036854775808) a S0)) := he
            rw [HE.out, HFS.out]
            have HC7 := Lib.hid (HC6.out.trans (Chg.of_below hb)); clear hb
            go_wp2
            go_ret
            exact ⟨rfl, HBW.out _ HC7.out⟩
end Go.Proofs.Yteaaeeidbjklbaa
