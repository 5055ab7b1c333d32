/- The walk of the law TxnFirst: it answers true, whatever comes in. -/
import Derived.Test.YteaaeeidbjklbaaTxI
import Derived.Deep.DeepCutAuto
namespace Go.Proofs.Yteaaeeidbjklbaa
open Go.RowKit Go.Maps

set_option maxRecDepth 100000 in
set_option maxHeartbeats 4000000 in
theorem lawFirst_any {A B : Option Addr} {n c m d : Nat} {xs ys : List W3} {w : World} (h : SlW w A n c xs) (h' : SlW w B m d ys) {a : Int} (hwa : (Lit.int .u64 a).wf = true) :
    Calls Try.prog 9 #[.slice A n c, .slice B m d, .int .u64 a] w fun e w' => e = .returned (.bool true) ∧ Below w.heap.size w w' := by
  have h_m := sl_max h
  have hl := Lib.hid (slW_len h)
  have HS := Lib.hid h; clear h
  have h_m' := sl_max h'
  have hl' := Lib.hid (slW_len h')
  have HS' := Lib.hid h'; clear h'
  have h0a := okWordT hwa
  have h1a := okWordT2 hwa
  go_enter Try.func9, Try.ntmps9
  go_wp2_with fail
  refine (alive_any w).mono ?_
  rintro e wa ⟨rfl, hb1⟩
  have HB0 := Lib.hid hb1; clear hb1
  go_wp2_with fail
  refine (few_any (HS.out.below HB0.out)).mono ?_
  rintro e wa2 ⟨rfl, hb⟩
  have HB2 := Lib.hid (bt HB0.out hb); clear hb
  cases hf : fewB xs with
  | false =>
    go_wp2
    go_ret
    exact ⟨rfl, HB2.out⟩
  | true =>
  have HFW := Lib.hid hf; clear hf
  have hnn : n ≤ 60 := by have := fewB_l60 HFW.out; rw [hl.out] at this; exact this
  go_wp2_with fail
  refine (few_any (HS'.out.below HB2.out)).mono ?_
  rintro e wb ⟨rfl, hb⟩
  have HB := Lib.hid (bt HB2.out hb); clear hb
  cases hf : fewB ys with
  | false =>
    go_wp2
    go_ret
    exact ⟨rfl, HB.out⟩
  | true =>
  have HFW' := Lib.hid hf; clear hf
  have hnm : m ≤ 60 := by have := fewB_l60 HFW'.out; rw [hl'.out] at this; exact this
  by_cases hne : a = 18446744073709551615
  case pos =>
    have hneT : (a == 18446744073709551615) = true := by simp [hne]
    go_wp2
    go_ret
    exact ⟨rfl, HB.out⟩
  have hneF : (a == 18446744073709551615) = false := by simpa using hne
  go_wp2_with fail
  refine (new_any wb).mono ?_
  rintro e w1 ⟨rfl, ht, hb⟩
  have HT := Lib.hid ht; have HB1 := Lib.hid (bt HB.out hb); clear ht hb
  have HSZ := Lib.hid (show wb.heap.size < w1.heap.size from HT.out.own.lt)
  have HBW := Lib.hid (fun (W : World) (hc : Chg (wb.heap.size + 1) wb.heap.size w1 W) => HB1.out.trans (hc.below (Nat.le_trans HB.out.size (Nat.le_succ _)) HB.out.size (Nat.le_trans HB.out.size (Nat.le_of_lt HSZ.out))))
  generalize hg : wb.heap.size + 2 = g at *
  generalize hb' : wb.heap.size + 1 = b at *
  generalize hM : wb.heap.size = M at *
  clear hg hb' hM
  go_wp2_with fail
  refine (begin_free HT.out ff_new a).mono ?_
  rintro e w2 ⟨rfl, ht, hc⟩
  have HT := Lib.hid ht; have HC := Lib.hid hc; clear ht hc
  have HNI := Lib.hid ni_start
  generalize (DataW.map [] : DataW Unit) = D at *
  go_wp2_with fail
  refine (begin_free HT.out ff_second a).mono ?_
  rintro e w2' ⟨rfl, ht, hc⟩
  have HT := Lib.hid ht; have HC := Lib.hid (HC.out.trans hc); clear ht hc
  go_wp2
  go_loopw [61] (fun v wr => ∃ p : Nat, p ≤ n ∧ v = .int .i64 p ∧ Tab wr g b M (upd (upd (fun _ => 0) 0 a) 1 a) (upd (upd (fun _ => false) 0 true) 1 true) (upd (upd (upd (fun _ => ([] : List W3)) 0 []) 1 []) 0 (puts ((upd (upd (fun _ => ([] : List W3)) 0 []) 1 []) 0) (xs.take p))) 0 D ∧ Chg b M w1 wr) (fun v _ => n - (intOf v).toNat)
  case atStart => exact ⟨0, Nat.zero_le _, rfl, by rw [show xs.take 0 = [] from rfl, puts_nil, upd_same']; exact HT.out, HC.out⟩
  case round =>
    rename World => wp
    obtain ⟨p, hp, rfl, ht, hc⟩ := hrel
    clear HT HC
    have HT := Lib.hid ht; have HC := Lib.hid hc; clear ht hc
    by_cases hpn : p < n
    · obtain ⟨b', o, x, hA, hbw, hx, h0, h1, h2⟩ := slW_get (HS.out.below (HBW.out _ HC.out)) hpn
      subst hA
      have HX := Lib.hid hx; clear hx
      have hbe := (Below.refl wp.heap.size wp).alloc (Nat.le_refl _) (.cells #[.string x.key, .string x.text, .bool x.gone] 38)
      have HTE := Lib.hid (HT.out.below hbe); have HCE := Lib.hid (HC.out.trans (Chg.of_below hbe)); clear hbe
      go_wp2_with fail
      refine (write_yes HTE.out (i := 0) (by omega) rfl x).mono ?_
      rintro e wq ⟨rfl, ht, hc⟩
      rw [upd_same (upd (upd (fun _ => ([] : List W3)) 0 []) 1 []) 0 (puts ((upd (upd (fun _ => ([] : List W3)) 0 []) 1 []) 0) (xs.take p)), upd_upd (upd (upd (fun _ => ([] : List W3)) 0 []) 1 []) 0] at ht
      have HT2 := Lib.hid ht; have HC2 := Lib.hid (HCE.out.trans hc); clear ht hc h0 h1 h2
      generalize (putW (upd (upd (upd (fun _ => ([] : List W3)) 0 []) 1 []) 0 (puts ((upd (upd (fun _ => ([] : List W3)) 0 []) 1 []) 0) (xs.take p)) 0) x).2 = er
      go_wp2
      go_roundw
      case rel => exact ⟨p + 1, by omega, by go_num, by rw [puts_succ HX.out]; exact HT2.out, HC2.out⟩
      case measure => simp [intOf]; omega
    · obtain rfl : n = p := by omega
      have HT0 := HT
      rw [List.take_of_length_le (l := xs) (by rw [hl.out]; exact Nat.le_refl _)] at HT0
      clear HT
      have HT := HT0
      clear HT0
      have HKSA := Lib.hid (show ∀ x ∈ puts ((upd (upd (fun _ => ([] : List W3)) 0 []) 1 []) 0) xs, x.key.size ≤ maxLen from fun x hx => Nat.le_trans (puts16 xs x hx) (by unfold maxLen; omega))
      have HLSA := Lib.hid (show Rise W3.key (puts ((upd (upd (fun _ => ([] : List W3)) 0 []) 1 []) 0) xs) ∧ (puts ((upd (upd (fun _ => ([] : List W3)) 0 []) 1 []) 0) xs).length ≤ 16 from puts_len xs [] rise_nil (by simp))
      generalize puts ((upd (upd (fun _ => ([] : List W3)) 0 []) 1 []) 0) xs = SA at HT HKSA HLSA
      go_wp2
      go_loopw [72] (fun v wr => ∃ p : Nat, p ≤ m ∧ v = .int .i64 p ∧ Tab wr g b M (upd (upd (fun _ => 0) 0 a) 1 a) (upd (upd (fun _ => false) 0 true) 1 true) (upd (upd (upd (upd (fun _ => ([] : List W3)) 0 []) 1 []) 0 SA) 1 (puts ((upd (upd (upd (fun _ => ([] : List W3)) 0 []) 1 []) 0 SA) 1) (ys.take p))) 0 D ∧ Chg b M w1 wr) (fun v _ => m - (intOf v).toNat)
      case atStart => exact ⟨0, Nat.zero_le _, rfl, by rw [show ys.take 0 = [] from rfl, puts_nil, upd_same']; exact HT.out, HC.out⟩
      case round =>
        rename World => wu
        obtain ⟨p, hp, rfl, ht, hc⟩ := hrel
        clear HT HC
        have HT := Lib.hid ht; have HC := Lib.hid hc; clear ht hc
        by_cases hpn : p < m
        · obtain ⟨b', o, x, hA, hbw, hx, h0, h1, h2⟩ := slW_get (HS'.out.below (HBW.out _ HC.out)) hpn
          subst hA
          have HX := Lib.hid hx; clear hx
          have hbe := (Below.refl wu.heap.size wu).alloc (Nat.le_refl _) (.cells #[.string x.key, .string x.text, .bool x.gone] 38)
          have HTE := Lib.hid (HT.out.below hbe); have HCE := Lib.hid (HC.out.trans (Chg.of_below hbe)); clear hbe
          go_wp2_with fail
          refine (write_yes HTE.out (i := 1) (by omega) rfl x).mono ?_
          rintro e wq ⟨rfl, ht, hc⟩
          rw [upd_same (upd (upd (upd (fun _ => ([] : List W3)) 0 []) 1 []) 0 SA) 1 (puts ((upd (upd (upd (fun _ => ([] : List W3)) 0 []) 1 []) 0 SA) 1) (ys.take p)), upd_upd (upd (upd (upd (fun _ => ([] : List W3)) 0 []) 1 []) 0 SA) 1] at ht
          have HT2 := Lib.hid ht; have HC2 := Lib.hid (HCE.out.trans hc); clear ht hc h0 h1 h2
          generalize (putW (upd (upd (upd (upd (fun _ => ([] : List W3)) 0 []) 1 []) 0 SA) 1 (puts ((upd (upd (upd (fun _ => ([] : List W3)) 0 []) 1 []) 0 SA) 1) (ys.take p)) 1) x).2 = er
          go_wp2
          go_roundw
          case rel => exact ⟨p + 1, by omega, by go_num, by rw [puts_succ HX.out]; exact HT2.out, HC2.out⟩
          case measure => simp [intOf]; omega
        · obtain rfl : m = p := by omega
          have HT0 := HT
          rw [List.take_of_length_le (l := ys) (by rw [hl'.out]; exact Nat.le_refl _)] at HT0
          clear HT
          have HT := HT0
          clear HT0
          have HKSB := Lib.hid (show ∀ x ∈ puts ((upd (upd (upd (fun _ => ([] : List W3)) 0 []) 1 []) 0 SA) 1) ys, x.key.size ≤ maxLen from fun x hx => Nat.le_trans (puts16 ys x hx) (by unfold maxLen; omega))
          have HLSB := Lib.hid (show Rise W3.key (puts ((upd (upd (upd (fun _ => ([] : List W3)) 0 []) 1 []) 0 SA) 1) ys) ∧ (puts ((upd (upd (upd (fun _ => ([] : List W3)) 0 []) 1 []) 0 SA) 1) ys).length ≤ 16 from puts_len ys [] rise_nil (by simp))
          generalize puts ((upd (upd (upd (fun _ => ([] : List W3)) 0 []) 1 []) 0 SA) 1) ys = SB at HT HKSB HLSB
          go_wp2_with fail
          refine (clash_yes HT.out HNI.out (i := 0) HKSA.out (by omega) rfl).mono ?_
          rintro e w3 ⟨he, hb⟩
          obtain rfl : e = .returned (.bool (clashN (fun _ => 0) a SA)) := he
          rw [clash_zero h0a]
          have HT := Lib.hid (HT.out.below hb); have HC := Lib.hid (HC.out.trans (Chg.of_below hb)); clear hb
          go_wp2_with fail
          refine (clash_yes HT.out HNI.out (i := 1) HKSB.out (by omega) rfl).mono ?_
          rintro e w4 ⟨he, hb⟩
          obtain rfl : e = .returned (.bool (clashN (fun _ => 0) a SB)) := he
          rw [clash_zero h0a]
          have HT := Lib.hid (HT.out.below hb); have HC := Lib.hid (HC.out.trans (Chg.of_below hb)); clear hb
          go_wp2_with fail
          refine (tset_open HT.out (i := 0) (by omega) rfl).mono ?_
          rintro e w5 ⟨⟨A7, n7, c7, rfl, hs7⟩, hb⟩
          have HSS : RowKit.Hid (SlF w5 b M A7 n7 c7 SA) := Lib.hid hs7
          have hn7 : n7 ≤ 16 := by rw [← slW_len HSS.out.1]; exact HLSA.out.2
          have HT := Lib.hid (HT.out.below hb); have HC := Lib.hid (HC.out.trans (Chg.of_below hb)); clear hb hs7
          go_wp2_with fail
          refine (tset_open HT.out (i := 1) (by omega) rfl).mono ?_
          rintro e w6 ⟨⟨A8, n8, c8, rfl, hs8⟩, hb⟩
          have HSU : RowKit.Hid (SlF w6 b M A8 n8 c8 SB) := Lib.hid hs8
          have hn8 : n8 ≤ 16 := by rw [← slW_len HSU.out.1]; exact HLSB.out.2
          have HT := Lib.hid (HT.out.below hb); have HSS := Lib.hid (HSS.out.chg (Chg.of_below hb)); have HC := Lib.hid (HC.out.trans (Chg.of_below hb)); clear hb hs8
          have ha1 : a + 1 ≤ 18446744073709551615 := by omega
          go_wp2_with fail
          refine (note_any HT.out HNI.out HSS.out HKSA.out (by omega) (a + 1) (wf_word (by omega) ha1) wfZ).mono ?_
          rintro e w7 ⟨rfl, ⟨D1, ht, hn1⟩, hc⟩
          have HT := Lib.hid ht; have HN1 := Lib.hid hn1; have HSS := Lib.hid (HSS.out.chg hc); have HSU := Lib.hid (HSU.out.chg hc); have HC := Lib.hid (HC.out.trans hc); clear ht hn1 hc
          go_wp2_with fail
          refine (end_yes HT.out (i := 0) (by omega) rfl).mono ?_
          rintro e w8 ⟨rfl, ht, hc⟩
          have HT := Lib.hid ht; have HSS := Lib.hid (HSS.out.chg hc); have HSU := Lib.hid (HSU.out.chg hc); have HC := Lib.hid (HC.out.trans hc); clear ht hc
          go_wp2_with fail
          refine (begin_free HT.out (i := 0) ⟨by omega, rfl, fun j h => absurd h (by omega)⟩ (a + 1)).mono ?_
          rintro e w8' ⟨rfl, ht, hc⟩
          have HT := Lib.hid ht; have HSS0 := Lib.hid (HSS.out.chg hc); have HSU0 := Lib.hid (HSU.out.chg hc); have HC := Lib.hid (HC.out.trans hc); clear ht hc HSS HSU
          go_wp2
          go_loopw [126] (fun v wr => ∃ p : Nat, p ≤ m ∧ v = .int .i64 p ∧ Tab wr g b M (upd (upd (upd (upd (fun _ => 0) 0 a) 1 a) 0 0) 0 (a + 1)) (upd (upd (upd (upd (fun _ => false) 0 true) 1 true) 0 false) 0 true) (upd (upd (upd (upd (upd (upd (upd (fun _ => ([] : List W3)) 0 []) 1 []) 0 SA) 1 SB) 0 []) 0 []) 0 (puts ((upd (upd (upd (upd (upd (upd (fun _ => ([] : List W3)) 0 []) 1 []) 0 SA) 1 SB) 0 []) 0 []) 0) (ys.take p))) (0 + n7) D1 ∧ Chg b M w1 wr ∧ SlF wr b M A7 n7 c7 SA ∧ SlF wr b M A8 n8 c8 SB) (fun v _ => m - (intOf v).toNat)
          case atStart => exact ⟨0, Nat.zero_le _, rfl, by rw [show ys.take 0 = [] from rfl, puts_nil, upd_same']; exact HT.out, HC.out, HSS0.out, HSU0.out⟩
          case round =>
            rename World => wv
            obtain ⟨p, hp, rfl, ht, hc, hx1, hx2⟩ := hrel
            clear HT HC
            have HT := Lib.hid ht; have HC := Lib.hid hc; clear ht hc
            clear HSS0 HSU0
            have HSS0 := Lib.hid hx1; have HSU0 := Lib.hid hx2; clear hx1 hx2
            by_cases hpn : p < m
            · obtain ⟨b', o, x, hA, hbw, hx, h0, h1, h2⟩ := slW_get (HS'.out.below (HBW.out _ HC.out)) hpn
              subst hA
              have HX := Lib.hid hx; clear hx
              have hbe := (Below.refl wv.heap.size wv).alloc (Nat.le_refl _) (.cells #[.string x.key, .string x.text, .bool x.gone] 38)
              have HTE := Lib.hid (HT.out.below hbe); have HCE := Lib.hid (HC.out.trans (Chg.of_below hbe)); have HX1 := Lib.hid (HSS0.out.chg (Chg.of_below hbe)); have HX2 := Lib.hid (HSU0.out.chg (Chg.of_below hbe)); clear hbe
              go_wp2_with fail
              refine (write_yes HTE.out (i := 0) (by omega) rfl x).mono ?_
              rintro e wq ⟨rfl, ht, hc⟩
              rw [upd_same (upd (upd (upd (upd (upd (upd (fun _ => ([] : List W3)) 0 []) 1 []) 0 SA) 1 SB) 0 []) 0 []) 0 (puts ((upd (upd (upd (upd (upd (upd (fun _ => ([] : List W3)) 0 []) 1 []) 0 SA) 1 SB) 0 []) 0 []) 0) (ys.take p)), upd_upd (upd (upd (upd (upd (upd (upd (fun _ => ([] : List W3)) 0 []) 1 []) 0 SA) 1 SB) 0 []) 0 []) 0] at ht
              have HT2 := Lib.hid ht; have HC2 := Lib.hid (HCE.out.trans hc); have HX3 := Lib.hid (HX1.out.chg hc); have HX4 := Lib.hid (HX2.out.chg hc); clear ht hc h0 h1 h2
              generalize (putW (upd (upd (upd (upd (upd (upd (upd (fun _ => ([] : List W3)) 0 []) 1 []) 0 SA) 1 SB) 0 []) 0 []) 0 (puts ((upd (upd (upd (upd (upd (upd (fun _ => ([] : List W3)) 0 []) 1 []) 0 SA) 1 SB) 0 []) 0 []) 0) (ys.take p)) 0) x).2 = er
              go_wp2
              go_roundw
              case rel => exact ⟨p + 1, by omega, by go_num, by rw [puts_succ HX.out]; exact HT2.out, HC2.out, HX3.out, HX4.out⟩
              case measure => simp [intOf]; omega
            · obtain rfl : m = p := by omega
              have HT0 := HT
              rw [List.take_of_length_le (l := ys) (by rw [hl'.out]; exact Nat.le_refl _)] at HT0
              clear HT
              have HT := HT0
              clear HT0
              have HKSC := Lib.hid (show ∀ x ∈ puts ((upd (upd (upd (upd (upd (upd (fun _ => ([] : List W3)) 0 []) 1 []) 0 SA) 1 SB) 0 []) 0 []) 0) ys, x.key.size ≤ maxLen from fun x hx => Nat.le_trans (puts16 ys x hx) (by unfold maxLen; omega))
              have HLSC := Lib.hid (show Rise W3.key (puts ((upd (upd (upd (upd (upd (upd (fun _ => ([] : List W3)) 0 []) 1 []) 0 SA) 1 SB) 0 []) 0 []) 0) ys) ∧ (puts ((upd (upd (upd (upd (upd (upd (fun _ => ([] : List W3)) 0 []) 1 []) 0 SA) 1 SB) 0 []) 0 []) 0) ys).length ≤ 16 from puts_len ys [] rise_nil (by simp))
              generalize puts ((upd (upd (upd (upd (upd (upd (fun _ => ([] : List W3)) 0 []) 1 []) 0 SA) 1 SB) 0 []) 0 []) 0) ys = SC at HT HKSC HLSC
              go_wp2_with fail
              refine (clash_yes HT.out HN1.out (i := 1) HKSB.out (by omega) rfl).mono ?_
              rintro e w9 ⟨he, hb⟩
              obtain rfl : e = .returned (.bool (clashN (notes (fun _ => 0) SA (a + 1)) a SB)) := he
              rw [clash_meet h0a]
              have HT := Lib.hid (HT.out.below hb); have HC := Lib.hid (HC.out.trans (Chg.of_below hb)); have HSS := Lib.hid (HSS0.out.chg (Chg.of_below hb)); have HSU := Lib.hid (HSU0.out.chg (Chg.of_below hb)); clear hb
              go_wp2_with fail
              refine (meet_any HSS.out.1 HSU.out.1 HLSB.out.1 (by omega)).mono ?_
              rintro e w10 ⟨rfl, hb⟩
              have HT := Lib.hid (HT.out.below hb); have HC := Lib.hid (HC.out.trans (Chg.of_below hb)); clear hb
              generalize meetB SA SB = mb
              have hbb : (mb == mb) = true := by simp
              go_wp2_with fail
              refine (clash_yes HT.out HN1.out (i := 0) HKSC.out (by omega) rfl).mono ?_
              rintro e w11 ⟨he, hb⟩
              obtain rfl : e = .returned (.bool (clashN (notes (fun _ => 0) SA (a + 1)) (a + 1) SC)) := he
              rw [clash_after h0a]
              have HC := Lib.hid (HC.out.trans (Chg.of_below hb)); clear hb
              go_wp2
              go_ret
              exact ⟨rfl, HBW.out _ HC.out⟩
end Go.Proofs.Yteaaeeidbjklbaa
