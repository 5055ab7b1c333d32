/- The walk of the law ModelFirst: it answers true, whatever comes in. -/
import Derived.Test.YtincjomgcceldaaStoreL
namespace Go.Proofs.Ytincjomgcceldaa
open Go.RowKit


set_option maxRecDepth 100000 in
set_option maxHeartbeats 4000000 in
theorem lawFirst_any {A B C : Option Addr} {n c m d q r : Nat} {xs : List Cm} {ys zs : List W3} {w : World} (h : SlC w A n c xs) (h' : SlW w B m d ys) (h2 : SlW w C q r zs) :
    Calls Try.prog 6 #[.slice A n c, .slice B m d, .slice C q r] w fun e w' => e = .returned (.bool true) ∧ Below w.heap.size w w' := by
  have h_m := slC_max h
  have hl := Lib.hid (slC_len h)
  have HS := Lib.hid h; clear h
  have h'_m := sl_max h'
  have hl' := Lib.hid (slW_len h')
  have HS' := Lib.hid h'; clear h'
  have h2_m := sl_max h2
  have hlz := Lib.hid (slW_len h2)
  have HZ := Lib.hid h2; clear h2
  have hok := lastC_ok HS.out
  obtain ⟨hok1, hok2⟩ := hok
  go_enter Try.func6, Try.ntmps6
  go_wp2_with fail
  refine (alive_any _).mono ?_
  rintro e w1 ⟨rfl, hb1⟩
  have HB1 := Lib.hid (hb1)
  clear hb1
  go_wp2_with fail
  refine (fewS_any (HS.out.below HB1.out)).mono ?_
  rintro e w2 ⟨rfl, hb2⟩
  have HB2 := Lib.hid (bt HB1.out hb2)
  clear hb2
  cases hfs : isB (FewS xs) with
  | false =>
    go_wp2
    go_ret
    exact ⟨rfl, HB2.out⟩
  | true =>
  have HF := Lib.hid (isB_iff.1 hfs); clear hfs
  have hn30 : n ≤ 30 := by rw [← hl.out]; exact HF.out.2.1
  go_wp2_with fail
  refine (few_any (HS'.out.below HB2.out)).mono ?_
  rintro e w3 ⟨rfl, hb3⟩
  have HB3 := Lib.hid (bt HB2.out hb3)
  clear hb3
  cases hf : fewB ys with
  | false =>
    go_wp2
    go_ret
    exact ⟨rfl, HB3.out⟩
  | true =>
  have hm60 : m ≤ 60 := by have := fewB_len hf; rw [hl'.out] at this; exact this
  clear hf
  go_wp2_with fail
  refine (few_any (HZ.out.below HB3.out)).mono ?_
  rintro e w4 ⟨rfl, hb4⟩
  have HB4 := Lib.hid (bt HB3.out hb4)
  clear hb4
  cases hf : fewB zs with
  | false =>
    go_wp2
    go_ret
    exact ⟨rfl, HB4.out⟩
  | true =>
  have hq60 : q ≤ 60 := by have := fewB_len hf; rw [hlz.out] at this; exact this
  clear hf
  go_wp2_with fail
  refine (riseW_any (HS'.out.below HB4.out)).mono ?_
  rintro e w5 ⟨rfl, hb5⟩
  have HB5 := Lib.hid (bt HB4.out hb5)
  clear hb5
  cases hr : riseB W3.key ys with
  | false =>
    go_wp2
    go_ret
    exact ⟨rfl, HB5.out⟩
  | true =>
  have HW := Lib.hid (riseB_iff.1 hr); clear hr
  go_wp2_with fail
  refine (riseW_any (HZ.out.below HB5.out)).mono ?_
  rintro e w6 ⟨rfl, hb6⟩
  have HB6 := Lib.hid (bt HB5.out hb6)
  clear hb6
  cases hr : riseB W3.key zs with
  | false =>
    go_wp2
    go_ret
    exact ⟨rfl, HB6.out⟩
  | true =>
  have HV := Lib.hid (riseB_iff.1 hr); clear hr
  go_wp2_with fail
  refine (mtheirs_any (HS.out.below HB6.out) HF.out.len (by omega)).mono ?_
  rintro e w7 ⟨A5, c5, rfl, hs7, hb7⟩
  have HB7 := Lib.hid (bt HB6.out hb7)
  have FM := Lib.hid hs7; clear hs7
  clear hb7
  go_wp2_with fail
  refine (last_sl FM.out).mono ?_
  rintro e w8 ⟨rfl, hb8⟩
  have HB8 := Lib.hid (bt HB7.out hb8)
  have FM := Lib.hid (FM.out.below hb8)
  clear hb8
  go_wp2_with fail
  refine (theirs_any (HS'.out.below HB8.out) (by omega)).mono ?_
  rintro e w9 ⟨A6, c6, rfl, hs9, hb9⟩
  have HB9 := Lib.hid (bt HB8.out hb9)
  have FM := Lib.hid (FM.out.below hb9)
  have FT := Lib.hid hs9; clear hs9
  clear hb9
  go_wp2_with fail
  refine (clash_any FM.out FT.out _ HW.out (by omega)).mono ?_
  rintro e w10 ⟨rfl, hb10⟩
  have HB10 := Lib.hid (bt HB9.out hb10)
  have FM := Lib.hid (FM.out.below hb10)
  have FT := Lib.hid (FT.out.below hb10)
  clear hb10
  rw [clash_last (lastC_ge HF.out.2.2)]
  go_wp2_with fail
  refine (theirs_any (HZ.out.below HB10.out) (by omega)).mono ?_
  rintro e w11 ⟨A8, c8, rfl, hs11, hb11⟩
  have HB11 := Lib.hid (bt HB10.out hb11)
  have FM := Lib.hid (FM.out.below hb11)
  have FT := Lib.hid hs11; clear hs11
  clear hb11
  go_wp2_with fail
  refine (clash_any FM.out FT.out _ HV.out (by omega)).mono ?_
  rintro e w12 ⟨rfl, hb12⟩
  have HB12 := Lib.hid (bt HB11.out hb12)
  have FM := Lib.hid (FM.out.below hb12)
  have FT := Lib.hid (FT.out.below hb12)
  clear hb12
  rw [clash_last (lastC_ge HF.out.2.2)]
  go_wp2_with fail
  refine (theirs_any (HS'.out.below HB12.out) (by omega)).mono ?_
  rintro e w13 ⟨A10, c10, rfl, hs13, hb13⟩
  have HB13 := Lib.hid (bt HB12.out hb13)
  have FM := Lib.hid (FM.out.below hb13)
  have FT := Lib.hid hs13; clear hs13
  clear hb13
  go_wp2_with fail
  refine (add_any FM.out FT.out (by omega) (by omega)).mono ?_
  rintro e w14 ⟨A11, n11, c11, rfl, hs14, hb14⟩
  have HB14 := Lib.hid (bt HB13.out hb14)
  have FM := Lib.hid (FM.out.below hb14)
  have FT := Lib.hid (FT.out.below hb14)
  have FA := Lib.hid hs14; clear hs14
  clear hb14
  have hn11 : n11 ≤ 31 := by rw [← slC_len FA.out]; have := addC_len xs ys; rw [hl.out] at this; omega
  by_cases hend : 60000 ≤ lastC xs
  case pos =>
    rw [addE_no hend]
    go_wp2
    go_ret
    exact ⟨rfl, HB14.out⟩
  rw [addE_yes hend]
  have FB := Lib.hid (add_yes (ys := ys) hend ▸ FA.out)
  clear FA
  have HE1 := Lib.hid (clash_added (a := ys) (b := zs) HF.out.2.2)
  have HE2 := Lib.hid (clash_added_none (a := ys) (b := zs) HF.out.2.2 HW.out)
  have hlt : lastC xs < 60000 := by omega
  go_wp2_with fail
  refine (theirs_any (HZ.out.below HB14.out) (by omega)).mono ?_
  rintro e w15 ⟨A12, c12, rfl, hs15, hb15⟩
  have HB15 := Lib.hid (bt HB14.out hb15)
  have FB := Lib.hid (FB.out.below hb15)
  have FT := Lib.hid hs15; clear hs15
  clear hb15
  go_wp2_with fail
  refine (clash_any FB.out FT.out _ HV.out (by omega)).mono ?_
  rintro e w16 ⟨rfl, hb16⟩
  have HB16 := Lib.hid (bt HB15.out hb16)
  have FB := Lib.hid (FB.out.below hb16)
  have FT := Lib.hid (FT.out.below hb16)
  clear hb16
  rw [HE1.out]
  go_wp2_with fail
  refine (theirs_any (HS'.out.below HB16.out) (by omega)).mono ?_
  rintro e w17 ⟨A14, c14, rfl, hs17, hb17⟩
  have HB17 := Lib.hid (bt HB16.out hb17)
  have FB := Lib.hid (FB.out.below hb17)
  have FT := Lib.hid hs17; clear hs17
  clear hb17
  go_wp2_with fail
  refine (theirs_any (HZ.out.below HB17.out) (by omega)).mono ?_
  rintro e w18 ⟨A15, c15, rfl, hs18, hb18⟩
  have HB18 := Lib.hid (bt HB17.out hb18)
  have FB := Lib.hid (FB.out.below hb18)
  have FT := Lib.hid (FT.out.below hb18)
  have FU := Lib.hid hs18; clear hs18
  clear hb18
  go_wp2_with fail
  refine (meet_any FT.out FU.out HV.out (by omega)).mono ?_
  rintro e w19 ⟨rfl, hb19⟩
  have HB19 := Lib.hid (bt HB18.out hb19)
  have FB := Lib.hid (FB.out.below hb19)
  have FT := Lib.hid (FT.out.below hb19)
  have FU := Lib.hid (FU.out.below hb19)
  clear hb19
  generalize meetB ys zs = mt
  go_wp2_with fail
  refine (theirs_any (HZ.out.below HB19.out) (by omega)).mono ?_
  rintro e w20 ⟨A17, c17, rfl, hs20, hb20⟩
  have HB20 := Lib.hid (bt HB19.out hb20)
  have FB := Lib.hid (FB.out.below hb20)
  have FT := Lib.hid hs20; clear hs20
  clear hb20
  go_wp2_with fail
  refine (clash_any FB.out FT.out _ HV.out (by omega)).mono ?_
  rintro e w21 ⟨rfl, hb21⟩
  have HB21 := Lib.hid (bt HB20.out hb21)
  have FB := Lib.hid (FB.out.below hb21)
  have FT := Lib.hid (FT.out.below hb21)
  clear hb21
  rw [HE2.out]
  go_wp2
  go_ret
  exact ⟨rfl, HB21.out⟩
end Go.Proofs.Ytincjomgcceldaa
