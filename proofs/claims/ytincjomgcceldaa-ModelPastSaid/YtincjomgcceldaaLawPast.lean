/- The walk of the law ModelPast: it answers true, whatever comes in. -/
import Derived.Test.YtincjomgcceldaaStoreL
namespace Go.Proofs.Ytincjomgcceldaa
open Go.RowKit


set_option maxRecDepth 100000 in
set_option maxHeartbeats 4000000 in
theorem lawPast_any {A B : Option Addr} {n c m d : Nat} {xs : List Cm} {ys : List W3} {w : World} (h : SlC w A n c xs) (h' : SlW w B m d ys) (at_ : Int) :
    Calls Try.prog 4 #[.slice A n c, .slice B m d, .int .u64 at_] w fun e w' => e = .returned (.bool true) ∧ Below w.heap.size w w' := by
  have h_m := slC_max h
  have hl := Lib.hid (slC_len h)
  have HS := Lib.hid h; clear h
  have h'_m := sl_max h'
  have hl' := Lib.hid (slW_len h')
  have HS' := Lib.hid h'; clear h'
  have hok := lastC_ok HS.out
  obtain ⟨hok1, hok2⟩ := hok
  go_enter Try.func4, Try.ntmps4
  go_wp2_with fail
  refine (alive_any _).mono ?_
  rintro e w1 ⟨rfl, hb1⟩
  have HB1 := Lib.hid (hb1)
  clear hb1
  go_wp2_with fail
  refine (fewS_any (HS.out.below HB1.out)).mono ?_
  rintro e w2 ⟨rfl, hb2⟩
  have HB2 := Lib.hid (bt HB1.out hb2)
  clear hb2
  cases hfs : isB (FewS xs) with
  | false =>
    go_wp2
    go_ret
    exact ⟨rfl, HB2.out⟩
  | true =>
  have HF := Lib.hid (isB_iff.1 hfs); clear hfs
  have hn30 : n ≤ 30 := by rw [← hl.out]; exact HF.out.2.1
  go_wp2_with fail
  refine (few_any (HS'.out.below HB2.out)).mono ?_
  rintro e w3 ⟨rfl, hb3⟩
  have HB3 := Lib.hid (bt HB2.out hb3)
  clear hb3
  cases hf : fewB ys with
  | false =>
    go_wp2
    go_ret
    exact ⟨rfl, HB3.out⟩
  | true =>
  have hm60 : m ≤ 60 := by have := fewB_len hf; rw [hl'.out] at this; exact this
  clear hf
  go_wp2_with fail
  refine (riseW_any (HS'.out.below HB3.out)).mono ?_
  rintro e w4 ⟨rfl, hb4⟩
  have HB4 := Lib.hid (bt HB3.out hb4)
  clear hb4
  cases hr : riseB W3.key ys with
  | false =>
    go_wp2
    go_ret
    exact ⟨rfl, HB4.out⟩
  | true =>
  have HW := Lib.hid (riseB_iff.1 hr); clear hr
  go_wp2_with fail
  refine (mtheirs_any (HS.out.below HB4.out) HF.out.len (by omega)).mono ?_
  rintro e w5 ⟨A5, c5, rfl, hs5, hb5⟩
  have HB5 := Lib.hid (bt HB4.out hb5)
  have FM := Lib.hid hs5; clear hs5
  clear hb5
  go_wp2_with fail
  refine (theirs_any (HS'.out.below HB5.out) (by omega)).mono ?_
  rintro e w6 ⟨A6, c6, rfl, hs6, hb6⟩
  have HB6 := Lib.hid (bt HB5.out hb6)
  have FM := Lib.hid (FM.out.below hb6)
  have FT := Lib.hid hs6; clear hs6
  clear hb6
  go_wp2_with fail
  refine (add_any FM.out FT.out (by omega) (by omega)).mono ?_
  rintro e w7 ⟨A7, n7, c7, rfl, hs7, hb7⟩
  have HB7 := Lib.hid (bt HB6.out hb7)
  have FM := Lib.hid (FM.out.below hb7)
  have FT := Lib.hid (FT.out.below hb7)
  have FA := Lib.hid hs7; clear hs7
  clear hb7
  have hn7 : n7 ≤ 31 := by rw [← slC_len FA.out]; have := addC_len xs ys; rw [hl.out] at this; omega
  by_cases hend : 60000 ≤ lastC xs
  case pos =>
    rw [addE_no hend]
    go_wp2_with fail
    refine (last_sl FM.out).mono ?_
    rintro e w8 ⟨rfl, hb8⟩
    have HB8 := Lib.hid (bt HB7.out hb8)
    clear hb8
    go_wp2
    go_ret
    exact ⟨rfl, HB8.out⟩
  rw [addE_yes hend]
  have FB := Lib.hid (add_yes (ys := ys) hend ▸ FA.out)
  clear FA
  have hlt : lastC xs < 60000 := by omega
  have HRA := Lib.hid (rise_added (a := ys) HF.out.2.2 HW.out)
  have H60 := Lib.hid (addC_60 (ys := ys) HF.out.len (by rw [hl'.out]; omega))
  have HLA := Lib.hid (lastC_snoc xs ⟨lastC xs + 1, ys⟩)
  rw [add_yes hend] at H60
  go_wp2_with fail
  refine (last_sl FM.out).mono ?_
  rintro e w8 ⟨rfl, hb8⟩
  have HB8 := Lib.hid (bt HB7.out hb8)
  have FM := Lib.hid (FM.out.below hb8)
  have FB := Lib.hid (FB.out.below hb8)
  clear hb8
  have HP2 := Lib.hid (scan_added (ys := ys) HF.out.2.2)
  have HPL := Lib.hid (fun k : Int => by have := scan_len (at_ := k) HF.out.len; rw [hl.out] at this; exact this)
  rcases Int.lt_trichotomy at_ (lastC xs) with hm | hm | hm
  ·
    have HP1 := Lib.hid (show scanC (xs ++ [⟨lastC xs + 1, ys⟩]) at_ = scanC xs at_ from scan_snoc_no (by show ¬ lastC xs + 1 ≤ at_; omega))
    go_wp2_with fail
    refine (scan_any FB.out at_ H60.out (by omega)).mono ?_
    rintro e w9 ⟨A9, n9, c9, rfl, hs9, hb9⟩
    have HB9 := Lib.hid (bt HB8.out hb9)
    have FM := Lib.hid (FM.out.below hb9)
    have FB := Lib.hid (FB.out.below hb9)
    have FS := Lib.hid hs9; clear hs9
    clear hb9
    rw [HP1.out] at FS
    have hn9 : n9 ≤ 1800 := by rw [← slP_len FS.out]; have := HPL.out at_; omega
    go_wp2_with fail
    refine (back_any FS.out (by omega)).mono ?_
    rintro e w10 ⟨A10, c10, rfl, hs10, hb10⟩
    have HB10 := Lib.hid (bt HB9.out hb10)
    have FM := Lib.hid (FM.out.below hb10)
    have FB := Lib.hid (FB.out.below hb10)
    have FS := Lib.hid (FS.out.below hb10)
    have FK := Lib.hid hs10; clear hs10
    clear hb10
    go_wp2_with fail
    refine (scan_any FM.out at_ HF.out.len (by omega)).mono ?_
    rintro e w11 ⟨A11, n11, c11, rfl, hs11, hb11⟩
    have HB11 := Lib.hid (bt HB10.out hb11)
    have FM := Lib.hid (FM.out.below hb11)
    have FB := Lib.hid (FB.out.below hb11)
    have FK := Lib.hid (FK.out.below hb11)
    have FS := Lib.hid hs11; clear hs11
    clear hb11
    have hn11 : n11 ≤ 1800 := by rw [← slP_len FS.out]; have := HPL.out at_; omega
    go_wp2_with fail
    refine (back_any FS.out (by omega)).mono ?_
    rintro e w12 ⟨A12, c12, rfl, hs12, hb12⟩
    have HB12 := Lib.hid (bt HB11.out hb12)
    have FM := Lib.hid (FM.out.below hb12)
    have FB := Lib.hid (FB.out.below hb12)
    have FK := Lib.hid (FK.out.below hb12)
    have FS := Lib.hid (FS.out.below hb12)
    have FL := Lib.hid hs12; clear hs12
    clear hb12
    go_wp2_with fail
    refine (sameP_any FK.out FL.out).mono ?_
    rintro e w13 ⟨rfl, hb13⟩
    have HB13 := Lib.hid (bt HB12.out hb13)
    have FM := Lib.hid (FM.out.below hb13)
    have FB := Lib.hid (FB.out.below hb13)
    have FK := Lib.hid (FK.out.below hb13)
    have FL := Lib.hid (FL.out.below hb13)
    clear hb13
    rw [eqL_t rfl]
    go_wp2_with fail
    refine (scan_any FB.out (lastC xs + 1) H60.out (by omega)).mono ?_
    rintro e w14 ⟨A14, n14, c14, rfl, hs14, hb14⟩
    have HB14 := Lib.hid (bt HB13.out hb14)
    have FM := Lib.hid (FM.out.below hb14)
    have FB := Lib.hid (FB.out.below hb14)
    have FS := Lib.hid hs14; clear hs14
    clear hb14
    rw [HP2.out] at FS
    have hn14 : n14 ≤ 1860 := by rw [← slP_len FS.out]; have := HPL.out (lastC xs); have h2 := ov_len (scanC xs (lastC xs)) ys; rw [hl'.out] at h2; omega
    go_wp2_with fail
    refine (back_any FS.out (by omega)).mono ?_
    rintro e w15 ⟨A15, c15, rfl, hs15, hb15⟩
    have HB15 := Lib.hid (bt HB14.out hb15)
    have FM := Lib.hid (FM.out.below hb15)
    have FB := Lib.hid (FB.out.below hb15)
    have FS := Lib.hid (FS.out.below hb15)
    have FK := Lib.hid hs15; clear hs15
    clear hb15
    go_wp2_with fail
    refine (scan_any FM.out (lastC xs) HF.out.len (by omega)).mono ?_
    rintro e w16 ⟨A16, n16, c16, rfl, hs16, hb16⟩
    have HB16 := Lib.hid (bt HB15.out hb16)
    have FM := Lib.hid (FM.out.below hb16)
    have FB := Lib.hid (FB.out.below hb16)
    have FK := Lib.hid (FK.out.below hb16)
    have FS := Lib.hid hs16; clear hs16
    clear hb16
    have hn16 : n16 ≤ 1800 := by rw [← slP_len FS.out]; have := HPL.out (lastC xs); omega
    go_wp2_with fail
    refine (theirs_any (HS'.out.below HB16.out) (by omega)).mono ?_
    rintro e w17 ⟨A17, c17, rfl, hs17, hb17⟩
    have HB17 := Lib.hid (bt HB16.out hb17)
    have FM := Lib.hid (FM.out.below hb17)
    have FB := Lib.hid (FB.out.below hb17)
    have FK := Lib.hid (FK.out.below hb17)
    have FS := Lib.hid (FS.out.below hb17)
    have FT := Lib.hid hs17; clear hs17
    clear hb17
    go_wp2_with fail
    refine (over_sl FS.out FT.out (by omega) (by omega)).mono ?_
    rintro e w18 ⟨A18, n18, c18, rfl, hs18, hb18⟩
    have HB18 := Lib.hid (bt HB17.out hb18)
    have FM := Lib.hid (FM.out.below hb18)
    have FB := Lib.hid (FB.out.below hb18)
    have FK := Lib.hid (FK.out.below hb18)
    have FS := Lib.hid (FS.out.below hb18)
    have FT := Lib.hid (FT.out.below hb18)
    have FV := Lib.hid hs18; clear hs18
    clear hb18
    have hn18 : n18 ≤ 1860 := by rw [← slP_len FV.out]; have := HPL.out (lastC xs); have h2 := ov_len (scanC xs (lastC xs)) ys; rw [hl'.out] at h2; omega
    go_wp2_with fail
    refine (back_any FV.out (by omega)).mono ?_
    rintro e w19 ⟨A19, c19, rfl, hs19, hb19⟩
    have HB19 := Lib.hid (bt HB18.out hb19)
    have FM := Lib.hid (FM.out.below hb19)
    have FB := Lib.hid (FB.out.below hb19)
    have FK := Lib.hid (FK.out.below hb19)
    have FV := Lib.hid (FV.out.below hb19)
    have FL := Lib.hid hs19; clear hs19
    clear hb19
    go_wp2_with fail
    refine (sameP_any FK.out FL.out).mono ?_
    rintro e w20 ⟨rfl, hb20⟩
    have HB20 := Lib.hid (bt HB19.out hb20)
    have FM := Lib.hid (FM.out.below hb20)
    have FB := Lib.hid (FB.out.below hb20)
    have FK := Lib.hid (FK.out.below hb20)
    have FL := Lib.hid (FL.out.below hb20)
    clear hb20
    rw [eqL_t rfl]
    go_wp2_with fail
    refine (last_sl FB.out).mono ?_
    rintro e w21 ⟨rfl, hb21⟩
    have HB21 := Lib.hid (bt HB20.out hb21)
    have FM := Lib.hid (FM.out.below hb21)
    have FB := Lib.hid (FB.out.below hb21)
    clear hb21
    rw [HLA.out]
    have hbe : ((lastC xs + 1 == lastC xs + 1)) = true := by simp
    go_wp2
    go_ret
    exact ⟨rfl, HB21.out⟩
  ·
    have hm1 : ¬ at_ < lastC xs := by omega
    have hm2 : ¬ lastC xs < at_ := by omega
    have HME := Lib.hid hm; clear hm
    have HP1 := Lib.hid (show scanC (xs ++ [⟨lastC xs + 1, ys⟩]) at_ = scanC xs at_ from scan_snoc_no (by show ¬ lastC xs + 1 ≤ at_; omega))
    go_wp2_with fail
    refine (scan_any FB.out at_ H60.out (by omega)).mono ?_
    rintro e w9 ⟨A9, n9, c9, rfl, hs9, hb9⟩
    have HB9 := Lib.hid (bt HB8.out hb9)
    have FM := Lib.hid (FM.out.below hb9)
    have FB := Lib.hid (FB.out.below hb9)
    have FS := Lib.hid hs9; clear hs9
    clear hb9
    rw [HP1.out] at FS
    have hn9 : n9 ≤ 1800 := by rw [← slP_len FS.out]; have := HPL.out at_; omega
    go_wp2_with fail
    refine (back_any FS.out (by omega)).mono ?_
    rintro e w10 ⟨A10, c10, rfl, hs10, hb10⟩
    have HB10 := Lib.hid (bt HB9.out hb10)
    have FM := Lib.hid (FM.out.below hb10)
    have FB := Lib.hid (FB.out.below hb10)
    have FS := Lib.hid (FS.out.below hb10)
    have FK := Lib.hid hs10; clear hs10
    clear hb10
    go_wp2_with fail
    refine (scan_any FM.out at_ HF.out.len (by omega)).mono ?_
    rintro e w11 ⟨A11, n11, c11, rfl, hs11, hb11⟩
    have HB11 := Lib.hid (bt HB10.out hb11)
    have FM := Lib.hid (FM.out.below hb11)
    have FB := Lib.hid (FB.out.below hb11)
    have FK := Lib.hid (FK.out.below hb11)
    have FS := Lib.hid hs11; clear hs11
    clear hb11
    have hn11 : n11 ≤ 1800 := by rw [← slP_len FS.out]; have := HPL.out at_; omega
    go_wp2_with fail
    refine (back_any FS.out (by omega)).mono ?_
    rintro e w12 ⟨A12, c12, rfl, hs12, hb12⟩
    have HB12 := Lib.hid (bt HB11.out hb12)
    have FM := Lib.hid (FM.out.below hb12)
    have FB := Lib.hid (FB.out.below hb12)
    have FK := Lib.hid (FK.out.below hb12)
    have FS := Lib.hid (FS.out.below hb12)
    have FL := Lib.hid hs12; clear hs12
    clear hb12
    go_wp2_with fail
    refine (sameP_any FK.out FL.out).mono ?_
    rintro e w13 ⟨rfl, hb13⟩
    have HB13 := Lib.hid (bt HB12.out hb13)
    have FM := Lib.hid (FM.out.below hb13)
    have FB := Lib.hid (FB.out.below hb13)
    have FK := Lib.hid (FK.out.below hb13)
    have FL := Lib.hid (FL.out.below hb13)
    clear hb13
    rw [eqL_t rfl]
    go_wp2_with fail
    refine (scan_any FB.out (lastC xs + 1) H60.out (by omega)).mono ?_
    rintro e w14 ⟨A14, n14, c14, rfl, hs14, hb14⟩
    have HB14 := Lib.hid (bt HB13.out hb14)
    have FM := Lib.hid (FM.out.below hb14)
    have FB := Lib.hid (FB.out.below hb14)
    have FS := Lib.hid hs14; clear hs14
    clear hb14
    rw [HP2.out] at FS
    have hn14 : n14 ≤ 1860 := by rw [← slP_len FS.out]; have := HPL.out (lastC xs); have h2 := ov_len (scanC xs (lastC xs)) ys; rw [hl'.out] at h2; omega
    go_wp2_with fail
    refine (back_any FS.out (by omega)).mono ?_
    rintro e w15 ⟨A15, c15, rfl, hs15, hb15⟩
    have HB15 := Lib.hid (bt HB14.out hb15)
    have FM := Lib.hid (FM.out.below hb15)
    have FB := Lib.hid (FB.out.below hb15)
    have FS := Lib.hid (FS.out.below hb15)
    have FK := Lib.hid hs15; clear hs15
    clear hb15
    go_wp2_with fail
    refine (scan_any FM.out (lastC xs) HF.out.len (by omega)).mono ?_
    rintro e w16 ⟨A16, n16, c16, rfl, hs16, hb16⟩
    have HB16 := Lib.hid (bt HB15.out hb16)
    have FM := Lib.hid (FM.out.below hb16)
    have FB := Lib.hid (FB.out.below hb16)
    have FK := Lib.hid (FK.out.below hb16)
    have FS := Lib.hid hs16; clear hs16
    clear hb16
    have hn16 : n16 ≤ 1800 := by rw [← slP_len FS.out]; have := HPL.out (lastC xs); omega
    go_wp2_with fail
    refine (theirs_any (HS'.out.below HB16.out) (by omega)).mono ?_
    rintro e w17 ⟨A17, c17, rfl, hs17, hb17⟩
    have HB17 := Lib.hid (bt HB16.out hb17)
    have FM := Lib.hid (FM.out.below hb17)
    have FB := Lib.hid (FB.out.below hb17)
    have FK := Lib.hid (FK.out.below hb17)
    have FS := Lib.hid (FS.out.below hb17)
    have FT := Lib.hid hs17; clear hs17
    clear hb17
    go_wp2_with fail
    refine (over_sl FS.out FT.out (by omega) (by omega)).mono ?_
    rintro e w18 ⟨A18, n18, c18, rfl, hs18, hb18⟩
    have HB18 := Lib.hid (bt HB17.out hb18)
    have FM := Lib.hid (FM.out.below hb18)
    have FB := Lib.hid (FB.out.below hb18)
    have FK := Lib.hid (FK.out.below hb18)
    have FS := Lib.hid (FS.out.below hb18)
    have FT := Lib.hid (FT.out.below hb18)
    have FV := Lib.hid hs18; clear hs18
    clear hb18
    have hn18 : n18 ≤ 1860 := by rw [← slP_len FV.out]; have := HPL.out (lastC xs); have h2 := ov_len (scanC xs (lastC xs)) ys; rw [hl'.out] at h2; omega
    go_wp2_with fail
    refine (back_any FV.out (by omega)).mono ?_
    rintro e w19 ⟨A19, c19, rfl, hs19, hb19⟩
    have HB19 := Lib.hid (bt HB18.out hb19)
    have FM := Lib.hid (FM.out.below hb19)
    have FB := Lib.hid (FB.out.below hb19)
    have FK := Lib.hid (FK.out.below hb19)
    have FV := Lib.hid (FV.out.below hb19)
    have FL := Lib.hid hs19; clear hs19
    clear hb19
    go_wp2_with fail
    refine (sameP_any FK.out FL.out).mono ?_
    rintro e w20 ⟨rfl, hb20⟩
    have HB20 := Lib.hid (bt HB19.out hb20)
    have FM := Lib.hid (FM.out.below hb20)
    have FB := Lib.hid (FB.out.below hb20)
    have FK := Lib.hid (FK.out.below hb20)
    have FL := Lib.hid (FL.out.below hb20)
    clear hb20
    rw [eqL_t rfl]
    go_wp2_with fail
    refine (last_sl FB.out).mono ?_
    rintro e w21 ⟨rfl, hb21⟩
    have HB21 := Lib.hid (bt HB20.out hb21)
    have FM := Lib.hid (FM.out.below hb21)
    have FB := Lib.hid (FB.out.below hb21)
    clear hb21
    rw [HLA.out]
    have hbe : ((lastC xs + 1 == lastC xs + 1)) = true := by simp
    go_wp2
    go_ret
    exact ⟨rfl, HB21.out⟩
  ·
    have HP1 := Lib.hid (show scanC (xs ++ [⟨lastC xs + 1, ys⟩]) (lastC xs) = scanC xs (lastC xs) from scan_snoc_no (by show ¬ lastC xs + 1 ≤ (lastC xs); omega))
    go_wp2_with fail
    refine (scan_any FB.out (lastC xs) H60.out (by omega)).mono ?_
    rintro e w9 ⟨A9, n9, c9, rfl, hs9, hb9⟩
    have HB9 := Lib.hid (bt HB8.out hb9)
    have FM := Lib.hid (FM.out.below hb9)
    have FB := Lib.hid (FB.out.below hb9)
    have FS := Lib.hid hs9; clear hs9
    clear hb9
    rw [HP1.out] at FS
    have hn9 : n9 ≤ 1800 := by rw [← slP_len FS.out]; have := HPL.out (lastC xs); omega
    go_wp2_with fail
    refine (back_any FS.out (by omega)).mono ?_
    rintro e w10 ⟨A10, c10, rfl, hs10, hb10⟩
    have HB10 := Lib.hid (bt HB9.out hb10)
    have FM := Lib.hid (FM.out.below hb10)
    have FB := Lib.hid (FB.out.below hb10)
    have FS := Lib.hid (FS.out.below hb10)
    have FK := Lib.hid hs10; clear hs10
    clear hb10
    go_wp2_with fail
    refine (scan_any FM.out (lastC xs) HF.out.len (by omega)).mono ?_
    rintro e w11 ⟨A11, n11, c11, rfl, hs11, hb11⟩
    have HB11 := Lib.hid (bt HB10.out hb11)
    have FM := Lib.hid (FM.out.below hb11)
    have FB := Lib.hid (FB.out.below hb11)
    have FK := Lib.hid (FK.out.below hb11)
    have FS := Lib.hid hs11; clear hs11
    clear hb11
    have hn11 : n11 ≤ 1800 := by rw [← slP_len FS.out]; have := HPL.out (lastC xs); omega
    go_wp2_with fail
    refine (back_any FS.out (by omega)).mono ?_
    rintro e w12 ⟨A12, c12, rfl, hs12, hb12⟩
    have HB12 := Lib.hid (bt HB11.out hb12)
    have FM := Lib.hid (FM.out.below hb12)
    have FB := Lib.hid (FB.out.below hb12)
    have FK := Lib.hid (FK.out.below hb12)
    have FS := Lib.hid (FS.out.below hb12)
    have FL := Lib.hid hs12; clear hs12
    clear hb12
    go_wp2_with fail
    refine (sameP_any FK.out FL.out).mono ?_
    rintro e w13 ⟨rfl, hb13⟩
    have HB13 := Lib.hid (bt HB12.out hb13)
    have FM := Lib.hid (FM.out.below hb13)
    have FB := Lib.hid (FB.out.below hb13)
    have FK := Lib.hid (FK.out.below hb13)
    have FL := Lib.hid (FL.out.below hb13)
    clear hb13
    rw [eqL_t rfl]
    go_wp2_with fail
    refine (scan_any FB.out (lastC xs + 1) H60.out (by omega)).mono ?_
    rintro e w14 ⟨A14, n14, c14, rfl, hs14, hb14⟩
    have HB14 := Lib.hid (bt HB13.out hb14)
    have FM := Lib.hid (FM.out.below hb14)
    have FB := Lib.hid (FB.out.below hb14)
    have FS := Lib.hid hs14; clear hs14
    clear hb14
    rw [HP2.out] at FS
    have hn14 : n14 ≤ 1860 := by rw [← slP_len FS.out]; have := HPL.out (lastC xs); have h2 := ov_len (scanC xs (lastC xs)) ys; rw [hl'.out] at h2; omega
    go_wp2_with fail
    refine (back_any FS.out (by omega)).mono ?_
    rintro e w15 ⟨A15, c15, rfl, hs15, hb15⟩
    have HB15 := Lib.hid (bt HB14.out hb15)
    have FM := Lib.hid (FM.out.below hb15)
    have FB := Lib.hid (FB.out.below hb15)
    have FS := Lib.hid (FS.out.below hb15)
    have FK := Lib.hid hs15; clear hs15
    clear hb15
    go_wp2_with fail
    refine (scan_any FM.out (lastC xs) HF.out.len (by omega)).mono ?_
    rintro e w16 ⟨A16, n16, c16, rfl, hs16, hb16⟩
    have HB16 := Lib.hid (bt HB15.out hb16)
    have FM := Lib.hid (FM.out.below hb16)
    have FB := Lib.hid (FB.out.below hb16)
    have FK := Lib.hid (FK.out.below hb16)
    have FS := Lib.hid hs16; clear hs16
    clear hb16
    have hn16 : n16 ≤ 1800 := by rw [← slP_len FS.out]; have := HPL.out (lastC xs); omega
    go_wp2_with fail
    refine (theirs_any (HS'.out.below HB16.out) (by omega)).mono ?_
    rintro e w17 ⟨A17, c17, rfl, hs17, hb17⟩
    have HB17 := Lib.hid (bt HB16.out hb17)
    have FM := Lib.hid (FM.out.below hb17)
    have FB := Lib.hid (FB.out.below hb17)
    have FK := Lib.hid (FK.out.below hb17)
    have FS := Lib.hid (FS.out.below hb17)
    have FT := Lib.hid hs17; clear hs17
    clear hb17
    go_wp2_with fail
    refine (over_sl FS.out FT.out (by omega) (by omega)).mono ?_
    rintro e w18 ⟨A18, n18, c18, rfl, hs18, hb18⟩
    have HB18 := Lib.hid (bt HB17.out hb18)
    have FM := Lib.hid (FM.out.below hb18)
    have FB := Lib.hid (FB.out.below hb18)
    have FK := Lib.hid (FK.out.below hb18)
    have FS := Lib.hid (FS.out.below hb18)
    have FT := Lib.hid (FT.out.below hb18)
    have FV := Lib.hid hs18; clear hs18
    clear hb18
    have hn18 : n18 ≤ 1860 := by rw [← slP_len FV.out]; have := HPL.out (lastC xs); have h2 := ov_len (scanC xs (lastC xs)) ys; rw [hl'.out] at h2; omega
    go_wp2_with fail
    refine (back_any FV.out (by omega)).mono ?_
    rintro e w19 ⟨A19, c19, rfl, hs19, hb19⟩
    have HB19 := Lib.hid (bt HB18.out hb19)
    have FM := Lib.hid (FM.out.below hb19)
    have FB := Lib.hid (FB.out.below hb19)
    have FK := Lib.hid (FK.out.below hb19)
    have FV := Lib.hid (FV.out.below hb19)
    have FL := Lib.hid hs19; clear hs19
    clear hb19
    go_wp2_with fail
    refine (sameP_any FK.out FL.out).mono ?_
    rintro e w20 ⟨rfl, hb20⟩
    have HB20 := Lib.hid (bt HB19.out hb20)
    have FM := Lib.hid (FM.out.below hb20)
    have FB := Lib.hid (FB.out.below hb20)
    have FK := Lib.hid (FK.out.below hb20)
    have FL := Lib.hid (FL.out.below hb20)
    clear hb20
    rw [eqL_t rfl]
    go_wp2_with fail
    refine (last_sl FB.out).mono ?_
    rintro e w21 ⟨rfl, hb21⟩
    have HB21 := Lib.hid (bt HB20.out hb21)
    have FM := Lib.hid (FM.out.below hb21)
    have FB := Lib.hid (FB.out.below hb21)
    clear hb21
    rw [HLA.out]
    have hbe : ((lastC xs + 1 == lastC xs + 1)) = true := by simp
    go_wp2
    go_ret
    exact ⟨rfl, HB21.out⟩
end Go.Proofs.Ytincjomgcceldaa
