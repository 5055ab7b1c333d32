/- The walk of the law ModelCalls: it answers true, whatever comes in. -/
import Derived.Test.YtincjomgcceldaaStoreK
namespace Go.Proofs.Ytincjomgcceldaa
open Go.RowKit


set_option maxRecDepth 100000 in
set_option maxHeartbeats 4000000 in
theorem lawCalls_any {A B : Option Addr} {n c m d : Nat} {xs : List Cm} {ys : List W3} {w : World} (h : SlC w A n c xs) (h' : SlW w B m d ys) (at_ : Int) :
    Calls Try.prog 3 #[.slice A n c, .slice B m d, .int .u64 at_] w fun e w' => e = .returned (.bool true) ∧ Below w.heap.size w w' := by
  have h_m := slC_max h
  have hl := Lib.hid (slC_len h)
  have HS := Lib.hid h; clear h
  have h'_m := sl_max h'
  have hl' := Lib.hid (slW_len h')
  have HS' := Lib.hid h'; clear h'
  go_enter Try.func3, Try.ntmps3
  go_wp2_with fail
  refine (alive_any _).mono ?_
  rintro e w1 ⟨rfl, hb1⟩
  have HB1 := Lib.hid (hb1)
  clear hb1
  go_wp2_with fail
  refine (fewS_any (HS.out.below HB1.out)).mono ?_
  rintro e w2 ⟨rfl, hb2⟩
  have HB2 := Lib.hid (bt HB1.out hb2)
  clear hb2
  cases hfs : isB (FewS xs) with
  | false =>
    go_wp2
    go_ret
    exact ⟨rfl, HB2.out⟩
  | true =>
  have HF := Lib.hid (isB_iff.1 hfs); clear hfs
  have hn30 : n ≤ 30 := by rw [← hl.out]; exact HF.out.2.1
  go_wp2_with fail
  refine (few_any (HS'.out.below HB2.out)).mono ?_
  rintro e w3 ⟨rfl, hb3⟩
  have HB3 := Lib.hid (bt HB2.out hb3)
  clear hb3
  cases hf : fewB ys with
  | false =>
    go_wp2
    go_ret
    exact ⟨rfl, HB3.out⟩
  | true =>
  have hm60 : m ≤ 60 := by have := fewB_len hf; rw [hl'.out] at this; exact this
  clear hf
  go_wp2_with fail
  refine (riseW_any (HS'.out.below HB3.out)).mono ?_
  rintro e w4 ⟨rfl, hb4⟩
  have HB4 := Lib.hid (bt HB3.out hb4)
  clear hb4
  cases hr : riseB W3.key ys with
  | false =>
    go_wp2
    go_ret
    exact ⟨rfl, HB4.out⟩
  | true =>
  have HW := Lib.hid (riseB_iff.1 hr); clear hr
  go_wp2_with fail
  refine (mtheirs_any (HS.out.below HB4.out) HF.out.len (by omega)).mono ?_
  rintro e w5 ⟨A5, c5, rfl, hs5, hb5⟩
  have HB5 := Lib.hid (bt HB4.out hb5)
  have FM := Lib.hid hs5; clear hs5
  clear hb5
  go_wp2_with fail
  refine (theirs_any (HS'.out.below HB5.out) (by omega)).mono ?_
  rintro e w6 ⟨A6, c6, rfl, hs6, hb6⟩
  have HB6 := Lib.hid (bt HB5.out hb6)
  have FM := Lib.hid (FM.out.below hb6)
  have FT := Lib.hid hs6; clear hs6
  clear hb6
  go_wp2_with fail
  refine (add_any FM.out FT.out (by omega) (by omega)).mono ?_
  rintro e w7 ⟨A7, n7, c7, rfl, hs7, hb7⟩
  have HB7 := Lib.hid (bt HB6.out hb7)
  have FM := Lib.hid (FM.out.below hb7)
  have FT := Lib.hid (FT.out.below hb7)
  have FA := Lib.hid hs7; clear hs7
  clear hb7
  have hn7 : n7 ≤ 31 := by rw [← slC_len FA.out]; have := addC_len xs ys; rw [hl.out] at this; omega
  have h60 := addC_60 (ys := ys) HF.out.len (by rw [hl'.out]; omega)
  have H60A := Lib.hid h60; clear h60
  go_wp2_with fail
  refine (radd_any (HS.out.below HB7.out) (HS'.out.below HB7.out) (by omega)).mono ?_
  rintro e w8 ⟨A8, n8, c8, rfl, hs8, hb8⟩
  have HB8 := Lib.hid (bt HB7.out hb8)
  have FM := Lib.hid (FM.out.below hb8)
  have FA := Lib.hid (FA.out.below hb8)
  have FB := Lib.hid hs8; clear hs8
  clear hb8
  go_wp2_with fail
  refine (mours_any FA.out H60A.out (by omega)).mono ?_
  rintro e w9 ⟨A9, c9, rfl, hs9, hb9⟩
  have HB9 := Lib.hid (bt HB8.out hb9)
  have FM := Lib.hid (FM.out.below hb9)
  have FA := Lib.hid (FA.out.below hb9)
  have FB := Lib.hid (FB.out.below hb9)
  have FO := Lib.hid hs9; clear hs9
  clear hb9
  go_wp2_with fail
  refine (sameC_any FO.out FB.out).mono ?_
  rintro e w10 ⟨rfl, hb10⟩
  have HB10 := Lib.hid (bt HB9.out hb10)
  have FM := Lib.hid (FM.out.below hb10)
  have FB := Lib.hid (FB.out.below hb10)
  have FO := Lib.hid (FO.out.below hb10)
  clear hb10
  generalize addE xs = ae
  go_wp2_with fail
  refine (last_sl FM.out).mono ?_
  rintro e w11 ⟨rfl, hb11⟩
  have HB11 := Lib.hid (bt HB10.out hb11)
  have FM := Lib.hid (FM.out.below hb11)
  clear hb11
  go_wp2_with fail
  refine (rlast_sl (HS.out.below HB11.out)).mono ?_
  rintro e w12 ⟨rfl, hb12⟩
  have HB12 := Lib.hid (bt HB11.out hb12)
  have FM := Lib.hid (FM.out.below hb12)
  clear hb12
  generalize lastC xs = la
  go_wp2_with fail
  refine (theirs_any (HS'.out.below HB12.out) (by omega)).mono ?_
  rintro e w13 ⟨A13, c13, rfl, hs13, hb13⟩
  have HB13 := Lib.hid (bt HB12.out hb13)
  have FM := Lib.hid (FM.out.below hb13)
  have FT := Lib.hid hs13; clear hs13
  clear hb13
  go_wp2_with fail
  refine (clash_any FM.out FT.out at_ HW.out (by omega)).mono ?_
  rintro e w14 ⟨rfl, hb14⟩
  have HB14 := Lib.hid (bt HB13.out hb14)
  have FM := Lib.hid (FM.out.below hb14)
  have FT := Lib.hid (FT.out.below hb14)
  clear hb14
  go_wp2_with fail
  refine (rclash_any (HS.out.below HB14.out) (HS'.out.below HB14.out) at_).mono ?_
  rintro e w15 ⟨rfl, hb15⟩
  have HB15 := Lib.hid (bt HB14.out hb15)
  have FM := Lib.hid (FM.out.below hb15)
  clear hb15
  generalize clashB xs ys at_ = cl
  go_wp2_with fail
  refine (scan_any FM.out at_ HF.out.len (by omega)).mono ?_
  rintro e w16 ⟨A16, n16, c16, rfl, hs16, hb16⟩
  have HB16 := Lib.hid (bt HB15.out hb16)
  have FM := Lib.hid (FM.out.below hb16)
  have FS := Lib.hid hs16; clear hs16
  clear hb16
  have hn16 : n16 ≤ 1800 := by rw [← slP_len FS.out]; have := scan_len (at_ := at_) HF.out.len; rw [hl.out] at this; omega
  go_wp2_with fail
  refine (back_any FS.out (by omega)).mono ?_
  rintro e w17 ⟨A17, c17, rfl, hs17, hb17⟩
  have HB17 := Lib.hid (bt HB16.out hb17)
  have FM := Lib.hid (FM.out.below hb17)
  have FS := Lib.hid (FS.out.below hb17)
  have FK := Lib.hid hs17; clear hs17
  clear hb17
  go_wp2_with fail
  refine (rscan_any (HS.out.below HB17.out) at_ HF.out.len (by omega) HF.out.rise).mono ?_
  rintro e w18 ⟨A18, n18, c18, rfl, hs18, hb18⟩
  have HB18 := Lib.hid (bt HB17.out hb18)
  have FM := Lib.hid (FM.out.below hb18)
  have FK := Lib.hid (FK.out.below hb18)
  have FR := Lib.hid hs18; clear hs18
  clear hb18
  go_wp2_with fail
  refine (sameP_any FK.out FR.out).mono ?_
  rintro e w19 ⟨rfl, hb19⟩
  have HB19 := Lib.hid (bt HB18.out hb19)
  have FM := Lib.hid (FM.out.below hb19)
  have FK := Lib.hid (FK.out.below hb19)
  have FR := Lib.hid (FR.out.below hb19)
  clear hb19
  rw [eqL_t rfl]
  go_wp2
  go_loopw [90] (fun i wr => ∃ k : Nat, k ≤ m ∧ i = .int .i64 k ∧ Below w19.heap.size w19 wr) (fun i _ => m - (intOf i).toNat)
  case atStart => exact ⟨0, Nat.zero_le _, rfl, Below.refl _ _⟩
  case round =>
    obtain ⟨k, hk, rfl, hb⟩ := hrel
    have HBB := Lib.hid hb; clear hb
    by_cases hlt : k < m
    · obtain ⟨b, o, x, rfl, hbw, hx, h0, h1, h2⟩ := slW_get (HS'.out.below (bt HB19.out HBB.out)) hlt
      clear hx
      have hbe := (Below.refl wr.heap.size wr).alloc (Nat.le_refl _) (.cells #[.string x.key, .string x.text, .bool x.gone] 52)
      have HK := Lib.hid (Blk.new wr 52 #[.string x.key, .string x.text, .bool x.gone])
      have HC1 := Lib.hid (read_any ((FM.out.below HBB.out).below hbe) x.key at_ HF.out.rise HF.out.len)
      have HBE := Lib.hid hbe; clear hbe
      go_wp2_with fail
      refine HC1.out.mono ?_
      rintro e wa ⟨rfl, hba⟩
      have k0 := (HK.out.later hba).cell (i := 0) (v := .string x.key) rfl
      have HBA := Lib.hid (bt HBB.out (bt HBE.out hba))
      clear hba HC1 h0 h1 h2
      have HC2 := Lib.hid (rread_any (HS.out.below (bt HB19.out HBA.out)) x.key at_)
      go_wp2_with fail
      refine HC2.out.mono ?_
      rintro e wb ⟨rfl, hbb⟩
      have HBC := Lib.hid (bt HBA.out hbb)
      clear hbb HC2 k0
      generalize rdT (hist xs x.key at_) = rt
      generalize rdB (hist xs x.key at_) = rb
      go_wp2
      go_roundw
      case rel => exact ⟨k + 1, by omega, by go_num, HBC.out⟩
      case measure => simp [intOf]; omega
    · obtain rfl : k = m := by omega
      go_wp2
      go_ret
      exact ⟨rfl, bt HB19.out HBB.out⟩
end Go.Proofs.Ytincjomgcceldaa
