/- The walk of the law ModelOthers: it answers true, whatever comes in. -/
import Derived.Test.YtincjomgcceldaaStoreL
namespace Go.Proofs.Ytincjomgcceldaa
open Go.RowKit


set_option maxRecDepth 100000 in
set_option maxHeartbeats 4000000 in
theorem lawOthers_any {A B : Option Addr} {n c m d : Nat} {xs : List Cm} {ys : List W3} {w : World} (h : SlC w A n c xs) (h' : SlW w B m d ys) (key : ByteArray) :
    Calls Try.prog 8 #[.slice A n c, .slice B m d, .string key] w fun e w' => e = .returned (.bool true) ∧ Below w.heap.size w w' := by
  have h_m := slC_max h
  have hl := Lib.hid (slC_len h)
  have HS := Lib.hid h; clear h
  have h'_m := sl_max h'
  have hl' := Lib.hid (slW_len h')
  have HS' := Lib.hid h'; clear h'
  have hok := lastC_ok HS.out
  obtain ⟨hok1, hok2⟩ := hok
  go_enter Try.func8, Try.ntmps8
  go_wp2_with fail
  refine (alive_any _).mono ?_
  rintro e w1 ⟨rfl, hb1⟩
  have HB1 := Lib.hid (hb1)
  clear hb1
  go_wp2_with fail
  refine (fewS_any (HS.out.below HB1.out)).mono ?_
  rintro e w2 ⟨rfl, hb2⟩
  have HB2 := Lib.hid (bt HB1.out hb2)
  clear hb2
  cases hfs : isB (FewS xs) with
  | false =>
    go_wp2
    go_ret
    exact ⟨rfl, HB2.out⟩
  | true =>
  have HF := Lib.hid (isB_iff.1 hfs); clear hfs
  have hn30 : n ≤ 30 := by rw [← hl.out]; exact HF.out.2.1
  go_wp2_with fail
  refine (few_any (HS'.out.below HB2.out)).mono ?_
  rintro e w3 ⟨rfl, hb3⟩
  have HB3 := Lib.hid (bt HB2.out hb3)
  clear hb3
  cases hf : fewB ys with
  | false =>
    go_wp2
    go_ret
    exact ⟨rfl, HB3.out⟩
  | true =>
  have hm60 : m ≤ 60 := by have := fewB_len hf; rw [hl'.out] at this; exact this
  clear hf
  go_wp2_with fail
  refine (riseW_any (HS'.out.below HB3.out)).mono ?_
  rintro e w4 ⟨rfl, hb4⟩
  have HB4 := Lib.hid (bt HB3.out hb4)
  clear hb4
  cases hr : riseB W3.key ys with
  | false =>
    go_wp2
    go_ret
    exact ⟨rfl, HB4.out⟩
  | true =>
  have HW := Lib.hid (riseB_iff.1 hr); clear hr
  by_cases hkl : (key.size : Int) ≤ 100
  case neg =>
    have hkl' : (100 : Int) < key.size := by omega
    go_wp2
    go_ret
    exact ⟨rfl, HB4.out⟩
  go_wp2_with fail
  refine (mtheirs_any (HS.out.below HB4.out) HF.out.len (by omega)).mono ?_
  rintro e w5 ⟨A5, c5, rfl, hs5, hb5⟩
  have HB5 := Lib.hid (bt HB4.out hb5)
  have FM := Lib.hid hs5; clear hs5
  clear hb5
  go_wp2_with fail
  refine (theirs_any (HS'.out.below HB5.out) (by omega)).mono ?_
  rintro e w6 ⟨A6, c6, rfl, hs6, hb6⟩
  have HB6 := Lib.hid (bt HB5.out hb6)
  have FM := Lib.hid (FM.out.below hb6)
  have FT := Lib.hid hs6; clear hs6
  clear hb6
  go_wp2_with fail
  refine (add_any FM.out FT.out (by omega) (by omega)).mono ?_
  rintro e w7 ⟨A7, n7, c7, rfl, hs7, hb7⟩
  have HB7 := Lib.hid (bt HB6.out hb7)
  have FM := Lib.hid (FM.out.below hb7)
  have FT := Lib.hid (FT.out.below hb7)
  have FA := Lib.hid hs7; clear hs7
  clear hb7
  have hn7 : n7 ≤ 31 := by rw [← slC_len FA.out]; have := addC_len xs ys; rw [hl.out] at this; omega
  by_cases hend : 60000 ≤ lastC xs
  case pos =>
    rw [addE_no hend]
    go_wp2
    go_ret
    exact ⟨rfl, HB7.out⟩
  rw [addE_yes hend]
  have FB := Lib.hid (add_yes (ys := ys) hend ▸ FA.out)
  clear FA
  have hlt : lastC xs < 60000 := by omega
  have HRA := Lib.hid (rise_added (a := ys) HF.out.2.2 HW.out)
  have H60 := Lib.hid (addC_60 (ys := ys) HF.out.len (by rw [hl'.out]; omega))
  have HLA := Lib.hid (lastC_snoc xs ⟨lastC xs + 1, ys⟩)
  rw [add_yes hend] at H60
  go_wp2
  go_loopw [51] (fun i wr => ∃ k : Nat, k ≤ m ∧ i = .int .i64 k ∧ Upto ys k (fun x => x.key ≠ key) ∧ Below w7.heap.size w7 wr) (fun i _ => m - (intOf i).toNat)
  case atStart => exact ⟨0, Nat.zero_le _, rfl, .zero, Below.refl _ _⟩
  case round =>
    obtain ⟨k, hk, rfl, hu, hb⟩ := hrel
    have HU := Lib.hid hu; clear hu
    have HBB := Lib.hid hb; clear hb
    by_cases hlt : k < m
    · obtain ⟨b, o, x, rfl, hbw, hx, h0, h1, h2⟩ := slW_get (HS'.out.below (bt HB7.out HBB.out)) hlt
      have HX := Lib.hid hx; clear hx
      have HBE := Lib.hid (bt HBB.out ((Below.refl wr.heap.size wr).alloc (Nat.le_refl _) (.cells #[.string x.key, .string x.text, .bool x.gone] 52)))
      cases he : (x.key.toList == key.toList) with
      | true =>
        go_wp2
        go_ret
        exact ⟨rfl, bt HB7.out HBE.out⟩
      | false =>
        have HNE := Lib.hid (keq_f he)
        go_wp2
        go_roundw
        case rel => exact ⟨k + 1, by omega, by go_num, HU.out.succ HX.out HNE.out, HBE.out⟩
        case measure => simp [intOf]; omega
    · obtain rfl : k = m := by omega
      have HBW := Lib.hid (bt HB7.out HBB.out)
      have HFM := Lib.hid (FM.out.below HBB.out)
      have HFB := Lib.hid (FB.out.below HBB.out)
      have HLK := Lib.hid (show look W3.key key ys = none by
        refine look_none fun x hx => ?_
        obtain ⟨j, hj, e⟩ := List.mem_iff_getElem.1 hx
        exact HU.out j (by rw [← hl'.out]; exact hj) x (by rw [List.getElem?_eq_getElem hj, e]))
      have HH := Lib.hid (show hist (xs ++ [⟨lastC xs + 1, ys⟩]) key (lastC xs + 1) = hist xs key (lastC xs) by rw [hist_added HF.out.2.2, HLK.out])
      go_wp2_with fail
      refine (last_sl HFM.out).mono ?_
      rintro e wa ⟨rfl, hba⟩
      have HFM2 := Lib.hid (HFM.out.below hba); have HFB2 := Lib.hid (HFB.out.below hba); have HBA := Lib.hid (bt HBW.out hba); clear hba
      go_wp2_with fail
      refine (read_any HFM2.out key (lastC xs) HF.out.rise HF.out.len).mono ?_
      rintro e wb ⟨rfl, hbb⟩
      have HFB3 := Lib.hid (HFB2.out.below hbb); have HBC := Lib.hid (bt HBA.out hbb); clear hbb
      go_wp2_with fail
      refine (last_sl HFB3.out).mono ?_
      rintro e wc ⟨rfl, hbc⟩
      rw [HLA.out]
      have HFB4 := Lib.hid (HFB3.out.below hbc); have HBD := Lib.hid (bt HBC.out hbc); clear hbc
      go_wp2_with fail
      refine (read_any HFB4.out key (lastC xs + 1) HRA.out.1 H60.out).mono ?_
      rintro e wd ⟨rfl, hbd⟩
      rw [HH.out]
      have HBE2 := Lib.hid (bt HBD.out hbd); clear hbd
      generalize rdT (hist xs key (lastC xs)) = rt
      generalize rdB (hist xs key (lastC xs)) = rb
      go_wp2
      go_ret
      exact ⟨rfl, HBE2.out⟩
end Go.Proofs.Ytincjomgcceldaa
