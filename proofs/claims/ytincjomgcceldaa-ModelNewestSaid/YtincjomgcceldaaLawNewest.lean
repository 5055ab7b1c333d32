/- The walk of the law ModelNewest: it answers true, whatever comes in. -/
import Derived.Test.YtincjomgcceldaaStoreL
namespace Go.Proofs.Ytincjomgcceldaa
open Go.RowKit


set_option maxRecDepth 100000 in
set_option maxHeartbeats 4000000 in
theorem lawNewest_any {A B : Option Addr} {n c m d : Nat} {xs : List Cm} {ys : List W3} {w : World} (h : SlC w A n c xs) (h' : SlW w B m d ys) :
    Calls Try.prog 7 #[.slice A n c, .slice B m d] w fun e w' => e = .returned (.bool true) ∧ Below w.heap.size w w' := by
  have h_m := slC_max h
  have hl := Lib.hid (slC_len h)
  have HS := Lib.hid h; clear h
  have h'_m := sl_max h'
  have hl' := Lib.hid (slW_len h')
  have HS' := Lib.hid h'; clear h'
  have hok := lastC_ok HS.out
  obtain ⟨hok1, hok2⟩ := hok
  go_enter Try.func7, Try.ntmps7
  go_wp2_with fail
  refine (alive_any _).mono ?_
  rintro e w1 ⟨rfl, hb1⟩
  have HB1 := Lib.hid (hb1)
  clear hb1
  go_wp2_with fail
  refine (fewS_any (HS.out.below HB1.out)).mono ?_
  rintro e w2 ⟨rfl, hb2⟩
  have HB2 := Lib.hid (bt HB1.out hb2)
  clear hb2
  cases hfs : isB (FewS xs) with
  | false =>
    go_wp2
    go_ret
    exact ⟨rfl, HB2.out⟩
  | true =>
  have HF := Lib.hid (isB_iff.1 hfs); clear hfs
  have hn30 : n ≤ 30 := by rw [← hl.out]; exact HF.out.2.1
  go_wp2_with fail
  refine (few_any (HS'.out.below HB2.out)).mono ?_
  rintro e w3 ⟨rfl, hb3⟩
  have HB3 := Lib.hid (bt HB2.out hb3)
  clear hb3
  cases hf : fewB ys with
  | false =>
    go_wp2
    go_ret
    exact ⟨rfl, HB3.out⟩
  | true =>
  have hm60 : m ≤ 60 := by have := fewB_len hf; rw [hl'.out] at this; exact this
  clear hf
  go_wp2_with fail
  refine (riseW_any (HS'.out.below HB3.out)).mono ?_
  rintro e w4 ⟨rfl, hb4⟩
  have HB4 := Lib.hid (bt HB3.out hb4)
  clear hb4
  cases hr : riseB W3.key ys with
  | false =>
    go_wp2
    go_ret
    exact ⟨rfl, HB4.out⟩
  | true =>
  have HW := Lib.hid (riseB_iff.1 hr); clear hr
  go_wp2_with fail
  refine (mtheirs_any (HS.out.below HB4.out) HF.out.len (by omega)).mono ?_
  rintro e w5 ⟨A5, c5, rfl, hs5, hb5⟩
  have HB5 := Lib.hid (bt HB4.out hb5)
  have FM := Lib.hid hs5; clear hs5
  clear hb5
  go_wp2_with fail
  refine (theirs_any (HS'.out.below HB5.out) (by omega)).mono ?_
  rintro e w6 ⟨A6, c6, rfl, hs6, hb6⟩
  have HB6 := Lib.hid (bt HB5.out hb6)
  have FM := Lib.hid (FM.out.below hb6)
  have FT := Lib.hid hs6; clear hs6
  clear hb6
  go_wp2_with fail
  refine (add_any FM.out FT.out (by omega) (by omega)).mono ?_
  rintro e w7 ⟨A7, n7, c7, rfl, hs7, hb7⟩
  have HB7 := Lib.hid (bt HB6.out hb7)
  have FM := Lib.hid (FM.out.below hb7)
  have FT := Lib.hid (FT.out.below hb7)
  have FA := Lib.hid hs7; clear hs7
  clear hb7
  have hn7 : n7 ≤ 31 := by rw [← slC_len FA.out]; have := addC_len xs ys; rw [hl.out] at this; omega
  by_cases hend : 60000 ≤ lastC xs
  case pos =>
    rw [addE_no hend]
    go_wp2
    go_ret
    exact ⟨rfl, HB7.out⟩
  rw [addE_yes hend]
  have FB := Lib.hid (add_yes (ys := ys) hend ▸ FA.out)
  clear FA
  have hlt : lastC xs < 60000 := by omega
  have HRA := Lib.hid (rise_added (a := ys) HF.out.2.2 HW.out)
  have H60 := Lib.hid (addC_60 (ys := ys) HF.out.len (by rw [hl'.out]; omega))
  have HLA := Lib.hid (lastC_snoc xs ⟨lastC xs + 1, ys⟩)
  rw [add_yes hend] at H60
  go_wp2
  go_loopw [40] (fun i wr => ∃ k : Nat, k ≤ m ∧ i = .int .i64 k ∧ Below w7.heap.size w7 wr) (fun i _ => m - (intOf i).toNat)
  case atStart => exact ⟨0, Nat.zero_le _, rfl, Below.refl _ _⟩
  case round =>
    obtain ⟨k, hk, rfl, hb⟩ := hrel
    have HBB := Lib.hid hb; clear hb
    by_cases hlt : k < m
    · obtain ⟨b, o, x, rfl, hbw, hx, h0, h1, h2⟩ := slW_get (HS'.out.below (bt HB7.out HBB.out)) hlt
      have hbe := (Below.refl wr.heap.size wr).alloc (Nat.le_refl _) (.cells #[.string x.key, .string x.text, .bool x.gone] 52)
      have hbk := Blk.new wr 52 #[.string x.key, .string x.text, .bool x.gone]
      have HH := Lib.hid (show hist (xs ++ [⟨lastC xs + 1, ys⟩]) x.key (lastC xs + 1) = some x by rw [hist_added HF.out.2.2, look_mem HW.out (List.mem_of_getElem? hx)])
      clear hx
      have FB1 := Lib.hid ((FB.out.below HBB.out).below hbe)
      have HB1 := Lib.hid (bt HBB.out hbe)
      have hsz : wr.heap.size < (wr.alloc (.cells #[.string x.key, .string x.text, .bool x.gone] 52)).heap.size := by simp
      go_wp2
      obtain ⟨W1, hW1⟩ : ∃ W1, wr.alloc (.cells #[.string x.key, .string x.text, .bool x.gone] 52) = W1 := ⟨_, rfl⟩
      rw [hW1] at hbk FB1 HB1 hsz ⊢
      clear hW1 hbe h0 h1 h2
      have HK := Lib.hid hbk
      have k0 := fun d => Later.cell (HK.out.cell (i := 0) (v := .string x.key) rfl) hsz d
      have HC1 := Lib.hid (fun d : Later W1 => last_sl (FB1.out.below d.le))
      have HC2 := Lib.hid (fun d : Later W1 => read_any (FB1.out.below d.le) x.key (lastC xs + 1) HRA.out.1 H60.out)
      rw [HLA.out] at HC1
      rw [HH.out] at HC2
      clear hbk
      refine wp_region_later (by kernel_rfl) (by kernel_rfl) ?_
      repeat (go_big_quiet_step (first | (go_at_call 20; exact Later.calls (HC1.out _)) | (go_at_call 28; exact Later.calls (HC2.out _))))
      refine wpQuiet_nil ?_
      rintro ⟨w3, hb3⟩
      clear k0 HC1 HC2
      dsimp only
      have HB3 := Lib.hid (bt HB1.out hb3)
      have k1 := (HK.out.later hb3).cell (i := 1) (v := .string x.text) rfl
      have k2 := (HK.out.later hb3).cell (i := 2) (v := .bool x.gone) rfl
      clear hb3
      cases hg : x.gone with
      | true =>
        rw [hg] at k2
        rw [show rdT (some x) = ⟨#[]⟩ by simp [rdT, hg], show rdB (some x) = false by simp [rdB, hg]]
        go_wp2
        go_roundw
        case rel => exact ⟨k + 1, by omega, by go_num, HB3.out⟩
        case measure => simp [intOf]; omega
      | false =>
        rw [hg] at k2
        rw [show rdT (some x) = x.text by simp [rdT, hg], show rdB (some x) = true by simp [rdB, hg]]
        go_wp2
        go_roundw
        case rel => exact ⟨k + 1, by omega, by go_num, HB3.out⟩
        case measure => simp [intOf]; omega
    · obtain rfl : k = m := by omega
      go_wp2
      go_ret
      exact ⟨rfl, bt HB7.out HBB.out⟩
end Go.Proofs.Ytincjomgcceldaa
