/- The walk of the law TxnOpens: it answers true, whatever comes in. -/
import Derived.Test.YteaaeeidbjklbaaTxM
import Derived.Deep.DeepCutAuto
namespace Go.Proofs.Yteaaeeidbjklbaa
open Go.RowKit Go.Maps

set_option maxRecDepth 100000 in
set_option maxHeartbeats 4000000 in
theorem lawOpens_any {A : Option Addr} {n c : Nat} {xs : List Int} {w : World} (h : SlI w .u8 A n c xs ∧ ∀ x ∈ xs, (Lit.int .u8 x).wf = true) :
    Calls Try.prog 6 #[.slice A n c] w fun e w' => e = .returned (.bool true) ∧ Below w.heap.size w w' := by
  obtain ⟨h, hwf⟩ := h
  have hmm := @run_makeMap Try.prog
  have h_m := sl_max h
  have hl := Lib.hid (slI_len h)
  have HS := Lib.hid h; clear h
  have HWF := Lib.hid hwf; clear hwf
  go_enter Try.func6, Try.ntmps6
  go_wp2_with fail
  refine (alive_any w).mono ?_
  rintro e wb ⟨rfl, hb1⟩
  have HB := Lib.hid hb1; clear hb1
  by_cases hn : n ≤ 200
  case neg =>
    have hn2 : (200 : Int) < n := by omega
    go_wp2
    go_ret
    exact ⟨rfl, HB.out⟩
  go_wp2_with fail
  refine (new_any wb).mono ?_
  rintro e w1 ⟨rfl, ht, hb⟩
  have HT := Lib.hid ht; have HB1 := Lib.hid (bt HB.out hb); clear ht hb
  have HGB := Lib.hid (show w.heap.size ≤ wb.heap.size + 1 from Nat.le_trans HB.out.size (Nat.le_succ _))
  have HGM := Lib.hid (show w.heap.size ≤ wb.heap.size from HB.out.size)
  generalize hg : wb.heap.size + 2 = g at *
  generalize hb' : wb.heap.size + 1 = b at *
  generalize hM : wb.heap.size = M at *
  clear hg hb' hM
  generalize (DataW.map [] : DataW Unit) = D at *
  have HQ := Lib.hid (show w.heap.size ≤ w1.heap.size ∧ g ≠ w1.heap.size ∧ b ≠ w1.heap.size ∧ M ≠ w1.heap.size from by have h1 := HB1.out.size; have h2 := HT.out.gl; have h3 := HT.out.lts; omega)
  have HO0 := Lib.hid (World.ownsMap_made w1 Try.prog 3 (plainElem (H := Unit) Try.prog 23))
  have HT0 := Lib.hid (HT.out.below ((Below.refl w1.heap.size w1).alloc (Nat.le_refl _) (.map #[] 0)))
  have HB0 := Lib.hid (HB1.out.alloc HB1.out.size (.map #[] 0))
  clear HT
  go_wp2
  obtain ⟨w2, hw2⟩ : ∃ w2, w1.alloc (.map #[] 0) = w2 := ⟨_, rfl⟩
  rw [hw2] at HO0 HT0 HB0 ⊢
  clear hw2
  generalize hQ : w1.heap.size = Q at *
  clear hQ
  go_loopw [25] (fun i wr => ∃ (k : Nat) (at_ : Nat → Int) (op : Nat → Bool) (E : DataW Unit), k ≤ n ∧ i = .int .i64 k ∧ Tab wr g b M at_ op E0 0 D ∧ wr.ownsMap Try.prog 3 (plainElem Try.prog 23) Q k E ∧ MapZ E at_ op ∧ (∀ j : Nat, j < 8 → op j = true → 0 ≤ at_ j ∧ at_ j < k) ∧ Below w.heap.size w wr) (fun i _ => n - (intOf i).toNat)
  case atStart => exact ⟨0, _, _, _, Nat.zero_le _, rfl, HT0.out, HO0.out, mapZ_start _, (fun j _ h => by cases h), HB0.out⟩
  case round =>
    obtain ⟨k, at_, op, E, hk, rfl, ht, ho, hm, hst, hb⟩ := hrel
    clear HT0 HO0 HB0
    have HT := Lib.hid ht; have HO := Lib.hid ho; have HM := Lib.hid hm; have HST := Lib.hid hst; have HB := Lib.hid hb; clear ht ho hm hst hb
    by_cases hlt : k < n
    · obtain ⟨b', o, x, hA, hbw, hx, h0⟩ := slI_get (HS.out.below HB.out) hlt
      subst hA
      obtain ⟨hx0, hx1⟩ := okByteT (HWF.out x (List.mem_of_getElem? hx))
      clear hx
      go_upto_if 32 with (fail)
      clear h0
      go_cut [] (fun wx => ∃ (at2 : Nat → Int) (op2 : Nat → Bool) (E2 : DataW Unit), Tab wx g b M at2 op2 E0 0 D ∧ wx.ownsMap Try.prog 3 (plainElem Try.prog 23) Q (k + 1) E2 ∧ MapZ E2 at2 op2 ∧ (∀ j : Nat, j < 8 → op2 j = true → 0 ≤ at2 j ∧ at2 j < k + 1) ∧ Below w.heap.size w wx)
      case first =>
        go_wp2_with fail
        · rcases ff_or op with hf | ⟨i, hf⟩
          · have HF := Lib.hid hf
            refine (begin_full HT.out hf _).mono ?_
            rintro e wa ⟨rfl, hb⟩
            have HT2 := Lib.hid (HT.out.below hb); have HO2 := Lib.hid (tab_ownsBelow HO.out hb); have HB2 := Lib.hid (bt HB.out hb)
            have hsz : Maps.size E = 8 := by rw [HM.out.2.2]; exact cnt_full 8 hf
            have HSZ := Lib.hid hsz
            clear hb hf hsz
            go_wp2_with (at_len; refine wpList_len_own _ rfl _ 77 rfl 3 23 Try.underlying77 _ Q k E rfl HO2.out ?_; rw [HSZ.out])
            go_meet
            exact ⟨at_, op, E, HT2.out, HO2.out.mono (Nat.le_succ _), HM.out, (fun j hj ho => by have := HST.out j hj ho; omega), HB2.out⟩
          · have HF := Lib.hid hf
            have hi8 : i < 8 := hf.1
            refine (begin_free HT.out hf _).mono ?_
            rintro e wa ⟨rfl, ht, hc⟩
            rw [upd_E0] at ht
            have HT2 := Lib.hid ht; have HO2 := Lib.hid (map_chg HO.out hc (fun e => HQ.out.2.2.1 e.symm) (fun e => HQ.out.2.2.2 e.symm)); have HB2 := Lib.hid (bch HB.out hc HGB.out HGM.out)
            clear ht hc hf
            have hku : (Lit.int .u64 (k : Int)).wf = true := wf_word (by omega) (by omega)
            have HKU := Lib.hid hku
            go_wp2_with (at_mapUpdate; refine wpList_mapUpdate_own _ rfl _ _ _ 77 rfl 3 23 intKey Try.underlying77 _ Q k _ rfl HO2.out (by unfold maxLen; omega) _ _ _ rfl rfl (keyI (Nat.le_of_lt hi8)) _ _ (plainElem_int (H := Unit) Try.underlying23 HKU.out) ?_; intro w4 hown4 hgrow4)
            go_meet
            exact ⟨upd at_ i k, upd op i true, _, HT2.out.beside hgrow4 HQ.out.2.1 HQ.out.2.2.1 HQ.out.2.2.2, hown4, mapZ_put HM.out (HO.out.tidy intKey) hi8 HF.out.2.1 k, (fun j hj ho => by
              by_cases e : j = i
              · subst e; rw [upd_same]; omega
              · rw [upd_other e] at ho ⊢; have := HST.out j hj ho; omega), HB2.out.grown hgrow4 HB2.out.size (fun j hj => by cases hj; exact HQ.out.1)⟩
        · obtain ⟨t, ht, ht8⟩ : ∃ t : Nat, x / 3 % 8 = (t : Int) ∧ t < 8 := ⟨(x / 3 % 8).toNat, by omega, by omega⟩
          rw [ht]
          cases hot : op t with
          | false =>
            refine (end_no HT.out ht8 hot).mono ?_
            rintro e wa ⟨rfl, hb⟩
            have HT2 := Lib.hid (HT.out.below hb); have HO2 := Lib.hid (tab_ownsBelow HO.out hb); have HB2 := Lib.hid (bt HB.out hb); clear hb
            have HHAS := Lib.hid (show Maps.has E (.int .i64 (t : Int)) = false by rw [HM.out.2.1, opZ_nat ht8, hot])
            have HOT := Lib.hid hot
            clear hot
            go_wp2_with fail
            refine (has_any HO2.out (Nat.le_of_lt ht8)).mono ?_
            rintro e wc ⟨rfl, hb⟩
            rw [HHAS.out]
            have HT3 := Lib.hid (HT2.out.below hb); have HO3 := Lib.hid (tab_ownsBelow HO2.out hb); have HB3 := Lib.hid (bt HB2.out hb); clear hb
            go_wp2_with (at_delete; refine wpList_delete_own _ rfl _ _ 77 3 rfl 23 intKey Try.underlying77 _ Q k E rfl HO3.out (.int .i64 (x / 3 % 8)) (.int .i64 t) rfl (by rw [ht]; exact keyI (Nat.le_of_lt ht8)) ?_; intro w4 hown4 hturn4)
            go_meet
            exact ⟨at_, op, _, HT3.out.beside hturn4.grown HQ.out.2.1 HQ.out.2.2.1 HQ.out.2.2.2, hown4.mono (Nat.le_succ _), mapZ_same HM.out (HO.out.tidy intKey) ht8 HOT.out, (fun j hj ho => by have := HST.out j hj ho; omega), HB3.out.grown hturn4.grown HB3.out.size (fun j hj => by cases hj; exact HQ.out.1)⟩
          | true =>
            refine (end_yes HT.out ht8 hot).mono ?_
            rintro e wa ⟨rfl, htt, hc⟩
            rw [upd_E0] at htt
            have HT2 := Lib.hid htt; have HO2 := Lib.hid (map_chg HO.out hc (fun e => HQ.out.2.2.1 e.symm) (fun e => HQ.out.2.2.2 e.symm)); have HB2 := Lib.hid (bch HB.out hc HGB.out HGM.out); clear htt hc
            have HHAS := Lib.hid (show Maps.has E (.int .i64 (t : Int)) = true by rw [HM.out.2.1, opZ_nat ht8, hot])
            have HOT := Lib.hid hot
            clear hot
            go_wp2_with fail
            refine (has_any HO2.out (Nat.le_of_lt ht8)).mono ?_
            rintro e wc ⟨rfl, hb⟩
            rw [HHAS.out]
            have HT3 := Lib.hid (HT2.out.below hb); have HO3 := Lib.hid (tab_ownsBelow HO2.out hb); have HB3 := Lib.hid (bt HB2.out hb); clear hb
            go_wp2_with (at_delete; refine wpList_delete_own _ rfl _ _ 77 3 rfl 23 intKey Try.underlying77 _ Q k E rfl HO3.out (.int .i64 (x / 3 % 8)) (.int .i64 t) rfl (by rw [ht]; exact keyI (Nat.le_of_lt ht8)) ?_; intro w4 hown4 hturn4)
            go_meet
            exact ⟨upd at_ t 0, upd op t false, _, HT3.out.beside hturn4.grown HQ.out.2.1 HQ.out.2.2.1 HQ.out.2.2.2, hown4.mono (Nat.le_succ _), mapZ_del HM.out (HO.out.tidy intKey) ht8 HOT.out 0, (fun j hj ho => by
              by_cases e : j = t
              · subst e; rw [upd_same] at ho; cases ho
              · rw [upd_other e] at ho ⊢; have := HST.out j hj ho; omega), HB3.out.grown hturn4.grown HB3.out.size (fun j hj => by cases hj; exact HQ.out.1)⟩
      case rest =>
        rename World => wx
        obtain ⟨at2, op2, E2, ht, ho, hm, hst, hb⟩ := hcut
        clear HT HO HM HST HB
        have HT := Lib.hid ht; have HO := Lib.hid ho; have HM := Lib.hid hm; have HST := Lib.hid hst; have HB := Lib.hid hb; clear ht ho hm hst hb
        go_wp2_with (at_range; refine wpList_range_own _ rfl _ 77 rfl 3 23 intKey Try.underlying77 _ Q (k + 1) E2 rfl HO.out ?_; intro wr0 hrg0 hg0 hs0)
        go_frame
        have HR := Lib.hid (show g ≠ wx.heap.size ∧ b ≠ wx.heap.size ∧ M ≠ wx.heap.size ∧ Q ≠ wx.heap.size ∧ w.heap.size ≤ wx.heap.size from by have h1 := HT.out.gl; have h2 := HT.out.lts; have h3 := HO.out.lt; have h4 := HB.out.size; omega)
        have hb0 : Below wx.heap.size wx wr0 := ⟨hg0.os, hg0.tape, hg0.output, hg0.size, fun i hi => hg0.block i hi (by simp)⟩
        have HT1 := Lib.hid (HT.out.below hb0); have HB1 := Lib.hid (bt HB.out hb0); have HRG := Lib.hid hrg0
        clear hb0 hg0 hs0 hrg0 HT HB
        generalize hr : wx.heap.size = r at *
        clear hr
        go_loopw [9] (fun v wr => ∃ (left : Lit → Bool) (cn : Nat) (L : Int), v = .int .u64 L ∧ wr.ranges Try.prog 3 (plainElem Try.prog 23) Q r (k + 1) E2 left cn ∧ LL at2 op2 left L ∧ (∀ z, left z = true → Maps.has E2 z = true) ∧ Tab wr g b M at2 op2 E0 0 D ∧ Below w.heap.size w wr) (fun _ wr => wr.rangeLeft Q r)
        case atStart => exact ⟨_, _, _, rfl, HRG.out, ll_start HM.out, fun _ h => h, HT1.out, HB1.out⟩
        case round =>
          rename World => wi
          obtain ⟨left, cn, L, rfl, hrg, hll, hlh, ht, hb⟩ := hrel
          clear HT1 HB1 HRG
          have HRG := Lib.hid hrg; have HLL := Lib.hid hll; have HLH := Lib.hid hlh; have HT := Lib.hid ht; have HB := Lib.hid hb; clear hrg hll hlh ht hb
          go_wp2_with (at_next; refine wpList_next_ranges_ii _ rfl _ rfl 3 23 .i64 .u64 intKey Try.underlying3 Try.underlying23 Q r (k + 1) E2 left cn rfl HRG.out ?_ ?_)
          · intro _ hl0
            have HL0 := Lib.hid hl0; clear hl0
            go_wp2_with fail
            refine (topen_any HT.out).mono ?_
            rintro e wa ⟨⟨A10, c10, rfl, _⟩, hb⟩
            have HTA := Lib.hid (HT.out.below hb); have HBA := Lib.hid (bt HB.out hb); have HOA := Lib.hid (tab_ownsBelow HRG.out.owns hb); have HSZ := Lib.hid HM.out.2.2; clear hb
            go_wp2_with (at_len; refine wpList_len_own _ rfl _ 77 rfl 3 23 Try.underlying77 _ Q (k + 1) E2 rfl HOA.out ?_; rw [HSZ.out])
            refine (tleast_any HTA.out 1000).mono ?_
            rintro e wc ⟨rr, rfl, hle, ht, hc⟩
            obtain rfl : rr = L := ll_end HLL.out HL0.out (fun j hj ho => by have := HST.out j hj ho; omega) hle
            have HTC := Lib.hid ht; have HBC := Lib.hid (bch HBA.out hc HGB.out HGM.out); have HOC := Lib.hid (map_chg HOA.out hc (fun e => HQ.out.2.2.1 e.symm) (fun e => HQ.out.2.2.2 e.symm)); clear ht hc hle
            go_wp2
            go_roundw
            case rel => exact ⟨k + 1, at2, op2, E2, by omega, by go_num, HTC.out, HOC.out, HM.out, HST.out, HBC.out⟩
            case measure => simp [intOf]; omega
          · intro y cc w3 cn3 hwx hwc hlx hat hrg1 hlt1 hg1 hs1 hen
            have hhas := HLH.out _ hlx
            rw [HM.out.2.1] at hhas
            obtain ⟨j, hj8, rfl, hoj⟩ := opZ_true hhas
            have hcc := hat .nil
            rw [HM.out.1 j _ hj8 hoj] at hcc
            obtain rfl : at2 j = cc := by injection hcc with hcc; injection hcc
            have HT3 := Lib.hid (HT.out.beside hg1 HR.out.1 HR.out.2.1 HR.out.2.2.1)
            have HB3 := Lib.hid (HB.out.grown hg1 HB.out.size (fun j hj => by cases hj; exact HR.out.2.2.2.2))
            have HRG3 := Lib.hid hrg1; have HLT3 := Lib.hid hlt1; have HOJ := Lib.hid hoj
            have HLL3 := Lib.hid (ll_step HLL.out hj8 hoj)
            clear hwx hwc hlx hat hrg1 hlt1 hg1 hs1 hhas hcc hoj
            go_wp2_with fail
            refine (tat_in HT3.out hj8).mono ?_
            rintro e wa ⟨rfl, hb⟩
            rw [show atOf at2 op2 j = at2 j by simp [atOf, HOJ.out], HOJ.out]
            have HT4 := Lib.hid (HT3.out.below hb); have HB4 := Lib.hid (bt HB3.out hb); have HRG4 := Lib.hid (HRG3.out.kept (below_none hb) (by simp) (by simp)); clear hb hen
            go_wp2
            go_roundw
            case rel => exact ⟨_, cn3, (if at2 j < L then at2 j else L), rfl, HRG4.out, HLL3.out, (fun z hz => HLH.out z (by simp at hz; exact hz.1)), HT4.out, HB4.out⟩
            case measure => rw [HRG4.out.left_eq, HRG.out.left_eq]; exact HLT3.out
    · obtain rfl : k = n := by omega
      go_wp2
      go_ret
      exact ⟨rfl, HB.out⟩
end Go.Proofs.Yteaaeeidbjklbaa
