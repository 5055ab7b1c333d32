/- The walk of the law TxnActs: it answers true, whatever comes in. -/
import Derived.Test.YteaaeeidbjklbaaTxX
import Derived.Deep.DeepCutAuto
import Derived.Deep.CutBlock
namespace Go.Proofs.Yteaaeeidbjklbaa
open Go.RowKit Go.Maps

attribute [local go_sem ↓] sT_eq sW_eq

set_option maxRecDepth 100000 in
set_option maxHeartbeats 8000000 in
theorem lawActs_any {A : Option Addr} {n c : Nat} {acts : List A17} {w : World} (h : SlA17 w A n c acts ∧ ∀ x ∈ acts, (Lit.int .u8 x.kind).wf = true ∧ (Lit.int .u64 x.at_).wf = true) (nn : Int) :
    Calls Try.prog 3 #[.slice A n c, .int .u64 nn] w fun e w' => e = .returned (.bool true) ∧ Below w.heap.size w w' := by
  obtain ⟨h, hwf⟩ := h
  have h_m := sl_max h
  have hl := Lib.hid (slA17_len h)
  have HS := Lib.hid h; clear h
  have HWF := Lib.hid hwf; clear hwf
  go_enter Try.func3, Try.ntmps3
  go_wp2_with fail
  refine (alive_any w).mono ?_
  rintro e wa ⟨rfl, hb1⟩
  have HB0 := Lib.hid hb1; clear hb1
  go_wp2_with fail
  refine (heavy_any (HS.out.below HB0.out)).mono ?_
  rintro e wb ⟨rfl, hb⟩
  have HB := Lib.hid (bt HB0.out hb); clear hb
  cases hf : heavyB acts with
  | true =>
    clear hf
    go_wp2
    go_ret
    exact ⟨rfl, HB.out⟩
  | false =>
  have HFW := Lib.hid (heavy_no hf); clear hf
  have hn : n ≤ 200 := by have := HFW.out.1; rw [hl.out] at this; exact this
  go_wp2_with fail
  refine (new_any wb).mono ?_
  rintro e w1 ⟨rfl, ht, hb⟩
  have HT := Lib.hid ht; have HB1 := Lib.hid (bt HB.out hb); clear ht hb
  have HGB := Lib.hid (show w.heap.size ≤ wb.heap.size + 1 from Nat.le_trans HB.out.size (Nat.le_succ _))
  have HGM := Lib.hid (show w.heap.size ≤ wb.heap.size from HB.out.size)
  generalize hg : wb.heap.size + 2 = g at *
  generalize hb' : wb.heap.size + 1 = b at *
  generalize hM : wb.heap.size = M at *
  clear hg hb' hM
  have hbe := (Below.refl w1.heap.size w1).alloc (Nat.le_refl _) (.cells (arrT zAt zOp zS sv0) 36)
  have HT1 := Lib.hid (HT.out.below hbe)
  have HR1 := Lib.hid (t_new w1 zAt zOp zS sv0)
  have HBF := Lib.hid (HB1.out.alloc HB1.out.size (.cells (arrT zAt zOp zS sv0) 36))
  have HQ := Lib.hid (show w.heap.size ≤ w1.heap.size ∧ w1.heap.size ≠ g ∧ w1.heap.size ≠ b ∧ w1.heap.size ≠ M from by have h1 := HB1.out.size; have h2 := HT.out.gl; have h3 := HT.out.lts; omega)
  have HSD := Lib.hid (show Sds (w1.alloc (.cells (arrT zAt zOp zS sv0) 36)) b M E0 zS sv0 [] from ⟨fun _ _ => SlF.nil_ _ _ _, SlFN.nil_ _ _ _⟩)
  have HLW := Lib.hid law_start
  clear hbe HT
  generalize (DataW.map [] : DataW Unit) = D0 at *
  go_wp2
  have HW2 := Lib.hid (show ∃ w2, w1.alloc (.cells (arrT zAt zOp zS sv0) 36) = w2 from ⟨_, rfl⟩)
  obtain ⟨w2, hw2⟩ := HW2.out
  rw [hw2] at HT1 HR1 HBF HSD
  rw [show w1.alloc (.cells #[.int .u64 0, .int .u64 0, .int .u64 0, .int .u64 0, .int .u64 0, .int .u64 0, .int .u64 0, .int .u64 0, .bool false, .bool false, .bool false, .bool false, .bool false, .bool false, .bool false, .bool false, .slice none 0 0, .slice none 0 0, .slice none 0 0, .slice none 0 0, .slice none 0 0, .slice none 0 0, .slice none 0 0, .slice none 0 0, .slice none 0 0] 36) = w2 from hw2]
  clear hw2 HW2
  generalize hr : w1.heap.size = r at *
  clear hr
  go_loopw [33] (fun i wr => ∃ (k : Nat) (at_ : Nat → Int) (op : Nat → Bool) (sets : Nat → List W3) (S : Nat → SV) (V : SV) (nts : List N2) (kk : Nat) (D : DataW Unit), k ≤ n ∧ i = .int .i64 k ∧ Tab wr g b M at_ op sets kk D ∧ RefT wr r at_ op S V ∧ Sds wr b M sets S V nts ∧ Law at_ op sets V nts kk D ∧ kk ≤ k ∧ Below w.heap.size w wr) (fun i _ => n - (intOf i).toNat)
  case atStart => exact ⟨0, _, _, _, _, _, _, 0, D0, Nat.zero_le _, rfl, HT1.out, HR1.out, HSD.out, HLW.out, Nat.le_refl _, HBF.out⟩
  case round =>
    obtain ⟨k, at_, op, sets, S, V, nts, kk, D, hk, rfl, ht, hr, hsd, hlw, hkk, hb⟩ := hrel
    clear HT1 HR1 HSD HLW HBF
    have HT := Lib.hid ht; have HR := Lib.hid hr; have HSD := Lib.hid hsd; have HLW := Lib.hid hlw; have HBF := Lib.hid hb; clear ht hr hsd hlw hb
    by_cases hlt : k < n
    · obtain ⟨b', o, x, hA, hbw, hx, h0, h1, h2, h3, h4, h5⟩ := slA17_get (HS.out.below HBF.out) hlt
      subst hA
      obtain ⟨hk0, hk1⟩ := okByteT (HWF.out x (List.mem_of_getElem? hx)).1
      have HST := Lib.hid (HWF.out x (List.mem_of_getElem? hx)).2
      have HFW1 := Lib.hid (HFW.out.2 x (List.mem_of_getElem? hx))
      clear hx
      have hbe := (Below.refl wr.heap.size wr).alloc (Nat.le_refl _) (.cells (boxA x) 40)
      have HTE := Lib.hid (HT.out.below hbe); have HRE := Lib.hid (HR.out.below hbe); have HSE := Lib.hid (HSD.out.below hbe); have HBE := Lib.hid (bt HBF.out hbe)
      have HKE := Lib.hid (Bx.new wr x)
      have HP := Lib.hid (show w.heap.size ≤ wr.heap.size ∧ wr.heap.size ≠ b ∧ wr.heap.size ≠ M ∧ wr.heap.size ≠ r from by have h1 := HBF.out.size; have h2 := HT.out.lts; have h3 := HR.out.lt; omega)
      clear hbe
      go_upto_block 2 with (fail)
      refine wp_abs (fun we => Tab we g b M at_ op sets kk D ∧ RefT we r at_ op S V ∧ Sds we b M sets S V nts ∧ Below w.heap.size w we ∧ Bx we wr.heap.size x) ⟨HTE.out, HRE.out, HSE.out, HBE.out, HKE.out⟩ ?_
      clear HTE HRE HSE HBE HKE h0 h1 h2 h3 h4 h5
      rintro we ⟨ht, hr, hsd, hb, hkb⟩
      clear HT HR HSD
      have HT := Lib.hid ht; have HR := Lib.hid hr; have HSD := Lib.hid hsd; have HB := Lib.hid hb; have HK := Lib.hid hkb
      clear ht hr hsd hb hkb
      go_cut [9, 10] (fun e f wx => ∃ (at2 : Nat → Int) (op2 : Nat → Bool) (sets2 : Nat → List W3) (S2 : Nat → SV) (V2 : SV) (nts2 : List N2) (kk2 : Nat) (D2 : DataW Unit) (er : Int), e = .int .i64 er ∧ f = .int .i64 er ∧ Tab wx g b M at2 op2 sets2 kk2 D2 ∧ RefT wx r at2 op2 S2 V2 ∧ Sds wx b M sets2 S2 V2 nts2 ∧ Law at2 op2 sets2 V2 nts2 kk2 D2 ∧ kk2 ≤ k + 1 ∧ Below w.heap.size w wx)
      case first =>
        obtain ⟨k0, k1, k2, k3, k4, k5⟩ := HK.out.cells
        have hlk := HK.out.lt
        go_wp2_with fail
        · as_aux_lemma =>
            rcases ff_or op with hf | ⟨i, hf⟩
            · have HF := Lib.hid hf; clear hf
              refine (begin_full HT.out HF.out x.at_).mono ?_
              rintro e wc ⟨rfl, hb⟩
              have HT := Lib.hid (HT.out.below hb)
              have HR := Lib.hid (HR.out.below hb)
              have HSD := Lib.hid (HSD.out.below hb)
              have HK := Lib.hid (HK.out.below hb)
              have HB := Lib.hid (bt HB.out hb)
              clear hb
              clear k0 k1 k2 k3 k4 k5
              have k2 := HK.out.cells.2.2.1
              go_wp2_with (refine wpList_loadT rfl _ rfl r at_ op S V (by rfl) HR.out ?_)
              refine (rbegin_full HF.out x.at_ _).mono ?_
              rintro e wd ⟨rfl, hb⟩
              have HT := Lib.hid (HT.out.below hb)
              have HR := Lib.hid (HR.out.below hb)
              have HSD := Lib.hid (HSD.out.below hb)
              have HK := Lib.hid (HK.out.below hb)
              have HB := Lib.hid (bt HB.out hb)
              clear hb
              clear k2
              go_wp2_with (first
                | (refine wpList_storeT rfl _ _ rfl wd.heap.size (at_) (op) (S) V (by rfl) (by rfl) (t_new wd zAt zOp zS sv0) ?_; intro wn hrn hgn; have HN := Lib.hid hrn; have hb := below_newT hgn; clear hrn hgn; have HT := Lib.hid (HT.out.below hb); have HR := Lib.hid (HR.out.below hb); have HSD := Lib.hid (HSD.out.below hb); have HK := Lib.hid (HK.out.below hb); have HB := Lib.hid (bt HB.out hb); clear hb)
                | (refine wpList_loadT rfl _ rfl wd.heap.size (at_) (op) (S) V (by rfl) HN.out ?_)
                | (refine wpList_storeT rfl _ _ rfl r (at_) (op) (S) (V) (by rfl) (by rfl) HR.out ?_; intro wz hrz hgz; have HT := Lib.hid (HT.out.refT HR.out hgz HQ.out.2.1 HQ.out.2.2.1 HQ.out.2.2.2); have HSD := Lib.hid (HSD.out.refT HR.out hgz); have HK := Lib.hid (HK.out.grown hgz HP.out.2.2.2); have HB := Lib.hid (HB.out.grown hgz HB.out.size (fun j hj => by cases hj; exact HQ.out.1)); have HR := Lib.hid hrz; clear hrz hgz))
              go_meet
              exact ⟨at_, op, sets, S, V, nts, kk, D, 6, rfl, rfl, HT.out, HR.out, HSD.out, HLW.out, Nat.le_succ_of_le hkk, HB.out⟩
            · have HF := Lib.hid hf; clear hf
              refine (begin_free HT.out HF.out x.at_).mono ?_
              rintro e wc ⟨rfl, ht, hc⟩
              have HR := Lib.hid (HR.out.chg hc HQ.out.2.2.1 HQ.out.2.2.2)
              have HSD := Lib.hid (HSD.out.chg hc)
              have HK := Lib.hid (HK.out.chg hc HP.out.2.1 HP.out.2.2.1)
              have HB := Lib.hid (bch HB.out hc HGB.out HGM.out)
              have HT := Lib.hid ht
              clear ht hc
              clear k0 k1 k2 k3 k4 k5
              have k2 := HK.out.cells.2.2.1
              go_wp2_with (refine wpList_loadT rfl _ rfl r at_ op S V (by rfl) HR.out ?_)
              refine (rbegin_free HF.out x.at_ _).mono ?_
              rintro e wd ⟨rfl, hb⟩
              have HT := Lib.hid (HT.out.below hb)
              have HR := Lib.hid (HR.out.below hb)
              have HSD := Lib.hid (HSD.out.below hb)
              have HK := Lib.hid (HK.out.below hb)
              have HB := Lib.hid (bt HB.out hb)
              clear hb
              clear k2
              go_wp2_with (first
                | (refine wpList_storeT rfl _ _ rfl wd.heap.size (upd at_ i x.at_) (upd op i true) (upd S i sv0) V (by rfl) (by rfl) (t_new wd zAt zOp zS sv0) ?_; intro wn hrn hgn; have HN := Lib.hid hrn; have hb := below_newT hgn; clear hrn hgn; have HT := Lib.hid (HT.out.below hb); have HR := Lib.hid (HR.out.below hb); have HSD := Lib.hid (HSD.out.below hb); have HK := Lib.hid (HK.out.below hb); have HB := Lib.hid (bt HB.out hb); clear hb)
                | (refine wpList_loadT rfl _ rfl wd.heap.size (upd at_ i x.at_) (upd op i true) (upd S i sv0) V (by rfl) HN.out ?_)
                | (refine wpList_storeT rfl _ _ rfl r (upd at_ i x.at_) (upd op i true) (upd S i sv0) (V) (by rfl) (by rfl) HR.out ?_; intro wz hrz hgz; have HT := Lib.hid (HT.out.refT HR.out hgz HQ.out.2.1 HQ.out.2.2.1 HQ.out.2.2.2); have HSD := Lib.hid (HSD.out.refT HR.out hgz); have HK := Lib.hid (HK.out.grown hgz HP.out.2.2.2); have HB := Lib.hid (HB.out.grown hgz HB.out.size (fun j hj => by cases hj; exact HQ.out.1)); have HR := Lib.hid hrz; clear hrz hgz))
              go_meet
              exact ⟨upd at_ i x.at_, upd op i true, upd sets i [], upd S i sv0, V, nts, kk, D, 0, rfl, rfl, HT.out, HR.out, HSD.out.upd i (SlF.nil_ _ _ _), HLW.out.begin_ i x.at_, Nat.le_succ_of_le hkk, HB.out⟩
        · as_aux_lemma =>
            by_cases hid : x.id < 0 ∨ 8 ≤ x.id
            · have HID := Lib.hid hid; clear hid
              refine (end_out HT.out HID.out).mono ?_
              rintro e wc ⟨rfl, hb⟩
              have HT := Lib.hid (HT.out.below hb)
              have HR := Lib.hid (HR.out.below hb)
              have HSD := Lib.hid (HSD.out.below hb)
              have HK := Lib.hid (HK.out.below hb)
              have HB := Lib.hid (bt HB.out hb)
              clear hb
              clear k0 k1 k2 k3 k4 k5
              have k1 := HK.out.cells.2.1
              go_wp2_with (refine wpList_loadT rfl _ rfl r at_ op S V (by rfl) HR.out ?_)
              refine (rend_out HID.out _).mono ?_
              rintro e wd ⟨rfl, hb⟩
              have HT := Lib.hid (HT.out.below hb)
              have HR := Lib.hid (HR.out.below hb)
              have HSD := Lib.hid (HSD.out.below hb)
              have HK := Lib.hid (HK.out.below hb)
              have HB := Lib.hid (bt HB.out hb)
              clear hb
              clear k1
              go_wp2_with (refine wpList_storeT rfl _ _ rfl r (at_) (op) (S) (V) (by rfl) (by rfl) HR.out ?_; intro wz hrz hgz; have HT := Lib.hid (HT.out.refT HR.out hgz HQ.out.2.1 HQ.out.2.2.1 HQ.out.2.2.2); have HSD := Lib.hid (HSD.out.refT HR.out hgz); have HK := Lib.hid (HK.out.grown hgz HP.out.2.2.2); have HB := Lib.hid (HB.out.grown hgz HB.out.size (fun j hj => by cases hj; exact HQ.out.1)); have HR := Lib.hid hrz; clear hrz hgz)
              go_meet
              exact ⟨at_, op, sets, S, V, nts, kk, D, 7, rfl, rfl, HT.out, HR.out, HSD.out, HLW.out, Nat.le_succ_of_le hkk, HB.out⟩
            · obtain ⟨i, hi, hi8⟩ : ∃ i : Nat, x.id = (i : Int) ∧ i < 8 := ⟨x.id.toNat, by omega, by omega⟩
              clear hid
              rw [hi]
              cases ho : op i with
              | false =>
                have HO := Lib.hid ho; clear ho
                refine (end_no HT.out hi8 HO.out).mono ?_
                rintro e wc ⟨rfl, hb⟩
                have HT := Lib.hid (HT.out.below hb)
                have HR := Lib.hid (HR.out.below hb)
                have HSD := Lib.hid (HSD.out.below hb)
                have HK := Lib.hid (HK.out.below hb)
                have HB := Lib.hid (bt HB.out hb)
                clear hb
                clear k0 k1 k2 k3 k4 k5
                have k1 := HK.out.cells.2.1
                rw [hi] at k1
                go_wp2_with (refine wpList_loadT rfl _ rfl r at_ op S V (by rfl) HR.out ?_)
                refine (rend_no hi8 HO.out _).mono ?_
                rintro e wd ⟨rfl, hb⟩
                have HT := Lib.hid (HT.out.below hb)
                have HR := Lib.hid (HR.out.below hb)
                have HSD := Lib.hid (HSD.out.below hb)
                have HK := Lib.hid (HK.out.below hb)
                have HB := Lib.hid (bt HB.out hb)
                clear hb
                clear k1
                go_wp2_with (refine wpList_storeT rfl _ _ rfl r (at_) (op) (S) (V) (by rfl) (by rfl) HR.out ?_; intro wz hrz hgz; have HT := Lib.hid (HT.out.refT HR.out hgz HQ.out.2.1 HQ.out.2.2.1 HQ.out.2.2.2); have HSD := Lib.hid (HSD.out.refT HR.out hgz); have HK := Lib.hid (HK.out.grown hgz HP.out.2.2.2); have HB := Lib.hid (HB.out.grown hgz HB.out.size (fun j hj => by cases hj; exact HQ.out.1)); have HR := Lib.hid hrz; clear hrz hgz)
                go_meet
                exact ⟨at_, op, sets, S, V, nts, kk, D, 7, rfl, rfl, HT.out, HR.out, HSD.out, HLW.out, Nat.le_succ_of_le hkk, HB.out⟩
              | true =>
                have HO := Lib.hid ho; clear ho
                refine (end_yes HT.out hi8 HO.out).mono ?_
                rintro e wc ⟨rfl, ht, hc⟩
                have HR := Lib.hid (HR.out.chg hc HQ.out.2.2.1 HQ.out.2.2.2)
                have HSD := Lib.hid (HSD.out.chg hc)
                have HK := Lib.hid (HK.out.chg hc HP.out.2.1 HP.out.2.2.1)
                have HB := Lib.hid (bch HB.out hc HGB.out HGM.out)
                have HT := Lib.hid ht
                clear ht hc
                clear k0 k1 k2 k3 k4 k5
                have k1 := HK.out.cells.2.1
                rw [hi] at k1
                go_wp2_with (refine wpList_loadT rfl _ rfl r at_ op S V (by rfl) HR.out ?_)
                refine (rend_yes hi8 HO.out _).mono ?_
                rintro e wd ⟨rfl, hb⟩
                have HT := Lib.hid (HT.out.below hb)
                have HR := Lib.hid (HR.out.below hb)
                have HSD := Lib.hid (HSD.out.below hb)
                have HK := Lib.hid (HK.out.below hb)
                have HB := Lib.hid (bt HB.out hb)
                clear hb
                clear k1
                go_wp2_with (refine wpList_storeT rfl _ _ rfl r (upd at_ i 0) (upd op i false) (upd S i sv0) (V) (by rfl) (by rfl) HR.out ?_; intro wz hrz hgz; have HT := Lib.hid (HT.out.refT HR.out hgz HQ.out.2.1 HQ.out.2.2.1 HQ.out.2.2.2); have HSD := Lib.hid (HSD.out.refT HR.out hgz); have HK := Lib.hid (HK.out.grown hgz HP.out.2.2.2); have HB := Lib.hid (HB.out.grown hgz HB.out.size (fun j hj => by cases hj; exact HQ.out.1)); have HR := Lib.hid hrz; clear hrz hgz)
                go_meet
                exact ⟨upd at_ i 0, upd op i false, upd sets i [], upd S i sv0, V, nts, kk, D, 0, rfl, rfl, HT.out, HR.out, HSD.out.upd i (SlF.nil_ _ _ _), HLW.out.end_ i, Nat.le_succ_of_le hkk, HB.out⟩
        · as_aux_lemma =>
            have hlts := HT.out.lts
            have HSF := Lib.hid (SlF.one hlts.1 hlts.2 50 x.w)
            have hb := (Below.refl we.heap.size we).alloc (Nat.le_refl _) (.cells #[.string x.w.key, .string x.w.text, .bool x.w.gone] 50)
            have HT := Lib.hid (HT.out.below hb)
            have HR := Lib.hid (HR.out.below hb)
            have HSD := Lib.hid (HSD.out.below hb)
            have HK := Lib.hid (HK.out.below hb)
            have HB := Lib.hid (bt HB.out hb)
            clear hb
            clear hlts
            refine (note_any HT.out HLW.out.ni HSF.out (fun y hy => few_keyT HFW1.out hy) (by omega) x.at_ HST.out HLW.out.wf).mono ?_
            rintro e wc ⟨rfl, ⟨D', ht, hn⟩, hc⟩
            have HN := Lib.hid hn; clear hn
            have HR := Lib.hid (HR.out.chg hc HQ.out.2.2.1 HQ.out.2.2.2)
            have HSD := Lib.hid (HSD.out.chg hc)
            have HK := Lib.hid (HK.out.chg hc HP.out.2.1 HP.out.2.2.1)
            have HB := Lib.hid (bch HB.out hc HGB.out HGM.out)
            have HT := Lib.hid ht
            clear ht hc
            clear k0 k1 k2 k3 k4 k5
            have k2 := HK.out.cells.2.2.1
            have k3 := HK.out.cells.2.2.2.1
            have k4 := HK.out.cells.2.2.2.2.1
            have k5 := HK.out.cells.2.2.2.2.2
            have hlk2 := HK.out.lt
            go_wp2_with (refine wpList_loadT rfl _ rfl r at_ op S V (by rfl) HR.out ?_)
            have hlts := HT.out.lts
            have HSF2 := Lib.hid (SlF.one hlts.1 hlts.2 38 x.w).1
            have hb := (Below.refl wc.heap.size wc).alloc (Nat.le_refl _) (.cells #[.string x.w.key, .string x.w.text, .bool x.w.gone] 38)
            have HT := Lib.hid (HT.out.below hb)
            have HR := Lib.hid (HR.out.below hb)
            have HSD := Lib.hid (HSD.out.below hb)
            have HK := Lib.hid (HK.out.below hb)
            have HB := Lib.hid (bt HB.out hb)
            clear hb
            have hlts2 := HT.out.lts
            refine (rnote_any (b := b) (M := M) HSD.out.v HSF2.out x.at_ hlts2.1 hlts2.2 (by have := HLW.out.vn; omega)).mono ?_
            rintro e wd ⟨V2, rfl, hv2, hvn, hb⟩
            have HV2 := Lib.hid hv2; have HVN := Lib.hid hvn; clear hv2 hvn hlts hlts2
            have HT := Lib.hid (HT.out.below hb)
            have HR := Lib.hid (HR.out.below hb)
            have HSD := Lib.hid (HSD.out.below hb)
            have HK := Lib.hid (HK.out.below hb)
            have HB := Lib.hid (bt HB.out hb)
            clear hb
            clear k2 k3 k4 k5
            go_wp2_with (refine wpList_storeT rfl _ _ rfl r (at_) (op) (S) (V2) (by rfl) (by rfl) HR.out ?_; intro wz hrz hgz; have HT := Lib.hid (HT.out.refT HR.out hgz HQ.out.2.1 HQ.out.2.2.1 HQ.out.2.2.2); have HSD := Lib.hid (HSD.out.refT HR.out hgz); have HV2 := Lib.hid (HV2.out.refT HR.out hgz); have HK := Lib.hid (HK.out.grown hgz HP.out.2.2.2); have HB := Lib.hid (HB.out.grown hgz HB.out.size (fun j hj => by cases hj; exact HQ.out.1)); have HR := Lib.hid hrz; clear hrz hgz)
            go_meet
            exact ⟨at_, op, sets, S, V2, nts ++ noteL x.at_ [x.w], kk + 1, D', 0, rfl, rfl, HT.out, HR.out, ⟨HSD.out.s, HV2.out⟩, HLW.out.note x.w HST.out HN.out HVN.out, Nat.succ_le_succ hkk, HB.out⟩
        · as_aux_lemma =>
            by_cases hid : x.id < 0 ∨ 8 ≤ x.id
            · have HID := Lib.hid hid; clear hid
              have hb := (Below.refl we.heap.size we).drew
              have HT := Lib.hid (HT.out.below hb)
              have HR := Lib.hid (HR.out.below hb)
              have HSD := Lib.hid (HSD.out.below hb)
              have HK := Lib.hid (HK.out.below hb)
              have HB := Lib.hid (bt HB.out hb)
              clear hb
              clear k0 k1 k2 k3 k4 k5
              have r0 := HR.out.ld
              have R0 := Lib.hid r0; clear r0
              have k1 := HK.out.cells.2.1
              go_region_held3 (fun w' => (sT (.pointer (some ⟨r, 0, none⟩))).run Try.prog w' = .ok (mT at_ op S V) w' ∧ w'.cell? ⟨wr.heap.size, 1, none⟩ = some (.int .i64 x.id)) (first | exact ⟨R0.out, k1⟩ | exact ⟨HRc.out.ld, kc⟩ | exact ⟨HRd.out.ld, kd⟩)
                (first
                  | ((go_at_call 19; refine (tclash_out HT.out HID.out).mono ?_; rintro e wc ⟨rfl, hbc⟩; have HRc := Lib.hid (HR.out.below hbc); have HKc := Lib.hid (HK.out.below hbc); have kc := HKc.out.cells.2.1))
                  | ((go_at_call 20; refine (rclash_out HID.out _).mono ?_; rintro e wd ⟨rfl, hbd⟩; have HRd := Lib.hid (HRc.out.below hbd); have HKd := Lib.hid (HKc.out.below hbd); have kd := HKd.out.cells.2.1)))
              have hb := bt hbc hbd
              have HT := Lib.hid (HT.out.below hb)
              have HR := Lib.hid (HR.out.below hb)
              have HSD := Lib.hid (HSD.out.below hb)
              have HK := Lib.hid (HK.out.below hb)
              have HB := Lib.hid (bt HB.out hb)
              clear hb
              clear hbc hbd k1 kc kd
              go_wp2
              go_meet
              exact ⟨at_, op, sets, S, V, nts, kk, D, 0, rfl, rfl, HT.out, HR.out, HSD.out, HLW.out, Nat.le_succ_of_le hkk, HB.out⟩
            · obtain ⟨i, hi, hi8⟩ : ∃ i : Nat, x.id = (i : Int) ∧ i < 8 := ⟨x.id.toNat, by omega, by omega⟩
              clear hid
              have i1 : (0 : Int) ≤ (i : Int) := by omega
              have i2 : (i : Int) < 8 := by omega
              cases ho : op i with
              | false =>
                have HO := Lib.hid ho; clear ho
                have hb := (Below.refl we.heap.size we).drew
                have HT := Lib.hid (HT.out.below hb)
                have HR := Lib.hid (HR.out.below hb)
                have HSD := Lib.hid (HSD.out.below hb)
                have HK := Lib.hid (HK.out.below hb)
                have HB := Lib.hid (bt HB.out hb)
                clear hb
                clear k0 k1 k2 k3 k4 k5
                have r0 := HR.out.ld
                have R0 := Lib.hid r0; clear r0
                have k1 := HK.out.cells.2.1
                rw [hi] at k1
                go_region_held3 (fun w' => (sT (.pointer (some ⟨r, 0, none⟩))).run Try.prog w' = .ok (mT at_ op S V) w' ∧ w'.cell? ⟨wr.heap.size, 1, none⟩ = some (.int .i64 i)) (first | exact ⟨R0.out, k1⟩ | exact ⟨HRc.out.ld, kc⟩ | exact ⟨HRd.out.ld, kd⟩)
                  (first
                    | ((go_at_call 19; refine (clash_no HT.out hi8 HO.out).mono ?_; rintro e wc ⟨rfl, hbc⟩; have HRc := Lib.hid (HR.out.below hbc); have HKc := Lib.hid (HK.out.below hbc); have kc := HKc.out.cells.2.1; rw [hi] at kc))
                    | ((go_at_call 20; refine (rclash_no hi8 HO.out _).mono ?_; rintro e wd ⟨rfl, hbd⟩; have HRd := Lib.hid (HRc.out.below hbd); have HKd := Lib.hid (HKc.out.below hbd); have kd := HKd.out.cells.2.1; rw [hi] at kd)))
                have hb := bt hbc hbd
                have HT := Lib.hid (HT.out.below hb)
                have HR := Lib.hid (HR.out.below hb)
                have HSD := Lib.hid (HSD.out.below hb)
                have HK := Lib.hid (HK.out.below hb)
                have HB := Lib.hid (bt HB.out hb)
                clear hb
                clear hbc hbd k1 kc kd
                go_wp2
                go_meet
                exact ⟨at_, op, sets, S, V, nts, kk, D, 0, rfl, rfl, HT.out, HR.out, HSD.out, HLW.out, Nat.le_succ_of_le hkk, HB.out⟩
              | true =>
                have HO := Lib.hid ho; clear ho
                have hb := (Below.refl we.heap.size we).drew
                have HT := Lib.hid (HT.out.below hb)
                have HR := Lib.hid (HR.out.below hb)
                have HSD := Lib.hid (HSD.out.below hb)
                have HK := Lib.hid (HK.out.below hb)
                have HB := Lib.hid (bt HB.out hb)
                clear hb
                clear k0 k1 k2 k3 k4 k5
                have r0 := HR.out.ld
                have R0 := Lib.hid r0; clear r0
                have k1 := HK.out.cells.2.1
                rw [hi] at k1
                go_region_held3 (fun w' => (sT (.pointer (some ⟨r, 0, none⟩))).run Try.prog w' = .ok (mT at_ op S V) w' ∧ w'.cell? ⟨wr.heap.size, 1, none⟩ = some (.int .i64 i)) (first | exact ⟨R0.out, k1⟩ | exact ⟨HRc.out.ld, kc⟩ | exact ⟨HRd.out.ld, kd⟩)
                  (first
                    | ((go_at_call 19; refine (clash_yes HT.out HLW.out.ni (fun y hy => Nat.le_trans (HLW.out.key i hi8 y hy) (by unfold maxLen; omega)) hi8 HO.out).mono ?_; rintro e wc ⟨rfl, hbc⟩; have HRc := Lib.hid (HR.out.below hbc); have HKc := Lib.hid (HK.out.below hbc); have kc := HKc.out.cells.2.1; rw [hi] at kc))
                    | ((go_at_call 20; refine (rclash_yes hi8 HO.out (HSD.out.below hbc).v.1 ((HSD.out.below hbc).s i hi8).1).mono ?_; rintro e wd ⟨rfl, hbd⟩; have HRd := Lib.hid (HRc.out.below hbd); have HKd := Lib.hid (HKc.out.below hbd); have kd := HKd.out.cells.2.1; rw [hi] at kd)))
                have hb := bt hbc hbd
                have HT := Lib.hid (HT.out.below hb)
                have HR := Lib.hid (HR.out.below hb)
                have HSD := Lib.hid (HSD.out.below hb)
                have HK := Lib.hid (HK.out.below hb)
                have HB := Lib.hid (bt HB.out hb)
                clear hb
                clear hbc hbd k1 kc kd
                go_wp2
                go_meet
                exact ⟨at_, op, sets, S, V, nts, kk, D, 0, rfl, rfl, HT.out, HR.out, HSD.out, HLW.out, Nat.le_succ_of_le hkk, HB.out⟩
        · as_aux_lemma =>
            by_cases hid : x.id < 0 ∨ 8 ≤ x.id
            · have HID := Lib.hid hid; clear hid
              refine (write_out HT.out HID.out x.w).mono ?_
              rintro e wc ⟨rfl, hb⟩
              have HT := Lib.hid (HT.out.below hb)
              have HR := Lib.hid (HR.out.below hb)
              have HSD := Lib.hid (HSD.out.below hb)
              have HK := Lib.hid (HK.out.below hb)
              have HB := Lib.hid (bt HB.out hb)
              clear hb
              clear k0 k1 k2 k3 k4 k5
              have k1 := HK.out.cells.2.1
              have k3 := HK.out.cells.2.2.2.1
              have k4 := HK.out.cells.2.2.2.2.1
              have k5 := HK.out.cells.2.2.2.2.2
              go_wp2_with (refine wpList_loadT rfl _ rfl r at_ op S V (by rfl) HR.out ?_)
              refine (rwrite_out HID.out x.w _).mono ?_
              rintro e wd ⟨rfl, hb⟩
              have HT := Lib.hid (HT.out.below hb)
              have HR := Lib.hid (HR.out.below hb)
              have HSD := Lib.hid (HSD.out.below hb)
              have HK := Lib.hid (HK.out.below hb)
              have HB := Lib.hid (bt HB.out hb)
              clear hb
              clear k1 k3 k4 k5
              go_wp2_with (refine wpList_storeT rfl _ _ rfl r (at_) (op) (S) (V) (by rfl) (by rfl) HR.out ?_; intro wz hrz hgz; have HT := Lib.hid (HT.out.refT HR.out hgz HQ.out.2.1 HQ.out.2.2.1 HQ.out.2.2.2); have HSD := Lib.hid (HSD.out.refT HR.out hgz); have HK := Lib.hid (HK.out.grown hgz HP.out.2.2.2); have HB := Lib.hid (HB.out.grown hgz HB.out.size (fun j hj => by cases hj; exact HQ.out.1)); have HR := Lib.hid hrz; clear hrz hgz)
              go_meet
              exact ⟨at_, op, sets, S, V, nts, kk, D, 7, rfl, rfl, HT.out, HR.out, HSD.out, HLW.out, Nat.le_succ_of_le hkk, HB.out⟩
            · obtain ⟨i, hi, hi8⟩ : ∃ i : Nat, x.id = (i : Int) ∧ i < 8 := ⟨x.id.toNat, by omega, by omega⟩
              clear hid
              rw [hi]
              cases ho : op i with
              | false =>
                have HO := Lib.hid ho; clear ho
                refine (write_no HT.out hi8 HO.out x.w).mono ?_
                rintro e wc ⟨rfl, hb⟩
                have HT := Lib.hid (HT.out.below hb)
                have HR := Lib.hid (HR.out.below hb)
                have HSD := Lib.hid (HSD.out.below hb)
                have HK := Lib.hid (HK.out.below hb)
                have HB := Lib.hid (bt HB.out hb)
                clear hb
                clear k0 k1 k2 k3 k4 k5
                have k1 := HK.out.cells.2.1
                have k3 := HK.out.cells.2.2.2.1
                have k4 := HK.out.cells.2.2.2.2.1
                have k5 := HK.out.cells.2.2.2.2.2
                rw [hi] at k1
                go_wp2_with (refine wpList_loadT rfl _ rfl r at_ op S V (by rfl) HR.out ?_)
                refine (rwrite_no hi8 HO.out x.w _).mono ?_
                rintro e wd ⟨rfl, hb⟩
                have HT := Lib.hid (HT.out.below hb)
                have HR := Lib.hid (HR.out.below hb)
                have HSD := Lib.hid (HSD.out.below hb)
                have HK := Lib.hid (HK.out.below hb)
                have HB := Lib.hid (bt HB.out hb)
                clear hb
                clear k1 k3 k4 k5
                go_wp2_with (refine wpList_storeT rfl _ _ rfl r (at_) (op) (S) (V) (by rfl) (by rfl) HR.out ?_; intro wz hrz hgz; have HT := Lib.hid (HT.out.refT HR.out hgz HQ.out.2.1 HQ.out.2.2.1 HQ.out.2.2.2); have HSD := Lib.hid (HSD.out.refT HR.out hgz); have HK := Lib.hid (HK.out.grown hgz HP.out.2.2.2); have HB := Lib.hid (HB.out.grown hgz HB.out.size (fun j hj => by cases hj; exact HQ.out.1)); have HR := Lib.hid hrz; clear hrz hgz)
                go_meet
                exact ⟨at_, op, sets, S, V, nts, kk, D, 7, rfl, rfl, HT.out, HR.out, HSD.out, HLW.out, Nat.le_succ_of_le hkk, HB.out⟩
              | true =>
                have HO := Lib.hid ho; clear ho
                obtain ⟨_, _, _, _, _, hrs, hln⟩ := HT.out.s i hi8
                have HRS := Lib.hid hrs; have HLN := Lib.hid hln; clear hrs hln
                refine (write_yes HT.out hi8 HO.out x.w).mono ?_
                rintro e wc ⟨rfl, ht, hc⟩
                have HR := Lib.hid (HR.out.chg hc HQ.out.2.2.1 HQ.out.2.2.2)
                have HSD := Lib.hid (HSD.out.chg hc)
                have HK := Lib.hid (HK.out.chg hc HP.out.2.1 HP.out.2.2.1)
                have HB := Lib.hid (bch HB.out hc HGB.out HGM.out)
                have HT := Lib.hid ht
                clear ht hc
                clear k0 k1 k2 k3 k4 k5
                have k1 := HK.out.cells.2.1
                have k3 := HK.out.cells.2.2.2.1
                have k4 := HK.out.cells.2.2.2.2.1
                have k5 := HK.out.cells.2.2.2.2.2
                rw [hi] at k1
                go_wp2_with (refine wpList_loadT rfl _ rfl r at_ op S V (by rfl) HR.out ?_)
                have hlts := HT.out.lts
                refine (rwrite_yes hi8 HO.out x.w (HSD.out.s i hi8) HRS.out HLN.out hlts.1 hlts.2).mono ?_
                rintro e wd ⟨s2, rfl, hs2, hb⟩
                have HS2 := Lib.hid hs2; clear hs2 hlts
                have HT := Lib.hid (HT.out.below hb)
                have HR := Lib.hid (HR.out.below hb)
                have HSD := Lib.hid (HSD.out.below hb)
                have HK := Lib.hid (HK.out.below hb)
                have HB := Lib.hid (bt HB.out hb)
                clear hb
                clear k1 k3 k4 k5
                go_wp2_with (refine wpList_storeT rfl _ _ rfl r (at_) (op) (upd S i s2) (V) (by rfl) (by rfl) HR.out ?_; intro wz hrz hgz; have HT := Lib.hid (HT.out.refT HR.out hgz HQ.out.2.1 HQ.out.2.2.1 HQ.out.2.2.2); have HSD := Lib.hid (HSD.out.refT HR.out hgz); have HS2 := Lib.hid (slF_refT HS2.out HR.out hgz); have HK := Lib.hid (HK.out.grown hgz HP.out.2.2.2); have HB := Lib.hid (HB.out.grown hgz HB.out.size (fun j hj => by cases hj; exact HQ.out.1)); have HR := Lib.hid hrz; clear hrz hgz)
                go_meet
                exact ⟨at_, op, upd sets i (putW (sets i) x.w).1, upd S i s2, V, nts, kk, D, (putW (sets i) x.w).2, rfl, rfl, HT.out, HR.out, HSD.out.upd i HS2.out, HLW.out.write hi8 HO.out x.w, Nat.le_succ_of_le hkk, HB.out⟩
      case rest =>
        rename World => wx
        clear HT HR HSD HLW HBF
        obtain ⟨at2, op2, sets2, S2, V2, nts2, kk2, D2, er, rfl, rfl, ht, hr, hsd, hlw, hkk2, hb⟩ := hcut
        have HT := Lib.hid ht; have HR := Lib.hid hr; have HSD := Lib.hid hsd; have HLW := Lib.hid hlw; have HB := Lib.hid hb
        clear ht hr hsd hlw hb
        have hee : (er != er) = false := by simp
        go_wp2_with fail
        have hb := (Below.refl wx.heap.size wx).drew
        have HTd := Lib.hid (HT.out.below hb); have HRd := Lib.hid (HR.out.below hb); have HSd := Lib.hid (HSD.out.below hb); have HBd := Lib.hid (bt HB.out hb)
        clear hb
        have R0 := Lib.hid HRd.out.ldW
        go_region_held3 (fun w' => (sW (.pointer (some ⟨r, 0, none⟩))).run Try.prog w' = .ok (mW at2 op2) w') (first | exact R0.out | exact HR2.out.ldW | exact HR3.out.ldW | exact HR4.out.ldW | exact HR5.out.ldW)
          (first
            | ((go_at_call 23; refine (tleast_any HTd.out nn).mono ?_; rintro e w2 ⟨rr, rfl, hl2, ht2, hc2⟩; have HR2 := Lib.hid (HRd.out.chg hc2 HQ.out.2.2.1 HQ.out.2.2.2)))
            | ((go_at_call 24; refine (rleast_any (at_ := at2) (op := op2) nn _).mono ?_; rintro e w3 ⟨⟨r', rfl, hl3⟩, hb3⟩; obtain rfl : r' = rr := isLeast_one hl3 hl2; have HR3 := Lib.hid (HR2.out.below hb3)))
            | ((go_at_call 25; refine (topen_any (ht2.below hb3)).mono ?_; rintro e w4 ⟨⟨A4, c4, rfl, _⟩, hb4⟩; have HR4 := Lib.hid (HR3.out.below hb4)))
            | ((go_at_call 26; refine (rlen_any (at_ := at2) (op := op2) _).mono ?_; rintro e w5 ⟨rfl, hb5⟩; have HR5 := Lib.hid (HR4.out.below hb5))))
        have HT5 := Lib.hid (((ht2.below hb3).below hb4).below hb5)
        have HS5 := Lib.hid ((((HSd.out.chg hc2).below hb3).below hb4).below hb5)
        have HB5 := Lib.hid (bt (bt (bt (bch HBd.out hc2 HGB.out HGM.out) hb3) hb4) hb5)
        clear hl2 ht2 hc2 hl3 hb3 hb4 hb5
        go_wp2
        go_loopw [140] (fun v wr => ∃ j : Nat, j ≤ 8 ∧ v = .int .i64 j ∧ Below w5.heap.size w5 wr) (fun v _ => 8 - (intOf v).toNat)
        case atStart => exact ⟨0, Nat.zero_le _, rfl, Below.refl _ _⟩
        case round =>
          rename World => wj
          obtain ⟨j, hj, rfl, hbj⟩ := hrel
          have HBJ := Lib.hid hbj; clear hbj
          by_cases hj8 : j < 8
          · have j1 : (0 : Int) ≤ (j : Int) := by omega
            have j2 : (j : Int) < 8 := by omega
            have HTJ := Lib.hid (HT5.out.below HBJ.out); have HRJ := Lib.hid (HR5.out.below HBJ.out); have HSJ := Lib.hid (HS5.out.below HBJ.out)
            go_wp2_with fail
            refine (tat_in HTJ.out hj8).mono ?_
            rintro e wa ⟨rfl, hba⟩
            have HTJ := Lib.hid (HTJ.out.below hba); have HRJ := Lib.hid (HRJ.out.below hba); have HSJ := Lib.hid (HSJ.out.below hba); have HBJ := Lib.hid (bt HBJ.out hba); clear hba
            cases ho : op2 j with
            | false =>
              as_aux_lemma =>
                rw [show atOf at2 op2 j = 0 by simp [atOf, ho]]
                obtain ⟨hz1, hz2⟩ := HLW.out.zed j hj8 ho
                have HZ1 := Lib.hid hz1; have HZ2 := Lib.hid hz2; have HO := Lib.hid ho; clear hz1 hz2 ho
                go_wp2_with fail
                refine (tset_closed HTJ.out hj8 HO.out).mono ?_
                rintro e wc ⟨rfl, hba⟩
                have HTJ := Lib.hid (HTJ.out.below hba); have HRJ := Lib.hid (HRJ.out.below hba); have HSJ := Lib.hid (HSJ.out.below hba); have HBJ := Lib.hid (bt HBJ.out hba); clear hba
                go_wp2_with fail
                have hb := (Below.refl wc.heap.size wc).drew
                have HTJ := Lib.hid (HTJ.out.below hb); have HRJ := Lib.hid (HRJ.out.below hb); have HSJ := Lib.hid (HSJ.out.below hb); have HBJ := Lib.hid (bt HBJ.out hb); clear hb
                have R0 := Lib.hid HRJ.out.ld
                have q0 := HRJ.out.a hj8
                have q1 := HRJ.out.o hj8
                have q2 := HRJ.out.s hj8
                rw [HZ1.out] at q0
                rw [HO.out] at q1
                have hs2 := (HSJ.out.s j hj8).1
                rw [HZ2.out] at hs2
                have HS2 := Lib.hid hs2; clear hs2
                have hlj := HRJ.out.lt
                go_region_held3 (fun w' => (sT (.pointer (some ⟨r, 0, none⟩))).run Try.prog w' = .ok (mT at2 op2 S2 V2) w' ∧ w'.cell? ⟨r, j, none⟩ = some (.int .u64 0) ∧ w'.cell? ⟨r, 8 + j, none⟩ = some (.bool false) ∧ w'.cell? ⟨r, 16 + j, none⟩ = some (.slice (S2 j).a (S2 j).n (S2 j).c))
                  (first | exact ⟨R0.out, q0, q1, q2⟩ | exact ⟨HY1.out.ld, (hy1.cell (p := ⟨r, j, none⟩) HRJ.out.lt).trans q0, (hy1.cell (p := ⟨r, 8 + j, none⟩) HRJ.out.lt).trans q1, (hy1.cell (p := ⟨r, 16 + j, none⟩) HRJ.out.lt).trans q2⟩ | exact ⟨HY2.out.ld, (hy2.cell (p := ⟨r, j, none⟩) HRJ.out.lt).trans q0, (hy2.cell (p := ⟨r, 8 + j, none⟩) HRJ.out.lt).trans q1, (hy2.cell (p := ⟨r, 16 + j, none⟩) HRJ.out.lt).trans q2⟩ | exact ⟨HY3.out.ld, (hy3.cell (p := ⟨r, j, none⟩) HRJ.out.lt).trans q0, (hy3.cell (p := ⟨r, 8 + j, none⟩) HRJ.out.lt).trans q1, (hy3.cell (p := ⟨r, 16 + j, none⟩) HRJ.out.lt).trans q2⟩ | exact ⟨HY4.out.ld, (hy4.cell (p := ⟨r, j, none⟩) HRJ.out.lt).trans q0, (hy4.cell (p := ⟨r, 8 + j, none⟩) HRJ.out.lt).trans q1, (hy4.cell (p := ⟨r, 16 + j, none⟩) HRJ.out.lt).trans q2⟩)
                  (first
                    | ((go_at_call 30; refine (ours_any (xs := []) (Sl.nil_ _ 3) (by omega)).mono ?_; rintro e y1 ⟨A1, c1, rfl, hs1, hy1⟩; have HY1 := Lib.hid (HRJ.out.below hy1)))
                    | ((go_at_call 29; refine (sameW_any hs1 (HS2.out.below hy1)).mono ?_; rintro e y2 ⟨he, hb2⟩; rw [eqL_t rfl] at he; obtain rfl := he; have hy2 := bt hy1 hb2; have HY2 := Lib.hid (HRJ.out.below hy2)))
                    | ((go_at_call 19; refine (clash_no (HTJ.out.below hy2) hj8 HO.out).mono ?_; rintro e y3 ⟨rfl, hb3⟩; have hy3 := bt hy2 hb3; have HY3 := Lib.hid (HRJ.out.below hy3)))
                    | ((go_at_call 20; refine (rclash_no hj8 HO.out _).mono ?_; rintro e y4 ⟨rfl, hb4⟩; have hy4 := bt hy3 hb4; have HY4 := Lib.hid (HRJ.out.below hy4))))
                have HBK := Lib.hid (bt HBJ.out hy4)
                clear hs1 hy1 hb2 hy2 hb3 hy3 hb4 hy4 q0 q1 q2
                go_wp2
                go_roundw
                case rel => exact ⟨j + 1, by omega, by go_num, HBK.out⟩
                case measure => simp [intOf]; omega
            | true =>
              as_aux_lemma =>
                rw [show atOf at2 op2 j = at2 j by simp [atOf, ho]]
                have HO := Lib.hid ho; clear ho
                go_wp2_with fail
                refine (tset_open HTJ.out hj8 HO.out).mono ?_
                rintro e wc ⟨⟨A7, n7, c7, rfl, hs7⟩, hba⟩
                have HTJ := Lib.hid (HTJ.out.below hba); have HRJ := Lib.hid (HRJ.out.below hba); have HSJ := Lib.hid (HSJ.out.below hba); have HBJ := Lib.hid (bt HBJ.out hba)
                obtain ⟨_, _, _, _, _, _, hln⟩ := HTJ.out.s j hj8
                have hn7 : n7 ≤ 16 := by rw [← slW_len hs7.1]; exact hln
                have HS7 := Lib.hid hs7.1
                clear hba hs7 hln
                go_wp2_with fail
                have hb := (Below.refl wc.heap.size wc).drew
                have HTJ := Lib.hid (HTJ.out.below hb); have HRJ := Lib.hid (HRJ.out.below hb); have HSJ := Lib.hid (HSJ.out.below hb); have HBJ := Lib.hid (bt HBJ.out hb); have HS7 := Lib.hid (HS7.out.below hb); clear hb
                have R0 := Lib.hid HRJ.out.ld
                have q0 := HRJ.out.a hj8
                have q1 := HRJ.out.o hj8
                have q2 := HRJ.out.s hj8
                rw [HO.out] at q1
                have HS2 := Lib.hid (HSJ.out.s j hj8).1
                have HKEY := Lib.hid (fun y hy => Nat.le_trans (HLW.out.key j hj8 y hy) (show 16 ≤ maxLen by unfold maxLen; omega))
                have hlj := HRJ.out.lt
                go_region_held3 (fun w' => (sT (.pointer (some ⟨r, 0, none⟩))).run Try.prog w' = .ok (mT at2 op2 S2 V2) w' ∧ w'.cell? ⟨r, j, none⟩ = some (.int .u64 (at2 j)) ∧ w'.cell? ⟨r, 8 + j, none⟩ = some (.bool true) ∧ w'.cell? ⟨r, 16 + j, none⟩ = some (.slice (S2 j).a (S2 j).n (S2 j).c))
                  (first | exact ⟨R0.out, q0, q1, q2⟩ | exact ⟨HY1.out.ld, (hy1.cell (p := ⟨r, j, none⟩) HRJ.out.lt).trans q0, (hy1.cell (p := ⟨r, 8 + j, none⟩) HRJ.out.lt).trans q1, (hy1.cell (p := ⟨r, 16 + j, none⟩) HRJ.out.lt).trans q2⟩ | exact ⟨HY2.out.ld, (hy2.cell (p := ⟨r, j, none⟩) HRJ.out.lt).trans q0, (hy2.cell (p := ⟨r, 8 + j, none⟩) HRJ.out.lt).trans q1, (hy2.cell (p := ⟨r, 16 + j, none⟩) HRJ.out.lt).trans q2⟩ | exact ⟨HY3.out.ld, (hy3.cell (p := ⟨r, j, none⟩) HRJ.out.lt).trans q0, (hy3.cell (p := ⟨r, 8 + j, none⟩) HRJ.out.lt).trans q1, (hy3.cell (p := ⟨r, 16 + j, none⟩) HRJ.out.lt).trans q2⟩ | exact ⟨HY4.out.ld, (hy4.cell (p := ⟨r, j, none⟩) HRJ.out.lt).trans q0, (hy4.cell (p := ⟨r, 8 + j, none⟩) HRJ.out.lt).trans q1, (hy4.cell (p := ⟨r, 16 + j, none⟩) HRJ.out.lt).trans q2⟩)
                  (first
                    | ((go_at_call 30; refine (ours_any HS7.out (by omega)).mono ?_; rintro e y1 ⟨A1, c1, rfl, hs1, hy1⟩; have HY1 := Lib.hid (HRJ.out.below hy1)))
                    | ((go_at_call 29; refine (sameW_any hs1 (HS2.out.below hy1)).mono ?_; rintro e y2 ⟨he, hb2⟩; rw [eqL_t rfl] at he; obtain rfl := he; have hy2 := bt hy1 hb2; have HY2 := Lib.hid (HRJ.out.below hy2)))
                    | ((go_at_call 19; refine (clash_yes (HTJ.out.below hy2) HLW.out.ni HKEY.out hj8 HO.out).mono ?_; rintro e y3 ⟨rfl, hb3⟩; have hy3 := bt hy2 hb3; have HY3 := Lib.hid (HRJ.out.below hy3)))
                    | ((go_at_call 20; refine (rclash_yes hj8 HO.out (HSJ.out.below hy3).v.1 ((HSJ.out.below hy3).s j hj8).1).mono ?_; rintro e y4 ⟨rfl, hb4⟩; have hy4 := bt hy3 hb4; have HY4 := Lib.hid (HRJ.out.below hy4))))
                have HBK := Lib.hid (bt HBJ.out hy4)
                clear hs1 hy1 hb2 hy2 hb3 hy3 hb4 hy4 q0 q1 q2
                go_wp2
                go_roundw
                case rel => exact ⟨j + 1, by omega, by go_num, HBK.out⟩
                case measure => simp [intOf]; omega
          · obtain rfl : j = 8 := by omega
            go_wp2
            go_roundw
            case rel => exact ⟨k + 1, at2, op2, sets2, S2, V2, nts2, kk2, D2, by omega, by go_num, HT5.out.below HBJ.out, HR5.out.below HBJ.out, HS5.out.below HBJ.out, HLW.out, hkk2, bt HB5.out HBJ.out⟩
            case measure => simp [intOf]; omega
    · as_aux_lemma =>
        obtain rfl : k = n := by omega
        go_wp2_with fail
        refine (topen_any HT.out).mono ?_
        rintro e wa ⟨⟨A9, c9, rfl, hs9⟩, hb⟩
        have HS9 := Lib.hid hs9; have HRA := Lib.hid (HR.out.below hb); have HBA := Lib.hid (bt HBF.out hb)
        have hm9 := sl_max hs9
        have hc8 := cnt_le op 8
        clear hs9 hb
        go_wp2
        go_loopw [21, 200] (fun v i wr => ∃ (p : Nat) (last : Int), p ≤ cnt op 8 ∧ i = .int .i64 p ∧ v = .int .i64 last ∧ (∀ q y, p ≤ q → (openL op 8)[q]? = some y → last < y) ∧ Below wa.heap.size wa wr) (fun _ i _ => cnt op 8 - (intOf i).toNat)
        case atStart => exact ⟨0, -1, Nat.zero_le _, rfl, rfl, (fun q y _ hy => by obtain ⟨i, _, rfl, _⟩ := openL_mem (List.mem_of_getElem? hy); omega), Below.refl _ _⟩
        case round =>
          rename World => wz
          obtain ⟨p, last, hp, rfl, rfl, hq, hb⟩ := hrel
          have HQQ := Lib.hid hq; have HBZ := Lib.hid hb; clear hq hb
          by_cases hpn : p < cnt op 8
          · obtain ⟨b9, o9, y, hA9, hbw9, hy, h9⟩ := slI_get (HS9.out.below HBZ.out) hpn
            subst hA9
            have hly := HQQ.out p y (Nat.le_refl _) hy
            obtain ⟨i, hi8, rfl, hoi⟩ := openL_mem (List.mem_of_getElem? hy)
            have HY := Lib.hid hy; clear hy
            have HRZ := Lib.hid (HRA.out.below HBZ.out)
            have q1 := HRZ.out.o hi8
            rw [hoi] at q1
            have hlr := HRZ.out.lt
            have i1 : (0 : Int) ≤ (i : Int) := by omega
            have i2 : (i : Int) < 8 := by omega
            have i3 : ¬ (i : Int) ≤ last := by omega
            clear hoi
            go_wp2
            go_roundw
            case rel => exact ⟨p + 1, (i : Int), by omega, by go_num, rfl, openL_next HY.out, HBZ.out⟩
            case measure => simp [intOf]; omega
          · have hpe : p = cnt op 8 := by omega
            clear hpe
            have hpn' : ¬ (p : Int) < (cnt op 8 : Int) := by omega
            go_wp2
            go_ret
            exact ⟨rfl, bt HBA.out HBZ.out⟩
end Go.Proofs.Yteaaeeidbjklbaa
