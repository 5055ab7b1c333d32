/- The walk of the law TxnOwn: it answers true, whatever comes in. -/
import Derived.Test.YteaaeeidbjklbaaTxO
import Derived.Deep.DeepCutAuto
namespace Go.Proofs.Yteaaeeidbjklbaa
open Go.RowKit Go.Maps

set_option maxRecDepth 100000 in
set_option maxHeartbeats 4000000 in
theorem lawOwn_any {A B : Option Addr} {n c m d : Nat} {xs ys : List W3} {w : World} (h : SlW w A n c xs) (h' : SlW w B m d ys) :
    Calls Try.prog 4 #[.slice A n c, .slice B m d] w fun e w' => e = .returned (.bool true) ∧ Below w.heap.size w w' := by
  have h_m := sl_max h
  have hl := Lib.hid (slW_len h)
  have HS := Lib.hid h; clear h
  have h_m' := sl_max h'
  have hl' := Lib.hid (slW_len h')
  have HS' := Lib.hid h'; clear h'
  obtain ⟨i0, hi, hz0, hz1, hz2⟩ := info_parts info_W
  have HI := Lib.hid hi; have HZ0 := Lib.hid hz0; have HZ1 := Lib.hid hz1; have HZ2 := Lib.hid hz2; clear hi hz0 hz1 hz2
  go_enter Try.func4, Try.ntmps4
  go_wp2_with fail
  refine (alive_any w).mono ?_
  rintro e wa ⟨rfl, hb1⟩
  have HB0 := Lib.hid hb1; clear hb1
  go_wp2_with fail
  refine (few_any (HS.out.below HB0.out)).mono ?_
  rintro e wa2 ⟨rfl, hb⟩
  have HB2 := Lib.hid (bt HB0.out hb); clear hb
  cases hf : fewB xs with
  | false =>
    go_wp2
    go_ret
    exact ⟨rfl, HB2.out⟩
  | true =>
  have HFW := Lib.hid hf; clear hf
  have hnn : n ≤ 60 := by have := fewB_l60 HFW.out; rw [hl.out] at this; exact this
  go_wp2_with fail
  refine (few_any (HS'.out.below HB2.out)).mono ?_
  rintro e wb ⟨rfl, hb⟩
  have HB := Lib.hid (bt HB2.out hb); clear hb
  cases hf : fewB ys with
  | false =>
    go_wp2
    go_ret
    exact ⟨rfl, HB.out⟩
  | true =>
  have HFW' := Lib.hid hf; clear hf
  have hnm : m ≤ 60 := by have := fewB_l60 HFW'.out; rw [hl'.out] at this; exact this
  go_wp2_with fail
  refine (new_any wb).mono ?_
  rintro e w1 ⟨rfl, ht, hb⟩
  have HT := Lib.hid ht; have HB1 := Lib.hid (bt HB.out hb); clear ht hb
  have HSZ := Lib.hid (show wb.heap.size < w1.heap.size from HT.out.own.lt)
  have HBW := Lib.hid (fun (W : World) (hc : Chg (wb.heap.size + 1) wb.heap.size w1 W) => HB1.out.trans (hc.below (Nat.le_trans HB.out.size (Nat.le_succ _)) HB.out.size (Nat.le_trans HB.out.size (Nat.le_of_lt HSZ.out))))
  generalize hg : wb.heap.size + 2 = g at *
  generalize hb' : wb.heap.size + 1 = b at *
  generalize hM : wb.heap.size = M at *
  clear hg hb' hM
  go_wp2_with fail
  refine (begin_free HT.out ff_new 1).mono ?_
  rintro e w2 ⟨rfl, ht, hc⟩
  have HT := Lib.hid ht; have HC := Lib.hid hc; clear ht hc
  generalize (DataW.map [] : DataW Unit) = D at *
  go_wp2_with fail
  refine (begin_free HT.out ff_second 1).mono ?_
  rintro e w2' ⟨rfl, ht, hc⟩
  have HT := Lib.hid ht; have HC := Lib.hid (HC.out.trans hc); clear ht hc
  go_wp2
  go_loopw [45] (fun v wr => ∃ p : Nat, p ≤ n ∧ v = .int .i64 p ∧ Tab wr g b M (upd (upd (fun _ => 0) 0 1) 1 1) (upd (upd (fun _ => false) 0 true) 1 true) (upd (upd (upd (fun _ => ([] : List W3)) 0 []) 1 []) 0 (puts ((upd (upd (fun _ => ([] : List W3)) 0 []) 1 []) 0) (xs.take p))) 0 D ∧ Chg b M w1 wr) (fun v _ => n - (intOf v).toNat)
  case atStart => exact ⟨0, Nat.zero_le _, rfl, by rw [show xs.take 0 = [] from rfl, puts_nil, upd_same']; exact HT.out, HC.out⟩
  case round =>
    rename World => wp
    obtain ⟨p, hp, rfl, ht, hc⟩ := hrel
    clear HT HC
    have HT := Lib.hid ht; have HC := Lib.hid hc; clear ht hc
    by_cases hpn : p < n
    · obtain ⟨b', o, x, hA, hbw, hx, h0, h1, h2⟩ := slW_get (HS.out.below (HBW.out _ HC.out)) hpn
      subst hA
      have HX := Lib.hid hx; clear hx
      have hbe := (Below.refl wp.heap.size wp).alloc (Nat.le_refl _) (.cells #[.string x.key, .string x.text, .bool x.gone] 38)
      have HTE := Lib.hid (HT.out.below hbe); have HCE := Lib.hid (HC.out.trans (Chg.of_below hbe)); clear hbe
      go_wp2_with fail
      refine (write_yes HTE.out (i := 0) (by omega) rfl x).mono ?_
      rintro e wq ⟨rfl, ht, hc⟩
      rw [upd_same (upd (upd (fun _ => ([] : List W3)) 0 []) 1 []) 0 (puts ((upd (upd (fun _ => ([] : List W3)) 0 []) 1 []) 0) (xs.take p)), upd_upd (upd (upd (fun _ => ([] : List W3)) 0 []) 1 []) 0] at ht
      have HT2 := Lib.hid ht; have HC2 := Lib.hid (HCE.out.trans hc); clear ht hc h0 h1 h2
      generalize (putW (upd (upd (upd (fun _ => ([] : List W3)) 0 []) 1 []) 0 (puts ((upd (upd (fun _ => ([] : List W3)) 0 []) 1 []) 0) (xs.take p)) 0) x).2 = er
      go_wp2
      go_roundw
      case rel => exact ⟨p + 1, by omega, by go_num, by rw [puts_succ HX.out]; exact HT2.out, HC2.out⟩
      case measure => simp [intOf]; omega
    · obtain rfl : n = p := by omega
      have HT0 := HT
      rw [List.take_of_length_le (l := xs) (by rw [hl.out]; exact Nat.le_refl _)] at HT0
      clear HT
      have HT := HT0
      clear HT0
      have HLSA := Lib.hid (show Rise W3.key (puts ((upd (upd (fun _ => ([] : List W3)) 0 []) 1 []) 0) xs) ∧ (puts ((upd (upd (fun _ => ([] : List W3)) 0 []) 1 []) 0) xs).length ≤ 16 from puts_len xs [] rise_nil (by simp))
      generalize puts ((upd (upd (fun _ => ([] : List W3)) 0 []) 1 []) 0) xs = SA at HT HLSA
      go_wp2_with fail
      refine (tset_own HT.out (i := 0) (by omega) rfl).mono ?_
      rintro e wS ⟨⟨v7, rfl, ho7⟩, hb⟩
      have ho7 : wS.ownsRow _ 50 3 v7 SA.length (cW SA) := ho7
      have HN7 := Lib.hid (show SA.length ≤ 16 from HLSA.out.2)
      generalize hn7 : SA.length = n7 at ho7 HN7
      clear hn7
      have hn7 := HN7.out
      obtain ⟨A7, c7, G, rfl, hss, hgs, hav, hal⟩ := own_alt HT.out hb ho7
      have HSS := Lib.hid hss; have HGS := Lib.hid hgs; have HAV := Lib.hid hav
      have HW0 := Lib.hid (HBW.out _ HC.out).size
      have HAL := Lib.hid (fun hn0 => And.intro (hal hn0).1 (Nat.le_trans HW0.out (hal hn0).2.1))
      have HRS := Lib.hid (fun hn0 => (hal hn0).2.2)
      have HGN := Lib.hid (fun hn0 => show g ≠ G ∧ b ≠ G ∧ M ≠ G from ⟨fun e => by have h1 := (hal hn0).2.1; have h2 := HT.out.gl; omega, fun e => by have h1 := (hal hn0).2.1; have h2 := HT.out.lts.1; omega, fun e => by have h1 := (hal hn0).2.1; have h2 := HT.out.lts.2; omega⟩)
      have HT := Lib.hid (HT.out.below hb); have HC := Lib.hid (HC.out.trans (Chg.of_below hb)); clear hb ho7 hss hgs hav hal
      have h_m7 := sl_max HSS.out.1
      go_wp2
      go_loopw [62] (fun v wr => ∃ p : Nat, p ≤ m ∧ v = .int .i64 p ∧ Tab wr g b M (upd (upd (fun _ => 0) 0 1) 1 1) (upd (upd (fun _ => false) 0 true) 1 true) (upd (upd (upd (upd (fun _ => ([] : List W3)) 0 []) 1 []) 0 SA) 1 (puts ((upd (upd (upd (fun _ => ([] : List W3)) 0 []) 1 []) 0 SA) 1) (ys.take p))) 0 D ∧ Chg b M w1 wr ∧ Chg b M wS wr ∧ Avo wr b G) (fun v _ => m - (intOf v).toNat)
      case atStart => exact ⟨0, Nat.zero_le _, rfl, by rw [show ys.take 0 = [] from rfl, puts_nil, upd_same']; exact HT.out, HC.out, Chg.refl _ _ _, HAV.out⟩
      case round =>
        rename World => wu
        obtain ⟨p, hp, rfl, ht, hc, hcs, hav⟩ := hrel
        clear HT HC HAV
        have HT := Lib.hid ht; have HC := Lib.hid hc; have HCS := Lib.hid hcs; have HAV := Lib.hid hav; clear ht hc hcs hav
        by_cases hpn : p < m
        · obtain ⟨b', o, x, hA, hbw, hx, h0, h1, h2⟩ := slW_get (HS'.out.below (HBW.out _ HC.out)) hpn
          subst hA
          have HX := Lib.hid hx; clear hx
          have hbe := (Below.refl wu.heap.size wu).alloc (Nat.le_refl _) (.cells #[.string x.key, .string x.text, .bool x.gone] 38)
          have HTE := Lib.hid (HT.out.below hbe); have HCE := Lib.hid (HC.out.trans (Chg.of_below hbe)); have HCSE := Lib.hid (HCS.out.trans (Chg.of_below hbe)); have HAVE := Lib.hid (HAV.out.below HT.out.lts.1 hbe); clear hbe
          have HGE := Lib.hid (Nat.lt_of_lt_of_le HGS.out HCSE.out.size)
          go_wp2_with fail
          refine (write_av HTE.out HGE.out HAVE.out (i := 1) (by omega) rfl x).mono ?_
          rintro e wq ⟨rfl, ht, hc, hav⟩
          rw [upd_same (upd (upd (upd (fun _ => ([] : List W3)) 0 []) 1 []) 0 SA) 1 (puts ((upd (upd (upd (fun _ => ([] : List W3)) 0 []) 1 []) 0 SA) 1) (ys.take p)), upd_upd (upd (upd (upd (fun _ => ([] : List W3)) 0 []) 1 []) 0 SA) 1] at ht
          have HT2 := Lib.hid ht; have HC2 := Lib.hid (HCE.out.trans hc); have HCS2 := Lib.hid (HCSE.out.trans hc); have HAV2 := Lib.hid hav; clear ht hc hav h0 h1 h2
          generalize (putW (upd (upd (upd (upd (fun _ => ([] : List W3)) 0 []) 1 []) 0 SA) 1 (puts ((upd (upd (upd (fun _ => ([] : List W3)) 0 []) 1 []) 0 SA) 1) (ys.take p)) 1) x).2 = er
          go_wp2
          go_roundw
          case rel => exact ⟨p + 1, by omega, by go_num, by rw [puts_succ HX.out]; exact HT2.out, HC2.out, HCS2.out, HAV2.out⟩
          case measure => simp [intOf]; omega
        · obtain rfl : m = p := by omega
          have HT0 := HT
          rw [List.take_of_length_le (l := ys) (by rw [hl'.out]; exact Nat.le_refl _)] at HT0
          clear HT
          have HT := HT0
          clear HT0
          have HSZ0 := Lib.hid (show (upd (upd (upd (upd (fun _ => ([] : List W3)) 0 []) 1 []) 0 SA) 1 (puts ((upd (upd (upd (fun _ => ([] : List W3)) 0 []) 1 []) 0 SA) 1) ys)) 0 = SA from rfl)
          generalize upd (upd (upd (upd (fun _ => ([] : List W3)) 0 []) 1 []) 0 SA) 1 (puts ((upd (upd (upd (fun _ => ([] : List W3)) 0 []) 1 []) 0 SA) 1) ys) = SS at HT HSZ0
          have HGL := Lib.hid (Nat.lt_of_lt_of_le HGS.out HCS.out.size)
          have HBF0 := Lib.hid (HBW.out _ HC.out)
          have HSS := Lib.hid (HSS.out.chg HCS.out)
          have HRN0 := Lib.hid (fun hn0 => (HRS.out hn0).block (HCS.out.block G HGS.out (fun e => (HGN.out hn0).2.1 e.symm) (fun e => (HGN.out hn0).2.2 e.symm)))
          clear HRS
          go_wp2_with (at_builtin; refine wpList_append_sl _ rfl _ _ 52 rfl wu.heap.size 50 i0 (.agg #[.string ⟨#[]⟩, .string ⟨#[]⟩, .bool false]) 3 40 Try.underlying52 HI.out HZ0.out HZ1.out HZ2.out rfl (by decide) _ 0 [] rfl (World.ownsRow_nil _ _ _ _) A7 n7 c7 (cW SA) rfl HSS.out.1 (one_cW SA) ?c3 ?c4 ?c5 ?_)
          case c3 => unfold maxLen; omega
          case c4 => omega
          case c5 => exact Nat.le_refl _
          intro v4 w4 hown4 hg4
          have hb4 : Below wu.heap.size wu w4 := (Below.refl _ _).grown hg4 (Nat.le_refl _) (fun k hk => by cases hk)
          obtain ⟨A8, c8, rfl, hs8⟩ := SlF.of_own hown4 HGL.out HGL.out
          have HKP := Lib.hid hs8; clear hs8 hown4 hg4
          have HAV := Lib.hid (HAV.out.below HT.out.lts.1 hb4)
          have HRN := Lib.hid (fun hn0 => (HRN0.out hn0).block (hb4.block G HGL.out))
          have HT := Lib.hid (HT.out.below hb4)
          have HBF := Lib.hid (bt HBF0.out hb4)
          clear hb4
          go_wp2
          go_loopw [75] (fun v wr => ∃ p : Nat, p ≤ n7 ∧ v = .int .i64 p ∧ Tab wr g b M (upd (upd (fun _ => 0) 0 1) 1 1) (upd (upd (fun _ => false) 0 true) 1 true) SS 0 D ∧ Avo wr b G ∧ (0 < n7 → RowN wr G n7) ∧ SlF wr G G A8 n7 c8 SA ∧ Below w.heap.size w wr) (fun v _ => n7 - (intOf v).toNat)
          case atStart => exact ⟨0, Nat.zero_le _, rfl, HT.out, HAV.out, HRN.out, HKP.out, HBF.out⟩
          case round =>
            rename World => wo
            obtain ⟨p, hp, rfl, ht, hav, hrn, hkp, hbf⟩ := hrel
            clear HT HAV HRN HKP HBF HC
            have HT := Lib.hid ht; have HAV := Lib.hid hav; have HRN := Lib.hid hrn; have HKP := Lib.hid hkp; have HBF := Lib.hid hbf; clear ht hav hrn hkp hbf
            by_cases hpn : p < n7
            · have hn0 : 0 < n7 := by omega
              obtain ⟨hA7, hG7⟩ := HAL.out hn0
              subst hA7
              have HG7 := Lib.hid hG7
              have HNE := Lib.hid (HGN.out hn0)
              have hq : p * 3 + 1 < n7 * 3 := by omega
              obtain ⟨⟨u0, f0⟩, f1⟩ := HRN.out hn0 (p * 3 + 1) hq
              have HT2 := Lib.hid (HT.out.far HAV.out (set_grown wo G (p * 3 + 1) (.string ⟨#[111, 118, 101, 114]⟩)) HNE.out.1 HNE.out.2.1 HNE.out.2.2)
              have HAV2 := Lib.hid (Avo.same (w1 := wo.setCell ⟨G, p * 3 + 1, none⟩ (.string ⟨#[111, 118, 101, 114]⟩)) HAV.out (fun j _ => World.cell?_setCell_other _ _ _ _ (fun e => HNE.out.2.1 (by injection e with e; exact e.symm))))
              have HRN2 := Lib.hid ((HRN.out hn0).set hq (.string ⟨#[111, 118, 101, 114]⟩))
              have HKP2 := Lib.hid (HKP.out.chg (w1 := wo.setCell ⟨G, p * 3 + 1, none⟩ (.string ⟨#[111, 118, 101, 114]⟩)) ⟨rfl, rfl, rfl, by rw [setSize]; exact Nat.le_refl _, fun j _ hj _ => Below.heap_setCell _ _ _ j hj⟩)
              have HBF2 := Lib.hid (HBF.out.setCell (p := ⟨G, p * 3 + 1, none⟩) HG7.out (.string ⟨#[111, 118, 101, 114]⟩))
              clear hG7
              go_wp2
              go_roundw
              case rel => exact ⟨p + 1, by omega, by go_num, HT2.out, HAV2.out, fun _ => HRN2.out, HKP2.out, HBF2.out⟩
              case measure => simp [intOf]; omega
            · obtain rfl : n7 = p := by omega
              go_wp2_with fail
              refine (tset_open HT.out (i := 0) (by omega) rfl).mono ?_
              rintro e w6 ⟨⟨A9, n9, c9, rfl, hs9⟩, hb⟩
              rw [HSZ0.out] at hs9
              have HS9 := Lib.hid hs9.1
              have hn9 : n9 ≤ 16 := by rw [← slW_len HS9.out]; exact HLSA.out.2
              have HK9 := Lib.hid (HKP.out.1.below hb); have HBF := Lib.hid (bt HBF.out hb); clear hb hs9
              go_wp2_with fail
              refine (ours_any HS9.out (by omega)).mono ?_
              rintro e w7 ⟨Aa, ca, rfl, hsa, hb⟩
              have HSa := Lib.hid hsa; have HK9 := Lib.hid (HK9.out.below hb); have HBF := Lib.hid (bt HBF.out hb); clear hb hsa
              go_wp2_with fail
              refine (ours_any HK9.out (by omega)).mono ?_
              rintro e w8 ⟨Ab, cb, rfl, hsb, hb⟩
              have HSb := Lib.hid hsb; have HSa := Lib.hid (HSa.out.below hb); have HBF := Lib.hid (bt HBF.out hb); clear hb hsb
              go_wp2_with fail
              refine (sameW_any HSa.out HSb.out).mono ?_
              rintro e w9 ⟨rfl, hb⟩
              have HBF := Lib.hid (bt HBF.out hb); clear hb
              go_wp2
              go_ret
              exact ⟨by rw [eqL_t rfl]; rfl, HBF.out⟩
end Go.Proofs.Yteaaeeidbjklbaa
