/- The walk of the law TxnAnew: it answers true, whatever comes in. -/
import Derived.Test.YteaaeeidbjklbaaTxG
import Derived.Deep.DeepCutAuto
namespace Go.Proofs.Yteaaeeidbjklbaa
open Go.RowKit Go.Maps

set_option maxRecDepth 100000 in
set_option maxHeartbeats 4000000 in
theorem lawAnew_any {A : Option Addr} {n c : Nat} {xs : List W3} {w : World} (h : SlW w A n c xs) :
    Calls Try.prog 8 #[.slice A n c] w fun e w' => e = .returned (.bool true) ∧ Below w.heap.size w w' := by
  have h_m := sl_max h
  have hl := Lib.hid (slW_len h)
  have HS := Lib.hid h; clear h
  go_enter Try.func8, Try.ntmps8
  go_wp2_with fail
  refine (alive_any w).mono ?_
  rintro e wa ⟨rfl, hb1⟩
  have HB0 := Lib.hid hb1; clear hb1
  go_wp2_with fail
  refine (few_any (HS.out.below HB0.out)).mono ?_
  rintro e wb ⟨rfl, hb⟩
  have HB := Lib.hid (bt HB0.out hb); clear hb
  cases hf : fewB xs with
  | false =>
    go_wp2
    go_ret
    exact ⟨rfl, HB.out⟩
  | true =>
  have HFW := Lib.hid hf; clear hf
  have hnn : n ≤ 60 := by have := fewB_l60 HFW.out; rw [hl.out] at this; exact this
  go_wp2_with fail
  refine (new_any wb).mono ?_
  rintro e w1 ⟨rfl, ht, hb⟩
  have HT := Lib.hid ht; have HB1 := Lib.hid (bt HB.out hb); clear ht hb
  have HSZ := Lib.hid (show wb.heap.size < w1.heap.size from HT.out.own.lt)
  have HBW := Lib.hid (fun (W : World) (hc : Chg (wb.heap.size + 1) wb.heap.size w1 W) => HB1.out.trans (hc.below (Nat.le_trans HB.out.size (Nat.le_succ _)) HB.out.size (Nat.le_trans HB.out.size (Nat.le_of_lt HSZ.out))))
  generalize hg : wb.heap.size + 2 = g at *
  generalize hb' : wb.heap.size + 1 = b at *
  generalize hM : wb.heap.size = M at *
  clear hg hb' hM
  go_wp2_with fail
  refine (begin_free HT.out ff_new 3).mono ?_
  rintro e w2 ⟨rfl, ht, hc⟩
  have HT := Lib.hid ht; have HC := Lib.hid hc; clear ht hc
  generalize (DataW.map [] : DataW Unit) = D at *
  go_wp2
  go_loopw [32] (fun v wr => ∃ p : Nat, p ≤ n ∧ v = .int .i64 p ∧ Tab wr g b M (upd (fun _ => 0) 0 3) (upd (fun _ => false) 0 true) (upd (upd (fun _ => []) 0 []) 0 (puts ((upd (fun _ => []) 0 []) 0) (xs.take p))) 0 D ∧ Chg b M w1 wr) (fun v _ => n - (intOf v).toNat)
  case atStart => exact ⟨0, Nat.zero_le _, rfl, by rw [show xs.take 0 = [] from rfl, puts_nil, upd_same']; exact HT.out, HC.out⟩
  case round =>
    rename World => wp
    obtain ⟨p, hp, rfl, ht, hc⟩ := hrel
    clear HT HC
    have HT := Lib.hid ht; have HC := Lib.hid hc; clear ht hc
    by_cases hpn : p < n
    · obtain ⟨b', o, x, hA, hbw, hx, h0, h1, h2⟩ := slW_get (HS.out.below (HBW.out _ HC.out)) hpn
      subst hA
      have HX := Lib.hid hx; clear hx
      have hbe := (Below.refl wp.heap.size wp).alloc (Nat.le_refl _) (.cells #[.string x.key, .string x.text, .bool x.gone] 38)
      have HTE := Lib.hid (HT.out.below hbe); have HCE := Lib.hid (HC.out.trans (Chg.of_below hbe)); clear hbe
      go_wp2_with fail
      refine (write_yes HTE.out (i := 0) (by omega) rfl x).mono ?_
      rintro e wq ⟨rfl, ht, hc⟩
      rw [upd_same, upd_upd] at ht
      have HT2 := Lib.hid ht; have HC2 := Lib.hid (HCE.out.trans hc); clear ht hc h0 h1 h2
      generalize (putW (upd (upd (fun _ => []) 0 []) 0 (puts ((upd (fun _ => []) 0 []) 0) (xs.take p)) 0) x).2 = er
      go_wp2
      go_roundw
      case rel => exact ⟨p + 1, by omega, by go_num, by rw [puts_succ HX.out]; exact HT2.out, HC2.out⟩
      case measure => simp [intOf]; omega
    · obtain rfl : p = n := by omega
      have HT0 := HT
      rw [List.take_of_length_le (l := xs) (by rw [hl.out]; exact Nat.le_refl _)] at HT0
      clear HT
      have HT := HT0
      clear HT0
      go_wp2_with fail
      refine (end_yes HT.out (i := 0) (by omega) rfl).mono ?_
      rintro e w3 ⟨rfl, ht, hc⟩
      have HT := Lib.hid ht; have HC := Lib.hid (HC.out.trans hc); clear ht hc
      go_wp2_with fail
      refine (tset_closed HT.out (i := 0) (by omega) rfl).mono ?_
      rintro e w4 ⟨rfl, hb⟩
      have HT := Lib.hid (HT.out.below hb); have HC := Lib.hid (HC.out.trans (Chg.of_below hb)); clear hb
      go_wp2_with fail
      refine (begin_free HT.out (i := 0) ⟨by omega, rfl, fun j h => absurd h (by omega)⟩ 4).mono ?_
      rintro e w5 ⟨rfl, ht, hc⟩
      have HT := Lib.hid ht; have HC := Lib.hid (HC.out.trans hc); clear ht hc
      go_wp2_with fail
      refine (tset_open HT.out (i := 0) (by omega) rfl).mono ?_
      rintro e w6 ⟨⟨A7, n7, c7, rfl, hs7⟩, hb⟩
      obtain rfl : n7 = 0 := (slW_len hs7.1).symm
      have HT := Lib.hid (HT.out.below hb); have HC := Lib.hid (HC.out.trans (Chg.of_below hb)); clear hb hs7
      go_wp2_with fail
      refine (tat_in HT.out (i := 0) (by omega)).mono ?_
      rintro e w7 ⟨he, hb⟩
      obtain rfl : e = .returned (.tuple #[.int .u64 4, .bool true]) := he
      have HC := Lib.hid (HC.out.trans (Chg.of_below hb)); clear hb
      go_wp2
      go_ret
      exact ⟨rfl, HBW.out _ HC.out⟩
end Go.Proofs.Yteaaeeidbjklbaa
