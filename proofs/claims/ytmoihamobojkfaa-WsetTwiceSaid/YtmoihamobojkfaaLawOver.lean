/- The walk of the law WsetOver: it answers true, whatever lists of pairs and of writes come in. -/
import Derived.Test.YtmoihamobojkfaaAlive
namespace Go.Proofs.Ytmoihamobojkfaa
open Go.RowKit

theorem fewB_len {l : List W3} (h : fewB l = true) : l.length ≤ 60 := by
  unfold fewB at h; simp only [Bool.and_eq_true, decide_eq_true_eq] at h; exact h.2

set_option maxRecDepth 100000 in
set_option maxHeartbeats 1000000 in
theorem lawOver_any {A B : Option Addr} {n c m d : Nat} {xs : List P2} {ys : List W3} {w : World} (h : SlP w A n c xs) (h' : SlW w B m d ys) :
    Calls Try.prog 3 #[.slice A n c, .slice B m d] w fun e w' => e = .returned (.bool true) ∧ Below w.heap.size w w' := by
  have hc := sl_max h
  have hd := sl_max h'
  have hl := Lib.hid (slP_len h)
  have hl' := Lib.hid (slW_len h')
  have HS := Lib.hid h; have HS' := Lib.hid h'; clear h h'
  go_enter Try.func3, Try.ntmps3
  go_wp2_with fail
  refine (alive_any _).mono ?_
  rintro e w1 ⟨rfl, hb1⟩
  have HB1 := Lib.hid hb1; clear hb1
  by_cases hn : (n : Int) ≤ 60
  case neg =>
    have hn : (60 : Int) < n := by omega
    go_wp2
    go_ret
    exact ⟨rfl, HB1.out⟩
  go_wp2_with fail
  refine (riseP_any (HS.out.below HB1.out)).mono ?_
  rintro e w2 ⟨rfl, hb2⟩
  have HB2 := Lib.hid (bt HB1.out hb2); clear hb2
  cases hr : riseB P2.key xs with
  | false =>
    go_wp2
    go_ret
    exact ⟨rfl, HB2.out⟩
  | true =>
  have HR := Lib.hid hr; clear hr
  go_wp2_with fail
  refine (few_any (HS'.out.below HB2.out)).mono ?_
  rintro e w3 ⟨rfl, hb3⟩
  have HB3 := Lib.hid (bt HB2.out hb3); clear hb3
  cases hf : fewB ys with
  | false =>
    go_wp2
    go_ret
    exact ⟨rfl, HB3.out⟩
  | true =>
  have hm : m ≤ 60 := by have := fewB_len hf; rw [hl'.out] at this; exact this
  clear hf
  go_wp2_with fail
  refine (riseW_any (HS'.out.below HB3.out)).mono ?_
  rintro e w4 ⟨rfl, hb4⟩
  have HB4 := Lib.hid (bt HB3.out hb4); clear hb4
  cases hr' : riseB W3.key ys with
  | false =>
    go_wp2
    go_ret
    exact ⟨rfl, HB4.out⟩
  | true =>
  have HR' := Lib.hid hr'; clear hr'
  have hP : Rise P2.key xs := riseB_iff.1 HR.out
  have hW : Rise W3.key ys := riseB_iff.1 HR'.out
  have HPR := Lib.hid hP; have HWR := Lib.hid hW
  clear hP hW HR HR'
  go_wp2
  go_loopw [30] (fun i wr => ∃ k : Nat, k ≤ n ∧ i = .int .i64 k ∧ Below w.heap.size w wr) (fun i _ => n - (intOf i).toNat)
  case atStart => exact ⟨0, Nat.zero_le _, rfl, HB4.out⟩
  case round =>
    obtain ⟨k, hk, rfl, hb⟩ := hrel
    have HB := Lib.hid hb; clear hb
    by_cases hlt : k < n
    · obtain ⟨b, o, x, rfl, hbw, hx, h0, h1⟩ := slP_get (HS.out.below HB.out) hlt
      clear hx
      go_wp2
      · go_ret
        exact ⟨rfl, HB.out.alloc HB.out.size _⟩
      · go_roundw
        case rel => exact ⟨k + 1, by omega, by go_num, HB.out.alloc HB.out.size _⟩
        case measure => simp [intOf]; omega
      · go_ret
        exact ⟨rfl, HB.out.alloc HB.out.size _⟩
    · go_wp2_with fail
      refine (pairs_any (HS.out.below HB.out) (by omega)).mono ?_
      rintro e w5 ⟨A5, c5, rfl, hs5, hb5⟩
      have HB5 := Lib.hid (bt HB.out hb5); have HS5 := Lib.hid hs5; clear hb5 hs5
      go_wp2_with fail
      refine (theirs_any (HS'.out.below HB5.out) (by omega)).mono ?_
      rintro e w6 ⟨A6, c6, rfl, hs6, hb6⟩
      have HB6 := Lib.hid (bt HB5.out hb6); have HS6 := Lib.hid hs6; have HS5 := Lib.hid (HS5.out.below hb6); clear hb6 hs6
      go_wp2_with fail
      refine (over_sl HS5.out HS6.out (by omega) (by omega)).mono ?_
      rintro e w7 ⟨A7, n7, c7, rfl, hs7, hb7⟩
      have hn7 := slP_len hs7
      have hle : n7 ≤ 120 := by rw [← hn7]; have := ov_len xs ys; rw [hl.out, hl'.out] at this; omega
      have HB7 := Lib.hid (bt HB6.out hb7); have HS7 := Lib.hid hs7; clear hb7 hs7 hn7
      go_wp2_with fail
      refine (back_any HS7.out (by omega)).mono ?_
      rintro e w8 ⟨A8, c8, rfl, hs8, hb8⟩
      have HB8 := Lib.hid (bt HB7.out hb8); have HS8 := Lib.hid hs8; clear hb8 hs8
      go_wp2_with fail
      refine (rover_sl (HS.out.below HB8.out) (HS'.out.below HB8.out) (by omega) (by omega)).mono ?_
      rintro e w9 ⟨A9, n9, c9, rfl, hs9, hb9⟩
      rw [rov_eq HPR.out HWR.out] at hs9
      have HB9 := Lib.hid (bt HB8.out hb9); have HS9 := Lib.hid hs9; have HS8 := Lib.hid (HS8.out.below hb9); clear hb9 hs9
      go_wp2_with fail
      refine (sameP_any HS8.out HS9.out).mono ?_
      rintro e w10 ⟨rfl, hb10⟩
      rw [eqL_t rfl]
      have HB10 := Lib.hid (bt HB9.out hb10); have HS8 := Lib.hid (HS8.out.below hb10); clear hb10
      go_wp2_with fail
      refine (riseP_any HS8.out).mono ?_
      rintro e w11 ⟨rfl, hb11⟩
      rw [riseB_iff.2 (ov_spec ys xs HPR.out HWR.out).1]
      have HB11 := Lib.hid (bt HB10.out hb11); clear hb11
      go_wp2
      go_ret
      exact ⟨rfl, HB11.out⟩
end Go.Proofs.Ytmoihamobojkfaa
