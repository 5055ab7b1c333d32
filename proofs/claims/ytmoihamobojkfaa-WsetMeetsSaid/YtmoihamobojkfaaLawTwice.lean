/- The walk of the law WsetTwice: it answers true, whatever comes in. -/
import Derived.Test.YtmoihamobojkfaaLawOver
namespace Go.Proofs.Ytmoihamobojkfaa
open Go.RowKit

/-- the writes that are not gone -/
def live (s : List W3) : List W3 := s.filter (fun w => !w.gone)
theorem live_yes {s : List W3} {k : Nat} {x : W3} (hx : s[k]? = some x) (h : x.gone = false) : (live (s.take (k + 1))).length = (live (s.take k)).length + 1 := by
  unfold live; rw [take_at hx, List.filter_append, List.filter_cons_of_pos (by simp [h]), List.length_append]; rfl
theorem live_no {s : List W3} {k : Nat} {x : W3} (hx : s[k]? = some x) (h : x.gone = true) : (live (s.take (k + 1))).length = (live (s.take k)).length := by
  unfold live; rw [take_at hx, List.filter_append, List.filter_cons_of_neg (by simp [h]), List.filter_nil, List.append_nil]
theorem live_len (s : List W3) (k : Nat) : (live (s.take k)).length ≤ k := by
  have h1 := List.length_filter_le (fun w : W3 => !w.gone) (s.take k)
  have h2 := List.length_take_le k s
  unfold live; omega
theorem ov_nil_len (s : List W3) : (live s).length = (ov [] s).length := by
  induction s with
  | nil => rfl
  | cons w s ih =>
    rw [ov_none]
    unfold emit live
    cases hg : w.gone with
    | true => rw [List.filter_cons_of_neg (by simp [hg]), if_pos rfl]; exact ih
    | false => rw [List.filter_cons_of_pos (by simp [hg]), if_neg (by simp), List.length_cons, List.length_cons, ← ih]; rfl
theorem ov_twice {l : List P2} {s : List W3} (hl : Rise P2.key l) (hs : Rise W3.key s) : ov (ov l s) s = ov l s := by
  obtain ⟨h1, h2, _⟩ := ov_spec s l hl hs
  obtain ⟨h3, h4, _⟩ := ov_spec s (ov l s) h1 hs
  refine rise_ext h3 h1 fun k => ?_
  rw [h4]
  cases hk : look W3.key k s with
  | some w => rw [h2]; unfold seen; rw [hk]
  | none => unfold seen; rw [hk]

set_option maxRecDepth 100000 in
set_option maxHeartbeats 2000000 in
theorem lawTwice_any {A B : Option Addr} {n c m d : Nat} {xs : List P2} {ys : List W3} {w : World} (h : SlP w A n c xs) (h' : SlW w B m d ys) :
    Calls Try.prog 7 #[.slice A n c, .slice B m d] w fun e w' => e = .returned (.bool true) ∧ Below w.heap.size w w' := by
  have h_m := sl_max h
  have hl := Lib.hid (slP_len h)
  have HS := Lib.hid h; clear h
  have h'_m := sl_max h'
  have hl' := Lib.hid (slW_len h')
  have HS' := Lib.hid h'; clear h'
  go_enter Try.func7, Try.ntmps7
  go_wp2_with fail
  refine (alive_any _).mono ?_
  rintro e w1 ⟨rfl, hb1⟩
  have HB1 := Lib.hid (hb1)
  clear hb1
  by_cases hlen1 : (n : Int) ≤ 60
  case neg =>
    have hlen1 : (60 : Int) < n := by omega
    go_wp2
    go_ret
    exact ⟨rfl, HB1.out⟩
  go_wp2_with fail
  refine (riseP_any (HS.out.below HB1.out)).mono ?_
  rintro e w2 ⟨rfl, hb2⟩
  have HB2 := Lib.hid (bt HB1.out hb2)
  clear hb2
  cases hr : riseB P2.key xs with
  | false =>
    go_wp2
    go_ret
    exact ⟨rfl, HB2.out⟩
  | true =>
  have HP := Lib.hid (riseB_iff.1 hr); clear hr
  go_wp2_with fail
  refine (few_any (HS'.out.below HB2.out)).mono ?_
  rintro e w3 ⟨rfl, hb3⟩
  have HB3 := Lib.hid (bt HB2.out hb3)
  clear hb3
  cases hf : fewB ys with
  | false =>
    go_wp2
    go_ret
    exact ⟨rfl, HB3.out⟩
  | true =>
  have m60 : m ≤ 60 := by have := fewB_len hf; rw [hl'.out] at this; exact this
  clear hf
  go_wp2_with fail
  refine (riseW_any (HS'.out.below HB3.out)).mono ?_
  rintro e w4 ⟨rfl, hb4⟩
  have HB4 := Lib.hid (bt HB3.out hb4)
  clear hb4
  cases hr : riseB W3.key ys with
  | false =>
    go_wp2
    go_ret
    exact ⟨rfl, HB4.out⟩
  | true =>
  have HW := Lib.hid (riseB_iff.1 hr); clear hr
  go_wp2_with fail
  refine (pairs_any (HS.out.below HB4.out) (by omega)).mono ?_
  rintro e w5 ⟨A5, c5, rfl, hs5, hb5⟩
  have HB5 := Lib.hid (bt HB4.out hb5)
  have F5 := Lib.hid hs5; clear hs5
  clear hb5
  go_wp2_with fail
  refine (theirs_any (HS'.out.below HB5.out) (by omega)).mono ?_
  rintro e w6 ⟨A6, c6, rfl, hs6, hb6⟩
  have HB6 := Lib.hid (bt HB5.out hb6)
  have F5 := Lib.hid (F5.out.below hb6)
  have F6 := Lib.hid hs6; clear hs6
  clear hb6
  go_wp2_with fail
  refine (over_sl F5.out F6.out (by omega) (by omega)).mono ?_
  rintro e w7 ⟨A7, n7, c7, rfl, hs7, hb7⟩
  have HB7 := Lib.hid (bt HB6.out hb7)
  have F5 := Lib.hid (F5.out.below hb7)
  have F6 := Lib.hid (F6.out.below hb7)
  have F7 := Lib.hid hs7; clear hs7
  clear hb7
  have hle7 : n7 ≤ 120 := by rw [← slP_len F7.out]; have := ov_len xs ys; rw [hl.out, hl'.out] at this; omega
  go_wp2
  go_loopw [6, 36] (fun v i wr => ∃ k : Nat, k ≤ m ∧ i = .int .i64 k ∧ v = .int .i64 (live (ys.take k)).length ∧ Below w7.heap.size w7 wr) (fun _ i _ => m - (intOf i).toNat)
  case atStart => exact ⟨0, Nat.zero_le _, rfl, rfl, Below.refl _ _⟩
  case round =>
    obtain ⟨k, hk, rfl, rfl, hb⟩ := hrel
    have hlk := live_len ys k
    by_cases hlt : k < m
    · obtain ⟨b, o, x, rfl, hbw, hx, h0, h1, h2⟩ := slW_get (HS'.out.below (bt HB7.out hb)) hlt
      have HX := Lib.hid hx; clear hx
      have HBB := Lib.hid hb; clear hb
      cases hg : x.gone with
      | true =>
        rw [hg] at h2
        go_wp2
        go_roundw
        case rel => exact ⟨k + 1, by omega, by go_num, by rw [live_no HX.out hg], HBB.out.alloc HBB.out.size _⟩
        case measure => simp [intOf]; omega
      | false =>
        rw [hg] at h2
        go_wp2
        go_roundw
        case rel => exact ⟨k + 1, by omega, by go_num, by rw [live_yes HX.out hg]; go_num, HBB.out.alloc HBB.out.size _⟩
        case measure => simp [intOf]; omega
    · obtain rfl : k = m := by omega
      have hb8 := hb
      have HLV := Lib.hid (show (live (ys.take k)).length = (ov [] ys).length by rw [List.take_of_length_le (by rw [hl'.out]; exact Nat.le_refl _), ov_nil_len])
      have HB8 := Lib.hid (bt HB7.out hb8)
      have F7 := Lib.hid (F7.out.below hb8)
      clear hb hb8
      go_wp2_with fail
      refine (theirs_any (HS'.out.below HB8.out) (by omega)).mono ?_
      rintro e w9 ⟨A9, c9, rfl, hs9, hb9⟩
      have HB9 := Lib.hid (bt HB8.out hb9)
      have F7 := Lib.hid (F7.out.below hb9)
      have F9 := Lib.hid hs9; clear hs9
      clear hb9
      go_wp2_with fail
      refine (over_sl F7.out F9.out (by omega) (by omega)).mono ?_
      rintro e w10 ⟨A10, n10, c10, rfl, hs10, hb10⟩
      have HB10 := Lib.hid (bt HB9.out hb10)
      have F7 := Lib.hid (F7.out.below hb10)
      have F9 := Lib.hid (F9.out.below hb10)
      have F10 := Lib.hid hs10; clear hs10
      clear hb10
      have HLE10 : n10 ≤ 240 := by rw [← slP_len F10.out]; have := ov_len (ov xs ys) ys; have h2 := ov_len xs ys; rw [hl.out, hl'.out] at h2; rw [hl'.out] at this; omega
      go_wp2_with fail
      refine (back_any F10.out (by omega)).mono ?_
      rintro e w11 ⟨A11, c11, rfl, hs11, hb11⟩
      have HB11 := Lib.hid (bt HB10.out hb11)
      have F7 := Lib.hid (F7.out.below hb11)
      have F10 := Lib.hid (F10.out.below hb11)
      have F11 := Lib.hid hs11; clear hs11
      clear hb11
      go_wp2_with fail
      refine (back_any F7.out (by omega)).mono ?_
      rintro e w12 ⟨A12, c12, rfl, hs12, hb12⟩
      have HB12 := Lib.hid (bt HB11.out hb12)
      have F7 := Lib.hid (F7.out.below hb12)
      have F11 := Lib.hid (F11.out.below hb12)
      have F12 := Lib.hid hs12; clear hs12
      clear hb12
      have HTW := Lib.hid (ov_twice HP.out HW.out)
      go_wp2_with fail
      refine (sameP_any F11.out F12.out).mono ?_
      rintro e w13 ⟨rfl, hb13⟩
      have HB13 := Lib.hid (bt HB12.out hb13)
      have F7 := Lib.hid (F7.out.below hb13)
      have F11 := Lib.hid (F11.out.below hb13)
      have F12 := Lib.hid (F12.out.below hb13)
      clear hb13
      rw [eqL_t HTW.out]
      go_wp2_with fail
      refine (theirs_any (HS'.out.below HB13.out) (by omega)).mono ?_
      rintro e w14 ⟨A14, c14, rfl, hs14, hb14⟩
      have HB14 := Lib.hid (bt HB13.out hb14)
      have F14 := Lib.hid hs14; clear hs14
      clear hb14
      go_wp2_with fail
      refine (over_sl (xs := []) (Sl.nil_ _ 2) F14.out (by omega) (by omega)).mono ?_
      rintro e w15 ⟨A15, n15, c15, rfl, hs15, hb15⟩
      have HB15 := Lib.hid (bt HB14.out hb15)
      have F14 := Lib.hid (F14.out.below hb15)
      have F15 := Lib.hid hs15; clear hs15
      clear hb15
      have hn15 : ((n15 : Int) == ((live (ys.take k)).length : Int)) = true := by rw [← slP_len F15.out, HLV.out]; simp
      go_wp2_with fail
      refine (pairs_any (HS.out.below HB15.out) (by omega)).mono ?_
      rintro e w16 ⟨A16, c16, rfl, hs16, hb16⟩
      have HB16 := Lib.hid (bt HB15.out hb16)
      have F16 := Lib.hid hs16; clear hs16
      clear hb16
      go_wp2_with fail
      refine (over_sl (ys := []) F16.out (Sl.nil_ _ 3) (by omega) (by omega)).mono ?_
      rintro e w17 ⟨A17, n17, c17, rfl, hs17, hb17⟩
      have HB17 := Lib.hid (bt HB16.out hb17)
      have F16 := Lib.hid (F16.out.below hb17)
      have F17 := Lib.hid hs17; clear hs17
      clear hb17
      have hle17 : n17 ≤ 60 := by rw [← slP_len F17.out, ov_nil, hl.out]; omega
      go_wp2_with fail
      refine (back_any F17.out (by omega)).mono ?_
      rintro e w18 ⟨A18, c18, rfl, hs18, hb18⟩
      have HB18 := Lib.hid (bt HB17.out hb18)
      have F17 := Lib.hid (F17.out.below hb18)
      have F18 := Lib.hid hs18; clear hs18
      clear hb18
      go_wp2_with fail
      refine (sameP_any F18.out (HS.out.below HB18.out)).mono ?_
      rintro e w19 ⟨rfl, hb19⟩
      have HB19 := Lib.hid (bt HB18.out hb19)
      have F18 := Lib.hid (F18.out.below hb19)
      clear hb19
      rw [ov_nil, eqL_t rfl]
      go_wp2
      go_ret
      exact ⟨rfl, HB19.out⟩
end Go.Proofs.Ytmoihamobojkfaa
