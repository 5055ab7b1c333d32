/- The walk of the law WsetBoth: it answers true, whatever comes in. -/
import Derived.Test.YtmoihamobojkfaaLawMeets
namespace Go.Proofs.Ytmoihamobojkfaa
open Go.RowKit

/-- a set with more writes, each in the place of that of its key -/
def laidW (a b : List W3) : List W3 := b.foldl (fun s w => ins W3.key s w) a
theorem laidW_rise {a : List W3} (h : Rise W3.key a) (b : List W3) : Rise W3.key (laidW a b) := by
  unfold laidW
  induction b generalizing a with
  | nil => exact h
  | cons w b ih => exact ih (rise_ins h w)
theorem laidW_succ {a b : List W3} {k : Nat} {x : W3} (hx : b[k]? = some x) : laidW a (b.take (k + 1)) = ins W3.key (laidW a (b.take k)) x := by
  unfold laidW; rw [take_at hx, List.foldl_append]; rfl
theorem laidW_look {a : List W3} (h : Rise W3.key a) {b : List W3} (hb : Rise W3.key b) (k : ByteArray) : look W3.key k (laidW a b) = match look W3.key k b with | some w => some w | none => look W3.key k a := by
  induction b generalizing a with
  | nil => rfl
  | cons w b ih =>
    obtain ⟨h1, h2⟩ := rise_cons.1 hb
    show look W3.key k (laidW (ins W3.key a w) b) = _
    rw [ih (rise_ins h w) h2, look_cons]
    by_cases hk : w.key = k
    · subst hk; rw [if_pos rfl, look_gt h1]; dsimp only; rw [look_ins h, if_pos rfl]
    · rw [if_neg hk]
      cases look W3.key k b with
      | some z => rfl
      | none => dsimp only; rw [look_ins h, if_neg hk]
theorem ov_both {l : List P2} {a b : List W3} (hl : Rise P2.key l) (ha : Rise W3.key a) (hb : Rise W3.key b) : ov (ov l a) b = ov l (laidW a b) := by
  obtain ⟨h1, h2, _⟩ := ov_spec a l hl ha
  obtain ⟨h3, h4, _⟩ := ov_spec b (ov l a) h1 hb
  obtain ⟨h5, h6, _⟩ := ov_spec (laidW a b) l hl (laidW_rise ha b)
  refine rise_ext h3 h5 fun k => ?_
  rw [h4, h6]
  unfold seen
  rw [laidW_look ha hb, h2]
  cases look W3.key k b with
  | some w => rfl
  | none => rfl

set_option maxRecDepth 100000 in
set_option maxHeartbeats 2000000 in
theorem lawBoth_any {A B C : Option Addr} {n c m d q r : Nat} {xs : List P2} {ys zs : List W3} {w : World} (h : SlP w A n c xs) (h' : SlW w B m d ys) (h2 : SlW w C q r zs) :
    Calls Try.prog 5 #[.slice A n c, .slice B m d, .slice C q r] w fun e w' => e = .returned (.bool true) ∧ Below w.heap.size w w' := by
  have h_m := sl_max h
  have hl := Lib.hid (slP_len h)
  have HS := Lib.hid h; clear h
  have h'_m := sl_max h'
  have hla := Lib.hid (slW_len h')
  have HA := Lib.hid h'; clear h'
  have h2_m := sl_max h2
  have hlz := Lib.hid (slW_len h2)
  have HZ := Lib.hid h2; clear h2
  go_enter Try.func5, Try.ntmps5
  go_wp2_with fail
  refine (alive_any _).mono ?_
  rintro e w1 ⟨rfl, hb1⟩
  have HB1 := Lib.hid (hb1)
  clear hb1
  by_cases hlen1 : (n : Int) ≤ 60
  case neg =>
    have hlen1 : (60 : Int) < n := by omega
    go_wp2
    go_ret
    exact ⟨rfl, HB1.out⟩
  go_wp2_with fail
  refine (riseP_any (HS.out.below HB1.out)).mono ?_
  rintro e w2 ⟨rfl, hb2⟩
  have HB2 := Lib.hid (bt HB1.out hb2)
  clear hb2
  cases hr : riseB P2.key xs with
  | false =>
    go_wp2
    go_ret
    exact ⟨rfl, HB2.out⟩
  | true =>
  have HP := Lib.hid (riseB_iff.1 hr); clear hr
  go_wp2_with fail
  refine (few_any (HA.out.below HB2.out)).mono ?_
  rintro e w3 ⟨rfl, hb3⟩
  have HB3 := Lib.hid (bt HB2.out hb3)
  clear hb3
  cases hf : fewB ys with
  | false =>
    go_wp2
    go_ret
    exact ⟨rfl, HB3.out⟩
  | true =>
  have m60 : m ≤ 60 := by have := fewB_len hf; rw [hla.out] at this; exact this
  clear hf
  go_wp2_with fail
  refine (few_any (HZ.out.below HB3.out)).mono ?_
  rintro e w4 ⟨rfl, hb4⟩
  have HB4 := Lib.hid (bt HB3.out hb4)
  clear hb4
  cases hf : fewB zs with
  | false =>
    go_wp2
    go_ret
    exact ⟨rfl, HB4.out⟩
  | true =>
  have q60 : q ≤ 60 := by have := fewB_len hf; rw [hlz.out] at this; exact this
  clear hf
  go_wp2_with fail
  refine (riseW_any (HA.out.below HB4.out)).mono ?_
  rintro e w5 ⟨rfl, hb5⟩
  have HB5 := Lib.hid (bt HB4.out hb5)
  clear hb5
  cases hr : riseB W3.key ys with
  | false =>
    go_wp2
    go_ret
    exact ⟨rfl, HB5.out⟩
  | true =>
  have HW := Lib.hid (riseB_iff.1 hr); clear hr
  go_wp2_with fail
  refine (riseW_any (HZ.out.below HB5.out)).mono ?_
  rintro e w6 ⟨rfl, hb6⟩
  have HB6 := Lib.hid (bt HB5.out hb6)
  clear hb6
  cases hr : riseB W3.key zs with
  | false =>
    go_wp2
    go_ret
    exact ⟨rfl, HB6.out⟩
  | true =>
  have HV := Lib.hid (riseB_iff.1 hr); clear hr
  go_wp2_with fail
  refine (theirs_any (HA.out.below HB6.out) (by omega)).mono ?_
  rintro e w7 ⟨A7, c7, rfl, hs7, hb7⟩
  have HB7 := Lib.hid (bt HB6.out hb7)
  have F7 := Lib.hid hs7; clear hs7
  clear hb7
  go_wp2
  go_loopw [7, 47] (fun v i wr => ∃ (k : Nat) (A' : Option Addr) (n' c' : Nat), k ≤ q ∧ i = .int .i64 k ∧ v = .slice A' n' c' ∧ SlW wr A' n' c' (laidW ys (zs.take k)) ∧ n' ≤ m + k ∧ Below w.heap.size w wr) (fun _ i _ => q - (intOf i).toNat)
  case atStart => exact ⟨0, A7, m, c7, Nat.zero_le _, rfl, rfl, F7.out, by omega, HB7.out⟩
  case round =>
    obtain ⟨k, A', n', c', hk, rfl, rfl, hs, hn', hb⟩ := hrel
    have FB := Lib.hid hs; have HB := Lib.hid hb; clear hs hb
    have HRW := Lib.hid (laidW_rise HW.out (zs.take k))
    by_cases hlt : k < q
    · obtain ⟨b, o, x, rfl, hbw, hx, h0, h1, h2⟩ := slW_get (HZ.out.below HB.out) hlt
      have HX := Lib.hid hx; clear hx
      have hput := put_sl (FB.out.below ((Below.refl wr.heap.size wr).alloc (Nat.le_refl _) (.cells #[.string x.key, .string x.text, .bool x.gone] 41))) x HRW.out (by omega)
      by_cases hp : (putW (laidW ys (zs.take k)) x).2 = 0
      · have HC := Lib.hid (putW_ok HRW.out hp)
        rw [hp, HC.out.1] at hput
        have HPU := Lib.hid hput; clear hput hp
        go_wp2_with fail
        refine HPU.out.mono ?_
        rintro e w1 ⟨A1, n1, c1, rfl, hs1, hb1⟩
        have hb2 := HB.out.trans ((((Below.refl wr.heap.size wr).alloc (Nat.le_refl _) _).trans (hb1.mono (by simp))).mono HB.out.size)
        have FN := Lib.hid hs1; have HN := Lib.hid hb2
        have hn1 : n1 ≤ n' + 1 := by rw [← slW_len hs1, ← slW_len FB.out]; exact HC.out.2
        clear hs1 hb1 hb2
        go_wp2
        go_roundw
        case rel => exact ⟨k + 1, A1, n1, c1, by omega, by go_num, rfl, by rw [laidW_succ HX.out]; exact FN.out, by omega, HN.out⟩
        case measure => simp [intOf]; omega
      · have hne : ((putW (laidW ys (zs.take k)) x).2 != 0) = true := bne_iff_ne.2 hp
        generalize (putW (laidW ys (zs.take k)) x).2 = ec at *
        have HPU := Lib.hid hput; clear hput hp
        go_wp2_with fail
        refine HPU.out.mono ?_
        rintro e w1 ⟨A1, n1, c1, rfl, hs1, hb1⟩
        have hb2 := HB.out.trans ((((Below.refl wr.heap.size wr).alloc (Nat.le_refl _) _).trans (hb1.mono (by simp))).mono HB.out.size)
        have HN := Lib.hid hb2
        clear hs1 hb1 hb2
        go_wp2
        go_ret
        exact ⟨rfl, HN.out⟩
    · obtain rfl : k = q := by omega
      have HT := Lib.hid (show laidW ys (zs.take k) = laidW ys zs by rw [List.take_of_length_le (by rw [hlz.out]; exact Nat.le_refl _)])
      obtain ⟨w50, rfl⟩ : ∃ w50 : World, w50 = wr := ⟨_, rfl⟩
      go_wp2_with fail
      refine (pairs_any (HS.out.below HB.out) (by omega)).mono ?_
      rintro e w51 ⟨A8, c8, rfl, hs51, hb51⟩
      have HB51 := Lib.hid (bt HB.out hb51)
      have FB := Lib.hid (FB.out.below hb51)
      have F8 := Lib.hid hs51; clear hs51
      clear hb51
      go_wp2_with fail
      refine (theirs_any (HA.out.below HB51.out) (by omega)).mono ?_
      rintro e w52 ⟨A9, c9, rfl, hs52, hb52⟩
      have HB52 := Lib.hid (bt HB51.out hb52)
      have FB := Lib.hid (FB.out.below hb52)
      have F8 := Lib.hid (F8.out.below hb52)
      have F9 := Lib.hid hs52; clear hs52
      clear hb52
      go_wp2_with fail
      refine (over_sl F8.out F9.out (by omega) (by omega)).mono ?_
      rintro e w53 ⟨A10, n10, c10, rfl, hs53, hb53⟩
      have HB53 := Lib.hid (bt HB52.out hb53)
      have FB := Lib.hid (FB.out.below hb53)
      have F8 := Lib.hid (F8.out.below hb53)
      have F9 := Lib.hid (F9.out.below hb53)
      have F10 := Lib.hid hs53; clear hs53
      clear hb53
      have hle10 : n10 ≤ 120 := by rw [← slP_len F10.out]; have := ov_len xs ys; rw [hl.out, hla.out] at this; omega
      go_wp2_with fail
      refine (theirs_any (HZ.out.below HB53.out) (by omega)).mono ?_
      rintro e w54 ⟨A11, c11, rfl, hs54, hb54⟩
      have HB54 := Lib.hid (bt HB53.out hb54)
      have FB := Lib.hid (FB.out.below hb54)
      have F10 := Lib.hid (F10.out.below hb54)
      have F11 := Lib.hid hs54; clear hs54
      clear hb54
      go_wp2_with fail
      refine (over_sl F10.out F11.out (by omega) (by omega)).mono ?_
      rintro e w55 ⟨A12, n12, c12, rfl, hs55, hb55⟩
      have HB55 := Lib.hid (bt HB54.out hb55)
      have FB := Lib.hid (FB.out.below hb55)
      have F10 := Lib.hid (F10.out.below hb55)
      have F11 := Lib.hid (F11.out.below hb55)
      have F12 := Lib.hid hs55; clear hs55
      clear hb55
      have hle12 : n12 ≤ 180 := by rw [← slP_len F12.out]; have := ov_len (ov xs ys) zs; have h2 := ov_len xs ys; rw [hl.out, hla.out] at h2; rw [hlz.out] at this; omega
      go_wp2_with fail
      refine (back_any F12.out (by omega)).mono ?_
      rintro e w56 ⟨A13, c13, rfl, hs56, hb56⟩
      have HB56 := Lib.hid (bt HB55.out hb56)
      have FB := Lib.hid (FB.out.below hb56)
      have F12 := Lib.hid (F12.out.below hb56)
      have F13 := Lib.hid hs56; clear hs56
      clear hb56
      go_wp2_with fail
      refine (pairs_any (HS.out.below HB56.out) (by omega)).mono ?_
      rintro e w57 ⟨A14, c14, rfl, hs57, hb57⟩
      have HB57 := Lib.hid (bt HB56.out hb57)
      have FB := Lib.hid (FB.out.below hb57)
      have F13 := Lib.hid (F13.out.below hb57)
      have F14 := Lib.hid hs57; clear hs57
      clear hb57
      go_wp2_with fail
      refine (over_sl F14.out FB.out (by omega) (by omega)).mono ?_
      rintro e w58 ⟨A15, n15, c15, rfl, hs58, hb58⟩
      have HB58 := Lib.hid (bt HB57.out hb58)
      have FB := Lib.hid (FB.out.below hb58)
      have F13 := Lib.hid (F13.out.below hb58)
      have F14 := Lib.hid (F14.out.below hb58)
      have F15 := Lib.hid hs58; clear hs58
      clear hb58
      have hle15 : n15 ≤ 180 := by rw [← slP_len F15.out]; have := ov_len xs (laidW ys (zs.take k)); rw [hl.out, slW_len FB.out] at this; omega
      go_wp2_with fail
      refine (back_any F15.out (by omega)).mono ?_
      rintro e w59 ⟨A16, c16, rfl, hs59, hb59⟩
      have HB59 := Lib.hid (bt HB58.out hb59)
      have FB := Lib.hid (FB.out.below hb59)
      have F13 := Lib.hid (F13.out.below hb59)
      have F15 := Lib.hid (F15.out.below hb59)
      have F16 := Lib.hid hs59; clear hs59
      clear hb59
      go_wp2_with fail
      refine (sameP_any F13.out F16.out).mono ?_
      rintro e w60 ⟨rfl, hb60⟩
      have HB60 := Lib.hid (bt HB59.out hb60)
      have FB := Lib.hid (FB.out.below hb60)
      have F13 := Lib.hid (F13.out.below hb60)
      have F16 := Lib.hid (F16.out.below hb60)
      clear hb60
      rw [HT.out, eqL_t (ov_both HP.out HW.out HV.out)]
      go_wp2
      go_ret
      exact ⟨rfl, HB60.out⟩
end Go.Proofs.Ytmoihamobojkfaa
