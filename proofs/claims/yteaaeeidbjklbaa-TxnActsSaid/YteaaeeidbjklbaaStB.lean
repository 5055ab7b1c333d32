/- container/heap over the pile: up, down, Push, Pop. -/
import Derived.Test.YteaaeeidbjklbaaStA
namespace Go.Proofs.Yteaaeeidbjklbaa
open Go.RowKit

/-- a heap: no mark is above its children -/
def HP (l : Nat → Int × Int) (n : Nat) : Prop := ∀ k, 0 < k → k < n → (l ((k - 1) / 2)).1 ≤ (l k).1
/-- the same marks, in whatever order -/
def PM (n : Nat) (l l' : Nat → Int × Int) : Prop := (∀ k, k < n → ∃ k', k' < n ∧ l' k' = l k) ∧ (∀ k, k < n → ∃ k', k' < n ∧ l k' = l' k) ∧ ∀ k, n ≤ k → l' k = l k
theorem PM.refl (n : Nat) (l : Nat → Int × Int) : PM n l l := ⟨fun k hk => ⟨k, hk, rfl⟩, fun k hk => ⟨k, hk, rfl⟩, fun _ _ => rfl⟩
theorem PM.trans {n : Nat} {a b c : Nat → Int × Int} (h : PM n a b) (k : PM n b c) : PM n a c := by
  refine ⟨fun i hi => ?_, fun i hi => ?_, fun i hi => (k.2.2 i hi).trans (h.2.2 i hi)⟩
  · obtain ⟨j, hj, e⟩ := h.1 i hi
    obtain ⟨m, hm, e'⟩ := k.1 j hj
    exact ⟨m, hm, e'.trans e⟩
  · obtain ⟨j, hj, e⟩ := k.2.1 i hi
    obtain ⟨m, hm, e'⟩ := h.2.1 j hj
    exact ⟨m, hm, e'.trans e⟩
theorem swp_at (l : Nat → Int × Int) (i j k : Nat) : swp l i j k = if k = j then l i else if k = i then l j else l k := rfl
theorem PM.swap {n i j : Nat} (l : Nat → Int × Int) (hi : i < n) (hj : j < n) : PM n l (swp l i j) := by
  refine ⟨fun k hk => ?_, fun k hk => ?_, fun k hk => ?_⟩
  · by_cases h1 : k = i
    · exact ⟨j, hj, by rw [swp_at, if_pos rfl, h1]⟩
    · by_cases h2 : k = j
      · refine ⟨i, hi, ?_⟩
        rw [swp_at]
        by_cases h3 : i = j
        · exact absurd (h2.trans h3.symm) h1
        · rw [if_neg h3, if_pos rfl, h2]
      · exact ⟨k, hk, by rw [swp_at, if_neg h2, if_neg h1]⟩
  · rw [swp_at]
    by_cases h1 : k = j
    · exact ⟨i, hi, by rw [if_pos h1]⟩
    · by_cases h2 : k = i
      · exact ⟨j, hj, by rw [if_neg h1, if_pos h2]⟩
      · exact ⟨k, hk, by rw [if_neg h1, if_neg h2]⟩
  · rw [swp_at, if_neg (by omega), if_neg (by omega)]

def UpTo (l : Nat → Int × Int) (n j : Nat) : Prop :=
  (∀ k, 0 < k → k < n → k ≠ j → (l ((k - 1) / 2)).1 ≤ (l k).1) ∧ (∀ k, 0 < k → k < n → (k - 1) / 2 = j → 0 < j → (l ((j - 1) / 2)).1 ≤ (l k).1)
theorem up_start {l : Nat → Int × Int} {n : Nat} (h : HP l n) (x : Int × Int) : UpTo (upd l n x) (n + 1) n := by
  refine ⟨fun k h0 h1 h2 => ?_, fun k h0 h1 h2 _ => by omega⟩
  rw [upd_other h2, upd_other (by omega)]
  exact h k h0 (by omega)
theorem up_done {l : Nat → Int × Int} {n j : Nat} (h : UpTo l n j) (hd : j = 0 ∨ ¬ (l j).1 < (l ((j - 1) / 2)).1) : HP l n := by
  intro k h0 h1
  by_cases e : k = j
  · subst e; rcases hd with hd | hd <;> omega
  · exact h.1 k h0 h1 e
theorem up_step {l : Nat → Int × Int} {n j : Nat} (h : UpTo l n j) (h0 : 0 < j) (hn : j < n) (hlt : (l j).1 < (l ((j - 1) / 2)).1) : UpTo (swp l ((j - 1) / 2) j) n ((j - 1) / 2) := by
  obtain ⟨h1, h2⟩ := h
  generalize hi : (j - 1) / 2 = i at *
  have hij : i < j := by omega
  refine ⟨fun k k0 k1 k2 => ?_, fun k k0 k1 k2 i0 => ?_⟩
  · rw [swp_at, swp_at]
    by_cases e : k = j
    · subst e
      rw [if_pos rfl, if_neg (by omega), if_pos hi]; omega
    · rw [if_neg e, if_neg k2]
      by_cases e1 : (k - 1) / 2 = j
      · rw [if_pos e1]; exact h2 k k0 k1 e1 h0
      · rw [if_neg e1]
        by_cases e2 : (k - 1) / 2 = i
        · rw [if_pos e2]; have := h1 k k0 k1 e; rw [e2] at this; omega
        · rw [if_neg e2]; exact h1 k k0 k1 e
  · have hki : k ≠ i := by omega
    have := h1 i i0 (by omega) (by omega)
    rw [swp_at, swp_at, if_neg (by omega), if_neg (by omega), if_neg hki]
    by_cases e : k = j
    · rw [if_pos e]; exact this
    · rw [if_neg e]; have h3 := h1 k k0 k1 e; rw [k2] at h3; omega
def DnTo (l : Nat → Int × Int) (n i : Nat) : Prop :=
  (∀ k, 0 < k → k < n → (k - 1) / 2 ≠ i → (l ((k - 1) / 2)).1 ≤ (l k).1) ∧ (∀ k, 0 < k → k < n → (k - 1) / 2 = i → 0 < i → (l ((i - 1) / 2)).1 ≤ (l k).1)
theorem dn_start {l : Nat → Int × Int} {n : Nat} (h : HP l (n + 1)) : DnTo (swp l 0 n) n 0 := by
  refine ⟨fun k h0 h1 h2 => ?_, fun k _ _ _ h => absurd h (by omega)⟩
  rw [swp_at, swp_at, if_neg (by omega), if_neg h2, if_neg (by omega), if_neg (by omega)]
  exact h k h0 (by omega)
theorem dn_done {l : Nat → Int × Int} {n i : Nat} (h : DnTo l n i) (hd : ∀ k, 0 < k → k < n → (k - 1) / 2 = i → (l i).1 ≤ (l k).1) : HP l n := by
  intro k h0 h1
  by_cases e : (k - 1) / 2 = i
  · rw [e]; exact hd k h0 h1 e
  · exact h.1 k h0 h1 e
theorem dn_step {l : Nat → Int × Int} {n i j : Nat} (h : DnTo l n i) (h0 : 0 < j) (hn : j < n) (hij : (j - 1) / 2 = i) (hmin : ∀ k, 0 < k → k < n → (k - 1) / 2 = i → (l j).1 ≤ (l k).1) (hlt : (l j).1 < (l i).1) : DnTo (swp l i j) n j := by
  obtain ⟨h1, h2⟩ := h
  have hlt2 : i < j := by omega
  refine ⟨fun k k0 k1 k2 => ?_, fun k k0 k1 k2 _ => ?_⟩
  · rw [swp_at, swp_at, if_neg k2]
    by_cases e : k = j
    · subst e; rw [if_pos hij, if_pos rfl]; omega
    · rw [if_neg e]
      by_cases e1 : k = i
      · subst e1
        rw [if_neg (by omega), if_pos rfl]; exact h2 j h0 hn hij k0
      · rw [if_neg e1]
        by_cases e2 : (k - 1) / 2 = i
        · rw [if_pos e2]; exact hmin k k0 k1 e2
        · rw [if_neg e2]; exact h1 k k0 k1 e2
  · rw [swp_at, swp_at, hij, if_neg (by omega), if_pos rfl, if_neg (by omega), if_neg (by omega)]
    have := h1 k k0 k1 (by omega); rw [k2] at this; exact this

abbrev PI (b : Nat) : Value := .iface 112 (.pointer (some ⟨b, 16, none⟩))

theorem up_any {w : World} {b : Nat} {l : Nat → Int × Int} {n many : Nat} (h : Pile w b l many) {j : Nat} (hj : j < n) (hn : n ≤ 16) (hu : UpTo l n j) :
    Calls Try.prog 57 #[PI b, .int .i64 j] w fun e w' => e = .returned (.tuple #[]) ∧ ∃ l', Pile w' b l' many ∧ HP l' n ∧ PM n l l' ∧ Turn b 16 49 w w' := by
  have H := Lib.hid h; have HU := Lib.hid hu
  clear h hu
  go_enter Try.func57, Try.ntmps57
  go_wp2
  go_loopw [1] (fun v wr => ∃ (j : Nat) (l' : Nat → Int × Int), j < n ∧ v = .int .i64 j ∧ Pile wr b l' many ∧ UpTo l' n j ∧ PM n l l' ∧ Turn b 16 49 w wr) (fun v _ => (intOf v).toNat)
  case atStart => exact ⟨j, l, hj, rfl, H.out, HU.out, .refl _ _, .refl _ _ _ _⟩
  case round =>
    obtain ⟨j, l', hj, rfl, hp, hu, hm, ht⟩ := hrel
    have HP1 := Lib.hid hp; have HU1 := Lib.hid hu; have HM := Lib.hid hm; have HT := Lib.hid ht; clear hp hu hm ht
    cases j with
    | zero =>
      go_wp2
      go_returns
      exact ⟨rfl, l', HP1.out, up_done HU1.out (.inl rfl), HM.out, HT.out⟩
    | succ k =>
      obtain ⟨i, hi, hik⟩ : ∃ i : Nat, (k : Int).tdiv 2 = (i : Int) ∧ i = k / 2 := ⟨k / 2, by rw [Int.tdiv_eq_ediv_of_nonneg (by omega)]; omega, rfl⟩
      have hi2 : ((k : Int) + 1 - 1).tdiv 2 = (i : Int) := by rw [show (k : Int) + 1 - 1 = k by omega]; exact hi
      have hne : ((i : Int) == (k : Int) + 1) = false := by rw [beq_eq_false_iff_ne]; omega
      have hi16 : i < 16 := by omega
      have hin : i < n := by omega
      have HPA := Lib.hid (show (k + 1 - 1) / 2 = i by rw [hik]; congr 1)
      clear hik
      have HL := Lib.hid (pless_any HP1.out (show k + 1 < 16 by omega) hi16)
      go_wp2_with fail
      refine HL.out.mono ?_
      rintro e wa ⟨rfl, hba⟩
      have HP2 := Lib.hid (HP1.out.below hba)
      have HT2 := Lib.hid (HT.out.of_below HP1.out.lt hba)
      clear hba HL
      cases hd : decide ((l' (k + 1)).1 < (l' i).1) with
      | false =>
        have HD := Lib.hid (of_decide_eq_false hd)
        clear hd
        go_wp2
        go_returns
        exact ⟨rfl, l', HP2.out, up_done HU1.out (.inr (by rw [HPA.out]; have := HD.out; omega)), HM.out, HT2.out⟩
      | true =>
        have HD := Lib.hid (of_decide_eq_true hd)
        clear hd
        have HW := Lib.hid (pswap_any HP2.out hi16 (show k + 1 < 16 by omega))
        go_wp2_with fail
        refine HW.out.mono ?_
        rintro e wb ⟨rfl, hp3, ht3⟩
        have HP3 := Lib.hid hp3
        have HT3 := Lib.hid (HT2.out.trans ht3)
        have HUS := Lib.hid (up_step HU1.out (by omega) hj (by rw [HPA.out]; exact HD.out))
        rw [HPA.out] at HUS
        clear hp3 ht3 HW
        go_wp2
        go_roundw
        case rel => exact ⟨i, swp l' i (k + 1), hin, rfl, HP3.out, HUS.out, HM.out.trans (PM.swap l' hin hj), HT3.out⟩
        case measure => simp [intOf]; have := HPA.out; omega

set_option maxHeartbeats 2000000 in
/-- down, from the top -/
theorem down_any {w : World} {b : Nat} {l : Nat → Int × Int} {n many : Nat} (h : Pile w b l many) (hn : n < 16) (hu : DnTo l n 0) :
    Calls Try.prog 62 #[PI b, .int .i64 0, .int .i64 n] w fun e w' => (∃ v, e = .returned v) ∧ ∃ l', Pile w' b l' many ∧ HP l' n ∧ PM n l l' ∧ Turn b 16 49 w w' := by
  have H := Lib.hid h; have HU := Lib.hid hu
  clear h hu
  go_enter Try.func62, Try.ntmps62
  go_wp2
  go_loopw [7] (fun v wr => ∃ (i : Nat) (l' : Nat → Int × Int), (i < n ∨ i = 0) ∧ v = .int .i64 i ∧ Pile wr b l' many ∧ DnTo l' n i ∧ PM n l l' ∧ Turn b 16 49 w wr) (fun v _ => n - (intOf v).toNat)
  case atStart => exact ⟨0, l, .inr rfl, rfl, H.out, HU.out, .refl _ _, .refl _ _ _ _⟩
  case round =>
    obtain ⟨i, l', hi, rfl, hp, hu, hm, ht⟩ := hrel
    have HP1 := Lib.hid hp; have HU1 := Lib.hid hu; have HM := Lib.hid hm; have HT := Lib.hid ht; clear hp hu hm ht
    have hi16 : i < 16 := by omega
    by_cases h1 : 2 * i + 1 < n
    · have h1i : ¬ (n : Int) ≤ 2 * (i : Int) + 1 := by omega
      have hd1 : decide ((n : Int) ≤ 2 * (i : Int) + 1) = false := decide_eq_false h1i
      have hin : i < n := by omega
      -- the lesser child
      have hc : ∀ k, 0 < k → k < n → (k - 1) / 2 = i → k = 2 * i + 1 ∨ k = 2 * i + 1 + 1 := fun k _ _ _ => by omega
      have HC := Lib.hid hc
      clear hc
      by_cases h2 : 2 * i + 2 < n
      · have hd2 : decide (2 * (i : Int) + 1 + 1 < (n : Int)) = true := decide_eq_true (by omega)
        have HL := pless_any HP1.out (i := 2 * i + 1 + 1) (j := 2 * i + 1) (by omega) (by omega)
        rw [show ((2 * i + 1 + 1 : Nat) : Int) = 2 * (i : Int) + 1 + 1 by omega, show ((2 * i + 1 : Nat) : Int) = 2 * (i : Int) + 1 by omega] at HL
        have HL := Lib.hid HL
        go_wp2_with fail
        refine HL.out.mono ?_
        rintro e wa ⟨rfl, hba⟩
        have HP2 := Lib.hid (HP1.out.below hba)
        have HT2 := Lib.hid (HT.out.of_below HP1.out.lt hba)
        clear hba HL
        cases hl : decide ((l' (2 * i + 1 + 1)).1 < (l' (2 * i + 1)).1) with
        | true =>
          have HMIN := Lib.hid (show ∀ k, 0 < k → k < n → (k - 1) / 2 = i → (l' (2 * i + 1 + 1)).1 ≤ (l' k).1 from fun k k0 k1 k2 => by
            have := of_decide_eq_true hl
            rcases HC.out k k0 k1 k2 with rfl | rfl <;> omega)
          clear hl
          have HLJ := pless_any HP2.out (i := 2 * i + 1 + 1) (j := i) (by omega) hi16
          rw [show ((2 * i + 1 + 1 : Nat) : Int) = 2 * (i : Int) + 1 + 1 by omega] at HLJ
          have HLJ := Lib.hid HLJ
          go_wp2_with fail
          refine HLJ.out.mono ?_
          rintro e wb ⟨rfl, hbb⟩
          have HP3 := Lib.hid (HP2.out.below hbb)
          have HT3 := Lib.hid (HT2.out.of_below HP2.out.lt hbb)
          clear hbb HLJ
          cases hd : decide ((l' (2 * i + 1 + 1)).1 < (l' i).1) with
          | false =>
            have HD := Lib.hid (of_decide_eq_false hd)
            clear hd
            go_wp2
            go_ret
            exact ⟨⟨_, rfl⟩, l', HP3.out, dn_done HU1.out (fun k k0 k1 k2 => Int.le_trans (by have := HD.out; omega) (HMIN.out k k0 k1 k2)), HM.out, HT3.out⟩
          | true =>
            have HD := Lib.hid (of_decide_eq_true hd)
            clear hd
            have HW := pswap_any HP3.out (i := i) (j := 2 * i + 1 + 1) hi16 (by omega)
            rw [show ((2 * i + 1 + 1 : Nat) : Int) = 2 * (i : Int) + 1 + 1 by omega] at HW
            have HW := Lib.hid HW
            go_wp2_with fail
            refine HW.out.mono ?_
            rintro e wc ⟨rfl, hp4, ht4⟩
            have HP4 := Lib.hid hp4
            have HT4 := Lib.hid (HT3.out.trans ht4)
            clear hp4 ht4 HW
            go_wp2
            go_roundw
            case rel => exact ⟨2 * i + 1 + 1, swp l' i (2 * i + 1 + 1), .inl (by omega), by go_num, HP4.out, dn_step HU1.out (by omega) (by omega) (by omega) HMIN.out HD.out, HM.out.trans (PM.swap l' hin (by omega)), HT4.out⟩
            case measure => simp [intOf]; omega
        | false =>
          have HMIN := Lib.hid (show ∀ k, 0 < k → k < n → (k - 1) / 2 = i → (l' (2 * i + 1)).1 ≤ (l' k).1 from fun k k0 k1 k2 => by
            have := of_decide_eq_false hl
            rcases HC.out k k0 k1 k2 with rfl | rfl <;> omega)
          clear hl
          have HLJ := pless_any HP2.out (i := 2 * i + 1) (j := i) (by omega) hi16
          rw [show ((2 * i + 1 : Nat) : Int) = 2 * (i : Int) + 1 by omega] at HLJ
          have HLJ := Lib.hid HLJ
          go_wp2_with fail
          refine HLJ.out.mono ?_
          rintro e wb ⟨rfl, hbb⟩
          have HP3 := Lib.hid (HP2.out.below hbb)
          have HT3 := Lib.hid (HT2.out.of_below HP2.out.lt hbb)
          clear hbb HLJ
          cases hd : decide ((l' (2 * i + 1)).1 < (l' i).1) with
          | false =>
            have HD := Lib.hid (of_decide_eq_false hd)
            clear hd
            go_wp2
            go_ret
            exact ⟨⟨_, rfl⟩, l', HP3.out, dn_done HU1.out (fun k k0 k1 k2 => Int.le_trans (by have := HD.out; omega) (HMIN.out k k0 k1 k2)), HM.out, HT3.out⟩
          | true =>
            have HD := Lib.hid (of_decide_eq_true hd)
            clear hd
            have HW := pswap_any HP3.out (i := i) (j := 2 * i + 1) hi16 (by omega)
            rw [show ((2 * i + 1 : Nat) : Int) = 2 * (i : Int) + 1 by omega] at HW
            have HW := Lib.hid HW
            go_wp2_with fail
            refine HW.out.mono ?_
            rintro e wc ⟨rfl, hp4, ht4⟩
            have HP4 := Lib.hid hp4
            have HT4 := Lib.hid (HT3.out.trans ht4)
            clear hp4 ht4 HW
            go_wp2
            go_roundw
            case rel => exact ⟨2 * i + 1, swp l' i (2 * i + 1), .inl (by omega), by go_num, HP4.out, dn_step HU1.out (by omega) (by omega) (by omega) HMIN.out HD.out, HM.out.trans (PM.swap l' hin (by omega)), HT4.out⟩
            case measure => simp [intOf]; omega
      · have hd2 : decide (2 * (i : Int) + 1 + 1 < (n : Int)) = false := decide_eq_false (by omega)
        have HMIN := Lib.hid (show ∀ k, 0 < k → k < n → (k - 1) / 2 = i → (l' (2 * i + 1)).1 ≤ (l' k).1 from fun k k0 k1 k2 => by
          rcases HC.out k k0 k1 k2 with rfl | rfl
          · exact Int.le_refl _
          · omega)
        have HLJ := pless_any HP1.out (i := 2 * i + 1) (j := i) (by omega) hi16
        rw [show ((2 * i + 1 : Nat) : Int) = 2 * (i : Int) + 1 by omega] at HLJ
        have HLJ := Lib.hid HLJ
        go_wp2_with fail
        refine HLJ.out.mono ?_
        rintro e wb ⟨rfl, hbb⟩
        have HP3 := Lib.hid (HP1.out.below hbb)
        have HT3 := Lib.hid (HT.out.of_below HP1.out.lt hbb)
        clear hbb HLJ
        cases hd : decide ((l' (2 * i + 1)).1 < (l' i).1) with
        | false =>
          have HD := Lib.hid (of_decide_eq_false hd)
          clear hd
          go_wp2
          go_ret
          exact ⟨⟨_, rfl⟩, l', HP3.out, dn_done HU1.out (fun k k0 k1 k2 => Int.le_trans (by have := HD.out; omega) (HMIN.out k k0 k1 k2)), HM.out, HT3.out⟩
        | true =>
          have HD := Lib.hid (of_decide_eq_true hd)
          clear hd
          have HW := pswap_any HP3.out (i := i) (j := 2 * i + 1) hi16 (by omega)
          rw [show ((2 * i + 1 : Nat) : Int) = 2 * (i : Int) + 1 by omega] at HW
          have HW := Lib.hid HW
          go_wp2_with fail
          refine HW.out.mono ?_
          rintro e wc ⟨rfl, hp4, ht4⟩
          have HP4 := Lib.hid hp4
          have HT4 := Lib.hid (HT3.out.trans ht4)
          clear hp4 ht4 HW
          go_wp2
          go_roundw
          case rel => exact ⟨2 * i + 1, swp l' i (2 * i + 1), .inl (by omega), by go_num, HP4.out, dn_step HU1.out (by omega) (by omega) (by omega) HMIN.out HD.out, HM.out.trans (PM.swap l' hin (by omega)), HT4.out⟩
          case measure => simp [intOf]; omega
    · have h1i : (n : Int) ≤ 2 * (i : Int) + 1 := by omega
      go_wp2
      go_ret
      exact ⟨⟨_, rfl⟩, l', HP1.out, dn_done HU1.out (fun k _ _ _ => by omega), HM.out, HT.out⟩
theorem hpush_any {w : World} {b : Nat} {l : Nat → Int × Int} {n : Nat} (h : Pile w b l n) (hn : n < 16) (hh : HP l n) (x : Int × Int) :
    Calls Try.prog 49 #[PI b, .iface 85 (.agg #[.int .u64 x.1, .int .i64 x.2])] w fun e w' => e = .returned (.tuple #[]) ∧ ∃ l', Pile w' b l' (n + 1) ∧ HP l' (n + 1) ∧ PM (n + 1) (upd l n x) l' ∧ Turn b 16 49 w w' := by
  have HH := Lib.hid hh
  have H := Lib.hid (ppush_any h hn x)
  clear h hh
  go_enter Try.func49, Try.ntmps49
  go_wp2_with fail
  refine H.out.mono ?_
  rintro e w1 ⟨rfl, hp1, ht1⟩
  have HP1 := Lib.hid hp1; have HT1 := Lib.hid ht1; clear hp1 ht1
  go_wp2_with fail
  refine (plen_any HP1.out).mono ?_
  rintro e w2 ⟨rfl, hb2⟩
  have HP2 := Lib.hid (HP1.out.below hb2)
  have HT2 := Lib.hid (HT1.out.of_below HP1.out.lt hb2)
  clear hb2
  have e1 : ((n + 1 : Nat) : Int) - 1 = n := by omega
  go_wp2_with fail
  refine (up_any HP2.out (show n < n + 1 by omega) (by omega) (up_start HH.out x)).mono ?_
  rintro e w3 ⟨rfl, l', hp3, hh3, hm3, ht3⟩
  have HP3 := Lib.hid hp3; have HH3 := Lib.hid hh3; have HM3 := Lib.hid hm3; have HT3 := Lib.hid (HT2.out.trans ht3); clear hp3 hh3 hm3 ht3
  go_wp2
  go_returns
  exact ⟨rfl, l', HP3.out, HH3.out, HM3.out, HT3.out⟩
theorem hpop_any {w : World} {b : Nat} {l : Nat → Int × Int} {n : Nat} (h : Pile w b l (n + 1)) (hn : n < 16) (hh : HP l (n + 1)) :
    Calls Try.prog 60 #[PI b] w fun e w' => (∃ v, e = .returned v) ∧ ∃ l', Pile w' b l' n ∧ HP l' n ∧ PM n (swp l 0 n) l' ∧ Turn b 16 49 w w' := by
  have HH := Lib.hid hh
  have H := Lib.hid h
  clear h hh
  go_enter Try.func60, Try.ntmps60
  go_wp2_with fail
  refine (plen_any H.out).mono ?_
  rintro e w1 ⟨rfl, hb1⟩
  have HP1 := Lib.hid (H.out.below hb1)
  have HT1 := Lib.hid ((Turn.refl b 16 49 w).of_below H.out.lt hb1)
  clear hb1
  have e1 : ((n + 1 : Nat) : Int) - 1 = n := by omega
  have HW := Lib.hid (pswap_any HP1.out (i := 0) (j := n) (by omega) hn)
  go_wp2_with fail
  refine HW.out.mono ?_
  rintro e w2 ⟨rfl, hp2, ht2⟩
  have HP2 := Lib.hid hp2; have HT2 := Lib.hid (HT1.out.trans ht2); clear hp2 ht2 HW
  go_wp2_with fail
  refine (down_any HP2.out hn (dn_start HH.out)).mono ?_
  rintro e w3 ⟨⟨v, rfl⟩, l', hp3, hh3, hm3, ht3⟩
  have HP3 := Lib.hid hp3; have HH3 := Lib.hid hh3; have HM3 := Lib.hid hm3; have HT3 := Lib.hid (HT2.out.trans ht3); clear hp3 hh3 hm3 ht3
  go_wp2_with fail
  refine (ppop_any HP3.out hn).mono ?_
  rintro e w4 ⟨⟨v2, rfl⟩, hp4, ht4⟩
  have HP4 := Lib.hid hp4; have HT4 := Lib.hid (HT3.out.trans ht4); clear hp4 ht4
  go_wp2
  go_ret
  exact ⟨⟨_, rfl⟩, l', HP4.out, HH3.out, HM3.out, HT4.out⟩
end Go.Proofs.Yteaaeeidbjklbaa
