/- The walk of the law StampLeast: it answers true, whatever comes in. -/
import Derived.Test.YtpknllhbebjleaaStH
import Derived.Deep.DeepCutAuto
namespace Go.Proofs.Ytpknllhbebjleaa
open Go.RowKit

theorem cnt_first {op : Nat → Bool} {n : Nat} (h : ∀ j, j < 8 → op j = decide (j < n)) : ∀ m, m ≤ 8 → cnt op m = min m n := by
  intro m
  induction m with
  | zero => intro _; simp [cnt]
  | succ m ih =>
    intro hm
    rw [cnt, ih (by omega), h m (by omega)]
    by_cases e : m < n
    · rw [decide_eq_true e, if_pos rfl]; omega
    · rw [decide_eq_false e, if_neg (by simp)]; omega
theorem cnt_close {op : Nat → Bool} {f : Nat} (ho : op f = true) : ∀ m, cnt (upd op f false) m + (if f < m then 1 else 0) = cnt op m := by
  intro m
  induction m with
  | zero => simp [cnt]
  | succ m ih =>
    rw [cnt, cnt]
    by_cases e : m = f
    · subst e
      rw [upd_same, ho]
      rw [if_neg (by omega)] at ih
      simp
      omega
    · rw [upd_other e]
      by_cases h : f < m
      · rw [if_pos h] at ih; rw [if_pos (by omega : f < m + 1)]; omega
      · rw [if_neg h] at ih; rw [if_neg (by omega : ¬ f < m + 1)]; omega
theorem cnt_some {op : Nat → Bool} : ∀ m, 0 < cnt op m → ∃ i, i < m ∧ op i = true
  | 0, h => by simp [cnt] at h
  | m + 1, h => by
    cases ho : op m with
    | true => exact ⟨m, by omega, ho⟩
    | false =>
      rw [cnt, ho] at h
      obtain ⟨i, hi, e⟩ := cnt_some m (by simpa using h)
      exact ⟨i, by omega, e⟩
theorem cnt_none {op : Nat → Bool} : ∀ m, cnt op m = 0 → ∀ i, i < m → op i = false
  | 0, _, i, h => absurd h (by omega)
  | m + 1, h, i, hi => by
    rw [cnt] at h
    cases ho : op m with
    | true => rw [ho] at h; simp at h
    | false =>
      rcases Nat.lt_or_ge i m with h1 | h1
      · exact cnt_none m (by omega) i h1
      · obtain rfl : i = m := by omega
        exact ho
/-- which was found, of the first j -/
def Found (at_ : Nat → Int) (op : Nat → Bool) (r : Int) (j : Nat) (f : Int) : Prop :=
  (f = -1 ∧ ∀ i, i < j → ¬ (op i = true ∧ at_ i = r)) ∨ ∃ i : Nat, i < j ∧ f = i ∧ op i = true ∧ at_ i = r
theorem found_no {at_ : Nat → Int} {op : Nat → Bool} {r f : Int} {j : Nat} (h : Found at_ op r j f) (hn : ¬ (op j = true ∧ at_ j = r)) : Found at_ op r (j + 1) f := by
  rcases h with ⟨h1, h2⟩ | ⟨i, hi, h2⟩
  · refine .inl ⟨h1, fun i hi => ?_⟩
    rcases Nat.lt_or_ge i j with h | h
    · exact h2 i h
    · obtain rfl : i = j := by omega
      exact hn
  · exact .inr ⟨i, by omega, h2⟩
theorem found_end {at_ : Nat → Int} {op : Nat → Bool} {r f : Int} (h : Found at_ op r 8 f) {i : Nat} (hi : i < 8) (ho : op i = true) (e : at_ i = r) : ∃ i : Nat, i < 8 ∧ f = i ∧ op i = true ∧ at_ i = r := by
  rcases h with ⟨_, h2⟩ | h
  · exact absurd ⟨ho, e⟩ (h2 i hi)
  · exact h
theorem okWord_of {n : Int} (h : (Lit.int .u64 n).wf = true) : 0 ≤ n := by
  simp [Lit.wf] at h
  have e1 : IntKind.u64.min = 0 := rfl
  rw [e1] at h
  exact h.1

set_option maxRecDepth 100000 in
set_option maxHeartbeats 4000000 in
theorem lawLeast_any {A : Option Addr} {n c : Nat} {xs : List Int} {w : World} (h : SlI w .u64 A n c xs ∧ ∀ x ∈ xs, (Lit.int .u64 x).wf = true) :
    Calls Try.prog 4 #[.slice A n c] w fun e w' => e = .returned (.bool true) ∧ Below w.heap.size w w' := by
  obtain ⟨h, hwf⟩ := h
  have h_m := sl_max h
  have hl := Lib.hid (slI_len h)
  have HS := Lib.hid h; clear h
  have HWF := Lib.hid hwf; clear hwf
  go_enter Try.func4, Try.ntmps4
  go_wp2_with fail
  refine (alive_any w).mono ?_
  rintro e w1 ⟨rfl, hb1⟩
  have HB1 := Lib.hid hb1; clear hb1
  by_cases hn : n ≤ 8
  case neg =>
    have hn2 : (8 : Int) < n := by omega
    go_wp2
    go_ret
    exact ⟨rfl, HB1.out⟩
  have HA1 := Lib.hid (Watch.new w1)
  have HA3 := Lib.hid ((Below.refl w1.heap.size w1).alloc (Nat.le_refl _) (.cells zer 33))
  go_wp2
  go_loopw [22] (fun i wr => ∃ (k : Nat) (at_ : Nat → Int) (op : Nat → Bool), k ≤ n ∧ i = .int .i64 k ∧ Watch wr w1.heap.size at_ op ∧ (∀ j, j < 8 → op j = decide (j < k)) ∧ (∀ j, j < 8 → op j = true → 0 ≤ at_ j) ∧ Below w1.heap.size w1 wr) (fun i _ => n - (intOf i).toNat)
  case atStart => exact ⟨0, _, _, Nat.zero_le _, rfl, HA1.out, fun j _ => by simp, fun j _ h => absurd h (by simp), HA3.out⟩
  case round =>
    obtain ⟨k, at_, op, hk, rfl, hw, ho, hp, hb⟩ := hrel
    have HW := Lib.hid hw; have HO := Lib.hid ho; have HP := Lib.hid hp; have HB := Lib.hid hb; clear hw ho hp hb
    by_cases hlt : k < n
    · obtain ⟨b, o, x, hA, hbw, hx, h0⟩ := slI_get (HS.out.below (bt HB1.out HB.out)) hlt
      subst hA
      have HX := Lib.hid (okWord_of (HWF.out x (List.mem_of_getElem? hx)))
      clear hx
      have HF := Lib.hid (show FF op k from ⟨by omega, by rw [HO.out k (by omega)]; simp, fun j hj => by rw [HO.out j (by omega)]; simpa using hj⟩)
      go_wp2_with fail
      refine (open_free HW.out HF.out x).mono ?_
      rintro e wa ⟨rfl, hwa, hta⟩
      have HWA := Lib.hid hwa; have HBA := Lib.hid (HB.out.trans (hta.below (Nat.le_refl _) HW.out.lt))
      clear hwa hta h0
      go_wp2
      go_roundw
      case rel => exact ⟨k + 1, _, _, by omega, by go_num, HWA.out, fun j hj => by
          by_cases e : j = k
          · subst e; rw [upd_same]; simp
          · rw [upd_other e, HO.out j hj]; exact decide_eq_decide.2 (by omega), fun j hj hoj => by
          by_cases e : j = k
          · subst e; rw [upd_same]; exact HX.out
          · rw [upd_other e] at hoj ⊢; exact HP.out j hj hoj, HBA.out⟩
      case measure => simp [intOf]; omega
    · obtain rfl : k = n := by omega
      rename World => w7
      have HC := Lib.hid (show cnt op 8 = k by rw [cnt_first HO.out 8 (Nat.le_refl _)]; omega)
      go_wp2
      go_loopw [8, 36] (fun v i wt => ∃ (p : Nat) (last : Int) (at2 : Nat → Int) (op2 : Nat → Bool), p ≤ k ∧ i = .int .i64 p ∧ v = .int .u64 last ∧ Watch wt w1.heap.size at2 op2 ∧ cnt op2 8 + p = k ∧ (∀ j, j < 8 → op2 j = true → last ≤ at2 j) ∧ Below w1.heap.size w1 wt) (fun _ i _ => k - (intOf i).toNat)
      case atStart => exact ⟨0, 0, at_, op, Nat.zero_le _, rfl, rfl, HW.out, HC.out, HP.out, HB.out⟩
      case round =>
        rename World => wt
        obtain ⟨p, last, at2, op2, hp, rfl, rfl, hw2, hc2, hm2, hb2⟩ := hrel
        have HW2 := Lib.hid hw2; have HC2 := Lib.hid hc2; have HM2 := Lib.hid hm2; have HB2 := Lib.hid hb2; clear hw2 hc2 hm2 hb2
        by_cases hpk : p < k
        · go_wp2_with fail
          refine (least_any HW2.out 0).mono ?_
          rintro e wa ⟨r, rfl, hl3, hwa, hta⟩
          obtain ⟨i0, hi0, hoi0⟩ := cnt_some (op := op2) 8 (by have := HC2.out; omega)
          obtain ⟨i, hi, hoi, hei, hmin⟩ : ∃ i, i < 8 ∧ op2 i = true ∧ at2 i = r ∧ ∀ j, j < 8 → op2 j = true → r ≤ at2 j := by
            rcases hl3 with ⟨h1, _⟩ | h1
            · rw [h1 i0 hi0] at hoi0; cases hoi0
            · exact h1
          have HWA := Lib.hid hwa; have HBA := Lib.hid (HB2.out.trans (hta.below (Nat.le_refl _) HW2.out.lt))
          have HLAST := Lib.hid (show last ≤ r by rw [← hei]; exact HM2.out i hi hoi)
          have HI := Lib.hid (show i < 8 ∧ op2 i = true ∧ at2 i = r from ⟨hi, hoi, hei⟩)
          have HMIN := Lib.hid hmin
          clear hwa hta hl3 hoi0 hi0 hoi hei hmin hi
          go_wp2
          go_loopw [11, 40] (fun v i wu => ∃ (j : Nat) (f : Int), j ≤ 8 ∧ i = .int .i64 j ∧ v = .int .i64 f ∧ Found at2 op2 r j f ∧ Below wa.heap.size wa wu) (fun _ i _ => 8 - (intOf i).toNat)
          case atStart => exact ⟨0, -1, Nat.zero_le _, rfl, rfl, .inl ⟨rfl, fun i h => absurd h (by omega)⟩, Below.refl _ _⟩
          case round =>
            rename World => wu
            obtain ⟨j, f, hj, rfl, rfl, hf, hbu⟩ := hrel
            have HF := Lib.hid hf; have HBU := Lib.hid hbu; clear hf hbu
            by_cases hj8 : j < 8
            · go_wp2_with fail
              refine (wat_in (HWA.out.below HBU.out) hj8).mono ?_
              rintro e wb ⟨rfl, hbb⟩
              have HBB := Lib.hid (bt HBU.out hbb); clear hbb
              cases ho : op2 j with
              | false =>
                generalize atOf at2 op2 j = aj
                go_wp2
                go_roundw
                case rel => exact ⟨j + 1, f, by omega, by go_num, rfl, found_no HF.out (by rw [ho]; simp), HBB.out⟩
                case measure => simp [intOf]; omega
              | true =>
                have HJ := Lib.hid (HMIN.out j hj8 ho)
                rw [show atOf at2 op2 j = at2 j by simp [atOf, ho]]
                have hd : decide (at2 j < r) = false := decide_eq_false (by have := HJ.out; omega)
                by_cases he : at2 j = r
                · have hd2 : (at2 j == r) = true := by simpa using he
                  go_wp2
                  go_roundw
                  case rel => exact ⟨j + 1, j, by omega, by go_num, rfl, .inr ⟨j, by omega, rfl, ho, he⟩, HBB.out⟩
                  case measure => simp [intOf]; omega
                · have hd2 : (at2 j == r) = false := by simpa using he
                  go_wp2
                  go_roundw
                  case rel => exact ⟨j + 1, f, by omega, by go_num, rfl, found_no HF.out (fun h => he h.2), HBB.out⟩
                  case measure => simp [intOf]; omega
            · obtain rfl : j = 8 := by omega
              obtain ⟨q, hq8, rfl, hoq, heq⟩ := found_end HF.out HI.out.1 HI.out.2.1 HI.out.2.2
              have HQ := Lib.hid (show op2 q = true ∧ at2 q = r from ⟨hoq, heq⟩)
              clear hoq heq
              have hd1 : decide ((q : Int) < 0) = false := decide_eq_false (by omega)
              have hd2 : decide (r < last) = false := decide_eq_false (by have := HLAST.out; omega)
              have hd3 : (((cnt op2 8 : Nat) : Int) != (k : Int) - (p : Int)) = false := by rw [bne_eq_false_iff_eq]; have := HC2.out; omega
              have HWU := Lib.hid (HWA.out.below HBU.out)
              have hpk2 : (p : Int) ≤ k := by omega
              go_wp2_with fail
              refine (len_any HWU.out).mono ?_
              rintro e wb ⟨rfl, hbb⟩
              have HWB := Lib.hid (HWU.out.below hbb); have HBB := Lib.hid (bt HBU.out hbb); clear hbb
              go_wp2_with fail
              refine (wclose_yes HWB.out hq8 HQ.out.1).mono ?_
              rintro e wc ⟨rfl, hwc, htc⟩
              have HWC := Lib.hid hwc
              have HBC := Lib.hid ((bt HBA.out HBB.out).trans (htc.below (Nat.le_refl _) HWB.out.lt))
              clear hwc htc
              have HCC := Lib.hid (show cnt (upd op2 q false) 8 + (p + 1) = k by
                have := cnt_close HQ.out.1 8; rw [if_pos hq8] at this; have := HC2.out; omega)
              go_wp2
              go_roundw
              case rel => exact ⟨p + 1, r, _, _, by omega, by go_num, rfl, HWC.out, HCC.out, fun j hj hoj => by
                by_cases e : j = q
                · subst e; rw [upd_same] at hoj; cases hoj
                · rw [upd_other e] at hoj ⊢; exact HMIN.out j hj hoj, HBC.out⟩
              case measure => simp [intOf]; omega
        · obtain rfl : p = k := by omega
          have HNO := Lib.hid (cnt_none (op := op2) 8 (by have := HC2.out; omega))
          have HC0 := Lib.hid (show cnt op2 8 = 0 by have := HC2.out; omega)
          go_wp2_with fail
          refine (least_any HW2.out 77).mono ?_
          rintro e wa ⟨r, rfl, hl3, hwa, hta⟩
          obtain rfl : r = 77 := by
            rcases hl3 with ⟨_, h1⟩ | ⟨i, hi, hoi, _⟩
            · exact h1
            · rw [HNO.out i hi] at hoi; cases hoi
          have HWA := Lib.hid hwa; have HBA := Lib.hid (HB2.out.trans (hta.below (Nat.le_refl _) HW2.out.lt))
          clear hwa hta hl3
          go_wp2_with fail
          refine (len_any HWA.out).mono ?_
          rintro e wb ⟨rfl, hbb⟩
          rw [HC0.out]
          have HBB := Lib.hid (bt HBA.out hbb); clear hbb
          go_wp2
          go_ret
          exact ⟨rfl, bt HB1.out HBB.out⟩
end Go.Proofs.Ytpknllhbebjleaa
