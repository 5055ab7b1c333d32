/- Walks over stores: are commits few; does a set clash; what a stamp sees of all; the reference's Read. -/
import Derived.Test.YtincjomgcceldaaStoreB
import Derived.Test.YtincjomgcceldaaMeet
namespace Go.Proofs.Ytincjomgcceldaa
open Go.RowKit

/-! ### few -/
def FewS (xs : List Cm) : Prop := (∀ c ∈ xs, fewB c.set = true) ∧ xs.length ≤ 30 ∧ RiseS xs
theorem few_not {xs : List Cm} {k : Nat} {x : Cm} (hx : xs[k]? = some x) (h : fewB x.set = false) : ¬ FewS xs := fun hs => by
  rw [hs.1 x (List.mem_of_getElem? hx)] at h; cases h
theorem few_all {xs : List Cm} {n : Nat} (hn : xs.length = n) (hu : Upto xs n (fun c => fewB c.set = true)) : ∀ c ∈ xs, fewB c.set = true := fun c hc => by
  obtain ⟨j, hj, e⟩ := List.mem_iff_getElem.1 hc
  exact hu j (by omega) c (by rw [List.getElem?_eq_getElem hj, e])

theorem fewS_any {A : Option Addr} {n c : Nat} {xs : List Cm} {w : World} (h : SlC w A n c xs) :
    Calls Try.prog 11 #[.slice A n c] w fun e w' => e = .returned (.bool (isB (FewS xs))) ∧ Below w.heap.size w w' := by
  have hm := slC_max h
  have hl := Lib.hid (slC_len h)
  have HS := Lib.hid h; clear h
  go_enter Try.func11, Try.ntmps11
  go_wp2
  go_loopw [7] (fun i wr => ∃ k : Nat, k ≤ n ∧ i = .int .i64 k ∧ Upto xs k (fun c => fewB c.set = true) ∧ Below w.heap.size w wr) (fun i _ => n - (intOf i).toNat)
  case atStart => exact ⟨0, Nat.zero_le _, rfl, .zero, Below.refl _ _⟩
  case round =>
    obtain ⟨k, hk, rfl, hu, hb⟩ := hrel
    have HU := Lib.hid hu; have HB := Lib.hid hb; clear hu hb
    by_cases hlt : k < n
    · obtain ⟨b, o, x, A', n', c', rfl, hbw, hx, h0, h1, _, hsw⟩ := slC_get (HS.out.below HB.out) hlt
      have HX := Lib.hid hx
      have HC := Lib.hid (fun (ob : Obj) => few_any (hsw.below ((Below.refl wr.heap.size wr).alloc (Nat.le_refl _) ob)))
      clear hx hsw
      go_wp2_with fail
      refine (HC.out _).mono ?_
      rintro e w1 ⟨rfl, hb1⟩
      have HB1 := Lib.hid (HB.out.trans ((((Below.refl wr.heap.size wr).alloc (Nat.le_refl _) _).trans (hb1.mono (by simp))).mono HB.out.size))
      clear hb1 HC
      cases hf : fewB x.set with
      | false =>
        go_wp2
        go_ret
        exact ⟨ret_bool (isB_f (few_not HX.out hf)).symm, HB1.out⟩
      | true =>
        go_wp2
        go_roundw
        case rel => exact ⟨k + 1, by omega, by go_num, HU.out.succ HX.out hf, HB1.out⟩
        case measure => simp [intOf]; omega
    · obtain rfl : k = n := by omega
      by_cases h30 : (k : Int) ≤ 30
      · have HC := Lib.hid (riseC_any (HS.out.below HB.out))
        go_wp2_with fail
        refine HC.out.mono ?_
        rintro e w1 ⟨rfl, hb1⟩
        have HB1 := Lib.hid (bt HB.out hb1); clear hb1 HC
        have HE := Lib.hid (show isB (RiseS xs) = isB (FewS xs) by
          by_cases hr : RiseS xs
          · rw [isB_t hr, isB_t (show FewS xs from ⟨few_all hl.out HU.out, by rw [hl.out]; omega, hr⟩)]
          · rw [isB_f hr, isB_f (show ¬ FewS xs from fun h => hr h.2.2)])
        rw [HE.out]
        go_wp2
        go_ret
        exact ⟨rfl, HB1.out⟩
      · go_wp2
        go_ret
        exact ⟨ret_bool (isB_f (show ¬ FewS xs from fun h => by have := h.2.1; rw [hl.out] at this; omega)).symm, HB.out⟩

/-! ### Meet of the reference; Clash -/
theorem rmeet_any {A B : Option Addr} {n c m d : Nat} {xs ys : List W3} {w : World} (h : SlW w A n c xs) (h' : SlW w B m d ys) :
    Calls Try.prog 37 #[.slice A n c, .slice B m d] w fun e w' => e = .returned (.bool (meetB xs ys)) ∧ Below w.heap.size w w' := by
  have hm := sl_max h
  have hl := Lib.hid (slW_len h)
  have HS := Lib.hid h; have HS' := Lib.hid h'; clear h h'
  go_enter Try.func37, Try.ntmps37
  go_wp2
  go_loopw [5] (fun i wr => ∃ k : Nat, k ≤ n ∧ i = .int .i64 k ∧ Upto xs k (fun x => (look W3.key x.key ys).isSome = false) ∧ Below w.heap.size w wr) (fun i _ => n - (intOf i).toNat)
  case atStart => exact ⟨0, Nat.zero_le _, rfl, .zero, Below.refl _ _⟩
  case round =>
    obtain ⟨k, hk, rfl, hu, hb⟩ := hrel
    have HU := Lib.hid hu; have HB := Lib.hid hb; clear hu hb
    by_cases hlt : k < n
    · obtain ⟨b, o, x, rfl, hbw, hx, h0, h1, h2⟩ := slW_get (HS.out.below HB.out) hlt
      have HX := Lib.hid hx; have HC := Lib.hid (rget_any (HS'.out.below HB.out) x.key); clear hx
      have hi1 : (0 : Int) ≤ (k : Int) := by omega
      have hi2 : (k : Int) < n := by omega
      go_wp2_with fail
      refine HC.out.mono ?_
      rintro e w1 ⟨rfl, hb1⟩
      have HB1 := Lib.hid (HB.out.trans (hb1.mono HB.out.size)); clear hb1 HC
      generalize hlk : look W3.key x.key ys = lk
      have HL := Lib.hid hlk; clear hlk
      go_wp2
      · go_ret
        exact ⟨ret_bool (meet_yes HX.out (by rw [HL.out]; assumption)).symm, HB1.out.alloc HB1.out.size _⟩
      · go_roundw
        case rel => exact ⟨k + 1, by omega, by go_num, HU.out.succ HX.out (by rw [HL.out]; first | assumption | exact notT (by assumption)), HB1.out.alloc HB1.out.size _⟩
        case measure => simp [intOf]; omega
    · obtain rfl : k = n := by omega
      go_wp2
      go_ret
      exact ⟨ret_bool (meet_no hl.out HU.out).symm, HB.out⟩

/-- did a commit behind a stamp write a key of a set -/
def clashB (xs : List Cm) (s : List W3) (at_ : Int) : Bool := xs.any (fun c => decide (at_ < c.stamp) && meetB c.set s)
theorem clash_yes {xs : List Cm} {s : List W3} {at_ : Int} {k : Nat} {x : Cm} (hx : xs[k]? = some x) (h1 : at_ < x.stamp) (h2 : meetB x.set s = true) : clashB xs s at_ = true := by
  unfold clashB; rw [List.any_eq_true]; exact ⟨x, List.mem_of_getElem? hx, by simp [h1, h2]⟩
theorem clash_no {xs : List Cm} {s : List W3} {at_ : Int} {n : Nat} (hn : xs.length = n) (h : Upto xs n (fun c => (decide (at_ < c.stamp) && meetB c.set s) = false)) : clashB xs s at_ = false := by
  unfold clashB; rw [List.any_eq_false]
  intro x hx
  obtain ⟨j, hj, e⟩ := List.mem_iff_getElem.1 hx
  have := h j (by omega) x (by rw [List.getElem?_eq_getElem hj, e])
  simp [this]

theorem clash_any {A B : Option Addr} {n c m d : Nat} {xs : List Cm} {ys : List W3} {w : World} (h : SlC w A n c xs) (h' : SlW w B m d ys) (at_ : Int) (hr : Rise W3.key ys) (hn : m ≤ 65536) :
    Calls Try.prog 22 #[.slice A n c, .slice B m d, .int .u64 at_] w fun e w' => e = .returned (.bool (clashB xs ys at_)) ∧ Below w.heap.size w w' := by
  have hm := slC_max h
  have hl := Lib.hid (slC_len h)
  have HS := Lib.hid h; have HW := Lib.hid h'; clear h h'
  go_enter Try.func22, Try.ntmps22
  go_wp2
  go_loopw [11] (fun i wr => ∃ k : Nat, k ≤ n ∧ i = .int .i64 k ∧ Upto xs k (fun c => (decide (at_ < c.stamp) && meetB c.set ys) = false) ∧ Below w.heap.size w wr) (fun i _ => n - (intOf i).toNat)
  case atStart => exact ⟨0, Nat.zero_le _, rfl, .zero, Below.refl _ _⟩
  case round =>
    obtain ⟨k, hk, rfl, hu, hb⟩ := hrel
    have HU := Lib.hid hu; have HB := Lib.hid hb; clear hu hb
    by_cases hlt : k < n
    · obtain ⟨b, o, x, A', n', c', rfl, hbw, hx, h0, h1, _, hsw⟩ := slC_get (HS.out.below HB.out) hlt
      have HX := Lib.hid hx; clear hx
      have hi1 : (0 : Int) ≤ (k : Int) := by omega
      have hi2 : (k : Int) < n := by omega
      by_cases hs : at_ < x.stamp
      · have HC := Lib.hid (fun (ob : Obj) => meet_any (hsw.below ((Below.refl wr.heap.size wr).alloc (Nat.le_refl _) ob)) ((HW.out.below HB.out).below ((Below.refl wr.heap.size wr).alloc (Nat.le_refl _) ob)) hr hn)
        clear hsw
        go_wp2_with fail
        refine (HC.out _).mono ?_
        rintro e w1 ⟨rfl, hb1⟩
        have HB1 := Lib.hid (HB.out.trans ((((Below.refl wr.heap.size wr).alloc (Nat.le_refl _) _).trans (hb1.mono (by simp))).mono HB.out.size)); clear hb1 HC
        cases hmt : meetB x.set ys with
        | true =>
          go_wp2
          go_ret
          exact ⟨ret_bool (clash_yes HX.out hs hmt).symm, HB1.out⟩
        | false =>
          go_wp2
          go_roundw
          case rel => exact ⟨k + 1, by omega, by go_num, HU.out.succ HX.out (by rw [hmt]; simp), HB1.out⟩
          case measure => simp [intOf]; omega
      · clear hsw
        go_wp2
        go_roundw
        case rel => exact ⟨k + 1, by omega, by go_num, HU.out.succ HX.out (by simp [hs]), HB.out.alloc HB.out.size _⟩
        case measure => simp [intOf]; omega
    · obtain rfl : k = n := by omega
      go_wp2
      go_ret
      exact ⟨ret_bool (clash_no hl.out HU.out).symm, HB.out⟩

theorem rclash_any {A B : Option Addr} {n c m d : Nat} {xs : List Cm} {ys : List W3} {w : World} (h : SlC w A n c xs) (h' : SlW w B m d ys) (at_ : Int) :
    Calls Try.prog 23 #[.slice A n c, .slice B m d, .int .u64 at_] w fun e w' => e = .returned (.bool (clashB xs ys at_)) ∧ Below w.heap.size w w' := by
  have hm := slC_max h
  have hl := Lib.hid (slC_len h)
  have HS := Lib.hid h; have HW := Lib.hid h'; clear h h'
  go_enter Try.func23, Try.ntmps23
  go_wp2
  go_loopw [7] (fun i wr => ∃ k : Nat, k ≤ n ∧ i = .int .i64 k ∧ Upto xs k (fun c => (decide (at_ < c.stamp) && meetB c.set ys) = false) ∧ Below w.heap.size w wr) (fun i _ => n - (intOf i).toNat)
  case atStart => exact ⟨0, Nat.zero_le _, rfl, .zero, Below.refl _ _⟩
  case round =>
    obtain ⟨k, hk, rfl, hu, hb⟩ := hrel
    have HU := Lib.hid hu; have HB := Lib.hid hb; clear hu hb
    by_cases hlt : k < n
    · obtain ⟨b, o, x, A', n', c', rfl, hbw, hx, h0, h1, _, hsw⟩ := slC_get (HS.out.below HB.out) hlt
      have HX := Lib.hid hx; clear hx
      have hi1 : (0 : Int) ≤ (k : Int) := by omega
      have hi2 : (k : Int) < n := by omega
      by_cases hs : at_ < x.stamp
      · have HC := Lib.hid (rmeet_any hsw (HW.out.below HB.out))
        clear hsw
        go_wp2_with fail
        refine HC.out.mono ?_
        rintro e w1 ⟨rfl, hb1⟩
        have HB1 := Lib.hid (HB.out.trans (hb1.mono HB.out.size)); clear hb1 HC
        cases hmt : meetB x.set ys with
        | true =>
          go_wp2
          go_ret
          exact ⟨ret_bool (clash_yes HX.out hs hmt).symm, HB1.out⟩
        | false =>
          go_wp2
          go_roundw
          case rel => exact ⟨k + 1, by omega, by go_num, HU.out.succ HX.out (by rw [hmt]; simp), HB1.out⟩
          case measure => simp [intOf]; omega
      · clear hsw
        go_wp2
        go_roundw
        case rel => exact ⟨k + 1, by omega, by go_num, HU.out.succ HX.out (by simp [hs]), HB.out⟩
        case measure => simp [intOf]; omega
    · obtain rfl : k = n := by omega
      go_wp2
      go_ret
      exact ⟨ret_bool (clash_no hl.out HU.out).symm, HB.out⟩
end Go.Proofs.Ytincjomgcceldaa
