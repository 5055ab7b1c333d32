/- A table that no call made. -/
import Derived.Test.YteaaeeidbjklbaaTxG
namespace Go.Proofs.Yteaaeeidbjklbaa
open Go.RowKit Go.Maps

def Bare (w : World) (t : Value) : Prop := t = .pointer none ∨ ∃ g, t = PT g ∧ w.cell? ⟨g, 0, none⟩ = some (.pointer none)
theorem bare_lt {w : World} {p : Addr} {v : Value} (h : w.cell? p = some v) : p.block < w.heap.size := by
  unfold World.cell? at h
  split at h
  · rename_i c e f hh
    exact (Array.getElem?_eq_some_iff.1 hh).1
  · cases h
theorem Bare.below {w w1 : World} {t : Value} (h : Bare w t) (k : Below w.heap.size w w1) : Bare w1 t := by
  rcases h with h | ⟨g, e, h⟩
  · exact .inl h
  · exact .inr ⟨g, e, (k.cell (p := ⟨g, 0, none⟩) (bare_lt h)).trans h⟩
section
variable {w : World} {t : Value}
theorem none_bareT (h : Bare w t) : Calls Try.prog 34 #[t] w fun e w' => e = .returned (.bool true) ∧ Below w.heap.size w w' := by
  rcases h with rfl | ⟨g, rfl, h⟩
  · exact none_nil w
  · exact none_bare h
theorem begin_bare (h : Bare w t) (a : Int) : Calls Try.prog 13 #[t, .int .u64 a] w fun e w' => e = .returned (.tuple #[.int .i64 0, .int .i64 1]) ∧ Below w.heap.size w w' := by
  have HBE := Lib.hid (Below.refl w.heap.size w)
  have H := Lib.hid h; clear h
  go_enter Try.func13, Try.ntmps13
  go_wp2_with fail
  refine (none_bareT H.out).mono ?_
  rintro e w1 ⟨rfl, hb⟩
  have HB := Lib.hid (bt HBE.out hb); clear hb
  go_wp2
  go_returns
  exact ⟨rfl, HB.out⟩
theorem at_bare (h : Bare w t) (id : Int) : Calls Try.prog 27 #[t, .int .i64 id] w fun e w' => e = .returned (.tuple #[.int .u64 0, .bool false]) ∧ Below w.heap.size w w' := by
  have HBE := Lib.hid (Below.refl w.heap.size w)
  have H := Lib.hid h; clear h
  go_enter Try.func27, Try.ntmps27
  go_wp2_with fail
  refine (none_bareT H.out).mono ?_
  rintro e w1 ⟨rfl, hb⟩
  have HB := Lib.hid (bt HBE.out hb); clear hb
  go_wp2
  go_returns
  exact ⟨rfl, HB.out⟩
theorem set_bare (h : Bare w t) (id : Int) : Calls Try.prog 28 #[t, .int .i64 id] w fun e w' => e = .returned (.tuple #[.slice none 0 0, .bool false]) ∧ Below w.heap.size w w' := by
  have HBE := Lib.hid (Below.refl w.heap.size w)
  have H := Lib.hid h; clear h
  go_enter Try.func28, Try.ntmps28
  go_wp2_with fail
  refine (at_bare H.out id).mono ?_
  rintro e w1 ⟨rfl, hb⟩
  have HB := Lib.hid (bt HBE.out hb); clear hb
  go_wp2
  go_returns
  exact ⟨rfl, HB.out⟩
theorem note_bare (h : Bare w t) (A : Option Addr) (n c : Nat) (a : Int) : Calls Try.prog 17 #[t, .slice A n c, .int .u64 a] w fun e w' => e = .returned (.tuple #[]) ∧ Below w.heap.size w w' := by
  have HBE := Lib.hid (Below.refl w.heap.size w)
  have H := Lib.hid h; clear h
  go_enter Try.func17, Try.ntmps17
  go_wp2_with fail
  refine (none_bareT H.out).mono ?_
  rintro e w1 ⟨rfl, hb⟩
  have HB := Lib.hid (bt HBE.out hb); clear hb
  go_wp2
  go_returns
  exact ⟨rfl, HB.out⟩
theorem write_bare (h : Bare w t) (id : Int) (x : W3) : Calls Try.prog 21 #[t, .int .i64 id, .agg #[.string x.key, .string x.text, .bool x.gone]] w fun e w' => e = .returned (.int .i64 1) ∧ Below w.heap.size w w' := by
  have hbe := (Below.refl w.heap.size w).alloc (Nat.le_refl _) (.cells #[.string x.key, .string x.text, .bool x.gone] 50)
  have H := Lib.hid (h.below hbe); have HBE := Lib.hid hbe; clear h hbe
  go_enter Try.func21, Try.ntmps21
  go_wp2_with fail
  refine (none_bareT H.out).mono ?_
  rintro e w1 ⟨rfl, hb⟩
  have HB := Lib.hid (bt HBE.out hb); clear hb
  go_wp2
  go_ret
  exact ⟨rfl, HB.out⟩
theorem end_bare (h : Bare w t) (id : Int) : Calls Try.prog 15 #[t, .int .i64 id] w fun e w' => e = .returned (.int .i64 1) ∧ Below w.heap.size w w' := by
  have HBE := Lib.hid (Below.refl w.heap.size w)
  have H := Lib.hid h; clear h
  go_enter Try.func15, Try.ntmps15
  go_wp2_with fail
  refine (none_bareT H.out).mono ?_
  rintro e w1 ⟨rfl, hb⟩
  have HB := Lib.hid (bt HBE.out hb); clear hb
  go_wp2
  go_ret
  exact ⟨rfl, HB.out⟩
theorem clash_bare (h : Bare w t) (id : Int) : Calls Try.prog 19 #[t, .int .i64 id] w fun e w' => e = .returned (.bool false) ∧ Below w.heap.size w w' := by
  have HBE := Lib.hid (Below.refl w.heap.size w)
  have H := Lib.hid h; clear h
  go_enter Try.func19, Try.ntmps19
  go_wp2_with fail
  refine (at_bare H.out id).mono ?_
  rintro e w1 ⟨rfl, hb⟩
  have HB := Lib.hid (bt HBE.out hb); clear hb
  go_wp2
  go_ret
  exact ⟨rfl, HB.out⟩
theorem least_bare (h : Bare w t) (a : Int) : Calls Try.prog 23 #[t, .int .u64 a] w fun e w' => e = .returned (.int .u64 a) ∧ Below w.heap.size w w' := by
  have HBE := Lib.hid (Below.refl w.heap.size w)
  have H := Lib.hid h; clear h
  go_enter Try.func23, Try.ntmps23
  go_wp2_with fail
  refine (none_bareT H.out).mono ?_
  rintro e w1 ⟨rfl, hb⟩
  have HB := Lib.hid (bt HBE.out hb); clear hb
  go_wp2
  go_ret
  exact ⟨rfl, HB.out⟩
theorem open_bare (h : Bare w t) : Calls Try.prog 25 #[t] w fun e w' => e = .returned (.slice none 0 0) ∧ Below w.heap.size w w' := by
  have H := Lib.hid h; clear h
  go_enter Try.func25, Try.ntmps25
  go_wp2
  go_loopw [3, 7] (fun v i wr => ∃ p : Nat, p ≤ 8 ∧ i = .int .i64 p ∧ v = .slice none 0 0 ∧ Below w.heap.size w wr) (fun _ i _ => 8 - (intOf i).toNat)
  case atStart => exact ⟨0, Nat.zero_le _, rfl, rfl, Below.refl _ _⟩
  case round =>
    obtain ⟨p, hp, rfl, rfl, hb⟩ := hrel
    have HB := Lib.hid hb; clear hb
    by_cases hp8 : p < 8
    · go_wp2_with fail
      refine (at_bare (H.out.below HB.out) _).mono ?_
      rintro e w1 ⟨rfl, hb⟩
      have HB1 := Lib.hid (bt HB.out hb); clear hb
      go_wp2
      go_roundw
      case rel => exact ⟨p + 1, by omega, by go_num, rfl, HB1.out⟩
      case measure => simp [intOf]; omega
    · obtain rfl : p = 8 := by omega
      go_wp2
      go_ret
      exact ⟨rfl, HB.out⟩
end
end Go.Proofs.Yteaaeeidbjklbaa
