/- Plain laws: a set that was noted clashes with those that it meets. -/
import Derived.Test.YteaaeeidbjklbaaTxH
namespace Go.Proofs.Yteaaeeidbjklbaa
open Go.RowKit Go.Maps

theorem ff_second : FF (upd (fun _ => false) 0 true) 1 := by
  refine ⟨by omega, rfl, fun j h => ?_⟩
  have h0 : j = 0 := Nat.lt_one_iff.1 h
  subst h0; rfl
theorem clash_zero {a : Int} (h : 0 ≤ a) (l : List W3) : clashN (fun _ => 0) a l = false := clashN_upto (n := l.length) rfl (fun _ _ _ _ => h)
theorem noted_at {l : List W3} {a : Int} (h : 0 ≤ a) (k : ByteArray) : notes (fun _ => 0) l (a + 1) k = if (look W3.key k l).isSome then a + 1 else 0 := by
  rw [notes_at, if_pos (show (0 : Int) < a + 1 by omega)]
theorem clash_meet {l m : List W3} {a : Int} (h : 0 ≤ a) : clashN (notes (fun _ => 0) l (a + 1)) a m = meetB l m := by
  by_cases hm : meetB l m = true
  · rw [hm]
    unfold meetB at hm
    rw [List.any_eq_true] at hm
    obtain ⟨x, hx, hs⟩ := hm
    cases e : look W3.key x.key m with
    | none => rw [e] at hs; cases hs
    | some y =>
      obtain ⟨hy, hk⟩ := look_some e
      refine clashN_yes hy ?_
      rw [noted_at h, hk, look_in hx, if_pos rfl]; omega
  · have hm : meetB l m = false := by simpa using hm
    rw [hm]
    refine clashN_upto (n := m.length) rfl fun j y _ hy => ?_
    rw [noted_at h]
    cases e : look W3.key y.key l with
    | none => simpa using h
    | some x =>
      exfalso
      obtain ⟨hx, hk⟩ := look_some e
      unfold meetB at hm
      rw [List.any_eq_false] at hm
      have := hm x hx
      rw [hk, look_in (List.mem_of_getElem? hy)] at this
      exact this rfl
theorem clash_after {l m : List W3} {a : Int} (h : 0 ≤ a) : clashN (notes (fun _ => 0) l (a + 1)) (a + 1) m = false :=
  clashN_upto (n := m.length) rfl fun j y _ _ => by rw [noted_at h]; split <;> omega
theorem okWordT2 {n : Int} (h : (Lit.int .u64 n).wf = true) : n ≤ 18446744073709551615 := by
  simp [Lit.wf] at h
  have e2 : IntKind.u64.max = 18446744073709551615 := rfl
  rw [e2] at h
  exact h.2
theorem wf_word {n : Int} (h0 : 0 ≤ n) (h1 : n ≤ 18446744073709551615) : (Lit.int .u64 n).wf = true := by
  simp [Lit.wf]
  have e1 : IntKind.u64.min = 0 := rfl
  have e2 : IntKind.u64.max = 18446744073709551615 := rfl
  rw [e1, e2]; exact ⟨h0, h1⟩
end Go.Proofs.Yteaaeeidbjklbaa
