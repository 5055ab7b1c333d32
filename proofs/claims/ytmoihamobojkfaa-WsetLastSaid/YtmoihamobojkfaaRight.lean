/- Walks: may a write be laid so; do the keys of pairs rise. -/
import Derived.Test.YtmoihamobojkfaaRead
namespace Go.Proofs.Ytmoihamobojkfaa
open Go.RowKit

/-- may a key be written like that? -/
def rightB (w : W3) : Bool := decide (w.key.size ≤ 16) && decide (w.text.size ≤ 40) && (!w.gone || w.text.toList.isEmpty)

theorem right1 {x : W3} (h : 16 < (x.key.size : Int) ∨ 40 < (x.text.size : Int)) : false = rightB x := by
  unfold rightB
  rcases h with h | h
  · rw [decide_eq_false (show ¬ x.key.size ≤ 16 by omega)]; rfl
  · rw [decide_eq_false (show ¬ x.text.size ≤ 40 by omega)]; simp
theorem right2 {x : W3} (h : (x.key.size : Int) ≤ 16 ∧ (x.text.size : Int) ≤ 40) : rightB x = (!x.gone || x.text.toList.isEmpty) := by
  unfold rightB
  rw [decide_eq_true (show x.key.size ≤ 16 by omega), decide_eq_true (show x.text.size ≤ 40 by omega)]; rfl

theorem right_any (x : W3) (w : World) : Calls Try.prog 27 #[.agg #[.string x.key, .string x.text, .bool x.gone]] w fun e w' => e = .returned (.bool (rightB x)) ∧ Below w.heap.size w w' := by
  go_enter Try.func27, Try.ntmps27
  go_wp2
  all_goals go_ret
  all_goals refine ⟨ret_bool ?_, by go_grown⟩
  · exact right1 (by assumption)
  · have hg : x.gone = true := by assumption
    rw [right2 (by assumption), hg]; rfl
  · have hg : x.gone = false := by simpa using (show ¬ x.gone = true by assumption)
    rw [right2 (by assumption), hg]; rfl
  · exact right1 (.inl (by assumption))

theorem riseP_any {A : Option Addr} {n c : Nat} {xs : List P2} {w : World} (h : SlP w A n c xs) :
    Calls Try.prog 10 #[.slice A n c] w fun e w' => e = .returned (.bool (riseB P2.key xs)) ∧ Below w.heap.size w w' := by
  have hm := sl_max h
  have hl := Lib.hid (slP_len h)
  go_enter Try.func10, Try.ntmps10
  go_wp2
  go_loopw [3] (fun i wr => ∃ k : Nat, (k + 1 ≤ n ∨ k = 0) ∧ i = .int .i64 (k + 1) ∧ RiseTo P2.key xs k ∧ Below w.heap.size w wr) (fun i _ => n + 1 - (intOf i).toNat)
  case atStart => exact ⟨0, .inr rfl, rfl, RiseTo.zero, Below.refl _ _⟩
  case round =>
    obtain ⟨k, hk, rfl, hu, hb⟩ := hrel
    have HU := Lib.hid hu; clear hu
    by_cases hlt : k + 1 < n
    · obtain ⟨b, o, x, rfl, hbw, hx, h0, h1⟩ := slP_get (h.below hb) (k := k) (by omega)
      obtain ⟨b', o', y, he, hbw', hy, h0', h1'⟩ := slP_get (h.below hb) (k := k + 1) (by omega)
      injection he with he; injection he with he1 he2; subst he1; subst he2
      have HX := Lib.hid hx; have HY := Lib.hid hy; clear hx hy h h1 h1'
      have hi1 : (0 : Int) ≤ (k : Int) + 1 - 1 := by omega
      have hi2 : (k : Int) + 1 - 1 < n := by omega
      have hi3 : (k : Int) + 1 < n := by omega
      have hi4 : (0 : Int) ≤ (k : Int) + 1 := by omega
      go_wp2
      go_quiet (fail)
      go_wp2
      · go_ret
        exact ⟨ret_bool (rise_no HX.out HY.out (by assumption)), below_drewN hb _⟩
      · go_roundw
        case rel => exact ⟨k + 1, .inl (by omega), by go_num, HU.out.succ HX.out HY.out (by assumption), below_drewN hb _⟩
        case measure => simp [intOf]; omega
    · go_wp2
      go_ret
      exact ⟨ret_bool (rise_upto hl.out (by omega) HU.out).symm, hb⟩

end Go.Proofs.Ytmoihamobojkfaa
