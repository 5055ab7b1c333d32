/- Walks: may a write be laid so; do the keys of pairs rise. -/
import Derived.Test.YteaaeeidbjklbaaRead
namespace Go.Proofs.Yteaaeeidbjklbaa
open Go.RowKit

/-- may a key be written like that? -/
def rightB (w : W3) : Bool := decide (w.key.size ≤ 16) && decide (w.text.size ≤ 40) && (!w.gone || w.text.toList.isEmpty)

theorem right1 {x : W3} (h : 16 < (x.key.size : Int) ∨ 40 < (x.text.size : Int)) : false = rightB x := by
  unfold rightB
  rcases h with h | h
  · rw [decide_eq_false (show ¬ x.key.size ≤ 16 by omega)]; rfl
  · rw [decide_eq_false (show ¬ x.text.size ≤ 40 by omega)]; simp
theorem right2 {x : W3} (h : (x.key.size : Int) ≤ 16 ∧ (x.text.size : Int) ≤ 40) : rightB x = (!x.gone || x.text.toList.isEmpty) := by
  unfold rightB
  rw [decide_eq_true (show x.key.size ≤ 16 by omega), decide_eq_true (show x.text.size ≤ 40 by omega)]; rfl

theorem right_any (x : W3) (w : World) : Calls Try.prog 51 #[.agg #[.string x.key, .string x.text, .bool x.gone]] w fun e w' => e = .returned (.bool (rightB x)) ∧ Below w.heap.size w w' := by
  go_enter Try.func51, Try.ntmps51
  go_wp2
  all_goals go_ret
  all_goals refine ⟨ret_bool ?_, by go_grown⟩
  · exact right1 (by assumption)
  · have hg : x.gone = true := by assumption
    rw [right2 (by assumption), hg]; rfl
  · have hg : x.gone = false := by simpa using (show ¬ x.gone = true by assumption)
    rw [right2 (by assumption), hg]; rfl
  · exact right1 (.inl (by assumption))

end Go.Proofs.Yteaaeeidbjklbaa
