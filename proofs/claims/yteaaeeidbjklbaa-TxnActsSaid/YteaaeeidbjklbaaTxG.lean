/- Writes, one behind the other. -/
import Derived.Test.YteaaeeidbjklbaaTxF
namespace Go.Proofs.Yteaaeeidbjklbaa
open Go.RowKit Go.Maps

/-- a set with more writes, each as Put has it -/
def puts (s l : List W3) : List W3 := l.foldl (fun s w => (putW s w).1) s
theorem puts_nil (s : List W3) : puts s [] = s := rfl
theorem puts_succ {s l : List W3} {k : Nat} {x : W3} (hx : l[k]? = some x) : puts s (l.take (k + 1)) = (putW (puts s (l.take k)) x).1 := by
  unfold puts; rw [tx_take hx, List.foldl_append]; rfl
theorem upd_upd {α : Type} (f : Nat → α) (i : Nat) (a c : α) : upd (upd f i a) i c = upd f i c := by
  funext j
  by_cases e : j = i
  · subst e; rw [upd_same, upd_same]
  · rw [upd_other e, upd_other e, upd_other e]
theorem fewB_l60 {l : List W3} (h : fewB l = true) : l.length ≤ 60 := by
  unfold fewB at h; rw [Bool.and_eq_true] at h; exact of_decide_eq_true h.2
theorem few_keyT {ys : List W3} {x : W3} (h : fewB ys = true) (hx : x ∈ ys) : x.key.size ≤ maxLen := by
  unfold fewB at h
  rw [Bool.and_eq_true, List.all_eq_true] at h
  have h6 := h.1 x hx
  unfold shortW at h6
  simp at h6
  unfold maxLen; omega
end Go.Proofs.Yteaaeeidbjklbaa
