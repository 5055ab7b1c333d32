/- Stores: plain laws. -/
import Derived.Test.YtincjomgcceldaaStoreK
import Derived.Deep.DeepCutAuto
namespace Go.Proofs.Ytincjomgcceldaa
open Go.RowKit

theorem lastC_ge {xs : List Cm} (h : RiseS xs) : ∀ c ∈ xs, c.stamp ≤ lastC xs := by
  intro c hc
  obtain ⟨j, hj, rfl⟩ := List.mem_iff_getElem.1 hc
  have hl : lastC xs = (xs[xs.length - 1]'(by omega)).stamp := lastC_at (List.getElem?_eq_getElem _) (by omega)
  rw [hl]
  rcases Nat.lt_or_ge j (xs.length - 1) with h1 | h1
  · exact Int.le_of_lt (List.pairwise_iff_getElem.1 h.2 j (xs.length - 1) hj (by omega) h1)
  · have : j = xs.length - 1 := by omega
    subst this; exact Int.le_refl _
theorem lastC_snoc (xs : List Cm) (c : Cm) : lastC (xs ++ [c]) = c.stamp := by
  unfold lastC; rw [List.getLast?_concat]
theorem scan_snoc_no {xs : List Cm} {c : Cm} {k : Int} (h : ¬ c.stamp ≤ k) : scanC (xs ++ [c]) k = scanC xs k := by
  unfold scanC; rw [List.filter_append, List.filter_cons_of_neg (by simpa using h), List.filter_nil, List.append_nil]
theorem scan_snoc_yes {xs : List Cm} {c : Cm} {k : Int} (h : c.stamp ≤ k) : scanC (xs ++ [c]) k = ov (scanC xs k) c.set := by
  unfold scanC; rw [List.filter_append, List.filter_cons_of_pos (by simpa using h), List.filter_nil, List.foldl_append]; rfl
theorem scan_all {xs : List Cm} {a b : Int} (h : ∀ c ∈ xs, c.stamp ≤ a) (hab : a ≤ b) : scanC xs a = scanC xs b := by
  unfold scanC
  rw [List.filter_congr (q := fun c : Cm => decide (c.stamp ≤ b))]
  intro c hc
  have := h c hc
  rw [decide_eq_true this, decide_eq_true (show c.stamp ≤ b by omega)]
theorem hist_snoc (xs : List Cm) (c : Cm) (key : ByteArray) (k : Int) : hist (xs ++ [c]) key k = histS k key (hist xs key k) c := by
  unfold hist; rw [List.foldl_append]; rfl
theorem hist_all {xs : List Cm} {a b : Int} {key : ByteArray} (h : ∀ c ∈ xs, c.stamp ≤ a) (hab : a ≤ b) : hist xs key a = hist xs key b := by
  unfold hist
  generalize (none : Option W3) = acc
  induction xs generalizing acc with
  | nil => rfl
  | cons x l ih =>
    have h1 := h x (by simp)
    rw [List.foldl_cons, List.foldl_cons, show histS a key acc x = histS b key acc x by unfold histS; rw [if_pos h1, if_pos (show x.stamp ≤ b by omega)]]
    exact ih (fun c hc => h c (List.mem_cons_of_mem _ hc)) _
theorem clash_snoc (xs : List Cm) (c : Cm) (s : List W3) (k : Int) : clashB (xs ++ [c]) s k = (clashB xs s k || (decide (k < c.stamp) && meetB c.set s)) := by
  unfold clashB; rw [List.any_append]; simp
theorem clash_last {xs : List Cm} {s : List W3} {a : Int} (h : ∀ c ∈ xs, c.stamp ≤ a) : clashB xs s a = false := by
  unfold clashB; rw [List.any_eq_false]
  intro c hc
  have := h c hc
  rw [decide_eq_false (show ¬ a < c.stamp by omega)]; simp
theorem clash_mono {xs : List Cm} {s : List W3} {a b : Int} (hab : a ≤ b) (h : clashB xs s b = true) : clashB xs s a = true := by
  unfold clashB at *
  rw [List.any_eq_true] at *
  obtain ⟨c, hc, h1⟩ := h
  simp only [Bool.and_eq_true, decide_eq_true_eq] at h1
  exact ⟨c, hc, by simp only [Bool.and_eq_true, decide_eq_true_eq]; exact ⟨by omega, h1.2⟩⟩
theorem clash_nil_set (xs : List Cm) (a : Int) : clashB xs [] a = false := by
  unfold clashB; rw [List.any_eq_false]
  intro c _
  have : meetB c.set [] = false := by unfold meetB; rw [List.any_eq_false]; intro x _; rw [look_nil]; simp
  rw [this]; simp
theorem clash_nil (s : List W3) (a : Int) : clashB [] s a = false := rfl
theorem add_yes {xs : List Cm} {ys : List W3} (h : ¬ 60000 ≤ lastC xs) : addC xs ys = xs ++ [⟨lastC xs + 1, ys⟩] := if_neg h
theorem addE_yes {xs : List Cm} (h : ¬ 60000 ≤ lastC xs) : addE xs = 0 := if_neg h
theorem addE_no {xs : List Cm} (h : 60000 ≤ lastC xs) : addE xs = 10 := if_pos h
/-- what is added is what its own stamp sees -/
theorem hist_added {xs : List Cm} {ys : List W3} {key : ByteArray} (h : RiseS xs) : hist (xs ++ [⟨lastC xs + 1, ys⟩]) key (lastC xs + 1) = match look W3.key key ys with | some w => some w | none => hist xs key (lastC xs) := by
  rw [hist_snoc, ← hist_all (lastC_ge h) (show lastC xs ≤ lastC xs + 1 by omega)]
  unfold histS; rw [if_pos (Int.le_refl _)]; rfl
theorem scan_added {xs : List Cm} {ys : List W3} (h : RiseS xs) : scanC (xs ++ [⟨lastC xs + 1, ys⟩]) (lastC xs + 1) = ov (scanC xs (lastC xs)) ys := by
  rw [scan_snoc_yes (Int.le_refl _), ← scan_all (lastC_ge h) (show lastC xs ≤ lastC xs + 1 by omega)]
theorem clash_added {xs : List Cm} {a b : List W3} (h : RiseS xs) : clashB (xs ++ [⟨lastC xs + 1, a⟩]) b (lastC xs) = meetB a b := by
  rw [clash_snoc, clash_last (lastC_ge h), decide_eq_true (show lastC xs < lastC xs + 1 by omega)]; simp
theorem rise_added {xs : List Cm} {a : List W3} (h : RiseS xs) (ha : Rise W3.key a) : RiseS (xs ++ [⟨lastC xs + 1, a⟩]) := by
  refine ⟨fun c hc => ?_, List.pairwise_append.2 ⟨h.2, List.pairwise_singleton _ _, fun x hx y hy => ?_⟩⟩
  · rcases List.mem_append.1 hc with h1 | h1
    · exact h.1 c h1
    · obtain rfl : c = _ := by simpa using h1
      exact ha
  · obtain rfl : y = _ := by simpa using hy
    have := lastC_ge h x hx
    show x.stamp < lastC xs + 1; omega
theorem clash_added_none {xs : List Cm} {a b : List W3} (h : RiseS xs) (ha : Rise W3.key a) : clashB (xs ++ [⟨lastC xs + 1, a⟩]) b (lastC xs + 1) = false := by
  refine clash_last fun c hc => ?_
  have := lastC_ge (rise_added (a := a) h ha) c hc
  rwa [lastC_snoc] at this
end Go.Proofs.Ytincjomgcceldaa
