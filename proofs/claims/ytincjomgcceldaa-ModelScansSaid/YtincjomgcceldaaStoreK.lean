/- The contracts as the laws of layer 16 take them. -/
import Derived.Test.YtincjomgcceldaaStoreJ
namespace Go.Proofs.Ytincjomgcceldaa
open Go.RowKit

theorem fewB_len {l : List W3} (h : fewB l = true) : l.length ≤ 60 := by
  unfold fewB at h; simp only [Bool.and_eq_true, decide_eq_true_eq] at h; exact h.2
theorem FewS.len {xs : List Cm} (h : FewS xs) : ∀ c ∈ xs, c.set.length ≤ 60 := fun c hc => fewB_len (h.1 c hc)
theorem FewS.rise {xs : List Cm} (h : FewS xs) : ∀ c ∈ xs, Rise W3.key c.set := h.2.2.1
theorem last_sl {A : Option Addr} {n c : Nat} {xs : List Cm} {w : World} (h : SlC w A n c xs) :
    Calls Try.prog 20 #[.slice A n c] w fun e w' => e = .returned (.int .u64 (lastC xs)) ∧ Below w.heap.size w w' :=
  (last_any h).mono fun _ _ ⟨he, hw⟩ => ⟨he, hw ▸ Below.refl _ _⟩
theorem rlast_sl {A : Option Addr} {n c : Nat} {xs : List Cm} {w : World} (h : SlC w A n c xs) :
    Calls Try.prog 21 #[.slice A n c] w fun e w' => e = .returned (.int .u64 (lastC xs)) ∧ Below w.heap.size w w' :=
  (rlast_any h).mono fun _ _ ⟨he, hw⟩ => ⟨he, hw ▸ Below.refl _ _⟩
theorem addC_len (xs : List Cm) (ys : List W3) : (addC xs ys).length ≤ xs.length + 1 := by
  unfold addC; split <;> simp
theorem addC_60 {xs : List Cm} {ys : List W3} (h : ∀ c ∈ xs, c.set.length ≤ 60) (hy : ys.length ≤ 60) : ∀ c ∈ addC xs ys, c.set.length ≤ 60 := by
  unfold addC; split
  · exact h
  · intro c hc
    rcases List.mem_append.1 hc with h1 | h1
    · exact h c h1
    · obtain rfl : c = _ := by simpa using h1
      exact hy
theorem addC_rise {xs : List Cm} {ys : List W3} (h : ∀ c ∈ xs, Rise W3.key c.set) (hy : Rise W3.key ys) : ∀ c ∈ addC xs ys, Rise W3.key c.set := by
  unfold addC; split
  · exact h
  · intro c hc
    rcases List.mem_append.1 hc with h1 | h1
    · exact h c h1
    · obtain rfl : c = _ := by simpa using h1
      exact hy
end Go.Proofs.Ytincjomgcceldaa
