/- Plain laws of notes and clashes. -/
import Derived.Test.YteaaeeidbjklbaaTxG
namespace Go.Proofs.Yteaaeeidbjklbaa
open Go.RowKit Go.Maps

theorem notes_at (l : List W3) (st : Int) (k : ByteArray) : ∀ N : ByteArray → Int, notes N l st k = if (look W3.key k l).isSome then (if N k < st then st else N k) else N k := by
  induction l with
  | nil => intro N; rfl
  | cons x l ih =>
    intro N
    show notes (updK N x.key (if N x.key < st then st else N x.key)) l st k = _
    rw [ih, look_cons]
    by_cases e : x.key = k
    · subst e
      rw [updK_same, if_pos rfl]
      simp only [Option.isSome_some, if_true]
      by_cases h : N x.key < st
      · simp only [if_pos h]; simp
      · simp only [if_neg h]; simp
    · rw [updK_other (fun h => e h.symm), if_neg e]
theorem notes_wf {st : Int} (hst : (Lit.int .u64 st).wf = true) (l : List W3) {N : ByteArray → Int} (h : ∀ s, (Lit.int .u64 (N s)).wf = true) : ∀ s, (Lit.int .u64 (notes N l st s)).wf = true := fun s => by
  rw [notes_at]
  split
  · split
    · exact hst
    · exact h s
  · exact h s
theorem clashN_congr {N N' : ByteArray → Int} {st : Int} {l : List W3} (h : ∀ x ∈ l, N x.key = N' x.key) : clashN N st l = clashN N' st l := by
  unfold clashN
  induction l with
  | nil => rfl
  | cons x l ih =>
    rw [List.any_cons, List.any_cons, h x (by simp), ih (fun y hy => h y (List.mem_cons_of_mem _ hy))]
theorem puts_key {P : W3 → Prop} (hP : ∀ x, rightB x = true → P x) : ∀ (l s : List W3), (∀ x ∈ s, P x) → ∀ x ∈ puts s l, P x := by
  intro l
  induction l with
  | nil => intro s hs; exact hs
  | cons w l ih =>
    intro s hs
    refine ih _ fun x hx => ?_
    have hx : x ∈ (putW s w).1 := hx
    unfold putW at hx
    split at hx
    · exact hs x hx
    · rename_i h0
      have hr : rightB w = true := by simpa using h0
      split at hx
      · rcases mem_ins hx with rfl | h
        · exact hP _ hr
        · exact hs x h
      · split at hx
        · exact hs x hx
        · rcases mem_ins hx with rfl | h
          · exact hP _ hr
          · exact hs x h
theorem right_key {x : W3} (h : rightB x = true) : x.key.size ≤ 16 := by
  unfold rightB at h
  simp at h
  exact h.1.1
theorem puts16 (l : List W3) : ∀ x ∈ puts [] l, x.key.size ≤ 16 := puts_key (P := fun x => x.key.size ≤ 16) (fun _ h => right_key h) l [] (fun x hx => by simp at hx)
theorem puts_len (l : List W3) : ∀ s : List W3, Rise W3.key s → s.length ≤ 16 → Rise W3.key (puts s l) ∧ (puts s l).length ≤ 16 := by
  induction l with
  | nil => intro s h1 h2; exact ⟨h1, h2⟩
  | cons w l ih => intro s h1 h2; exact ih _ (putW_rise h1) (putW_len16 h1 h2)
theorem look_in {l : List W3} {x : W3} (hx : x ∈ l) : (look W3.key x.key l).isSome = true := by
  cases e : look W3.key x.key l with
  | some y => rfl
  | none => exact absurd rfl (look_none_iff.1 e x hx)
/-- who noted the set itself -/
theorem clash_own {l : List W3} {st a : Int} (hs : 0 ≤ st) (ha : 0 ≤ a) : clashN (notes (fun _ => 0) l st) a l = (decide (0 < (l.length : Int)) && decide (a < st)) := by
  cases l with
  | nil => rfl
  | cons x l =>
    have hd : decide (0 < (((x :: l).length : Nat) : Int)) = true := decide_eq_true (by rw [List.length_cons]; omega)
    rw [hd, Bool.true_and]
    by_cases h : a < st
    · rw [clashN_yes (x := x) (by simp) (by rw [notes_at, look_in (by simp), if_pos rfl, if_pos (by omega)]; exact h), decide_eq_true h]
    · rw [decide_eq_false h]
      refine clashN_upto (n := (x :: l).length) rfl fun j y _ hy => ?_
      rw [notes_at]
      split
      · split <;> omega
      · omega
abbrev xLong : W3 := ⟨⟨#[110, 111, 110, 101, 32, 111, 102, 32, 116, 104, 101, 115, 101, 32, 105, 115, 32, 115, 111, 32, 108, 111, 110, 103]⟩, ⟨#[]⟩, false⟩
theorem clash_again {l : List W3} (hl : ∀ x ∈ l, x.key.size ≤ 16) {st mn a : Int} (hm : mn ≤ st) (hs : 0 ≤ st) (big : Int) : clashN (notes (notes (notes (fun _ => 0) l st) l mn) [xLong] big) a l = clashN (notes (fun _ => 0) l st) a l := by
  refine clashN_congr fun x hx => ?_
  have h1 : look W3.key x.key [xLong] = none := by
    refine look_none fun y hy e => ?_
    simp at hy; subst hy
    have := hl x hx
    rw [← e] at this
    revert this; decide
  rw [notes_at [xLong], h1]
  have h2 : notes (fun _ => 0) l st x.key = st := by
    rw [notes_at, look_in hx, if_pos rfl]
    split <;> omega
  rw [if_neg (by simp), notes_at l mn, look_in hx, if_pos rfl, h2, if_neg (by omega)]
theorem okWordT {n : Int} (h : (Lit.int .u64 n).wf = true) : 0 ≤ n := by
  simp [Lit.wf] at h
  have e1 : IntKind.u64.min = 0 := rfl
  rw [e1] at h
  exact h.1
end Go.Proofs.Yteaaeeidbjklbaa
