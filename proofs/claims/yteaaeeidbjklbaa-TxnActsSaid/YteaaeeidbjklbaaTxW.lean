/- Acts: a slice of them; are they too many, or too long. -/
import Derived.Test.YteaaeeidbjklbaaTxV
namespace Go.Proofs.Yteaaeeidbjklbaa
open Go.RowKit Go.Maps

structure A17 where
  kind : Int
  id : Int
  at_ : Int
  w : W3
def A17.cells (x : A17) : List Value := [.int .u8 x.kind, .int .i64 x.id, .int .u64 x.at_, .string x.w.key, .string x.w.text, .bool x.w.gone]
def cA17 (xs : List A17) : List Value := xs.flatMap A17.cells
abbrev SlA17 (w : World) (A : Option Addr) (n c : Nat) (xs : List A17) : Prop := Sl w 6 A n c (cA17 xs)
theorem cA17_length : ∀ xs : List A17, (cA17 xs).length = xs.length * 6
  | [] => rfl
  | x :: l => by simp only [cA17, List.flatMap_cons, List.length_append, List.length_cons]; have := cA17_length l; unfold cA17 at this; rw [this]; simp [A17.cells]; omega
theorem cA17_get : ∀ {xs : List A17} {k : Nat} {x : A17}, xs[k]? = some x → ∀ j, j < 6 → (cA17 xs)[k * 6 + j]? = x.cells[j]?
  | [], k, x, h => by simp at h
  | y :: l, 0, x, h => by
    obtain rfl : y = x := by simpa using h
    intro j hj
    have : j = 0 ∨ j = 1 ∨ j = 2 ∨ j = 3 ∨ j = 4 ∨ j = 5 := by omega
    rcases this with rfl | rfl | rfl | rfl | rfl | rfl <;> rfl
  | y :: l, k + 1, x, h => by
    have ih := cA17_get (xs := l) (k := k) (by simpa using h)
    have e : ∀ j, (cA17 (y :: l))[j + 6]? = (cA17 l)[j]? := fun j => rfl
    intro j hj
    rw [show (k + 1) * 6 + j = k * 6 + j + 6 from by omega, e]
    exact ih j hj
theorem slA17_len {w : World} {A : Option Addr} {n c : Nat} {xs : List A17} (h : SlA17 w A n c xs) : xs.length = n := by
  have h1 := h.1; rw [cA17_length] at h1; omega
theorem slA17_get {w : World} {A : Option Addr} {n c : Nat} {xs : List A17} (h : SlA17 w A n c xs) {k : Nat} (hk : k < n) :
    ∃ b o x, A = some ⟨b, o, none⟩ ∧ b < w.heap.size ∧ xs[k]? = some x ∧ w.cell? ⟨b, o + k * 6, none⟩ = some (.int .u8 x.kind) ∧ w.cell? ⟨b, o + k * 6 + 1, none⟩ = some (.int .i64 x.id) ∧ w.cell? ⟨b, o + k * 6 + 2, none⟩ = some (.int .u64 x.at_) ∧
      w.cell? ⟨b, o + k * 6 + 3, none⟩ = some (.string x.w.key) ∧ w.cell? ⟨b, o + k * 6 + 4, none⟩ = some (.string x.w.text) ∧ w.cell? ⟨b, o + k * 6 + 5, none⟩ = some (.bool x.w.gone) := by
  obtain ⟨b, o, e, hb, hc⟩ := h.2.2.2 (by omega)
  have hl : k < xs.length := by rw [slA17_len h]; exact hk
  have hx : xs[k]? = some xs[k] := List.getElem?_eq_getElem hl
  have hg := cA17_get hx
  exact ⟨b, o, xs[k], e, hb, hx, hc _ _ (hg 0 (by omega)), hc _ _ (hg 1 (by omega)), hc _ _ (hg 2 (by omega)), hc _ _ (hg 3 (by omega)), hc _ _ (hg 4 (by omega)), hc _ _ (hg 5 (by omega))⟩
/-- the box of an act -/
abbrev boxA (x : A17) : Array Value := #[.int .u8 x.kind, .int .i64 x.id, .int .u64 x.at_, .string x.w.key, .string x.w.text, .bool x.w.gone]
def heavyB (l : List A17) : Bool := !(l.all (fun a => fewB [a.w])) || decide (200 < l.length)
theorem heavy_t {l : List A17} {k : Nat} {x : A17} (hx : l[k]? = some x) (h : fewB [x.w] = false) : heavyB l = true := by
  unfold heavyB
  have : l.all (fun a => fewB [a.w]) = false := by
    rw [List.all_eq_false]
    exact ⟨x, List.mem_of_getElem? hx, by simp [h]⟩
  rw [this]; rfl
theorem heavy_f {l : List A17} {n : Nat} (hl : l.length = n) (h : ∀ j x, j < n → l[j]? = some x → fewB [x.w] = true) : heavyB l = decide (200 < (n : Int)) := by
  unfold heavyB
  have : l.all (fun a => fewB [a.w]) = true := by
    rw [List.all_eq_true]
    intro x hx
    obtain ⟨j, hj, e⟩ := List.mem_iff_getElem.1 hx
    exact h j x (by omega) (by rw [List.getElem?_eq_getElem hj, e])
  rw [this, hl]
  by_cases h2 : 200 < n
  · rw [decide_eq_true h2, decide_eq_true (show (200 : Int) < n by omega)]; rfl
  · rw [decide_eq_false h2, decide_eq_false (show ¬ (200 : Int) < n by omega)]; rfl
theorem heavy_no {l : List A17} (h : heavyB l = false) : l.length ≤ 200 ∧ ∀ x ∈ l, fewB [x.w] = true := by
  unfold heavyB at h
  rw [Bool.or_eq_false_iff] at h
  obtain ⟨h1, h2⟩ := h
  have h1 : l.all (fun a => fewB [a.w]) = true := by simpa using h1
  rw [List.all_eq_true] at h1
  exact ⟨by have := of_decide_eq_false h2; omega, h1⟩
set_option maxHeartbeats 2000000 in
theorem heavy_any {A : Option Addr} {n c : Nat} {xs : List A17} {w : World} (h : SlA17 w A n c xs) : Calls Try.prog 11 #[.slice A n c] w fun e w' => e = .returned (.bool (heavyB xs)) ∧ Below w.heap.size w w' := by
  have hm := sl_max h
  have hl := Lib.hid (slA17_len h)
  have HS := Lib.hid h; clear h
  go_enter Try.func11, Try.ntmps11
  go_wp2
  go_loopw [7] (fun v wr => ∃ k : Nat, k ≤ n ∧ v = .int .i64 k ∧ (∀ j x, j < k → xs[j]? = some x → fewB [x.w] = true) ∧ Below w.heap.size w wr) (fun v _ => n - (intOf v).toNat)
  case atStart => exact ⟨0, Nat.zero_le _, rfl, (fun j x h => absurd h (by omega)), Below.refl _ _⟩
  case round =>
    obtain ⟨k, hk, rfl, hu, hb⟩ := hrel
    have HU := Lib.hid hu; have HB := Lib.hid hb; clear hu hb
    by_cases hkn : k < n
    · obtain ⟨b', o, x, hA, hbw, hx, h0, h1, h2, h3, h4, h5⟩ := slA17_get (HS.out.below HB.out) hkn
      subst hA
      have HX := Lib.hid hx; clear hx
      have hbe := (Below.refl wr.heap.size wr).alloc (Nat.le_refl _) (.cells (boxA x) 40)
      have hbe2 := hbe.alloc hbe.size (.cells #[.string x.w.key, .string x.w.text, .bool x.w.gone] 38)
      have hsz1 : wr.heap.size < (wr.alloc (.cells (boxA x) 40)).heap.size := by simp
      have HBE := Lib.hid (bt HB.out hbe2)
      have hsf := (SlF.one hsz1 hsz1 38 x.w).1
      rw [show (wr.alloc (.cells (boxA x) 40)).heap.size = wr.heap.size + 1 by simp] at hsf
      have HSF := Lib.hid hsf
      clear hbe hbe2 hsz1 hsf
      go_wp2_with fail
      refine (few_any HSF.out).mono ?_
      rintro e w1 ⟨rfl, hb⟩
      have HB1 := Lib.hid (bt HBE.out hb); clear hb h0 h1 h2 h3 h4 h5
      cases hf : fewB [x.w] with
      | false =>
        have HF := Lib.hid hf; clear hf
        go_wp2
        go_ret
        exact ⟨by rw [heavy_t HX.out HF.out]; rfl, HB1.out⟩
      | true =>
        have HF := Lib.hid hf; clear hf
        go_wp2
        go_roundw
        case rel => exact ⟨k + 1, by omega, by go_num, (fun j y hj hy => by
          rcases Nat.lt_or_ge j k with h | h
          · exact HU.out j y h hy
          · obtain rfl : j = k := by omega
            rw [HX.out] at hy; cases hy; exact HF.out), HB1.out⟩
        case measure => simp [intOf]; omega
    · obtain rfl : k = n := by omega
      go_wp2
      go_ret
      exact ⟨by rw [heavy_f hl.out HU.out]; rfl, HB.out⟩
end Go.Proofs.Yteaaeeidbjklbaa
