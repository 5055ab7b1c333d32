/- Walks: comparisons of keys; what is only read. -/
import Derived.Test.YteaaeeidbjklbaaMem
namespace Go.Proofs.Yteaaeeidbjklbaa
open Go.RowKit

theorem isnan_any (s : ByteArray) (w : World) : Calls Try.prog 63 #[.string s] w fun e w' => e = .returned (.bool false) ∧ w = w' := by
  go_enter Try.func63, Try.ntmps63
  go_wp2
  go_ret
  exact ⟨rfl, rfl⟩

/-- how a key stands to a key -/
def cmpK (a b : ByteArray) : Int := if klt a b = true then -1 else if a = b then 0 else 1
theorem cmpK_lt {a b : ByteArray} (h : klt a b = true) : cmpK a b = -1 := if_pos h
theorem cmpK_eq (a : ByteArray) : cmpK a a = 0 := by unfold cmpK; rw [klt_irrefl]; simp
theorem cmpK_gt {a b : ByteArray} (h : klt a b = false) (hne : a ≠ b) : cmpK a b = 1 := by unfold cmpK; rw [h]; simp [hne]

theorem ret_int {k : IntKind} {a b : Int} (h : a = b) : Ending.returned (.int k a) = .returned (.int k b) := by rw [h]
theorem ret_bool {a b : Bool} (h : a = b) : Ending.returned (.bool a) = .returned (.bool b) := by rw [h]

theorem cmp1 {s t : ByteArray} (h : Op.bytesLess s.toList t.toList = true) : -1 = cmpK s t := (cmpK_lt h).symm
theorem cmp2 {s t : ByteArray} (h : Op.bytesLess s.toList t.toList = false) (h' : (!s.toList == t.toList) = true) : 1 = cmpK s t := (cmpK_gt h (by rintro rfl; simp at h')).symm
theorem cmp3 {s t : ByteArray} (h' : (!s.toList == t.toList) = false) : 0 = cmpK s t := by
  have : s = t := ba_toList_inj (by simpa using h')
  subst this; exact (cmpK_eq _).symm

theorem compare_any (s t : ByteArray) (w : World) : Calls Try.prog 61 #[.string s, .string t] w fun e w' => e = .returned (.int .i64 (cmpK s t)) ∧ w = w' := by
  go_enter Try.func61, Try.ntmps61
  go_wp2_with (go_at_call 63; refine (isnan_any _ _).mono ?_; rintro e w' ⟨rfl, rfl⟩)
  all_goals go_ret
  all_goals refine ⟨ret_int ?_, rfl⟩
  · exact cmp1 (by assumption)
  · exact cmp2 (by assumption) (by assumption)
  · exact cmp3 (by assumption)

theorem stands_any (s x k : ByteArray) (g : Bool) (w : World) : Calls Try.prog 59 #[.agg #[.string s, .string x, .bool g], .string k] w fun e w' => e = .returned (.int .i64 (cmpK s k)) ∧ Below w.heap.size w w' := by
  go_enter Try.func59, Try.ntmps59
  go_wp2_with (go_at_call 61; refine (compare_any _ _ _).mono ?_; rintro e w' ⟨rfl, rfl⟩)
  go_ret
  exact ⟨rfl, by go_grown⟩

/-! ### Few: are writes few and short enough -/
def shortW (x : W3) : Bool := decide (x.key.size ≤ 100) && decide (x.text.size ≤ 100)
def fewB (l : List W3) : Bool := l.all shortW && decide (l.length ≤ 60)
theorem few_no {l : List W3} {k : Nat} {x : W3} (hx : l[k]? = some x) (h : 100 < (x.key.size : Int) ∨ 100 < (x.text.size : Int)) : false = fewB l := by
  have hs : shortW x = false := by
    unfold shortW
    rcases h with h | h
    · rw [decide_eq_false (show ¬ x.key.size ≤ 100 by omega)]; rfl
    · rw [decide_eq_false (show ¬ x.text.size ≤ 100 by omega)]; simp
  have : l.all shortW = false := by
    rw [List.all_eq_false]
    exact ⟨x, List.mem_of_getElem? hx, by simp [hs]⟩
  unfold fewB; rw [this]; rfl
theorem few_yes {l : List W3} {n : Nat} (hn : l.length = n) (h : ∀ j, j < n → ∀ x, l[j]? = some x → shortW x = true) : fewB l = decide ((n : Int) ≤ 60) := by
  have : l.all shortW = true := by
    rw [List.all_eq_true]
    intro x hx
    obtain ⟨j, hj, e⟩ := List.mem_iff_getElem.1 hx
    exact h j (by omega) x (by rw [List.getElem?_eq_getElem hj, e])
  unfold fewB
  rw [this, hn, Bool.true_and, decide_eq_decide]; omega
theorem short_ok {x : W3} (h : (x.key.size : Int) ≤ 100 ∧ (x.text.size : Int) ≤ 100) : shortW x = true := by
  unfold shortW
  rw [decide_eq_true (show x.key.size ≤ 100 by omega), decide_eq_true (show x.text.size ≤ 100 by omega)]; rfl

/-- of the first k elements all are so -/
def Upto {α : Type} (l : List α) (k : Nat) (p : α → Prop) : Prop := ∀ j, j < k → ∀ x, l[j]? = some x → p x
theorem Upto.zero {α : Type} {l : List α} {p : α → Prop} : Upto l 0 p := fun _ h => absurd h (by omega)
theorem Upto.succ {α : Type} {l : List α} {k : Nat} {p : α → Prop} (h : Upto l k p) {x : α} (hx : l[k]? = some x) (hp : p x) : Upto l (k + 1) p := by
  intro j hj y hy
  rcases Nat.lt_or_ge j k with h1 | h1
  · exact h j h1 y hy
  · obtain rfl : j = k := by omega
    rw [hx] at hy; cases hy; exact hp

theorem few_any {A : Option Addr} {n c : Nat} {xs : List W3} {w : World} (h : SlW w A n c xs) :
    Calls Try.prog 31 #[.slice A n c] w fun e w' => e = .returned (.bool (fewB xs)) ∧ Below w.heap.size w w' := by
  have hm := sl_max h
  have hl := Lib.hid (slW_len h)
  go_enter Try.func31, Try.ntmps31
  go_wp2
  go_loopw [7] (fun i wr => ∃ k : Nat, k ≤ n ∧ i = .int .i64 k ∧ Upto xs k (fun x => shortW x = true) ∧ Below w.heap.size w wr) (fun i _ => n - (intOf i).toNat)
  case atStart => exact ⟨0, Nat.zero_le _, rfl, .zero, Below.refl _ _⟩
  case round =>
    obtain ⟨k, hk, rfl, hu, hb⟩ := hrel
    have HU := Lib.hid hu; clear hu
    by_cases hlt : k < n
    · obtain ⟨b, o, x, rfl, hbw, hx, h0, h1, h2⟩ := slW_get (h.below hb) hlt
      have HX := Lib.hid hx; clear hx h
      go_wp2
      · go_ret
        exact ⟨ret_bool (few_no HX.out (by assumption)), hb.alloc hb.size _⟩
      · go_roundw
        case rel => exact ⟨k + 1, by omega, by go_num, HU.out.succ HX.out (short_ok (by assumption)), hb.alloc hb.size _⟩
        case measure => simp [intOf]; omega
      · go_ret
        exact ⟨ret_bool (few_no HX.out (.inl (by assumption))), hb.alloc hb.size _⟩
    · go_wp2
      go_ret
      obtain rfl : k = n := by omega
      exact ⟨ret_bool (few_yes hl.out HU.out).symm, hb⟩

/-! ### do keys rise -/
/-- of the first k + 1 elements the keys rise -/
def RiseTo {α : Type} (f : α → ByteArray) (l : List α) (k : Nat) : Prop := ∀ j, j < k → ∀ x y, l[j]? = some x → l[j+1]? = some y → klt (f x) (f y) = true
theorem RiseTo.zero {α : Type} {f : α → ByteArray} {l : List α} : RiseTo f l 0 := fun _ h => absurd h (by omega)
theorem RiseTo.succ {α : Type} {f : α → ByteArray} {l : List α} {k : Nat} (h : RiseTo f l k) {x y : α} (hx : l[k]? = some x) (hy : l[k+1]? = some y) (hp : (!Op.bytesLess (f x).toList (f y).toList) = false) : RiseTo f l (k + 1) := by
  intro j hj u v hu hv
  rcases Nat.lt_or_ge j k with h1 | h1
  · exact h j h1 u v hu hv
  · obtain rfl : j = k := by omega
    rw [hx] at hu; rw [hy] at hv; cases hu; cases hv; simpa [klt] using hp
theorem rise_upto {α : Type} {f : α → ByteArray} {l : List α} {n : Nat} (hn : l.length = n) {k : Nat} (hk : n ≤ k + 1) (h : RiseTo f l k) : riseB f l = true :=
  riseB_true fun j hj => h j (by omega) _ _ (List.getElem?_eq_getElem (by omega)) (List.getElem?_eq_getElem hj)
theorem rise_no {α : Type} {f : α → ByteArray} {l : List α} {j : Nat} {x y : α} (hx : l[j]? = some x) (hy : l[j+1]? = some y) (h : (!Op.bytesLess (f x).toList (f y).toList) = true) : false = riseB f l := by
  obtain ⟨h1, rfl⟩ := get_some hx
  obtain ⟨h2, rfl⟩ := get_some hy
  exact (riseB_false j h2 (by simpa [klt] using h)).symm

end Go.Proofs.Yteaaeeidbjklbaa
