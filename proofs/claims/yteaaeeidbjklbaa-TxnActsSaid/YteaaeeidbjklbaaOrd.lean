/- Plain order of keys: bytesLess is a strict linear order on byte strings. -/
import Derived.WalkKit
import Derived.WalkLawsBesides
import Derived.Lib.Strings
namespace Go.Proofs.Yteaaeeidbjklbaa

theorem notT {b : Bool} (h : ¬ b = true) : b = false := by simpa using h
theorem bl_irrefl : ∀ (a : List UInt8), Op.bytesLess a a = false
  | [] => rfl
  | a :: l => by simp [Op.bytesLess, bl_irrefl l]

theorem bl_trans : ∀ (a b c : List UInt8), Op.bytesLess a b = true → Op.bytesLess b c = true → Op.bytesLess a c = true
  | _, [], _, h, _ => by cases ‹List UInt8› <;> simp [Op.bytesLess] at h
  | _, _ :: _, [], _, h => by simp [Op.bytesLess] at h
  | [], _ :: _, _ :: _, _, _ => rfl
  | a :: x, b :: y, c :: z, h1, h2 => by
    simp only [Op.bytesLess, Bool.or_eq_true, decide_eq_true_eq, Bool.and_eq_true, beq_iff_eq] at *
    rcases h1 with h1 | ⟨rfl, h1⟩ <;> rcases h2 with h2 | ⟨rfl, h2⟩
    · exact .inl (UInt8.lt_trans h1 h2)
    · exact .inl h1
    · exact .inl h2
    · exact .inr ⟨rfl, bl_trans _ _ _ h1 h2⟩

theorem bl_tri : ∀ (a b : List UInt8), Op.bytesLess a b = false → Op.bytesLess b a = false → a = b
  | [], [], _, _ => rfl
  | [], _ :: _, h, _ => by simp [Op.bytesLess] at h
  | _ :: _, [], _, h => by simp [Op.bytesLess] at h
  | a :: x, b :: y, h1, h2 => by
    simp only [Op.bytesLess, Bool.or_eq_false_iff, decide_eq_false_iff_not, Bool.and_eq_false_iff, beq_eq_false_iff_ne] at *
    have hab : a = b := by
      have h3 := h1.1
      have h4 := h2.1
      simp only [UInt8.lt_iff_toNat_lt] at h3 h4
      exact UInt8.toNat_inj.1 (by omega)
    subst hab
    rw [bl_tri x y (by rcases h1.2 with h | h <;> simp_all) (by rcases h2.2 with h | h <;> simp_all)]

theorem ba_toList_inj {a b : ByteArray} (h : a.toList = b.toList) : a = b := by
  rw [Lib.toList_data, Lib.toList_data] at h
  cases a; cases b; simp only [ByteArray.mk.injEq]; exact Array.toList_inj.1 h

/-- a key stands ahead of a key -/
def klt (a b : ByteArray) : Bool := Op.bytesLess a.toList b.toList
theorem klt_irrefl (a : ByteArray) : klt a a = false := bl_irrefl _
theorem klt_trans {a b c : ByteArray} (h : klt a b = true) (h' : klt b c = true) : klt a c = true := bl_trans _ _ _ h h'
theorem klt_tri {a b : ByteArray} (h : klt a b = false) (h' : klt b a = false) : a = b := ba_toList_inj (bl_tri _ _ h h')
theorem klt_asymm {a b : ByteArray} (h : klt a b = true) : klt b a = false := by
  cases h' : klt b a with
  | false => rfl
  | true => have := klt_trans h h'; rw [klt_irrefl] at this; cases this
theorem klt_ne {a b : ByteArray} (h : klt a b = true) : a ≠ b := by rintro rfl; rw [klt_irrefl] at h; cases h
/-- not below, not at: above -/
theorem klt_of_not {a b : ByteArray} (h : klt a b = false) (hne : a ≠ b) : klt b a = true := by
  cases h' : klt b a with
  | true => rfl
  | false => exact absurd (klt_tri h h') hne
theorem keq_iff {a b : ByteArray} : a.toList = b.toList ↔ a = b := ⟨ba_toList_inj, fun h => by rw [h]⟩

section
variable {α : Type} (f : α → ByteArray)

/-- keys rise -/
def Rise (l : List α) : Prop := l.Pairwise (fun x y => klt (f x) (f y) = true)
/-- that of a key -/
def look (k : ByteArray) (l : List α) : Option α := l.find? (fun x => decide (f x = k))

variable {f}
theorem rise_nil : Rise f [] := List.Pairwise.nil
theorem rise_cons {x : α} {l : List α} : Rise f (x :: l) ↔ (∀ y ∈ l, klt (f x) (f y) = true) ∧ Rise f l := List.pairwise_cons
theorem look_nil (k : ByteArray) : look f k [] = none := rfl
theorem look_cons (k : ByteArray) (x : α) (l : List α) : look f k (x :: l) = if f x = k then some x else look f k l := by
  unfold look; rw [List.find?_cons]; by_cases h : f x = k <;> simp [h]
theorem look_none {k : ByteArray} {l : List α} (h : ∀ x ∈ l, f x ≠ k) : look f k l = none := by
  unfold look; rw [List.find?_eq_none]; intro x hx; simpa using h x hx
theorem look_none_iff {k : ByteArray} {l : List α} : look f k l = none ↔ ∀ x ∈ l, f x ≠ k := by
  unfold look; rw [List.find?_eq_none]; simp
theorem look_some {k : ByteArray} {l : List α} {x : α} (h : look f k l = some x) : x ∈ l ∧ f x = k := by
  unfold look at h
  exact ⟨List.mem_of_find?_eq_some h, by simpa using List.find?_some h⟩
theorem look_append (k : ByteArray) (a b : List α) : look f k (a ++ b) = (look f k a).or (look f k b) := by
  unfold look; exact List.find?_append
theorem look_mem {l : List α} (h : Rise f l) {x : α} (hx : x ∈ l) : look f (f x) l = some x := by
  induction l with
  | nil => cases hx
  | cons y l ih =>
    rw [look_cons]
    have hr := rise_cons.1 h
    rcases List.mem_cons.1 hx with rfl | hx
    · simp
    · rw [if_neg (klt_ne (hr.1 x hx)), ih hr.2 hx]
theorem look_gt {k : ByteArray} {l : List α} (h : ∀ x ∈ l, klt k (f x) = true) : look f k l = none := look_none fun x hx => (klt_ne (h x hx)).symm
theorem look_lt {k : ByteArray} {l : List α} (h : ∀ x ∈ l, klt (f x) k = true) : look f k l = none := look_none fun x hx => klt_ne (h x hx)

/-- two rising lists that have the same at each key are one -/
theorem rise_ext : ∀ {a b : List α}, Rise f a → Rise f b → (∀ k, look f k a = look f k b) → a = b
  | [], [], _, _, _ => rfl
  | [], y :: b, _, _, h => by have := h (f y); rw [look_cons, if_pos rfl] at this; cases this
  | x :: a, [], _, _, h => by have := h (f x); rw [look_cons, if_pos rfl] at this; cases this
  | x :: a, y :: b, ha, hb, h => by
    obtain ⟨ha1, ha2⟩ := rise_cons.1 ha
    obtain ⟨hb1, hb2⟩ := rise_cons.1 hb
    have hxy : f x = f y := by
      cases h1 : klt (f x) (f y) with
      | true =>
        have := h (f x)
        rw [look_cons, if_pos rfl, look_gt (l := y :: b)] at this
        · cases this
        · intro z hz
          rcases List.mem_cons.1 hz with rfl | hz
          · exact h1
          · exact klt_trans h1 (hb1 z hz)
      | false =>
        cases h2 : klt (f y) (f x) with
        | false => exact klt_tri h1 h2
        | true =>
          have := h (f y)
          rw [look_cons (f y) y b, if_pos rfl, look_gt (l := x :: a)] at this
          · cases this
          · intro z hz
            rcases List.mem_cons.1 hz with rfl | hz
            · exact h2
            · exact klt_trans h2 (ha1 z hz)
    have e := h (f x)
    rw [look_cons, if_pos rfl, look_cons, if_pos hxy.symm] at e
    cases e
    congr 1
    refine rise_ext ha2 hb2 fun k => ?_
    by_cases hk : f x = k
    · subst hk; rw [look_gt ha1, look_gt hb1]
    · have := h k; rwa [look_cons, if_neg hk, look_cons, if_neg hk] at this

/-- do keys rise, each one held against the one ahead of it -/
def riseB (f : α → ByteArray) : List α → Bool
  | [] => true
  | [_] => true
  | x :: y :: l => klt (f x) (f y) && riseB f (y :: l)
theorem riseB_iff : ∀ {l : List α}, riseB f l = true ↔ Rise f l
  | [] => by simp [riseB, rise_nil]
  | [x] => by simp [riseB, rise_cons, rise_nil]
  | x :: y :: l => by
    rw [riseB, Bool.and_eq_true, riseB_iff (l := y :: l), rise_cons (x := x)]
    refine ⟨fun ⟨h1, h2⟩ => ⟨fun z hz => ?_, h2⟩, fun ⟨h1, h2⟩ => ⟨h1 y (by simp), h2⟩⟩
    rcases List.mem_cons.1 hz with rfl | hz
    · exact h1
    · exact klt_trans h1 ((rise_cons.1 h2).1 z hz)
theorem riseB_true : ∀ {l : List α}, (∀ j (h : j + 1 < l.length), klt (f l[j]) (f l[j+1]) = true) → riseB f l = true
  | [], _ => rfl
  | [_], _ => rfl
  | x :: y :: l, h => by
    rw [riseB, Bool.and_eq_true]
    refine ⟨h 0 (by simp), riseB_true fun j hj => ?_⟩
    have := h (j + 1) (by simpa using hj)
    simpa using this
theorem riseB_false : ∀ {l : List α} (j) (h : j + 1 < l.length), klt (f l[j]) (f l[j+1]) = false → riseB f l = false
  | [], j, h, _ => by simp at h
  | [_], j, h, _ => by simp at h
  | x :: y :: l, j, h, e => by
    rw [riseB]
    cases j with
    | zero => simp at e; rw [e]; rfl
    | succ j => rw [riseB_false j (by simpa using h) (by simpa using e), Bool.and_false]
end
end Go.Proofs.Yteaaeeidbjklbaa
