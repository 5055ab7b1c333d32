/- Plain law: sets, pairs, what a set makes of pairs: lists with rising keys, told by what they have of each key. -/
import Derived.Test.YteaaeeidbjklbaaOrd
namespace Go.Proofs.Yteaaeeidbjklbaa

structure W3 where
  key : ByteArray
  text : ByteArray
  gone : Bool
structure P2 where
  key : ByteArray
  text : ByteArray

section
variable {α : Type} {f : α → ByteArray}

/-- one more, in the place of that of its key -/
def ins (f : α → ByteArray) : List α → α → List α
  | [], w => [w]
  | x :: l, w => if klt (f x) (f w) = true then x :: ins f l w else if f x = f w then w :: l else w :: x :: l

theorem mem_ins {l : List α} {w z : α} (h : z ∈ ins f l w) : z = w ∨ z ∈ l := by
  induction l with
  | nil => simp [ins] at h; exact .inl h
  | cons x l ih =>
    unfold ins at h
    split at h
    · rcases List.mem_cons.1 h with rfl | h
      · simp
      · rcases ih h with h | h <;> simp [h]
    · split at h <;> simp at h ⊢ <;> rcases h with h | h <;> simp [h]

theorem rise_ins {l : List α} (h : Rise f l) (w : α) : Rise f (ins f l w) := by
  induction l with
  | nil => simp [ins, rise_cons, rise_nil]
  | cons x l ih =>
    obtain ⟨h1, h2⟩ := rise_cons.1 h
    unfold ins
    split
    · rename_i hlt
      refine rise_cons.2 ⟨fun z hz => ?_, ih h2⟩
      rcases mem_ins hz with rfl | hz
      · exact hlt
      · exact h1 z hz
    · rename_i hlt
      split
      · rename_i he
        exact rise_cons.2 ⟨fun z hz => he ▸ h1 z hz, h2⟩
      · rename_i he
        have hgt := klt_of_not (by simpa using hlt) he
        refine rise_cons.2 ⟨fun z hz => ?_, h⟩
        rcases List.mem_cons.1 hz with rfl | hz
        · exact hgt
        · exact klt_trans hgt (h1 z hz)

theorem look_ins {l : List α} (h : Rise f l) (w : α) (k : ByteArray) : look f k (ins f l w) = if f w = k then some w else look f k l := by
  induction l with
  | nil => simp [ins, look_cons, look_nil]
  | cons x l ih =>
    obtain ⟨h1, h2⟩ := rise_cons.1 h
    unfold ins
    split
    · rename_i hlt
      rw [look_cons, ih h2, look_cons]
      by_cases hx : f x = k
      · subst hx; rw [if_pos rfl, if_pos rfl, if_neg (klt_ne hlt).symm]
      · rw [if_neg hx, if_neg hx]
    · split
      · rename_i he
        rw [look_cons, look_cons, he]
        by_cases hw : f w = k <;> simp [hw]
      · rw [look_cons]

theorem length_ins {l : List α} (h : Rise f l) (w : α) : (ins f l w).length = l.length + if (look f (f w) l).isSome = true then 0 else 1 := by
  induction l with
  | nil => simp [ins, look_nil]
  | cons x l ih =>
    obtain ⟨h1, h2⟩ := rise_cons.1 h
    unfold ins
    rw [look_cons]
    split
    · rename_i hlt
      rw [List.length_cons, ih h2, if_neg (klt_ne hlt), List.length_cons]; omega
    · rename_i hlt
      split
      · rename_i he; simp
      · rename_i he
        have hgt := klt_of_not (by simpa using hlt) he
        rw [look_gt (l := l) (fun z hz => klt_trans hgt (h1 z hz))]
        simp

/-- how many stand ahead of a key -/
def pos (f : α → ByteArray) (l : List α) (k : ByteArray) : Nat := (l.takeWhile (fun x => klt (f x) k)).length
theorem pos_le (l : List α) (k : ByteArray) : pos f l k ≤ l.length := (List.takeWhile_sublist _).length_le
theorem pos_nil (k : ByteArray) : pos f [] k = 0 := rfl
theorem pos_cons (x : α) (l : List α) (k : ByteArray) : pos f (x :: l) k = if klt (f x) k = true then pos f l k + 1 else 0 := by
  unfold pos; rw [List.takeWhile_cons]; split <;> simp_all
theorem pos_lt {l : List α} {k : ByteArray} : ∀ {j} (_ : j < pos f l k) (hj : j < l.length), klt (f l[j]) k = true := by
  induction l with
  | nil => intro j h; simp [pos] at h
  | cons x l ih =>
    intro j h hj
    rw [pos_cons] at h
    split at h
    · rename_i hx
      cases j with
      | zero => exact hx
      | succ j => simpa using ih (by omega) (by simpa using hj)
    · omega
theorem pos_ge {l : List α} (hr : Rise f l) {k : ByteArray} : ∀ {j} (_ : pos f l k ≤ j) (hj : j < l.length), klt (f l[j]) k = false := by
  induction l with
  | nil => intro j _ h; simp at h
  | cons x l ih =>
    obtain ⟨h1, h2⟩ := rise_cons.1 hr
    intro j h hj
    rw [pos_cons] at h
    split at h
    · rename_i hx
      cases j with
      | zero => omega
      | succ j => simpa using ih h2 (by omega) (by simpa using hj)
    · rename_i hx
      have hx : klt (f x) k = false := by simpa using hx
      cases j with
      | zero => exact hx
      | succ j =>
        have hj' : j < l.length := by simpa using hj
        have := h1 l[j] (List.getElem_mem hj')
        simp only [List.getElem_cons_succ]
        cases h3 : klt (f l[j]) k with
        | false => rfl
        | true => rw [klt_trans this h3] at hx; cases hx
/-- the place that a search by halves comes to -/
theorem pos_eq {l : List α} (hr : Rise f l) {k : ByteArray} {i : Nat} (hi : i ≤ l.length) (h1 : ∀ j (hj : j < l.length), j < i → klt (f l[j]) k = true)
    (h2 : ∀ j (hj : j < l.length), i ≤ j → klt (f l[j]) k = false) : i = pos f l k := by
  have hp := pos_le (f := f) l k
  rcases Nat.lt_trichotomy i (pos f l k) with h | h | h
  · have a := h2 i (by omega) (Nat.le_refl _)
    rw [pos_lt h (by omega)] at a; cases a
  · exact h
  · have a := h1 (pos f l k) (by omega) h
    rw [pos_ge hr (Nat.le_refl _) (by omega)] at a; cases a
/-- is the key's there? just if it stands at that place -/
theorem look_pos {l : List α} (hr : Rise f l) {k : ByteArray} (h : pos f l k < l.length) : look f k l = if f (l[pos f l k]) = k then some l[pos f l k] else none := by
  split
  · rename_i he
    have := look_mem hr (List.getElem_mem h)
    rwa [he] at this
  · rename_i he
    refine look_none fun x hx hk => ?_
    obtain ⟨j, hj, rfl⟩ := List.mem_iff_getElem.1 hx
    rcases Nat.lt_trichotomy j (pos f l k) with h1 | h1 | h1
    · have := pos_lt h1 hj
      rw [hk, klt_irrefl] at this; cases this
    · subst h1; exact he hk
    · have h2 := pos_ge hr (Nat.le_refl _) h
      have h3 : klt (f l[pos f l k]) (f l[j]) = true := List.pairwise_iff_getElem.1 hr _ _ h hj h1
      rw [hk, h2] at h3; cases h3
theorem look_end {l : List α} {k : ByteArray} (h : ¬ pos f l k < l.length) : look f k l = none := by
  refine look_none fun x hx hk => ?_
  obtain ⟨j, hj, rfl⟩ := List.mem_iff_getElem.1 hx
  have := pos_lt (f := f) (l := l) (k := k) (j := j) (by omega) hj
  rw [hk, klt_irrefl] at this; cases this

theorem ins_new : ∀ {l : List α} {w : α}, look f (f w) l = none → ins f l w = l.take (pos f l (f w)) ++ w :: l.drop (pos f l (f w))
  | [], w, _ => by simp [ins]
  | x :: l, w, h => by
    rw [look_cons] at h
    split at h
    · cases h
    · rename_i hne
      rw [pos_cons, ins]
      split
      · rw [ins_new h]; simp
      · simp
theorem ins_set : ∀ {l : List α} {w : α}, Rise f l → (look f (f w) l).isSome = true → ins f l w = l.set (pos f l (f w)) w
  | [], w, _, h => by simp [look_nil] at h
  | x :: l, w, hr, h => by
    obtain ⟨h1, h2⟩ := rise_cons.1 hr
    rw [look_cons] at h
    rw [pos_cons, ins]
    split
    · rename_i hlt
      rw [if_neg (klt_ne hlt)] at h
      rw [ins_set h2 h]; simp
    · rename_i hlt
      by_cases he : f x = f w
      · rw [if_pos he]; simp
      · have hgt := klt_of_not (by simpa using hlt) he
        rw [if_neg he, look_gt (l := l) (fun z hz => klt_trans hgt (h1 z hz))] at h
        cases h

/-- the reference's way to lay one more -/
def rput (f : α → ByteArray) (l : List α) (w : α) : List α :=
  l.takeWhile (fun x => klt (f x) (f w)) ++ w :: (l.dropWhile (fun x => klt (f x) (f w))).filter (fun x => !decide (f x = f w))
theorem rput_eq {l : List α} (h : Rise f l) (w : α) : rput f l w = ins f l w := by
  induction l with
  | nil => simp [rput, ins]
  | cons x l ih =>
    obtain ⟨h1, h2⟩ := rise_cons.1 h
    unfold ins
    split
    · rename_i hlt
      have := ih h2
      unfold rput at this ⊢
      rw [List.takeWhile_cons_of_pos (by simpa using hlt), List.dropWhile_cons_of_pos (by simpa using hlt), List.cons_append, this]
    · rename_i hlt
      unfold rput
      rw [List.takeWhile_cons_of_neg (by simpa using hlt), List.dropWhile_cons_of_neg (by simpa using hlt)]
      have hf : l.filter (fun x => !decide (f x = f w)) = l := by
        rw [List.filter_eq_self]
        intro z hz
        have hz1 := h1 z hz
        have : f z ≠ f w := by
          intro he
          rw [he] at hz1
          exact hlt hz1
        simp [this]
      rw [List.filter_cons, hf]
      by_cases he : f x = f w <;> simp [he]
end
end Go.Proofs.Yteaaeeidbjklbaa
