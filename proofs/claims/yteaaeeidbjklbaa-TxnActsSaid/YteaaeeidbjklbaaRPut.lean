/- The reference's way to lay one more: the loop's invariant (plain), the walk over pairs. -/
import Derived.Test.YteaaeeidbjklbaaAppend
namespace Go.Proofs.Yteaaeeidbjklbaa
open Go.RowKit

section
variable {α : Type} {f : α → ByteArray}
def PutInv (f : α → ByteArray) (l : List α) (p : α) (k : Nat) (done : Bool) (acc : List α) : Prop :=
  if done = true then acc ++ (l.drop k).filter (fun x => !decide (f x = f p)) = rput f l p else acc = l.take k ∧ Upto l k (fun x => klt (f x) (f p) = true)

theorem takeWhile_all {q : α → Bool} : ∀ {l : List α} {k : Nat}, Upto l k (fun x => q x = true) → l.takeWhile q = l.take k ++ (l.drop k).takeWhile q ∧ l.dropWhile q = (l.drop k).dropWhile q
  | l, 0, _ => by simp
  | [], k + 1, _ => by simp
  | x :: l, k + 1, h => by
    have hx := h 0 (by omega) x rfl
    obtain ⟨h1, h2⟩ := takeWhile_all (l := l) (k := k) (fun j hj y hy => h (j + 1) (by omega) y (by simpa using hy))
    rw [List.takeWhile_cons_of_pos hx, List.dropWhile_cons_of_pos hx, List.take_succ_cons, List.drop_succ_cons, h1, h2]
    exact ⟨rfl, rfl⟩
theorem drop_at {l : List α} {k : Nat} {x : α} (h : l[k]? = some x) : l.drop k = x :: l.drop (k + 1) := by
  obtain ⟨hk, rfl⟩ := get_some h
  exact List.drop_eq_getElem_cons hk
theorem take_at {l : List α} {k : Nat} {x : α} (h : l[k]? = some x) : l.take (k + 1) = l.take k ++ [x] := by
  obtain ⟨hk, rfl⟩ := get_some h
  exact List.take_succ_eq_append_getElem hk

variable {l : List α} {p x : α} {k : Nat} {acc : List α}
theorem PutInv.start (l : List α) (p : α) : PutInv f l p 0 false [] := ⟨rfl, .zero⟩
theorem PutInv.lt (h : PutInv f l p k false acc) (hx : l[k]? = some x) (hk : klt (f x) (f p) = true) : PutInv f l p (k + 1) false (acc ++ [x]) := by
  obtain ⟨h1, h2⟩ := h
  exact ⟨by rw [h1, take_at hx], h2.succ hx hk⟩
theorem PutInv.t_eq (h : PutInv f l p k true acc) (hx : l[k]? = some x) (hk : f x = f p) : PutInv f l p (k + 1) true acc := by
  have h' : acc ++ (l.drop k).filter _ = _ := h
  rw [drop_at hx, List.filter_cons_of_neg (by simp [hk])] at h'
  exact h'
theorem PutInv.t_ne (h : PutInv f l p k true acc) (hx : l[k]? = some x) (hk : f x ≠ f p) : PutInv f l p (k + 1) true (acc ++ [x]) := by
  have h' : acc ++ (l.drop k).filter _ = _ := h
  rw [drop_at hx, List.filter_cons_of_pos (by simp [hk])] at h'
  show acc ++ [x] ++ _ = _
  rw [List.append_assoc]; exact h'
theorem PutInv.turn (h : PutInv f l p k false acc) (hx : l[k]? = some x) (hk : klt (f x) (f p) = false) : PutInv f l p k true (acc ++ [p]) := by
  obtain ⟨h1, h2⟩ := h
  obtain ⟨e1, e2⟩ := takeWhile_all h2
  show acc ++ [p] ++ _ = rput f l p
  unfold rput
  rw [e1, e2, drop_at hx, List.takeWhile_cons_of_neg (by simp [hk]), List.dropWhile_cons_of_neg (by simp [hk]), h1]; simp
theorem PutInv.end_t {n : Nat} (hn : l.length = n) (h : PutInv f l p n true acc) : acc = rput f l p := by
  have h' : acc ++ (l.drop n).filter _ = _ := h
  rw [List.drop_of_length_le (by omega)] at h'
  simpa using h'
theorem PutInv.end_f {n : Nat} (hn : l.length = n) (h : PutInv f l p n false acc) : acc ++ [p] = rput f l p := by
  obtain ⟨h1, h2⟩ := h
  obtain ⟨e1, e2⟩ := takeWhile_all h2
  unfold rput
  rw [e1, e2, List.drop_of_length_le (by omega), h1]; simp
theorem rput_len (l : List α) (p : α) : (rput f l p).length ≤ l.length + 1 := by
  unfold rput
  rw [List.length_append, List.length_cons]
  have h1 := List.length_filter_le (fun x => !decide (f x = f p)) (l.dropWhile (fun x => klt (f x) (f p)))
  have h2 := congrArg List.length (List.takeWhile_append_dropWhile (p := fun x => klt (f x) (f p)) (l := l))
  rw [List.length_append] at h2
  omega
theorem PutInv.len {d : Bool} (h : PutInv f l p k d acc) (hk : k ≤ l.length) : acc.length ≤ l.length + 1 ∧ (d = false → acc.length ≤ l.length) := by
  cases d with
  | false => obtain ⟨h1, _⟩ := h; rw [h1, List.length_take]; omega
  | true =>
    have h' : acc ++ (l.drop k).filter _ = _ := h
    have := congrArg List.length h'
    rw [List.length_append] at this
    have h2 := rput_len (f := f) l p
    exact ⟨by omega, by simp⟩
end

theorem own_drew {w : World} {base e sz n : Nat} {v : Value} {cs : List Value} (h : w.ownsRow base e sz v n cs) (m : Nat) : (w.drewN m).ownsRow base e sz v n cs := h
theorem keq_t' {a b : ByteArray} (h : (!a.toList == b.toList) = false) : a = b := ba_toList_inj (by simpa using h)
theorem keq_f' {a b : ByteArray} (h : (!a.toList == b.toList) = true) : a ≠ b := by rintro rfl; simp at h
theorem keq_ne {a b : ByteArray} (h : a ≠ b) : (a.toList == b.toList) = false := by
  rw [beq_eq_false_iff_ne]; exact fun e => h (ba_toList_inj e)

/-- a box of two cells, that is read -/
theorem box2 {w wr : World} {a b : Value} {t : TypeId} (hb : Below (w.heap.size + 1) (w.alloc (.cells #[a, b] t)) wr) :
    w.heap.size < wr.heap.size ∧ wr.cell? ⟨w.heap.size, 0, none⟩ = some a ∧ wr.cell? ⟨w.heap.size, 1, none⟩ = some b := by
  have hb' : Below (w.alloc (.cells #[a, b] t)).heap.size (w.alloc (.cells #[a, b] t)) wr := by simpa using hb
  obtain ⟨h1, h2, _⟩ := kept hb'
  exact ⟨by omega, h2 0 a rfl, h2 1 b rfl⟩

end Go.Proofs.Yteaaeeidbjklbaa
