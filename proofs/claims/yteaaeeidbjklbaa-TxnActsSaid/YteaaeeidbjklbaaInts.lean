/- Slices of numbers; slices of acts. -/
import Derived.Test.YteaaeeidbjklbaaMem
namespace Go.Proofs.Yteaaeeidbjklbaa
open Go.RowKit

def cI (q : IntKind) (xs : List Int) : List Value := xs.map (Value.int q)
abbrev SlI (w : World) (q : IntKind) (A : Option Addr) (n c : Nat) (xs : List Int) : Prop := Sl w 1 A n c (cI q xs)
theorem slI_len {w : World} {q : IntKind} {A : Option Addr} {n c : Nat} {xs : List Int} (h : SlI w q A n c xs) : xs.length = n := by
  have h1 := h.1; simpa [cI] using h1
theorem slI_get {w : World} {q : IntKind} {A : Option Addr} {n c : Nat} {xs : List Int} (h : SlI w q A n c xs) {k : Nat} (hk : k < n) : ∃ b o x, A = some ⟨b, o, none⟩ ∧ b < w.heap.size ∧ xs[k]? = some x ∧ w.cell? ⟨b, o + k, none⟩ = some (.int q x) := by
  obtain ⟨b, o, e, hb, hc⟩ := h.2.2.2 (by omega)
  have hx : xs[k]? = some (xs[k]'(by rw [slI_len h]; exact hk)) := List.getElem?_eq_getElem _
  exact ⟨b, o, _, e, hb, hx, hc k _ (by simp [cI, hx])⟩

structure A14 where
  kind : Int
  at_ : Int
  id : Int
def A14.cells (x : A14) : List Value := [.int .u8 x.kind, .int .u64 x.at_, .int .i64 x.id]
def cA (xs : List A14) : List Value := xs.flatMap A14.cells
abbrev SlA (w : World) (A : Option Addr) (n c : Nat) (xs : List A14) : Prop := Sl w 3 A n c (cA xs)
theorem cA_length : ∀ xs : List A14, (cA xs).length = xs.length * 3
  | [] => rfl
  | x :: l => by simp only [cA, List.flatMap_cons, List.length_append, List.length_cons]; have := cA_length l; unfold cA at this; rw [this]; simp [A14.cells]; omega
theorem cA_get : ∀ {xs : List A14} {k : Nat} {x : A14}, xs[k]? = some x → (cA xs)[k * 3]? = some (.int .u8 x.kind) ∧ (cA xs)[k * 3 + 1]? = some (.int .u64 x.at_) ∧ (cA xs)[k * 3 + 2]? = some (.int .i64 x.id)
  | [], k, x, h => by simp at h
  | y :: l, 0, x, h => by
    obtain rfl : y = x := by simpa using h
    exact ⟨rfl, rfl, rfl⟩
  | y :: l, k + 1, x, h => by
    have ih := cA_get (xs := l) (k := k) (by simpa using h)
    have e : ∀ j, (cA (y :: l))[j + 3]? = (cA l)[j]? := fun j => rfl
    rw [show (k + 1) * 3 = k * 3 + 3 from by omega, show k * 3 + 3 + 1 = k * 3 + 1 + 3 from by omega, show k * 3 + 3 + 2 = k * 3 + 2 + 3 from by omega, e, e, e]
    exact ih
theorem slA_len {w : World} {A : Option Addr} {n c : Nat} {xs : List A14} (h : SlA w A n c xs) : xs.length = n := by
  have h1 := h.1; rw [cA_length] at h1; omega
theorem slA_get {w : World} {A : Option Addr} {n c : Nat} {xs : List A14} (h : SlA w A n c xs) {k : Nat} (hk : k < n) :
    ∃ b o x, A = some ⟨b, o, none⟩ ∧ b < w.heap.size ∧ xs[k]? = some x ∧ w.cell? ⟨b, o + k * 3, none⟩ = some (.int .u8 x.kind) ∧ w.cell? ⟨b, o + k * 3 + 1, none⟩ = some (.int .u64 x.at_) ∧ w.cell? ⟨b, o + k * 3 + 2, none⟩ = some (.int .i64 x.id) := by
  obtain ⟨b, o, e, hb, hc⟩ := h.2.2.2 (by omega)
  have hx : xs[k]? = some (xs[k]'(by rw [slA_len h]; exact hk)) := List.getElem?_eq_getElem _
  obtain ⟨h0, h1, h2⟩ := cA_get hx
  exact ⟨b, o, _, e, hb, hx, hc _ _ h0, hc _ _ h1, hc _ _ h2⟩
end Go.Proofs.Yteaaeeidbjklbaa
