/- The watch: its state, has, At, Close, live, Index. -/
import Derived.Test.YteaaeeidbjklbaaStB
namespace Go.Proofs.Yteaaeeidbjklbaa
open Go.RowKit

/-- the watch's cells -/
structure Wch (w : World) (b : Nat) (at_ : Nat → Int) (op : Nat → Bool) (l : Nat → Int × Int) (many : Nat) : Prop where
  p : Pile w b l many
  a : ∀ i, i < 8 → w.cell? ⟨b, i, none⟩ = some (.int .u64 (at_ i))
  o : ∀ i, i < 8 → w.cell? ⟨b, 8 + i, none⟩ = some (.bool (op i))
theorem Wch.below {w w1 : World} {b : Nat} {at_ : Nat → Int} {op : Nat → Bool} {l : Nat → Int × Int} {many : Nat} (h : Wch w b at_ op l many) (k : Below w.heap.size w w1) : Wch w1 b at_ op l many :=
  ⟨h.p.below k, fun i hi => (k.cell (p := ⟨b, _, none⟩) h.p.lt).trans (h.a i hi), fun i hi => (k.cell (p := ⟨b, _, none⟩) h.p.lt).trans (h.o i hi)⟩
theorem Wch.pile {w w1 : World} {b : Nat} {at_ : Nat → Int} {op : Nat → Bool} {l l' : Nat → Int × Int} {many many' : Nat} (h : Wch w b at_ op l many) (k : Turn b 16 49 w w1) (hp : Pile w1 b l' many') : Wch w1 b at_ op l' many' :=
  ⟨hp, fun i hi => (k.c i (by omega)).trans (h.a i hi), fun i hi => (k.c (8 + i) (by omega)).trans (h.o i hi)⟩
theorem Wch.drewN {w : World} {b : Nat} {at_ : Nat → Int} {op : Nat → Bool} {l : Nat → Int × Int} {many : Nat} (h : Wch w b at_ op l many) (n : Nat) : Wch (w.drewN n) b at_ op l many := ⟨h.p.drewN n, h.a, h.o⟩
theorem Wch.drew {w : World} {b : Nat} {at_ : Nat → Int} {op : Nat → Bool} {l : Nat → Int × Int} {many : Nat} (h : Wch w b at_ op l many) : Wch w.drew b at_ op l many := ⟨h.p.drew, h.a, h.o⟩
theorem Pile.setFar {w : World} {b : Nat} {l : Nat → Int × Int} {many : Nat} (h : Pile w b l many) {j : Nat} (hj : j < 16) (v : Value) : Pile (w.setCell ⟨b, j, none⟩ v) b l many := by
  refine ⟨by rw [setSize]; exact h.lt, fun i hi => ?_, fun i hi => ?_, ?_, fun i => by rw [World.frozen?_setCell]; exact h.fr i⟩
  · rw [World.cell?_setCell_other _ _ _ _ (neA (by omega))]; exact h.a i hi
  · rw [World.cell?_setCell_other _ _ _ _ (neA (by omega))]; exact h.d i hi
  · rw [World.cell?_setCell_other _ _ _ _ (neA (by omega))]; exact h.m
/-- a stamp, and whether it is open, are written -/
theorem Wch.set {w : World} {b : Nat} {at_ : Nat → Int} {op : Nat → Bool} {l : Nat → Int × Int} {many : Nat} (h : Wch w b at_ op l many) {i : Nat} (hi : i < 8) (a : Int) (g : Bool) :
    Wch ((w.setCell ⟨b, i, none⟩ (.int .u64 a)).setCell ⟨b, 8 + i, none⟩ (.bool g)) b (upd at_ i a) (upd op i g) l many := by
  refine ⟨(h.p.setFar (by omega) _).setFar (by omega) _, fun j hj => ?_, fun j hj => ?_⟩
  · rw [World.cell?_setCell_other _ _ _ _ (neA (by omega))]
    by_cases e : j = i
    · subst e; rw [upd_same]; exact World.cell?_setCell_same _ _ _ (h.a j hj)
    · rw [World.cell?_setCell_other _ _ _ _ (neA (by omega)), upd_other e]; exact h.a j hj
  · by_cases e : j = i
    · subst e; rw [upd_same]
      exact World.cell?_setCell_same _ _ _ ((World.cell?_setCell_other _ _ _ _ (neA (by omega))).trans (h.o j hj))
    · rw [World.cell?_setCell_other _ _ _ _ (neA (by omega)), World.cell?_setCell_other _ _ _ _ (neA (by omega)), upd_other e]; exact h.o j hj

abbrev PW (b : Nat) : Value := .pointer (some ⟨b, 0, none⟩)
section
variable {w : World} {b : Nat} {at_ : Nat → Int} {op : Nat → Bool} {l : Nat → Int × Int} {many : Nat}
theorem has_nil (id : Int) (w : World) : Calls Try.prog 50 #[.pointer none, .int .i64 id] w fun e w' => e = .returned (.bool false) ∧ Below w.heap.size w w' := by
  go_enter Try.func50, Try.ntmps50
  go_wp2
  go_ret
  exact ⟨rfl, Below.refl _ _⟩
theorem has_in (h : Wch w b at_ op l many) {i : Nat} (hi : i < 8) : Calls Try.prog 50 #[PW b, .int .i64 i] w fun e w' => e = .returned (.bool (op i)) ∧ Below w.heap.size w w' := by
  have c0 := h.o i hi
  have hlt := h.p.lt
  have i1 : (0 : Int) ≤ (i : Int) := by omega
  have i2 : (i : Int) < 8 := by omega
  go_enter Try.func50, Try.ntmps50
  go_wp2
  go_ret
  exact ⟨rfl, Below.refl _ _⟩
theorem has_out (b : Nat) {id : Int} (hi : id < 0 ∨ 8 ≤ id) (w : World) : Calls Try.prog 50 #[PW b, .int .i64 id] w fun e w' => e = .returned (.bool false) ∧ Below w.heap.size w w' := by
  rcases hi with hi | hi
  · have i1 : ¬ (0 : Int) ≤ id := by omega
    go_enter Try.func50, Try.ntmps50
    go_wp2
    go_ret
    exact ⟨rfl, Below.refl _ _⟩
  · have i1 : (0 : Int) ≤ id := by omega
    have i2 : ¬ id < 8 := by omega
    go_enter Try.func50, Try.ntmps50
    go_wp2
    go_ret
    exact ⟨rfl, Below.refl _ _⟩
theorem at_nil (id : Int) (w : World) : Calls Try.prog 41 #[.pointer none, .int .i64 id] w fun e w' => e = .returned (.tuple #[.int .u64 0, .bool false]) ∧ Below w.heap.size w w' := by
  go_enter Try.func41, Try.ntmps41
  go_wp2_with fail
  refine (has_nil id w).mono ?_
  rintro e w1 ⟨rfl, hb⟩
  have HB := Lib.hid hb; clear hb
  go_wp2
  go_returns
  exact ⟨rfl, HB.out⟩
theorem at_out (b : Nat) {id : Int} (hi : id < 0 ∨ 8 ≤ id) (w : World) : Calls Try.prog 41 #[PW b, .int .i64 id] w fun e w' => e = .returned (.tuple #[.int .u64 0, .bool false]) ∧ Below w.heap.size w w' := by
  have HI := Lib.hid hi; clear hi
  go_enter Try.func41, Try.ntmps41
  go_wp2_with fail
  refine (has_out b HI.out w).mono ?_
  rintro e w1 ⟨rfl, hb⟩
  have HB := Lib.hid hb; clear hb
  go_wp2
  go_returns
  exact ⟨rfl, HB.out⟩
/-- the stamp of a number that is open; 0 of another one -/
def atOf (at_ : Nat → Int) (op : Nat → Bool) (i : Nat) : Int := if op i = true then at_ i else 0
theorem at_in (h : Wch w b at_ op l many) {i : Nat} (hi : i < 8) : Calls Try.prog 41 #[PW b, .int .i64 i] w fun e w' => e = .returned (.tuple #[.int .u64 (atOf at_ op i), .bool (op i)]) ∧ Below w.heap.size w w' := by
  have H := Lib.hid h; clear h
  have i1 : (0 : Int) ≤ (i : Int) := by omega
  have i2 : (i : Int) < 8 := by omega
  go_enter Try.func41, Try.ntmps41
  go_wp2_with fail
  refine (has_in H.out hi).mono ?_
  rintro e w1 ⟨rfl, hb⟩
  have c0 := (H.out.below hb).a i hi
  have hlt := (H.out.below hb).p.lt
  have HB := Lib.hid hb; clear hb
  have HE := Lib.hid (show (Value.tuple #[.int .u64 (atOf at_ op i), .bool (op i)] = .tuple #[.int .u64 (if op i = true then at_ i else 0), .bool (op i)]) from rfl)
  cases ho : op i with
  | false =>
    go_wp2
    go_returns
    exact ⟨by simp [atOf, ho], HB.out⟩
  | true =>
    go_wp2
    go_returns
    exact ⟨by simp [atOf, ho], HB.out⟩
theorem close_nil (id : Int) (w : World) : Calls Try.prog 37 #[.pointer none, .int .i64 id] w fun e w' => e = .returned (.int .i64 1) ∧ Below w.heap.size w w' := by
  go_enter Try.func37, Try.ntmps37
  go_wp2
  go_ret
  exact ⟨rfl, Below.refl _ _⟩
theorem close_out (b : Nat) {id : Int} (hi : id < 0 ∨ 8 ≤ id) (w : World) : Calls Try.prog 37 #[PW b, .int .i64 id] w fun e w' => e = .returned (.int .i64 7) ∧ Below w.heap.size w w' := by
  have HI := Lib.hid hi; clear hi
  go_enter Try.func37, Try.ntmps37
  go_wp2_with fail
  refine (has_out b HI.out w).mono ?_
  rintro e w1 ⟨rfl, hb⟩
  have HB := Lib.hid hb; clear hb
  go_wp2
  go_ret
  exact ⟨rfl, HB.out⟩
theorem close_no (h : Wch w b at_ op l many) {i : Nat} (hi : i < 8) (ho : op i = false) : Calls Try.prog 37 #[PW b, .int .i64 i] w fun e w' => e = .returned (.int .i64 7) ∧ Below w.heap.size w w' := by
  have H := Lib.hid h; clear h
  go_enter Try.func37, Try.ntmps37
  go_wp2_with fail
  refine (has_in H.out hi).mono ?_
  rintro e w1 ⟨rfl, hb⟩
  have HB := Lib.hid hb; clear hb
  go_wp2
  go_ret
  exact ⟨rfl, HB.out⟩
theorem close_yes (h : Wch w b at_ op l many) {i : Nat} (hi : i < 8) (ho : op i = true) : Calls Try.prog 37 #[PW b, .int .i64 i] w fun e w' => e = .returned (.int .i64 0) ∧ Wch w' b (upd at_ i 0) (upd op i false) l many ∧ Turn b 0 49 w w' := by
  have H := Lib.hid h; clear h
  have i1 : (0 : Int) ≤ (i : Int) := by omega
  have i2 : (i : Int) < 8 := by omega
  go_enter Try.func37, Try.ntmps37
  go_wp2_with fail
  refine (has_in H.out hi).mono ?_
  rintro e w1 ⟨rfl, hb⟩
  have h1 := H.out.below hb
  have HT := Lib.hid ((Turn.refl b 0 49 w).of_below H.out.p.lt hb)
  have c0 := h1.a i hi
  have c1 := h1.o i hi
  have c2 := (World.cell?_setCell_other w1 ⟨b, i, none⟩ ⟨b, 8 + i, none⟩ (.int .u64 0) (neA (by omega))).trans c1
  have f0 := h1.p.fr i
  have f1 := h1.p.fr (8 + i)
  have hlt := h1.p.lt
  have H1 := Lib.hid h1
  clear hb h1
  go_wp2
  go_region
  go_wp2
  go_ret
  exact ⟨rfl, (H1.out.set hi 0 false).drew, ((HT.out.set (by omega) (by omega) _).set (by omega) (by omega) _).drew⟩

theorem live_any (h : Wch w b at_ op l many) {i : Nat} (hi : i < 8) (a : Int) : Calls Try.prog 56 #[PW b, .agg #[.int .u64 a, .int .i64 i]] w fun e w' => e = .returned (.bool (op i && (at_ i == a))) ∧ Below w.heap.size w w' := by
  have c0 := h.a i hi
  have c1 := h.o i hi
  have hlt := h.p.lt
  have i1 : (0 : Int) ≤ (i : Int) := by omega
  have i2 : (i : Int) < 8 := by omega
  clear h
  cases ho : op i with
  | false =>
    rw [ho] at c1
    go_enter Try.func56, Try.ntmps56
    go_wp2
    go_quiet (fail)
    go_wp2
    go_ret
    exact ⟨rfl, below_drewN ((Below.refl _ _).alloc (Nat.le_refl _) _) _⟩
  | true =>
    rw [ho] at c1
    go_enter Try.func56, Try.ntmps56
    go_wp2
    go_quiet (fail)
    go_wp2
    go_ret
    exact ⟨rfl, below_drewN ((Below.refl _ _).alloc (Nat.le_refl _) _) _⟩

theorem upto_succ {op : Nat → Bool} {k : Nat} (h : ∀ j, j < k → op j = true) (ho : op k = true) : ∀ j, j < k + 1 → op j = true := fun j hj => by
  rcases Nat.lt_or_ge j k with h1 | h1
  · exact h j h1
  · obtain rfl : j = k := by omega
    exact ho
/-- the first number that is free -/
def FF (op : Nat → Bool) (i : Nat) : Prop := i < 8 ∧ op i = false ∧ ∀ j, j < i → op j = true
theorem ff_or (op : Nat → Bool) : (∀ j, j < 8 → op j = true) ∨ ∃ i, FF op i := by
  have key : ∀ n, n ≤ 8 → (∀ j, j < n → op j = true) ∨ ∃ i, FF op i := by
    intro n
    induction n with
    | zero => intro _; exact .inl (fun j h => absurd h (by omega))
    | succ n ih =>
      intro hn
      rcases ih (by omega) with h | h
      · cases ho : op n with
        | true =>
          refine .inl fun j hj => ?_
          rcases Nat.lt_or_ge j n with h1 | h1
          · exact h j h1
          · obtain rfl : j = n := by omega
            exact ho
        | false => exact .inr ⟨n, by omega, ho, h⟩
      · exact .inr h
  exact key 8 (Nat.le_refl _)
theorem index_any (h : Wch w b at_ op l many) : Calls Try.prog 47 #[.slice (some ⟨b, 8, none⟩) 8 8, .bool false] w fun e w' =>
    (∃ r : Int, e = .returned (.int .i64 r) ∧ ((r = -1 ∧ ∀ j, j < 8 → op j = true) ∨ ∃ i : Nat, r = i ∧ FF op i)) ∧ Below w.heap.size w w' := by
  have H := Lib.hid h; clear h
  go_enter Try.func47, Try.ntmps47
  go_wp2
  go_loopw [8] (fun v wr => ∃ k : Nat, k ≤ 8 ∧ v = .int .i64 k ∧ (∀ j, j < k → op j = true) ∧ Below w.heap.size w wr) (fun v _ => 8 - (intOf v).toNat)
  case atStart => exact ⟨0, by omega, rfl, fun j h => absurd h (by omega), Below.refl _ _⟩
  case round =>
    obtain ⟨k, hk, rfl, hu, hb⟩ := hrel
    have HU := Lib.hid hu; have HB := Lib.hid hb; clear hu hb
    by_cases hk8 : k < 8
    · have c0 := (H.out.below HB.out).o k hk8
      have hlt := (H.out.below HB.out).p.lt
      have i1 : (0 : Int) ≤ (k : Int) := by omega
      have i2 : (k : Int) < 8 := by omega
      cases ho : op k with
      | false =>
        rw [ho] at c0
        go_wp2
        go_ret
        exact ⟨⟨_, rfl, .inr ⟨k, rfl, hk8, ho, HU.out⟩⟩, HB.out⟩
      | true =>
        have HO := Lib.hid ho
        rw [ho] at c0
        clear ho
        go_wp2
        go_roundw
        case rel => exact ⟨k + 1, by omega, by go_num, upto_succ HU.out HO.out, HB.out⟩
        case measure => simp [intOf]; omega
    · obtain rfl : k = 8 := by omega
      go_wp2
      go_ret
      exact ⟨⟨_, rfl, .inl ⟨rfl, HU.out⟩⟩, HB.out⟩
end
end Go.Proofs.Yteaaeeidbjklbaa
