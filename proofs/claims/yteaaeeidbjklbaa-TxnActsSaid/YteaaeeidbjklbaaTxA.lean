/- A table: what lies where; what a call may turn. -/
import Derived.Test.YteaaeeidbjklbaaStD
import Derived.Test.YteaaeeidbjklbaaPut
import Derived.Maps.OwnSet
import Derived.Maps.OwnOps
namespace Go.Proofs.Yteaaeeidbjklbaa
open Go.RowKit Go.Maps

/-- nothing has turned but blocks b and M, and what is new -/
structure Chg (b M : Nat) (w w' : World) : Prop where
  os : w'.os = w.os
  tape : w'.tape = w.tape
  output : w'.output = w.output
  size : w.heap.size ≤ w'.heap.size
  block : ∀ k, k < w.heap.size → k ≠ b → k ≠ M → w'.heap[k]? = w.heap[k]?
section
variable {b M : Nat} {w w1 w2 : World}
theorem Chg.refl (b M : Nat) (w : World) : Chg b M w w := ⟨rfl, rfl, rfl, Nat.le_refl _, fun _ _ _ _ => rfl⟩
theorem Chg.trans (h : Chg b M w w1) (k : Chg b M w1 w2) : Chg b M w w2 :=
  ⟨k.os.trans h.os, k.tape.trans h.tape, k.output.trans h.output, Nat.le_trans h.size k.size, fun i hi h1 h2 => (k.block i (Nat.lt_of_lt_of_le hi h.size) h1 h2).trans (h.block i hi h1 h2)⟩
theorem Chg.of_below (k : Below w.heap.size w w1) : Chg b M w w1 := ⟨k.os, k.tape, k.output, k.size, fun i hi _ _ => k.block i hi⟩
theorem Chg.of_turn {lo hi : Nat} (k : Turn b lo hi w w1) : Chg b M w w1 := ⟨k.g.os, k.g.tape, k.g.output, k.g.size, fun i hi h1 _ => k.g.block i hi (fun e => h1 (by injection e))⟩
theorem Chg.of_map (k : w.grownBy w1 (some M)) : Chg b M w w1 := ⟨k.os, k.tape, k.output, k.size, fun i hi _ h2 => k.block i hi (fun e => h2 (by injection e))⟩
theorem Chg.below (h : Chg b M w w1) {n : Nat} (hb : n ≤ b) (hM : n ≤ M) (hn : n ≤ w.heap.size) : Below n w w1 := ⟨h.os, h.tape, h.output, h.size, fun k hk => h.block k (by omega) (by omega) (by omega)⟩
end
/-- a set that lies far from the book -/
def SlF (w : World) (b M : Nat) (A : Option Addr) (n c : Nat) (xs : List W3) : Prop := SlW w A n c xs ∧ ∀ b' o, A = some ⟨b', o, none⟩ → b' ≠ b ∧ b' ≠ M
section
variable {b M : Nat} {w w1 : World} {A : Option Addr} {n c : Nat} {xs : List W3}
theorem SlF.chg (h : SlF w b M A n c xs) (k : Chg b M w w1) : SlF w1 b M A n c xs := by
  obtain ⟨⟨h1, h2, h3, h4⟩, hf⟩ := h
  refine ⟨⟨h1, h2, h3, fun hn => ?_⟩, hf⟩
  obtain ⟨b', o, e, hlt, hc⟩ := h4 hn
  obtain ⟨f1, f2⟩ := hf b' o e
  have hb := k.block b' hlt f1 f2
  exact ⟨b', o, e, Nat.lt_of_lt_of_le hlt k.size, fun j u hu => (World.cell?_of_block (a := ⟨b', o + j, none⟩) hb).trans (hc j u hu)⟩
theorem SlF.nil_ (w : World) (b M : Nat) : SlF w b M none 0 0 [] := ⟨Sl.nil_ w 3, fun _ _ e => by cases e⟩
theorem SlF.of_own {base e : Nat} {v : Value} {n : Nat} {ys : List W3} (h : w.ownsRow base e 3 v n (cW ys)) (hb : b < base) (hM : M < base) : ∃ A c, v = .slice A n c ∧ SlF w b M A n c ys := by
  obtain ⟨A, c, rfl, hs⟩ := Sl.of_own h
  refine ⟨A, c, rfl, hs, fun b' o e' => ?_⟩
  rcases h.2 with ⟨hv, _⟩ | ⟨g, cap, cur, hv, hg, hh, _⟩
  · cases hv; cases e'
  · cases hv; cases e'; omega
end
/-- a table -/
structure Tab (w : World) (g b M : Nat) (at_ : Nat → Int) (op : Nat → Bool) (sets : Nat → List W3) (k : Nat) (D : DataW Unit) : Prop where
  t : w.cell? ⟨g, 0, none⟩ = some (.pointer (some ⟨b, 0, none⟩))
  gl : g < w.heap.size
  wt : Watch w b at_ op
  s : ∀ i, i < 8 → ∃ A n c, w.cell? ⟨b, 49 + i, none⟩ = some (.slice A n c) ∧ SlF w b M A n c (sets i) ∧ Rise W3.key (sets i) ∧ (sets i).length ≤ 16
  m : w.cell? ⟨b, 57, none⟩ = some (.map (some M))
  own : w.ownsMap Try.prog 9 (plainElem Try.prog 23) M k D
  gb : g ≠ b
  gM : g ≠ M
  bM : b ≠ M
section
variable {w w1 : World} {g b M : Nat} {at_ at' : Nat → Int} {op op' : Nat → Bool} {sets : Nat → List W3} {k : Nat} {D : DataW Unit}
theorem Watch.fr (h : Watch w b at_ op) (j : Nat) : w.frozen? ⟨b, j, none⟩ = false := by obtain ⟨l, n, h1, _⟩ := h; exact h1.p.fr j
theorem tab_ownsBelow {H : Type} {P : Program} {ky : TypeId} {R : Value → Option (DataW H × List MemPlace)} {b n : Nat} {D : DataW H} {w w' : World} (h : w.ownsMap P ky R b n D) (hb : Below w.heap.size w w') : w'.ownsMap P ky R b n D := by
  have hlt := h.lt
  obtain ⟨es, clock, hh, r⟩ := h
  exact ⟨es, clock, (hb.block b hlt).trans hh, r⟩
theorem Tab.below (h : Tab w g b M at_ op sets k D) (hb : Below w.heap.size w w1) : Tab w1 g b M at_ op sets k D :=
  ⟨(hb.cell (p := ⟨g, 0, none⟩) h.gl).trans h.t, Nat.lt_of_lt_of_le h.gl hb.size, h.wt.below hb,
   fun i hi => by obtain ⟨A, n, c, h1, h2, h3⟩ := h.s i hi; exact ⟨A, n, c, (hb.cell (p := ⟨b, 49 + i, none⟩) h.wt.lt).trans h1, h2.chg (Chg.of_below hb), h3⟩,
   (hb.cell (p := ⟨b, 57, none⟩) h.wt.lt).trans h.m, tab_ownsBelow h.own hb, h.gb, h.gM, h.bM⟩
/-- the watch alone has turned -/
theorem Tab.turn (h : Tab w g b M at_ op sets k D) (ht : Turn b 0 49 w w1) (hw : Watch w1 b at' op') : Tab w1 g b M at' op' sets k D :=
  ⟨(ht.g.cell_far ⟨g, 0, none⟩ h.gl (fun e => h.gb (by injection e))).trans h.t, Nat.lt_of_lt_of_le h.gl ht.g.size, hw,
   fun i hi => by obtain ⟨A, n, c, h1, h2, h3⟩ := h.s i hi; exact ⟨A, n, c, (ht.c (49 + i) (.inr (by omega))).trans h1, h2.chg (Chg.of_turn ht), h3⟩,
   (ht.c 57 (.inr (by omega))).trans h.m, h.own.kept ht.g (fun e => h.bM (by injection e with e; exact e.symm)), h.gb, h.gM, h.bM⟩
/-- a set is written -/
theorem Tab.set (h : Tab w g b M at_ op sets k D) {i : Nat} (hi : i < 8) {A : Option Addr} {n c : Nat} {xs : List W3} (hs : SlF w b M A n c xs) (hr : Rise W3.key xs) (hl : xs.length ≤ 16) :
    Tab (w.setCell ⟨b, 49 + i, none⟩ (.slice A n c)) g b M at_ op (upd sets i xs) k D ∧ Chg b M w (w.setCell ⟨b, 49 + i, none⟩ (.slice A n c)) := by
  have hk : Chg b M w (w.setCell ⟨b, 49 + i, none⟩ (.slice A n c)) := ⟨rfl, rfl, rfl, by rw [setSize]; exact Nat.le_refl _, fun j _ hj _ => Below.heap_setCell _ _ _ j hj⟩
  have hg : w.grownBy (w.setCell ⟨b, 49 + i, none⟩ (.slice A n c)) (some b) := ⟨rfl, rfl, rfl, by rw [setSize]; exact Nat.le_refl _, fun j _ hj => Below.heap_setCell _ _ _ j (fun e => hj (by rw [e]))⟩
  obtain ⟨A0, n0, c0, e0, _⟩ := h.s i hi
  refine ⟨⟨(World.cell?_setCell_other _ _ _ _ (fun e => h.gb (by injection e with e; exact e.symm))).trans h.t, by rw [setSize]; exact h.gl, ?_, fun j hj => ?_,
    (World.cell?_setCell_other _ _ _ _ (neA (by omega))).trans h.m, h.own.kept hg (fun e => h.bM (by injection e with e; exact e.symm)), h.gb, h.gM, h.bM⟩, hk⟩
  · obtain ⟨l, many, ⟨⟨h1, h2, h3, h4, h5⟩, h6, h7⟩, h8⟩ := h.wt
    exact ⟨l, many, ⟨⟨by rw [setSize]; exact h1, fun j hj => (World.cell?_setCell_other _ _ _ _ (neA (by omega))).trans (h2 j hj), fun j hj => (World.cell?_setCell_other _ _ _ _ (neA (by omega))).trans (h3 j hj),
      (World.cell?_setCell_other _ _ _ _ (neA (by omega))).trans h4, fun j => by rw [World.frozen?_setCell]; exact h5 j⟩,
      fun j hj => (World.cell?_setCell_other _ _ _ _ (neA (by omega))).trans (h6 j hj), fun j hj => (World.cell?_setCell_other _ _ _ _ (neA (by omega))).trans (h7 j hj)⟩, h8⟩
  · by_cases e : j = i
    · subst e
      rw [upd_same]
      exact ⟨A, n, c, World.cell?_setCell_same _ _ _ e0, hs.chg hk, hr, hl⟩
    · rw [upd_other e]
      obtain ⟨A1, n1, c1, e1, h2, h3⟩ := h.s j hj
      exact ⟨A1, n1, c1, (World.cell?_setCell_other _ _ _ _ (neA (by omega))).trans e1, h2.chg hk, h3⟩

abbrev PT (g : Nat) : Value := .pointer (some ⟨g, 0, none⟩)
theorem none_nil (w : World) : Calls Try.prog 34 #[.pointer none] w fun e w' => e = .returned (.bool true) ∧ Below w.heap.size w w' := by
  go_enter Try.func34, Try.ntmps34
  go_wp2
  go_ret
  exact ⟨rfl, Below.refl _ _⟩
theorem none_bare {g : Nat} (h : w.cell? ⟨g, 0, none⟩ = some (.pointer none)) : Calls Try.prog 34 #[PT g] w fun e w' => e = .returned (.bool true) ∧ Below w.heap.size w w' := by
  go_enter Try.func34, Try.ntmps34
  go_wp2
  go_ret
  exact ⟨rfl, Below.refl _ _⟩
theorem none_no (h : Tab w g b M at_ op sets k D) : Calls Try.prog 34 #[PT g] w fun e w' => e = .returned (.bool false) ∧ Below w.heap.size w w' := by
  have c0 := h.t
  clear h
  go_enter Try.func34, Try.ntmps34
  go_wp2
  go_ret
  exact ⟨rfl, Below.refl _ _⟩
theorem tat_in (h : Tab w g b M at_ op sets k D) {i : Nat} (hi : i < 8) : Calls Try.prog 27 #[PT g, .int .i64 i] w fun e w' => e = .returned (.tuple #[.int .u64 (atOf at_ op i), .bool (op i)]) ∧ Below w.heap.size w w' := by
  have H := Lib.hid h; clear h
  go_enter Try.func27, Try.ntmps27
  go_wp2_with fail
  refine (none_no H.out).mono ?_
  rintro e w1 ⟨rfl, hb1⟩
  have H1 := Lib.hid (H.out.below hb1); have HB := Lib.hid hb1; clear hb1
  have c0 := H1.out.t
  go_wp2_with fail
  refine (wat_in H1.out.wt hi).mono ?_
  rintro e w2 ⟨rfl, hb2⟩
  have HB2 := Lib.hid (bt HB.out hb2); clear hb2 c0
  go_wp2
  go_returns
  exact ⟨rfl, HB2.out⟩
theorem tat_out (h : Tab w g b M at_ op sets k D) {id : Int} (hi : id < 0 ∨ 8 ≤ id) : Calls Try.prog 27 #[PT g, .int .i64 id] w fun e w' => e = .returned (.tuple #[.int .u64 0, .bool false]) ∧ Below w.heap.size w w' := by
  have H := Lib.hid h; have HI := Lib.hid hi; clear h hi
  go_enter Try.func27, Try.ntmps27
  go_wp2_with fail
  refine (none_no H.out).mono ?_
  rintro e w1 ⟨rfl, hb1⟩
  have H1 := Lib.hid (H.out.below hb1); have HB := Lib.hid hb1; clear hb1
  have c0 := H1.out.t
  go_wp2_with fail
  refine (at_out b HI.out _).mono ?_
  rintro e w2 ⟨rfl, hb2⟩
  have HB2 := Lib.hid (bt HB.out hb2); clear hb2 c0
  go_wp2
  go_returns
  exact ⟨rfl, HB2.out⟩
theorem tleast_any (h : Tab w g b M at_ op sets k D) (nn : Int) : Calls Try.prog 23 #[PT g, .int .u64 nn] w fun e w' => ∃ r, e = .returned (.int .u64 r) ∧ IsLeast at_ op nn r ∧ Tab w' g b M at_ op sets k D ∧ Chg b M w w' := by
  have H := Lib.hid h; clear h
  go_enter Try.func23, Try.ntmps23
  go_wp2_with fail
  refine (none_no H.out).mono ?_
  rintro e w1 ⟨rfl, hb1⟩
  have H1 := Lib.hid (H.out.below hb1); have HB := Lib.hid hb1; clear hb1
  have c0 := H1.out.t
  go_wp2_with fail
  refine (least_any H1.out.wt nn).mono ?_
  rintro e w2 ⟨r, rfl, hl, hw2, ht2⟩
  have HL := Lib.hid hl
  have H2 := Lib.hid (H1.out.turn ht2 hw2); have HB2 := Lib.hid ((Chg.of_below HB.out).trans (Chg.of_turn (M := M) ht2)); clear hw2 ht2 c0 hl
  go_wp2
  go_ret
  exact ⟨r, rfl, HL.out, H2.out, HB2.out⟩
end
end Go.Proofs.Yteaaeeidbjklbaa
