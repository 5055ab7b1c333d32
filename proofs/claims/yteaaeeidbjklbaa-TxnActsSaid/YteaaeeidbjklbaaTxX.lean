/- A table and the document's table, side by side. -/
import Derived.Test.YteaaeeidbjklbaaTxW
namespace Go.Proofs.Yteaaeeidbjklbaa
open Go.RowKit Go.Maps

/-- the box of an act, as it was laid -/
def Bx (w : World) (p : Nat) (x : A17) : Prop := w.heap[p]? = some (.cells (boxA x) 40 (0, 0))
theorem Bx.new (w : World) (x : A17) : Bx (w.alloc (.cells (boxA x) 40)) w.heap.size x := heap_alloc_new w _
theorem Bx.lt {w : World} {p : Nat} {x : A17} (h : Bx w p x) : p < w.heap.size := (Array.getElem?_eq_some_iff.1 h).1
theorem Bx.below {w w1 : World} {p : Nat} {x : A17} (h : Bx w p x) (k : Below w.heap.size w w1) : Bx w1 p x := (k.block p h.lt).trans h
theorem Bx.chg {w w1 : World} {p b M : Nat} {x : A17} (h : Bx w p x) (k : Chg b M w w1) (h1 : p ≠ b) (h2 : p ≠ M) : Bx w1 p x := (k.block p h.lt h1 h2).trans h
theorem Bx.grown {w w1 : World} {p r : Nat} {x : A17} (h : Bx w p x) (k : w.grownBy w1 (some r)) (h1 : p ≠ r) : Bx w1 p x := (k.block p h.lt (fun e => h1 (by injection e))).trans h
theorem Bx.cells {w : World} {p : Nat} {x : A17} (h : Bx w p x) : w.cell? ⟨p, 0, none⟩ = some (.int .u8 x.kind) ∧ w.cell? ⟨p, 1, none⟩ = some (.int .i64 x.id) ∧ w.cell? ⟨p, 2, none⟩ = some (.int .u64 x.at_) ∧
    w.cell? ⟨p, 3, none⟩ = some (.string x.w.key) ∧ w.cell? ⟨p, 4, none⟩ = some (.string x.w.text) ∧ w.cell? ⟨p, 5, none⟩ = some (.bool x.w.gone) :=
  ⟨cell_of_row w p 0 _ _ _ h, cell_of_row w p 1 _ _ _ h, cell_of_row w p 2 _ _ _ h, cell_of_row w p 3 _ _ _ h, cell_of_row w p 4 _ _ _ h, cell_of_row w p 5 _ _ _ h⟩
/-- the slices of the document's table -/
structure Sds (w : World) (b M : Nat) (sets : Nat → List W3) (S : Nat → SV) (V : SV) (nts : List N2) : Prop where
  s : ∀ i, i < 8 → SlF w b M (S i).a (S i).n (S i).c (sets i)
  v : SlFN w b M V.a V.n V.c nts
/-- what the two have in common, whatever the world -/
structure Law (at_ : Nat → Int) (op : Nat → Bool) (sets : Nat → List W3) (V : SV) (nts : List N2) (kk : Nat) (D : DataW Unit) : Prop where
  ni : NI D (findR nts)
  vn : V.n ≤ kk
  wf : ∀ s, (Lit.int .u64 (findR nts s)).wf = true
  zed : ∀ i, i < 8 → op i = false → at_ i = 0 ∧ sets i = []
  key : ∀ i, i < 8 → ∀ x ∈ sets i, x.key.size ≤ 16
section
variable {w w1 : World} {g b M r : Nat} {at_ at' : Nat → Int} {op op' : Nat → Bool} {sets : Nat → List W3} {S S' : Nat → SV} {V V' : SV} {nts : List N2} {kk : Nat} {D : DataW Unit}
theorem Sds.chg (h : Sds w b M sets S V nts) (k : Chg b M w w1) : Sds w1 b M sets S V nts := ⟨fun i hi => (h.s i hi).chg k, h.v.chg k⟩
theorem Sds.below (h : Sds w b M sets S V nts) (k : Below w.heap.size w w1) : Sds w1 b M sets S V nts := h.chg (Chg.of_below k)
theorem Sds.refT (h : Sds w b M sets S V nts) (hr : RefT w r at_ op S' V') (k : w.grownBy w1 (some r)) : Sds w1 b M sets S V nts := ⟨fun i hi => slF_refT (h.s i hi) hr k, h.v.refT hr k⟩
theorem Sds.upd (h : Sds w b M sets S V nts) (i : Nat) {s : SV} {xs : List W3} (hs : SlF w b M s.a s.n s.c xs) : Sds w b M (upd sets i xs) (upd S i s) V nts :=
  ⟨fun j hj => by
    by_cases e : j = i
    · subst e; rw [upd_same, upd_same]; exact hs
    · rw [upd_other e, upd_other e]; exact h.s j hj, h.v⟩
theorem Tab.refT (h : Tab w g b M at' op' sets kk D) (hr : RefT w r at_ op S' V') (k : w.grownBy w1 (some r)) (h1 : r ≠ g) (h2 : r ≠ b) (h3 : r ≠ M) : Tab w1 g b M at' op' sets kk D := by
  refine h.far (fun i A n c hi hs hn b' o e => ?_) k h1.symm h2.symm h3.symm
  obtain ⟨A1, n1, c1, e1, hsl, _⟩ := h.s i hi
  rw [e1] at hs; cases hs
  obtain ⟨b2, o2, e2, hlt, hc⟩ := hsl.1.2.2.2 hn
  rw [e] at e2; cases e2
  have hx : (sets i)[0]? = some ((sets i)[0]'(by have := slW_len hsl.1; omega)) := List.getElem?_eq_getElem _
  exact refT_far hr (hc 0 _ (cW_get hx).1)
theorem zed_upd (h : ∀ i, i < 8 → op i = false → at_ i = 0 ∧ sets i = []) (f : Nat) (a : Int) (xs : List W3) : ∀ i, i < 8 → upd op f true i = false → upd at_ f a i = 0 ∧ upd sets f xs i = [] := fun i hi ho => by
  by_cases e : i = f
  · subst e; rw [upd_same] at ho; cases ho
  · rw [upd_other e] at ho ⊢; rw [upd_other e]; exact h i hi ho
theorem zed_gone (h : ∀ i, i < 8 → op i = false → at_ i = 0 ∧ sets i = []) (f : Nat) : ∀ i, i < 8 → upd op f false i = false → upd at_ f 0 i = 0 ∧ upd sets f [] i = [] := fun i hi ho => by
  by_cases e : i = f
  · subst e; rw [upd_same, upd_same]; exact ⟨rfl, rfl⟩
  · rw [upd_other e] at ho ⊢; rw [upd_other e]; exact h i hi ho
theorem zed_set (h : ∀ i, i < 8 → op i = false → at_ i = 0 ∧ sets i = []) {f : Nat} (hf : op f = true) (xs : List W3) : ∀ i, i < 8 → op i = false → at_ i = 0 ∧ upd sets f xs i = [] := fun i hi ho => by
  have e : i ≠ f := by rintro rfl; rw [hf] at ho; cases ho
  rw [upd_other e]; exact h i hi ho
theorem key_upd (h : ∀ i, i < 8 → ∀ x ∈ sets i, x.key.size ≤ 16) (f : Nat) {xs : List W3} (hx : ∀ x ∈ xs, x.key.size ≤ 16) : ∀ i, i < 8 → ∀ x ∈ upd sets f xs i, x.key.size ≤ 16 := fun i hi x hm => by
  by_cases e : i = f
  · subst e; rw [upd_same] at hm; exact hx x hm
  · rw [upd_other e] at hm; exact h i hi x hm
theorem putW_key {s : List W3} (h : ∀ x ∈ s, x.key.size ≤ 16) (w : W3) : ∀ x ∈ (putW s w).1, x.key.size ≤ 16 := puts_key (P := fun x => x.key.size ≤ 16) (fun _ h => right_key h) [w] s h
theorem Law.begin_ (h : Law at_ op sets V nts kk D) (i : Nat) (a : Int) : Law (upd at_ i a) (upd op i true) (upd sets i []) V nts kk D := ⟨h.ni, h.vn, h.wf, zed_upd h.zed i a [], key_upd h.key i (fun x hx => by simp at hx)⟩
theorem Law.end_ (h : Law at_ op sets V nts kk D) (i : Nat) : Law (upd at_ i 0) (upd op i false) (upd sets i []) V nts kk D := ⟨h.ni, h.vn, h.wf, zed_gone h.zed i, key_upd h.key i (fun x hx => by simp at hx)⟩
theorem Law.write (h : Law at_ op sets V nts kk D) {i : Nat} (hi : i < 8) (ho : op i = true) (x : W3) : Law at_ op (upd sets i (putW (sets i) x).1) V nts kk D := ⟨h.ni, h.vn, h.wf, zed_set h.zed ho _, key_upd h.key i (putW_key (h.key i hi) x)⟩
theorem findR_note (l : List N2) (x : W3) (st : Int) : notes (findR l) [x] st = findR (l ++ noteL st [x]) := by
  funext k
  show updK (findR l) x.key _ k = findR (l ++ [⟨x.key, st⟩]) k
  rw [findR_snoc]
  by_cases e : x.key = k
  · subst e; rw [updK_same, if_pos rfl]
  · rw [updK_other (fun h => e h.symm), if_neg e]
theorem Law.note (h : Law at_ op sets V nts kk D) {D' : DataW Unit} {V' : SV} (x : W3) {st : Int} (hst : (Lit.int .u64 st).wf = true) (hn : NI D' (notes (findR nts) [x] st)) (hv : V'.n = V.n + 1) : Law at_ op sets V' (nts ++ noteL st [x]) (kk + 1) D' :=
  ⟨by rw [← findR_note]; exact hn, by have := h.vn; omega, by rw [← findR_note]; exact notes_wf hst _ h.wf, h.zed, h.key⟩
theorem law_start : Law (fun _ => 0) (fun _ => false) (fun _ => []) sv0 [] 0 (.map []) := ⟨ni_start, Nat.le_refl _, wfZ, fun _ _ _ => ⟨rfl, rfl⟩, fun _ _ x hx => by simp at hx⟩
theorem tclash_out (h : Tab w g b M at_ op sets kk D) {id : Int} (hi : id < 0 ∨ 8 ≤ id) : Calls Try.prog 19 #[PT g, .int .i64 id] w fun e w' => e = .returned (.bool false) ∧ Below w.heap.size w w' := by
  have H := Lib.hid h; have HI := Lib.hid hi; clear h hi
  go_enter Try.func19, Try.ntmps19
  go_wp2_with fail
  refine (tat_out H.out HI.out).mono ?_
  rintro e w1 ⟨rfl, hb1⟩
  have HB := Lib.hid hb1; clear hb1
  go_wp2
  go_ret
  exact ⟨rfl, HB.out⟩
theorem below_newT {o : Obj} (k : (w.alloc o).grownBy w1 (some w.heap.size)) : Below w.heap.size w w1 :=
  ((Below.refl w.heap.size w).alloc (Nat.le_refl _) o).grown k (by simp) (fun j hj => by cases hj; exact Nat.le_refl _)
theorem openL_mem {k : Nat} {y : Int} (h : y ∈ openL op k) : ∃ i : Nat, i < k ∧ y = (i : Int) ∧ op i = true := by
  unfold openL at h
  obtain ⟨i, hi, rfl⟩ := List.mem_map.1 h
  rw [List.mem_filter, List.mem_range] at hi
  exact ⟨i, hi.1, rfl, hi.2⟩
theorem openL_rise (op : Nat → Bool) (k : Nat) : (openL op k).Pairwise (· < ·) := by
  induction k with
  | zero => exact List.Pairwise.nil
  | succ k ih =>
    rw [openL_succ, List.pairwise_append]
    refine ⟨ih, ?_, fun a ha b hb => ?_⟩
    · split
      · exact List.pairwise_singleton _ _
      · exact List.Pairwise.nil
    · obtain ⟨i, hi, rfl, _⟩ := openL_mem ha
      split at hb
      · have : b = (k : Int) := by simpa using hb
        omega
      · simp at hb
theorem openL_next {k p : Nat} {x : Int} (hx : (openL op k)[p]? = some x) : ∀ q y, p + 1 ≤ q → (openL op k)[q]? = some y → x < y := fun q y hq hy => by
  obtain ⟨hp, rfl⟩ := List.getElem?_eq_some_iff.1 hx
  obtain ⟨hq', rfl⟩ := List.getElem?_eq_some_iff.1 hy
  exact List.pairwise_iff_getElem.1 (openL_rise op k) p q hp hq' (by omega)
end
end Go.Proofs.Yteaaeeidbjklbaa
