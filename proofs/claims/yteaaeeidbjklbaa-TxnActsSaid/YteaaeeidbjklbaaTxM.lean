/- A map keyed by numbers, beside the table. -/
import Derived.Test.YteaaeeidbjklbaaTxO
import Derived.Maps.RangeWalk
namespace Go.Proofs.Yteaaeeidbjklbaa
open Go.RowKit Go.Maps

theorem zeroInt (w : World) : (zeroValue 23).run Try.prog w = .ok (.int .u64 0) w := by kernel_rfl
theorem intKey : Keyed Try.prog 3 := int_keyed Try.underlying3
theorem keyI {i : Nat} (hi : i ≤ 8) : keyOf Try.prog 3 (.int .i64 i) = some (.int .i64 i) := keyOf_int_mk Try.underlying3 (WalkArith.wf_i64 (by omega))
theorem cnt_open {op : Nat → Bool} {f : Nat} (ho : op f = false) : ∀ m, cnt (upd op f true) m = cnt op m + (if f < m then 1 else 0) := by
  intro m
  induction m with
  | zero => simp [cnt]
  | succ m ih =>
    rw [cnt, cnt, ih]
    by_cases e : m = f
    · subst e
      rw [upd_same, ho]
      simp
    · rw [upd_other e]
      by_cases h : f < m
      · rw [if_pos h, if_pos (by omega : f < m + 1)]; omega
      · rw [if_neg h, if_neg (by omega : ¬ f < m + 1)]; omega
theorem cnt_close {op : Nat → Bool} {f : Nat} (ho : op f = true) : ∀ m, cnt (upd op f false) m + (if f < m then 1 else 0) = cnt op m := by
  intro m
  induction m with
  | zero => simp [cnt]
  | succ m ih =>
    rw [cnt, cnt]
    by_cases e : m = f
    · subst e
      rw [upd_same, ho]
      rw [if_neg (by omega)] at ih
      simp
      omega
    · rw [upd_other e]
      by_cases h : f < m
      · rw [if_pos h] at ih; rw [if_pos (by omega : f < m + 1)]; omega
      · rw [if_neg h] at ih; rw [if_neg (by omega : ¬ f < m + 1)]; omega
theorem cnt_full {op : Nat → Bool} : ∀ m, (∀ j, j < m → op j = true) → cnt op m = m
  | 0, _ => rfl
  | m + 1, h => by rw [cnt, h m (by omega), cnt_full m (fun j hj => h j (by omega))]; rfl
/-- is the number x open -/
def opZ (op : Nat → Bool) (x : Int) : Bool := decide (0 ≤ x ∧ x < 8) && op x.toNat
theorem opZ_nat {op : Nat → Bool} {j : Nat} (hj : j < 8) : opZ op (j : Int) = op j := by
  unfold opZ
  rw [decide_eq_true (by omega), Bool.true_and, Int.toNat_natCast]
theorem opZ_true {op : Nat → Bool} {x : Int} (h : opZ op x = true) : ∃ j : Nat, j < 8 ∧ x = (j : Int) ∧ op j = true := by
  unfold opZ at h
  rw [Bool.and_eq_true, decide_eq_true_iff] at h
  exact ⟨x.toNat, by omega, by omega, h.2⟩
theorem opZ_upd {op : Nat → Bool} {f : Nat} (v : Bool) {x : Int} (hx : x ≠ (f : Int)) : opZ (upd op f v) x = opZ op x := by
  unfold opZ
  by_cases h : 0 ≤ x ∧ x < 8
  · rw [upd_other (by omega)]
  · rw [decide_eq_false h]; rfl
theorem litZ_ne {x y : Int} (h : x ≠ y) : Lit.int .i64 x ≠ Lit.int .i64 y := fun e => h (by injection e)
/-- the map holds the stamp of each number that is open; nothing else -/
def MapZ (D : DataW Unit) (at_ : Nat → Int) (op : Nat → Bool) : Prop :=
  (∀ (i : Nat) (z : DataW Unit), i < 8 → op i = true → D.atKey (.int .i64 i) z = .lit (.int .u64 (at_ i))) ∧ (∀ x : Int, Maps.has D (.int .i64 x) = opZ op x) ∧ Maps.size D = cnt op 8
theorem mapZ_start (at_ : Nat → Int) : MapZ (.map []) at_ (fun _ => false) := ⟨(fun _ _ _ h => by cases h), (fun x => by unfold opZ; simp; rfl), rfl⟩
theorem mapZ_put {D : DataW Unit} {at_ : Nat → Int} {op : Nat → Bool} (h : MapZ D at_ op) (hD : Tidy D) {f : Nat} (hf : f < 8) (ho : op f = false) (a : Int) : MapZ (D.put (.int .i64 f) (.lit (.int .u64 a))) (upd at_ f a) (upd op f true) := by
  obtain ⟨h1, h2, h3⟩ := h
  refine ⟨fun i z hi hoi => ?_, fun x => ?_, ?_⟩
  · by_cases e : i = f
    · subst e
      rw [atKey_put_same hD.isMap (show WideAt.IsKeyLit (.int _ _) from trivial), upd_same]
    · rw [upd_other e] at hoi ⊢
      rw [atKey_put_other (litZ_ne (by omega)), h1 i z hi hoi]
  · by_cases e : x = (f : Int)
    · subst e
      rw [has_put_same hD.isMap (show WideAt.IsKeyLit (.int _ _) from trivial), opZ_nat hf, upd_same]
    · rw [has_put_other (litZ_ne e), h2, opZ_upd _ e]
  · rw [size_put hD, h2, opZ_nat hf, ho, h3, cnt_open ho, if_pos hf]; simp
theorem mapZ_del {D : DataW Unit} {at_ : Nat → Int} {op : Nat → Bool} (h : MapZ D at_ op) (hD : Tidy D) {f : Nat} (hf : f < 8) (ho : op f = true) (a : Int) : MapZ (D.del (.int .i64 f)) (upd at_ f a) (upd op f false) := by
  obtain ⟨h1, h2, h3⟩ := h
  refine ⟨fun i z hi hoi => ?_, fun x => ?_, ?_⟩
  · by_cases e : i = f
    · subst e; rw [upd_same] at hoi; cases hoi
    · rw [upd_other e] at hoi ⊢
      rw [atKey_del_other (litZ_ne (by omega)), h1 i z hi hoi]
  · by_cases e : x = (f : Int)
    · subst e
      rw [has_del_same, opZ_nat hf, upd_same]
    · rw [has_del_other (litZ_ne e), h2, opZ_upd _ e]
  · have h4 := size_del (k := .int .i64 (f : Int)) hD
    rw [h2, h3, opZ_nat hf, ho] at h4
    have h5 := cnt_close ho 8
    rw [if_pos hf] at h5
    simp at h4; omega
theorem mapZ_same {D : DataW Unit} {at_ : Nat → Int} {op : Nat → Bool} (h : MapZ D at_ op) (hD : Tidy D) {f : Nat} (hf : f < 8) (ho : op f = false) : MapZ (D.del (.int .i64 f)) at_ op := by
  obtain ⟨h1, h2, h3⟩ := h
  refine ⟨fun i z hi hoi => ?_, fun x => ?_, ?_⟩
  · by_cases e : i = f
    · subst e; rw [ho] at hoi; cases hoi
    · rw [atKey_del_other (litZ_ne (by omega)), h1 i z hi hoi]
  · by_cases e : x = (f : Int)
    · subst e
      rw [has_del_same, opZ_nat hf, ho]
    · rw [has_del_other (litZ_ne e), h2]
  · have h4 := size_del (k := .int .i64 (f : Int)) hD
    rw [h2, h3, opZ_nat hf, ho] at h4
    simp at h4; omega
theorem okByteT {n : Int} (h : (Lit.int .u8 n).wf = true) : 0 ≤ n ∧ n ≤ 255 := by
  simp [Lit.wf] at h
  have e1 : IntKind.u8.min = 0 := rfl
  have e2 : IntKind.u8.max = 255 := rfl
  rw [e1, e2] at h; exact h
section
variable {w w1 : World} {g b M G : Nat} {at_ : Nat → Int} {op : Nat → Bool} {k : Nat} {D : DataW Unit}
abbrev E0 : Nat → List W3 := fun _ => []
theorem upd_E0 (i : Nat) : upd E0 i [] = E0 := by funext j; unfold upd; split <;> rfl
/-- no set is written: so whatever else may turn -/
theorem Tab.beside (h : Tab w g b M at_ op E0 k D) (kk : w.grownBy w1 (some G)) (h1 : g ≠ G) (h2 : b ≠ G) (h3 : M ≠ G) : Tab w1 g b M at_ op E0 k D := by
  refine h.far (fun i A n c hi hs hn => ?_) kk h1 h2 h3
  obtain ⟨A1, n1, c1, e1, hsl, _⟩ := h.s i hi
  rw [e1] at hs; cases hs
  have := slW_len hsl.1
  simp at this; omega
theorem bch {w2 : World} (h : Below w.heap.size w w1) (c : Chg b M w1 w2) (hb : w.heap.size ≤ b) (hM : w.heap.size ≤ M) : Below w.heap.size w w2 := h.trans (c.below hb hM h.size)
theorem map_chg {P : Program} {ky : TypeId} {R : Value → Option (DataW Unit × List MemPlace)} {Q n : Nat} {E : DataW Unit} (h : w.ownsMap P ky R Q n E) (c : Chg b M w w1) (h1 : Q ≠ b) (h2 : Q ≠ M) : w1.ownsMap P ky R Q n E := by
  have hlt := h.lt
  obtain ⟨es, clock, hh, r⟩ := h
  exact ⟨es, clock, (c.block Q hlt h1 h2).trans hh, r⟩
theorem below_none (h : Below w.heap.size w w1) : w.grownBy w1 none := ⟨h.os, h.tape, h.output, h.size, fun i hi _ => h.block i hi⟩
theorem has_any {Q n : Nat} {E : DataW Unit} (h : w.ownsMap Try.prog 3 (plainElem Try.prog 23) Q n E) {i : Nat} (hi : i ≤ 8) : Calls Try.prog 32 #[.map (some Q), .int .i64 i] w fun e w' => e = .returned (.bool (Maps.has E (.int .i64 i))) ∧ Below w.heap.size w w' := by
  have H := Lib.hid h; clear h
  go_enter Try.func32, Try.ntmps32
  go_wp2_with (at_lookup; refine wpList_lookup_own_ok_int _ rfl _ _ 77 rfl 3 23 .u64 intKey Try.underlying77 Try.underlying23 (zeroInt _) Q n _ rfl H.out _ _ rfl (keyI hi) ?_; intro c _ _)
  go_ret
  exact ⟨rfl, Below.refl _ _⟩
/-- the least of 1000 and the stamps that have come -/
def LL (at_ : Nat → Int) (op : Nat → Bool) (left : Lit → Bool) (L : Int) : Prop :=
  (L = 1000 ∨ ∃ j : Nat, j < 8 ∧ op j = true ∧ L = at_ j) ∧ L ≤ 1000 ∧ ∀ j : Nat, j < 8 → op j = true → left (.int .i64 j) = false → L ≤ at_ j
theorem ll_start {E : DataW Unit} (hm : MapZ E at_ op) : LL at_ op (Maps.has E) 1000 := ⟨.inl rfl, Int.le_refl _, fun j hj ho hl => by rw [hm.2.1, opZ_nat hj, ho] at hl; cases hl⟩
theorem ll_step {left : Lit → Bool} {L : Int} (h : LL at_ op left L) {j : Nat} (hj : j < 8) (ho : op j = true) : LL at_ op (fun z => left z && !z.sameKey (.int .i64 j)) (if at_ j < L then at_ j else L) := by
  obtain ⟨h1, h2, h3⟩ := h
  refine ⟨?_, by split <;> omega, fun i hi hoi hl => ?_⟩
  · split
    · exact .inr ⟨j, hj, ho, rfl⟩
    · exact h1
  · by_cases e : i = j
    · subst e; split <;> omega
    · have hne : (Lit.int .i64 (i : Int)).sameKey (.int .i64 (j : Int)) = false := sameKey_ne (litZ_ne (by omega))
      have hl' : (left (.int .i64 i) && !(Lit.int .i64 (i : Int)).sameKey (.int .i64 (j : Int))) = false := hl
      rw [hne] at hl'
      have := h3 i hi hoi (by simpa using hl')
      split <;> omega
theorem ll_end {left : Lit → Bool} {L r : Int} (h : LL at_ op left L) (hl : ∀ z, left z = false) (hr : ∀ j : Nat, j < 8 → op j = true → at_ j < 1000) (hi : IsLeast at_ op 1000 r) : r = L := by
  obtain ⟨h1, h2, h3⟩ := h
  rcases hi with ⟨hn, e⟩ | ⟨i, hi8, ho, e, hm⟩
  · rcases h1 with h1 | ⟨j, hj, ho, _⟩
    · omega
    · rw [hn j hj] at ho; cases ho
  · have h4 := h3 i hi8 ho (hl _)
    have h5 := hr i hi8 ho
    rcases h1 with h1 | ⟨j, hj, hoj, h1⟩
    · omega
    · have := hm j hj hoj; omega
end
end Go.Proofs.Yteaaeeidbjklbaa
