/- Maps keyed by numbers, beside the watch. -/
import Derived.Test.YtpknllhbebjleaaLawLeast
import Derived.Maps.OwnSet
import Derived.Maps.OwnOps
import Derived.Maps.RangeWalk
namespace Go.Proofs.Ytpknllhbebjleaa
open Go.RowKit Go.Maps

theorem ownsMap_below {H : Type} {P : Program} {k : TypeId} {R : Value → Option (DataW H × List MemPlace)} {b n : Nat} {D : DataW H} {w w' : World} (h : w.ownsMap P k R b n D) (hb : Below w.heap.size w w') : w'.ownsMap P k R b n D := by
  have hlt := h.lt
  obtain ⟨es, clock, hh, r⟩ := h
  exact ⟨es, clock, (hb.block b hlt).trans hh, r⟩
theorem ownsMap_turn {H : Type} {P : Program} {k : TypeId} {R : Value → Option (DataW H × List MemPlace)} {b n g lo hi : Nat} {D : DataW H} {w w' : World} (h : w.ownsMap P k R b n D) (hb : Turn g lo hi w w') (hne : b ≠ g) : w'.ownsMap P k R b n D :=
  h.kept hb.g (fun e => hne (by injection e))
theorem Watch.grownMap {w w1 : World} {b g : Nat} {at_ : Nat → Int} {op : Nat → Bool} (h : Watch w b at_ op) (k : w.grownBy w1 (some g)) (hne : b ≠ g) : Watch w1 b at_ op := h.far k hne
theorem zeroInt (w : World) : (zeroValue 3).run Try.prog w = .ok (.int .i64 0) w := by kernel_rfl
theorem intKey : Keyed Try.prog 3 := int_keyed Try.underlying3
theorem keyI {i : Nat} (hi : i ≤ 8) : keyOf Try.prog 3 (.int .i64 i) = some (.int .i64 i) := keyOf_int_mk Try.underlying3 (WalkArith.wf_i64 (by omega))

/-- how a number reads: by itself -/
theorem litI_ne {i j : Nat} (h : i ≠ j) : Lit.int .i64 (i : Int) ≠ Lit.int .i64 (j : Int) := fun e => h (by injection e with _ e; omega)
theorem cnt_open {op : Nat → Bool} {f : Nat} (ho : op f = false) : ∀ m, cnt (upd op f true) m = cnt op m + (if f < m then 1 else 0) := by
  intro m
  induction m with
  | zero => simp [cnt]
  | succ m ih =>
    rw [cnt, cnt, ih]
    by_cases e : m = f
    · subst e
      rw [upd_same, ho]
      simp
    · rw [upd_other e]
      by_cases h : f < m
      · rw [if_pos h, if_pos (by omega : f < m + 1)]; omega
      · rw [if_neg h, if_neg (by omega : ¬ f < m + 1)]; omega
/-- the map holds, of each number that is open, what v says; nothing else -/
def MapI (D : DataW Unit) (op : Nat → Bool) (v : Nat → DataW Unit) : Prop :=
  (∀ (i : Nat) (z : DataW Unit), i ≤ 8 → D.atKey (.int .i64 i) z = if op i = true ∧ i < 8 then v i else z) ∧ (∀ i : Nat, i ≤ 8 → Maps.has D (.int .i64 i) = (op i && decide (i < 8))) ∧ Maps.size D = cnt op 8
theorem mapI_start (v : Nat → DataW Unit) : MapI (.map []) (fun _ => false) v := ⟨fun i z _ => by simp; rfl, fun i _ => rfl, rfl⟩
theorem mapI_put {D : DataW Unit} {op : Nat → Bool} {v : Nat → DataW Unit} (h : MapI D op v) (hD : Tidy D) {f : Nat} (hf : f < 8) (ho : op f = false) (d : DataW Unit) : MapI (D.put (.int .i64 f) d) (upd op f true) (upd v f d) := by
  obtain ⟨h1, h2, h3⟩ := h
  refine ⟨fun i z hi => ?_, fun i hi => ?_, ?_⟩
  · by_cases e : i = f
    · subst e
      rw [atKey_put_same hD.isMap (show WideAt.IsKeyLit (.int _ _) from trivial), upd_same, upd_same, if_pos ⟨rfl, hf⟩]
    · rw [atKey_put_other (litI_ne e), h1 i z hi, upd_other e, upd_other e]
  · by_cases e : i = f
    · subst e
      rw [has_put_same hD.isMap (show WideAt.IsKeyLit (.int _ _) from trivial), upd_same, decide_eq_true hf]; rfl
    · rw [has_put_other (litI_ne e), h2 i hi, upd_other e]
  · rw [size_put hD, h2 f (by omega), ho, h3, cnt_open ho, if_pos hf]; simp
theorem mapI_del {D : DataW Unit} {op : Nat → Bool} {v : Nat → DataW Unit} (h : MapI D op v) (hD : Tidy D) {f : Nat} (hf : f < 8) : MapI (D.del (.int .i64 f)) (upd op f false) v := by
  obtain ⟨h1, h2, h3⟩ := h
  refine ⟨fun i z hi => ?_, fun i hi => ?_, ?_⟩
  · by_cases e : i = f
    · subst e
      rw [atKey_del_same, upd_same, if_neg (by simp)]
    · rw [atKey_del_other (litI_ne e), h1 i z hi, upd_other e]
  · by_cases e : i = f
    · subst e
      rw [has_del_same, upd_same]; rfl
    · rw [has_del_other (litI_ne e), h2 i hi, upd_other e]
  · have h4 := size_del (k := .int .i64 (f : Int)) hD
    rw [h2 f (by omega), h3, decide_eq_true hf, Bool.and_true] at h4
    cases ho : op f with
    | true => have := cnt_close ho 8; rw [if_pos hf] at this; rw [ho] at h4; simp at h4; omega
    | false =>
      have e : upd op f false = op := by
        funext j
        by_cases e : j = f
        · subst e; rw [upd_same, ho]
        · rw [upd_other e]
      rw [ho] at h4; simp at h4
      rw [e]; exact h4
theorem upd_self {α : Type} (v : Nat → α) (f : Nat) : upd v f (v f) = v := by
  funext j
  by_cases e : j = f
  · subst e; rw [upd_same]
  · rw [upd_other e]
theorem mapI_close {D : DataW Unit} {op : Nat → Bool} {v : Nat → DataW Unit} (h : MapI D op v) (hD : Tidy D) {f : Nat} (hf : f < 8) (ho : op f = false) : MapI (D.del (.int .i64 f)) op v := by
  have := mapI_del h hD hf
  have e := upd_self op f
  rw [ho] at e
  rwa [e] at this
end Go.Proofs.Ytpknllhbebjleaa
