/- Counting keys in a map; sets that are put together in any order. -/
import Derived.Test.YtmoihamobojkfaaSumB
import Derived.Maps.OwnSet
import Derived.Maps.OwnOps
namespace Go.Proofs.Ytmoihamobojkfaa
open Go.RowKit Go.Maps

theorem data_inj {a b : ByteArray} (h : a.data.toList = b.data.toList) : a = b := by
  cases a; cases b; simp at h; simpa using h
theorem ownsMap_below {H : Type} {P : Program} {k : TypeId} {R : Value → Option (DataW H × List MemPlace)} {b n : Nat} {D : DataW H} {w w' : World} (h : w.ownsMap P k R b n D) (hb : Below w.heap.size w w') : w'.ownsMap P k R b n D := by
  have hlt := h.lt
  obtain ⟨es, clock, hh, r⟩ := h
  exact ⟨es, clock, (hb.block b hlt).trans hh, r⟩
theorem zeroInt (w : World) : (zeroValue 3).run Try.prog w = .ok (.int .i64 0) w := by kernel_rfl
theorem strKey : Keyed Try.prog 9 := string_keyed Try.underlying9

/-- the keys of the list are at one in the map, no other key is there -/
def CntB (D : DataW Unit) (l : List W3) : Prop := ∀ s : ByteArray, D.atKey (.string s.data.toList) (.lit (.int .i64 0)) = .lit (.int .i64 (if (look W3.key s l).isSome then 1 else 0))
theorem cntB_start : CntB (.map []) [] := fun s => by simp [look_nil]; rfl
theorem cntB_at {D : DataW Unit} {l : List W3} (h : CntB D l) (s : ByteArray) {c : Int} (hat : D.atKey (.string s.data.toList) (.lit (.int .i64 0)) = .lit (.int .i64 c)) : c = if (look W3.key s l).isSome then 1 else 0 := by
  rw [h s] at hat
  injection hat with hat; injection hat with _ hat; exact hat.symm
theorem put_at {D : DataW Unit} {n : Int} (s : ByteArray) {c : Int} (hD : IsMap D) (hat : (D.put (.string s.data.toList) (.lit (.int .i64 n))).atKey (.string s.data.toList) (.lit (.int .i64 0)) = .lit (.int .i64 c)) : c = n := by
  rw [atKey_put_same hD (show WideAt.IsKeyLit (.string _) from trivial)] at hat
  injection hat with hat; injection hat with _ hat; exact hat.symm
theorem cntB_step {D : DataW Unit} {l : List W3} {x : W3} (h : CntB D l) (hD : IsMap D) (hx : look W3.key x.key l = none) : CntB (D.put (.string x.key.data.toList) (.lit (.int .i64 1))) (l ++ [x]) := by
  intro s
  rw [look_append, look_cons, look_nil]
  by_cases hs : x.key = s
  · subst hs
    rw [atKey_put_same hD (show WideAt.IsKeyLit (.string _) from trivial), hx]; simp
  · rw [atKey_put_other (fun e => hs (by injection e with e; exact (data_inj e).symm)), h s, if_neg hs]
    cases look W3.key s l <;> rfl

/-- no key twice -/
def KD (l : List W3) : Prop := l.Pairwise (fun a b => a.key ≠ b.key)
theorem kd_nil : KD [] := List.Pairwise.nil
theorem kd_snoc {l : List W3} {x : W3} (h : KD l) (hx : look W3.key x.key l = none) : KD (l ++ [x]) := by
  unfold KD
  rw [List.pairwise_append]
  exact ⟨h, List.pairwise_singleton _ _, fun a ha b hb => by simp at hb; subst hb; exact look_none_iff.1 hx a ha⟩
theorem kd_take {l : List W3} (h : KD l) (k : Nat) : KD (l.take k) := List.Pairwise.sublist (List.take_sublist _ _) h
theorem kd_look {l : List W3} (h : KD l) {x : W3} (hx : x ∈ l) : look W3.key x.key l = some x := by
  induction l with
  | nil => simp at hx
  | cons y l ih =>
    rw [look_cons]
    obtain ⟨h1, h2⟩ := List.pairwise_cons.1 h
    rcases List.mem_cons.1 hx with rfl | hx
    · rw [if_pos rfl]
    · rw [if_neg (h1 x hx), ih h2 hx]
theorem kd_ext {a b : List W3} (hb : KD b) (h : ∀ x, x ∈ a ↔ x ∈ b) (k : ByteArray) : look W3.key k a = look W3.key k b := by
  cases e : look W3.key k a with
  | none =>
    symm
    refine look_none fun x hx hk => ?_
    exact look_none_iff.1 e x ((h x).2 hx) hk
  | some x =>
    obtain ⟨h1, rfl⟩ := look_some e
    exact (kd_look hb ((h x).1 h1)).symm

/-- the set holds what may be put, out of the list -/
def PA (s l : List W3) : Prop := Rise W3.key s ∧ s.length ≤ l.length ∧ ∀ k, look W3.key k s = (look W3.key k l).bind (fun w => if rightB w = true then some w else none)
theorem pa_nil : PA [] [] := ⟨rise_nil, Nat.le_refl _, fun _ => rfl⟩
theorem pa_step {s l : List W3} {x : W3} (h : PA s l) (hx : look W3.key x.key l = none) (h16 : l.length < 16) : PA (putW s x).1 (l ++ [x]) := by
  obtain ⟨h1, h2, h3⟩ := h
  have hs : look W3.key x.key s = none := by rw [h3, hx]; rfl
  cases hr : rightB x with
  | false =>
    rw [putW_wrong hr]
    refine ⟨h1, by rw [List.length_append]; simp; omega, fun k => ?_⟩
    rw [h3, look_append, look_cons, look_nil]
    by_cases hk : x.key = k
    · subst hk; rw [hx, if_pos rfl]; simp [hr]
    · rw [if_neg hk]; cases look W3.key k l <;> rfl
  | true =>
    have e : (putW s x).1 = ins W3.key s x := by
      unfold putW; rw [if_neg (by rw [hr]; simp), if_neg (by rw [hs]; simp), if_neg (by omega)]
    rw [e]
    refine ⟨rise_ins h1 x, by rw [length_ins h1, hs, List.length_append]; simp; omega, fun k => ?_⟩
    rw [look_ins h1, look_append, look_cons, look_nil]
    by_cases hk : x.key = k
    · subst hk; rw [hx, if_pos rfl, if_pos rfl]; simp [hr]
    · rw [if_neg hk, if_neg hk, h3]; cases look W3.key k l <;> rfl
theorem pa_same {s t a b : List W3} (h : PA s a) (h' : PA t b) (hb : KD b) (hm : ∀ x, x ∈ a ↔ x ∈ b) : s = t :=
  rise_ext h.1 h'.1 fun k => by rw [h.2.2, h'.2.2, kd_ext hb hm]

/-- begun at place k -/
def rot (l : List W3) (k : Nat) : List W3 := l.drop k ++ l.take k
theorem rot_len (l : List W3) (k : Nat) (hk : k ≤ l.length) : (rot l k).length = l.length := by unfold rot; rw [List.length_append, List.length_drop, List.length_take]; omega
theorem rot_mem (l : List W3) (k : Nat) (x : W3) : x ∈ l ↔ x ∈ rot l k := by
  unfold rot
  rw [List.mem_append]
  constructor
  · intro h
    rw [← List.take_append_drop k l, List.mem_append] at h
    exact h.symm
  · rintro (h | h)
    · exact List.mem_of_mem_drop h
    · exact List.mem_of_mem_take h
theorem rot_kd {l : List W3} (h : KD l) (k : Nat) : KD (rot l k) := by
  unfold KD rot at *
  rw [← List.take_append_drop k l, List.pairwise_append] at h
  obtain ⟨h1, h2, h3⟩ := h
  rw [List.pairwise_append]
  exact ⟨h2, h1, fun a ha b hb => (h3 b hb a ha).symm⟩
theorem rot_at {l : List W3} {k j n : Nat} (hn : l.length = n) (hk : k < n) (hj : j < n) : (rot l k)[j]? = l[(j + k) % n]? := by
  unfold rot
  rcases Nat.lt_or_ge j (n - k) with h | h
  · rw [List.getElem?_append_left (by rw [List.length_drop]; omega), List.getElem?_drop, Nat.mod_eq_of_lt (by omega), Nat.add_comm]
  · rw [List.getElem?_append_right (by rw [List.length_drop]; omega), List.length_drop, List.getElem?_take, if_pos (by omega)]
    congr 1
    rw [Nat.mod_eq_sub_mod (by omega), Nat.mod_eq_of_lt (by omega)]; omega
theorem look_take_none {l : List W3} (h : KD l) {k : Nat} {x : W3} (hx : l[k]? = some x) : look W3.key x.key (l.take k) = none := by
  refine look_none fun y hy e => ?_
  obtain ⟨j, hj, rfl⟩ := List.mem_iff_getElem.1 hy
  rw [List.getElem_take] at e
  rw [List.length_take] at hj
  obtain ⟨hk, rfl⟩ := get_some hx
  exact List.pairwise_iff_getElem.1 h j k (by omega) hk (by omega) e
end Go.Proofs.Ytmoihamobojkfaa
