/- Memory: a slice appended to a row of the call's own. -/
import Derived.Test.YteaaeeidbjklbaaCopy
namespace Go.Proofs.Yteaaeeidbjklbaa
open Go.RowKit

section
variable {P : Program} (w : World)

theorem run_append_zero (base : Nat) (t ty e : TypeId) (i : TypeInfo) (size : Nat) (ht : P.underlying t = some (.slice e)) (hi : P.info? e = some i)
    (v : Value) (n : Nat) (xs : List Value) (hown : w.ownsRow base e size v n xs) (c : Nat) : (Builtin.append_ #[t, t] ty #[v, .slice none 0 c]).run P w = .ok v w := by
  rcases hown.2 with ⟨rfl, _⟩ | ⟨g, cap, cur, rfl, _, _, hnc, _⟩ <;> simp [Builtin.append_, run_underlying ht, sizeOf, typeInfo, Builtin.lenOf, Builtin.firstCells, storeCells, *]

theorem run_append_sl (base : Nat) (t ty e : TypeId) (i : TypeInfo) (z : Value) (size bytes : Nat) (ht : P.underlying t = some (.slice e)) (hi : P.info? e = some i) (hz : i.zero = some z)
    (hsize : i.size = size) (hby : i.bytes = bytes) (hzs : z.cells.size = size) (hsz : 0 < size)
    (v : Value) (n : Nat) (xs : List Value) (hown : w.ownsRow base e size v n xs)
    (A : Option Addr) (m c : Nat) (news : List Value) (hs : Sl w size A m c news) (h1 : ∀ u ∈ news, u.oneCell' = true)
    (h63 : n + m ≤ maxLen) (hbytes : (n + m) * bytes ≤ 140737488355328) (hbase : base ≤ w.heap.size) :
    ∃ v' w', (Builtin.append_ #[t, t] ty #[v, .slice A m c]).run P w = .ok v' w' ∧ w'.ownsRow base e size v' (n + m) (xs ++ news) ∧ w.grownBy w' v.ownBlock := by
  have hm0 : m = 0 → news = [] := fun h => List.eq_nil_of_length_eq_zero (by rw [hs.1, h, Nat.zero_mul])
  cases A with
  | none =>
    have hm : m = 0 := by
      rcases Nat.eq_zero_or_pos m with h | h
      · exact h
      · obtain ⟨b, o, e, _⟩ := hs.2.2.2 h; cases e
    subst hm
    rw [hm0 rfl]
    exact ⟨v, w, run_append_zero w base t ty e i size ht hi v n xs hown c, by simpa using hown, World.grownBy.refl w _⟩
  | some ad =>
    obtain ⟨v', w', hr, h2, h3, _⟩ := run_append_own_at (P := P) w base t ty e i z size bytes ht hi hz hsize hby hzs hsz v n xs hown ad m c news hs.1 (fun j u hu => by
      rcases Nat.eq_zero_or_pos m with h | h
      · rw [hm0 h] at hu; simp at hu
      · obtain ⟨b, o, e, _, hc⟩ := hs.2.2.2 h
        injection e with e; subst e
        rw [Addr.add_lit]; exact hc j u hu) h1 h63 hbytes hbase
    exact ⟨v', w', hr, h2, h3⟩

theorem wpList_append_sl {ops : Array Oper} {rest : List Oper} {o : Oper} {a : Act} {Q : Exit → Act → World → Prop} (hgd : o.guard = none) (s x : Operand) (t : TypeId)
    (ho : o.op = .call { callee := .builtin .append, args := #[s, x], argTypes := #[t, t] })
    (base : Nat) (e : TypeId) (i : TypeInfo) (z : Value) (size bytes : Nat) (ht : P.underlying t = some (.slice e)) (hi : P.info? e = some i) (hz : i.zero = some z)
    (hsize : i.size = size) (hby : i.bytes = bytes) (hzs : z.cells.size = size) (hsz : 0 < size)
    (v : Value) (n : Nat) (xs : List Value) (hv : a.eval s = v) (hown : w.ownsRow base e size v n xs)
    (A : Option Addr) (m c : Nat) (news : List Value) (hx : a.eval x = .slice A m c) (hs : Sl w size A m c news) (h1 : ∀ u ∈ news, u.oneCell' = true)
    (h63 : n + m ≤ maxLen) (hbytes : (n + m) * bytes ≤ 140737488355328) (hbase : base ≤ w.heap.size)
    (h : ∀ v' w', w'.ownsRow base e size v' (n + m) (xs ++ news) → w.grownBy w' v.ownBlock → wpList P ops Q rest (a.put o.dst v') w') : wpList P ops Q (o :: rest) a w := by
  refine wpList_plain hgd fun K hK => ?_
  obtain ⟨v', w', hr, h2, h3⟩ := run_append_sl (P := P) w base t o.type e i z size bytes ht hi hz hsize hby hzs hsz v n xs hown A m c news hs h1 h63 hbytes hbase
  unfold Oper.wp execOp
  simp only [ho, resolve, invoke, builtin, Sem.run_bind, Sem.run_pure, Result.andThen_ok, List.map_toArray, List.map_cons, List.map_nil, hv, hx, hr]
  exact hK _ _ (h v' w' h2 h3)
end

theorem one_cW (xs : List W3) : ∀ u ∈ cW xs, u.oneCell' = true := by
  intro u hu
  obtain ⟨x, _, hx⟩ := List.mem_flatMap.1 hu
  exact one3 _ _ _ u hx
theorem one_cP (xs : List P2) : ∀ u ∈ cP xs, u.oneCell' = true := by
  intro u hu
  obtain ⟨x, _, hx⟩ := List.mem_flatMap.1 hu
  exact one2 _ _ u hx

theorem ownsRow_empty (w : World) (base e sz : Nat) (h : base ≤ w.heap.size) : (w.alloc (.cells #[] e)).ownsRow base e sz (.slice (some ⟨w.heap.size, 0, none⟩) 0 0) 0 [] := by
  refine ⟨by simp, .inr ⟨w.heap.size, 0, #[], rfl, h, heap_alloc_new w _, Nat.le_refl _, by simp [maxLen], by simp, by simp⟩⟩

theorem own_form {w : World} {base e sz n : Nat} {v : Value} {cs : List Value} (h : w.ownsRow base e sz v n cs) (hn : 0 < n) : ∃ g cap, v = .slice (some ⟨g, 0, none⟩) n cap ∧ base ≤ g ∧ g < w.heap.size := by
  rcases h.2 with ⟨rfl, h2⟩ | ⟨g, cap, cur, rfl, hb, hh, _⟩
  · omega
  · exact ⟨g, cap, rfl, hb, (Array.getElem?_eq_some_iff.1 hh).1⟩
theorem ownsRow_base {w : World} {base base' e sz n : Nat} {v : Value} {cs : List Value} (h : w.ownsRow base e sz v n cs) (hb : base' ≤ base) : w.ownsRow base' e sz v n cs := by
  refine ⟨h.1, ?_⟩
  rcases h.2 with h2 | ⟨g, cap, cur, hv, hg, r⟩
  · exact .inl h2
  · exact .inr ⟨g, cap, cur, hv, by omega, r⟩

theorem Sl.take {w : World} {sz : Nat} {A : Option Addr} {n c : Nat} {cs : List Value} (h : Sl w sz A n c cs) {k : Nat} (hk : k ≤ n) : Sl w sz A k c (cs.take (k * sz)) := by
  refine ⟨by rw [List.length_take, h.1]; exact Nat.min_eq_left (Nat.mul_le_mul_right _ hk), by have := h.2.1; omega, h.2.2.1, fun h0 => ?_⟩
  obtain ⟨b, o, e, hb, hc⟩ := h.2.2.2 (by omega)
  refine ⟨b, o, e, hb, fun j u hu => hc j u ?_⟩
  rw [List.getElem?_take] at hu
  split at hu
  · exact hu
  · cases hu
theorem Sl.drop {w : World} {sz : Nat} {A : Option Addr} {n c : Nat} {cs : List Value} (h : Sl w sz A n c cs) {k : Nat} (hk : k ≤ n) :
    Sl w sz (if c = k then A else A.map (fun x => x.add (k * sz))) (n - k) (c - k) (cs.drop (k * sz)) := by
  refine ⟨by rw [List.length_drop, h.1, Nat.sub_mul], by have := h.2.1; omega, by have := h.2.2.1; omega, fun h0 => ?_⟩
  obtain ⟨b, o, rfl, hb, hc⟩ := h.2.2.2 (by omega)
  rw [if_neg (by have := h.2.1; omega)]
  refine ⟨b, o + k * sz, by simp only [Option.map_some, Addr.add_lit], hb, fun j u hu => ?_⟩
  rw [List.getElem?_drop] at hu
  rw [Nat.add_assoc]; exact hc _ u hu
theorem cW_take (xs : List W3) (k : Nat) : cW (xs.take k) = (cW xs).take (k * 3) := by
  induction xs generalizing k with
  | nil => simp [cW]
  | cons x l ih =>
    cases k with
    | zero => simp [cW]
    | succ k =>
      have e : cW (x :: l) = x.cells ++ cW l := rfl
      have e' : cW (x :: l.take k) = x.cells ++ cW (l.take k) := rfl
      rw [List.take_succ_cons, e', e, ih, show (k + 1) * 3 = x.cells.length + k * 3 from by simp [W3.cells]; omega, List.take_length_add_append]
theorem cW_drop (xs : List W3) (k : Nat) : cW (xs.drop k) = (cW xs).drop (k * 3) := by
  induction xs generalizing k with
  | nil => simp [cW]
  | cons x l ih =>
    cases k with
    | zero => simp
    | succ k =>
      have e : cW (x :: l) = x.cells ++ cW l := rfl
      rw [List.drop_succ_cons, e, ih, show (k + 1) * 3 = x.cells.length + k * 3 from by simp [W3.cells]; omega, List.drop_length_add_append]
theorem cP_drop (xs : List P2) (k : Nat) : cP (xs.drop k) = (cP xs).drop (k * 2) := by
  induction xs generalizing k with
  | nil => simp [cP]
  | cons x l ih =>
    cases k with
    | zero => simp
    | succ k =>
      have e : cP (x :: l) = x.cells ++ cP l := rfl
      rw [List.drop_succ_cons, e, ih, show (k + 1) * 2 = x.cells.length + k * 2 from by simp [P2.cells]; omega, List.drop_length_add_append]
theorem cW_set (xs : List W3) (k : Nat) (x : W3) (hk : k < xs.length) : cW (xs.set k x) = (((cW xs).set (k * 3) (.string x.key)).set (k * 3 + 1) (.string x.text)).set (k * 3 + 2) (.bool x.gone) := by
  induction xs generalizing k with
  | nil => simp at hk
  | cons y l ih =>
    cases k with
    | zero => rfl
    | succ k =>
      have e : cW (y :: l) = .string y.key :: .string y.text :: .bool y.gone :: cW l := rfl
      have e' : cW (y :: l.set k x) = .string y.key :: .string y.text :: .bool y.gone :: cW (l.set k x) := rfl
      rw [List.set_cons_succ, e', e, ih k (by simpa using hk), show (k + 1) * 3 = k * 3 + 1 + 1 + 1 from by omega, show k * 3 + 1 + 1 + 1 + 1 = (k * 3 + 1) + 1 + 1 + 1 from rfl, show k * 3 + 1 + 1 + 1 + 2 = (k * 3 + 2) + 1 + 1 + 1 from rfl]
      rfl

theorem clone_any {A : Option Addr} {n c : Nat} {xs : List W3} {w : World} (h : SlW w A n c xs) (hn : n ≤ 65536) :
    Calls Try.prog 45 #[.slice A n c] w fun e w' => ∃ v, e = .returned v ∧ w'.ownsRow w.heap.size 50 3 v n (cW xs) ∧ Below w.heap.size w w' := by
  have hm := sl_max h
  have hl := Lib.hid (slW_len h)
  obtain ⟨i0, hi, hz0, hz1, hz2⟩ := info_parts info_W
  have HI := Lib.hid hi; have HZ0 := Lib.hid hz0; have HZ1 := Lib.hid hz1; have HZ2 := Lib.hid hz2; clear hi hz0 hz1 hz2
  have HS := Lib.hid h
  have heq := fun (w : World) (a : Option Addr) (n c : Nat) => Lib.run_eql_slice_nil (P := Try.prog) w 52 50 a n c 0 0 Try.underlying52
  clear h
  cases A with
  | none =>
    go_enter Try.func45, Try.ntmps45
    go_wp2
    go_ret
    have hn0 : n = 0 := by
      rcases Nat.eq_zero_or_pos n with h | h
      · exact h
      · obtain ⟨b, o, e, _⟩ := HS.out.2.2.2 h; cases e
    subst hn0
    have hx : xs = [] := List.eq_nil_of_length_eq_zero hl.out
    subst hx
    exact ⟨_, rfl, World.ownsRow_nil _ _ _ _, Below.refl _ _⟩
  | some ad =>
    go_enter Try.func45, Try.ntmps45
    go_wp2_with (at_builtin; refine wpList_append_sl _ rfl _ _ 52 rfl w.heap.size 50 i0 (.agg #[.string ⟨#[]⟩, .string ⟨#[]⟩, .bool false]) 3 40 Try.underlying52 HI.out HZ0.out HZ1.out HZ2.out rfl (by decide) _ 0 [] rfl (ownsRow_empty w w.heap.size _ _ (Nat.le_refl _)) (some ad) n c (cW xs) rfl (HS.out.below ((Below.refl w.heap.size w).alloc (Nat.le_refl _) _)) (one_cW xs) ?c3 ?c4 ?c5 ?_)
    case c3 => unfold maxLen; omega
    case c4 => omega
    case c5 => simp
    intro v' w1 hown hg
    have hb1 : Below w.heap.size w w1 := ((Below.refl w.heap.size w).alloc (Nat.le_refl _) _).grown hg (by simp) (fun k hk => by simp [Value.ownBlock] at hk; omega)
    go_wp2
    go_ret
    exact ⟨v', rfl, hown, hb1⟩
end Go.Proofs.Yteaaeeidbjklbaa
