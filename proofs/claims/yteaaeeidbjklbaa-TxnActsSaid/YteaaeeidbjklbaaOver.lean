/- Plain law: what a set makes of pairs (both ways to reckon it), key by key. -/
import Derived.Test.YteaaeeidbjklbaaList
namespace Go.Proofs.Yteaaeeidbjklbaa


def W3.pair (w : W3) : P2 := ⟨w.key, w.text⟩
/-- what a write lays -/
def emit (w : W3) (r : List P2) : List P2 := if w.gone then r else w.pair :: r
def ahead (l : List P2) (k : ByteArray) : List P2 := l.takeWhile (fun p => klt p.key k)
def behind (l : List P2) (k : ByteArray) : List P2 :=
  match l.dropWhile (fun p => klt p.key k) with
  | [] => []
  | p :: r => if p.key = k then r else p :: r
/-- the program's Over: a merge -/
def ov : List P2 → List W3 → List P2
  | l, [] => l
  | l, w :: s => ahead l w.key ++ emit w (ov (behind l w.key) s)

theorem ov_nil (l : List P2) : ov l [] = l := rfl
theorem ov_lt (p : P2) (l : List P2) (w : W3) (s : List W3) (h : klt p.key w.key = true) : ov (p :: l) (w :: s) = p :: ov l (w :: s) := by
  simp [ov, ahead, behind, h]
theorem behind_eq (p : P2) (l : List P2) {k : ByteArray} (h : p.key = k) : behind (p :: l) k = l := by
  unfold behind
  rw [List.dropWhile_cons_of_neg (by rw [h, klt_irrefl]; simp)]
  exact if_pos h
theorem ov_eq (p : P2) (l : List P2) (w : W3) (s : List W3) (h : p.key = w.key) : ov (p :: l) (w :: s) = emit w (ov l s) := by
  have h1 : ahead (p :: l) w.key = [] := by unfold ahead; rw [List.takeWhile_cons_of_neg (by rw [h, klt_irrefl]; simp)]
  rw [ov, h1, behind_eq p l h, List.nil_append]
theorem ov_gt (p : P2) (l : List P2) (w : W3) (s : List W3) (h : klt p.key w.key = false) (hne : p.key ≠ w.key) : ov (p :: l) (w :: s) = emit w (ov (p :: l) s) := by
  simp [ov, ahead, behind, h, hne]
theorem ov_none (w : W3) (s : List W3) : ov [] (w :: s) = emit w (ov [] s) := by
  simp [ov, ahead, behind]

theorem ahead_lt {l : List P2} {k : ByteArray} : ∀ p ∈ ahead l k, klt p.key k = true := by
  intro p hp
  unfold ahead at hp
  have := List.all_takeWhile (l := l) (p := fun p => klt p.key k)
  rw [List.all_eq_true] at this
  exact this p hp
theorem rise_ahead {l : List P2} (h : Rise P2.key l) (k : ByteArray) : Rise P2.key (ahead l k) := List.Pairwise.sublist (List.takeWhile_sublist _) h
theorem look_ahead {l : List P2} (h : Rise P2.key l) {k k' : ByteArray} (hk : klt k k' = true) : look P2.key k (ahead l k') = look P2.key k l := by
  induction l with
  | nil => rfl
  | cons p l ih =>
    obtain ⟨h1, h2⟩ := rise_cons.1 h
    unfold ahead
    rw [List.takeWhile_cons]
    split
    · show look P2.key k (p :: ahead l k') = _
      rw [look_cons, look_cons, ih h2]
    · rename_i hp
      have hk1 : p.key ≠ k := by rintro rfl; exact hp hk
      have hp' : klt p.key k' = false := by simpa using hp
      rw [look_nil, look_cons, if_neg hk1]
      refine (look_gt fun x hx => ?_).symm
      rcases (show klt p.key k = true ∨ klt k p.key = true from by
        cases h3 : klt p.key k with
        | true => exact .inl rfl
        | false => exact .inr (klt_of_not h3 hk1)) with h3 | h3
      · rw [klt_trans h3 hk] at hp'; cases hp'
      · exact klt_trans h3 (h1 x hx)
theorem behind_spec {l : List P2} (h : Rise P2.key l) (k : ByteArray) : Rise P2.key (behind l k) ∧ (∀ p ∈ behind l k, klt k p.key = true) ∧ ∀ k', klt k k' = true → look P2.key k' (behind l k) = look P2.key k' l := by
  induction l with
  | nil => exact ⟨rise_nil, by simp [behind], fun _ _ => rfl⟩
  | cons p l ih =>
    obtain ⟨h1, h2⟩ := rise_cons.1 h
    by_cases hp : klt p.key k = true
    · have e : behind (p :: l) k = behind l k := by simp [behind, hp]
      rw [e]
      obtain ⟨a, b, c⟩ := ih h2
      refine ⟨a, b, fun k' hk' => ?_⟩
      rw [c k' hk', show look P2.key k' (p :: l) = _ from look_cons _ _ _, if_neg]
      rintro rfl
      exact absurd (klt_trans hp hk') (by rw [klt_irrefl]; simp)
    · have hp' : klt p.key k = false := by simpa using hp
      by_cases he : p.key = k
      · have e : behind (p :: l) k = l := behind_eq p l he
        rw [e]
        refine ⟨h2, fun q hq => he ▸ h1 q hq, fun k' hk' => ?_⟩
        rw [show look P2.key k' (p :: l) = _ from look_cons _ _ _, if_neg]
        rintro rfl
        rw [he, klt_irrefl] at hk'; cases hk'
      · have e : behind (p :: l) k = p :: l := by simp [behind, hp', he]
        rw [e]
        have hgt := klt_of_not hp' he
        refine ⟨h, fun q hq => ?_, fun _ _ => rfl⟩
        rcases List.mem_cons.1 hq with rfl | hq
        · exact hgt
        · exact klt_trans hgt (h1 q hq)
theorem mem_behind {l : List P2} {k : ByteArray} {p : P2} (h : p ∈ behind l k) : p ∈ l := by
  unfold behind at h
  have hs := (List.dropWhile_sublist (l := l) (fun p => klt p.key k)).subset
  split at h
  · cases h
  · rename_i q r e
    rw [e] at hs
    split at h
    · exact hs (List.mem_cons_of_mem _ h)
    · exact hs h

/-- what a write leaves of its key -/
def W3.left (w : W3) : Option P2 := if w.gone then none else some w.pair
/-- what is there of a key, behind a set -/
def seen (l : List P2) (s : List W3) (k : ByteArray) : Option P2 := match look W3.key k s with | some w => w.left | none => look P2.key k l

theorem emit_rise {w : W3} {r : List P2} (h : Rise P2.key r) (hk : ∀ p ∈ r, klt w.key p.key = true) : Rise P2.key (emit w r) := by
  unfold emit; split
  · exact h
  · exact rise_cons.2 ⟨hk, h⟩
theorem emit_mem {w : W3} {r : List P2} {p : P2} (h : p ∈ emit w r) : p = w.pair ∨ p ∈ r := by
  unfold emit at h; split at h
  · exact .inr h
  · rcases List.mem_cons.1 h with h | h <;> simp [h]
theorem emit_look {w : W3} {r : List P2} (hr : ∀ p ∈ r, klt w.key p.key = true) (k : ByteArray) : look P2.key k (emit w r) = if w.key = k then w.left else look P2.key k r := by
  unfold emit W3.left; split
  · split
    · rename_i e; subst e; exact look_gt hr
    · rfl
  · exact look_cons _ _ _

theorem ov_spec : ∀ (s : List W3) (l : List P2), Rise P2.key l → Rise W3.key s → Rise P2.key (ov l s) ∧ (∀ k, look P2.key k (ov l s) = seen l s k) ∧ (∀ p ∈ ov l s, p ∈ l ∨ ∃ w ∈ s, p = w.pair)
  | [], l, hl, _ => ⟨hl, fun _ => rfl, fun _ hp => .inl hp⟩
  | w :: s, l, hl, hs => by
    obtain ⟨hs1, hs2⟩ := rise_cons.1 hs
    obtain ⟨b1, b2, b3⟩ := behind_spec hl w.key
    obtain ⟨i1, i2, i3⟩ := ov_spec s (behind l w.key) b1 hs2
    have hgt : ∀ p ∈ ov (behind l w.key) s, klt w.key p.key = true := by
      intro p hp
      rcases i3 p hp with hp | ⟨u, hu, rfl⟩
      · exact b2 p hp
      · exact hs1 u hu
    have hge : ∀ p ∈ emit w (ov (behind l w.key) s), p.key = w.key ∨ klt w.key p.key = true := by
      intro p hp
      rcases emit_mem hp with rfl | hp
      · exact .inl rfl
      · exact .inr (hgt p hp)
    refine ⟨?_, fun k => ?_, fun p hp => ?_⟩
    · rw [ov]
      refine List.pairwise_append.2 ⟨rise_ahead hl _, emit_rise i1 hgt, fun p hp q hq => ?_⟩
      have h1 := ahead_lt p hp
      rcases hge q hq with h | h
      · rw [h]; exact h1
      · exact klt_trans h1 h
    · rw [ov, show look P2.key k (_ ++ _) = _ from look_append _ _ _, emit_look hgt, i2]
      unfold seen
      rw [show look W3.key k (w :: s) = _ from look_cons _ _ _]
      by_cases hk : w.key = k
      · subst hk
        rw [if_pos rfl, if_pos rfl, look_lt ahead_lt, Option.none_or]
      · rw [if_neg hk, if_neg hk]
        cases h3 : klt k w.key with
        | true =>
          rw [look_ahead hl h3, look_gt (f := W3.key) (l := s) (fun x hx => klt_trans h3 (hs1 x hx))]
          dsimp only
          rw [look_gt (f := P2.key) (l := behind l w.key) (fun x hx => klt_trans h3 (b2 x hx))]
          simp
        | false =>
          have hgt' := klt_of_not h3 (fun e => hk e.symm)
          rw [look_lt (f := P2.key) (l := ahead l w.key) (fun x hx => klt_trans (ahead_lt x hx) hgt'), Option.none_or, b3 k hgt']
    · rw [ov] at hp
      rcases List.mem_append.1 hp with hp | hp
      · exact .inl ((List.takeWhile_sublist _).subset hp)
      · rcases emit_mem hp with rfl | hp
        · exact .inr ⟨w, by simp, rfl⟩
        · rcases i3 p hp with hp | ⟨u, hu, rfl⟩
          · exact .inl (mem_behind hp)
          · exact .inr ⟨u, by simp [hu], rfl⟩

theorem behind_len (l : List P2) (k : ByteArray) : (ahead l k).length + (behind l k).length ≤ l.length := by
  have h := congrArg List.length (List.takeWhile_append_dropWhile (p := fun p : P2 => klt p.key k) (l := l))
  rw [List.length_append] at h
  unfold ahead behind
  split
  · rename_i e; rw [e] at h; simp at h ⊢; omega
  · rename_i p r e
    rw [e, List.length_cons] at h
    split
    · omega
    · rw [List.length_cons]; omega
theorem ov_len (l : List P2) : ∀ s : List W3, (ov l s).length ≤ l.length + s.length := by
  intro s
  induction s generalizing l with
  | nil => simp [ov]
  | cons w s ih =>
    have h1 := behind_len l w.key
    have h2 := ih (behind l w.key)
    rw [ov, List.length_append, List.length_cons]
    unfold emit
    split
    · omega
    · rw [List.length_cons]; omega

/-- the reference's Over -/
def rov (l : List P2) (s : List W3) : List P2 := (s.filter (fun w => !w.gone)).foldl (fun a w => rput P2.key a w.pair) (l.filter (fun p => (look W3.key p.key s).isNone))

theorem look_filter {α : Type} {f : α → ByteArray} (q : α → Bool) (c : ByteArray → Bool) (hq : ∀ x, q x = c (f x)) (l : List α) (k : ByteArray) : look f k (l.filter q) = if c k then look f k l else none := by
  induction l with
  | nil => simp [look_nil]
  | cons x l ih =>
    rw [List.filter_cons, look_cons]
    split
    · rename_i h
      rw [look_cons, ih]
      by_cases hx : f x = k
      · subst hx; rw [← hq, h]; simp
      · simp [hx]
    · rename_i h
      rw [ih]
      by_cases hx : f x = k
      · subst hx; rw [← hq]; simp [h]
      · simp [hx]
theorem puts_spec : ∀ (s : List W3) (a : List P2), Rise P2.key a → Rise W3.key s →
    Rise P2.key (s.foldl (fun a w => rput P2.key a w.pair) a) ∧ ∀ k, look P2.key k (s.foldl (fun a w => rput P2.key a w.pair) a) = match look W3.key k s with | some w => some w.pair | none => look P2.key k a
  | [], a, ha, _ => ⟨ha, fun _ => rfl⟩
  | w :: s, a, ha, hs => by
    obtain ⟨hs1, hs2⟩ := rise_cons.1 hs
    have hr : Rise P2.key (rput P2.key a w.pair) := by rw [rput_eq ha]; exact rise_ins ha _
    obtain ⟨i1, i2⟩ := puts_spec s (rput P2.key a w.pair) hr hs2
    refine ⟨i1, fun k => ?_⟩
    rw [List.foldl_cons, i2, show look W3.key k (w :: s) = _ from look_cons _ _ _]
    by_cases hk : w.key = k
    · subst hk
      rw [if_pos rfl, look_gt hs1]
      dsimp only
      rw [rput_eq ha, show look P2.key w.key (ins _ _ _) = _ from look_ins ha _ _, if_pos (show w.pair.key = w.key from rfl)]
    · rw [if_neg hk]
      split
      · rfl
      · rw [rput_eq ha, look_ins ha, if_neg (show ¬ w.pair.key = k from hk)]
theorem rov_spec {l : List P2} {s : List W3} (hl : Rise P2.key l) (hs : Rise W3.key s) : Rise P2.key (rov l s) ∧ ∀ k, look P2.key k (rov l s) = seen l s k := by
  have hf : Rise P2.key (l.filter (fun p => (look W3.key p.key s).isNone)) := List.Pairwise.filter _ hl
  have hg : Rise W3.key (s.filter (fun w => !w.gone)) := List.Pairwise.filter _ hs
  obtain ⟨h1, h2⟩ := puts_spec _ _ hf hg
  refine ⟨h1, fun k => ?_⟩
  unfold rov
  rw [h2]
  unfold seen
  have hlk : ∀ k, look W3.key k (s.filter (fun w => !w.gone)) = (look W3.key k s).filter (fun w => !w.gone) := by
    intro k
    cases h : look W3.key k s with
    | none =>
      rw [show look W3.key k _ = none from look_none fun x hx => look_none_iff.1 h x (List.mem_filter.1 hx).1]; rfl
    | some w =>
      obtain ⟨hw, rfl⟩ := look_some h
      by_cases hgw : w.gone = true
      · rw [show look W3.key w.key _ = none from look_none fun x hx he => ?_]
        · simp [Option.filter, hgw]
        · have hx' := List.mem_filter.1 hx
          have := look_mem hs hx'.1
          rw [he, show look W3.key w.key s = some w from h] at this
          cases this
          simp [hgw] at hx'
      · have hm : w ∈ s.filter (fun w => !w.gone) := List.mem_filter.2 ⟨hw, by simpa using hgw⟩
        rw [show look W3.key w.key _ = _ from look_mem hg hm]
        simp [Option.filter, hgw]
  rw [hlk, show look P2.key k _ = _ from look_filter (f := P2.key) _ (fun k => (look W3.key k s).isNone) (fun _ => rfl) l k]
  cases h : look W3.key k s with
  | none => simp [Option.filter]
  | some w => by_cases hgw : w.gone = true <;> simp [Option.filter, hgw, W3.left]
theorem rov_eq {l : List P2} {s : List W3} (hl : Rise P2.key l) (hs : Rise W3.key s) : rov l s = ov l s :=
  rise_ext (rov_spec hl hs).1 (ov_spec s l hl hs).1 fun k => ((rov_spec hl hs).2 k).trans ((ov_spec s l hl hs).2.1 k).symm
end Go.Proofs.Yteaaeeidbjklbaa
