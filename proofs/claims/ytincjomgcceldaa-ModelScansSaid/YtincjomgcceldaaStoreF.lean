/- The given Read: the caller. -/
import Derived.Test.YtincjomgcceldaaStoreE
namespace Go.Proofs.Ytincjomgcceldaa
open Go.RowKit Go.Shelf
attribute [local go_sem] Oper.semAt_some

/-- 'this block lies whole' speaks of cells alone -/
theorem blk_own {β : Type} (B : Nat) (t : TypeId) (f : β → Array Value) : Own (fun s W => Blk W B t (f s)) := fun s X Y row hs hg hrow =>
  (hg.block B (Blk.lt hs) (fun e' => by obtain ⟨o, ho, hc⟩ := hrow B e'.symm; rw [show X.heap[B]? = _ from hs] at ho; cases ho; cases hc)).trans hs
theorem Blk.boxed {W : World} {B : Nat} {t : TypeId} {v : Value} (h : Boxed W B t v) : Blk W B t #[v] := h
theorem keepsFrom_of {n : Nat} {W W' : World} (B : Nat) (h : Below n W W') (hn : W.heap.size ≤ n) : KeepsFrom B W W' :=
  ⟨h.size, fun k o _ hk _ => (h.block k (by have := (Array.getElem?_eq_some_iff.1 hk).1; omega)).trans hk⟩
theorem box_later {W W' : World} {B : Nat} {t : TypeId} {v : Value} (h : Boxed W B t v) (hb : Below W.heap.size W W') : Boxed W' B t v := (hb.block B h.lt).trans h

/-- a commit that tells a stamp nothing of a key -/
def passB (key : ByteArray) (at_ : Int) (x : Cm) : Prop := ¬ x.stamp ≤ at_ ∨ look W3.key key x.set = none
theorem passS {key : ByteArray} {at_ : Int} {x : Cm} {o : Option W3} (h : passB key at_ x) : histS at_ key o x = o := by
  unfold histS
  rcases h with h | h
  · rw [if_neg h]
  · rw [h]; simp
theorem hist_pass {xs : List Cm} {key : ByteArray} {at_ : Int} : ∀ (d k : Nat), k + d = xs.length → (∀ (i : Nat) (x : Cm), k ≤ i → xs[i]? = some x → passB key at_ x) → hist xs key at_ = hist (xs.take k) key at_
  | 0, k, h, _ => by rw [List.take_of_length_le (by omega)]
  | d + 1, k, h, hp => by
    have hx : xs[k]? = some (xs[k]'(by omega)) := List.getElem?_eq_getElem _
    rw [hist_pass d (k + 1) (by omega) (fun i x hi => hp i x (by omega)), hist_succ hx, passS (hp k _ (Nat.le_refl _) hx)]
theorem hist_none {xs : List Cm} {key : ByteArray} {at_ : Int} (h : ∀ (i : Nat) (x : Cm), xs[i]? = some x → passB key at_ x) : hist xs key at_ = none := by
  rw [hist_pass xs.length 0 (by omega) (fun i x _ => h i x)]; rfl
theorem hist_some {xs : List Cm} {key : ByteArray} {at_ : Int} {k : Nat} {x : Cm} {u : W3} (hx : xs[k]? = some x) (hs : x.stamp ≤ at_) (hl : look W3.key key x.set = some u) (h : ∀ (i : Nat) (y : Cm), k < i → xs[i]? = some y → passB key at_ y) : hist xs key at_ = some u := by
  have hk := (List.getElem?_eq_some_iff.1 hx).1
  rw [hist_pass (xs.length - (k + 1)) (k + 1) (by omega) (fun i y hi => h i y (by omega)), hist_succ hx]
  unfold histS; rw [if_pos hs, hl]

theorem SlC.fn {w : World} {A : Option Addr} {n c : Nat} {xs : List Cm} (h : SlC w A n c xs) : ∃ g : Nat → CmV, CmAt w.heap.size w A n g ∧ ∀ (j : Nat) (x : Cm), xs[j]? = some x → (g j).stamp = x.stamp ∧ okStamp x.stamp ∧ SlW w (g j).a (g j).n (g j).c x.set := by
  obtain ⟨vs, hs, ht⟩ := h
  have hlen : vs.length = n := by have := hs.1; rw [cV_length] at this; omega
  refine ⟨fun j => vs[j]?.getD ⟨0, none, 0, 0⟩, fun h0 => ?_, fun j x hx => ?_⟩
  · obtain ⟨b, o, e, hb, hc⟩ := hs.2.2.2 h0
    refine ⟨b, o, e, hb, fun j hj => ?_⟩
    have hv : vs[j]? = some (vs[j]'(by omega)) := List.getElem?_eq_getElem _
    obtain ⟨q0, q1⟩ := cV_get hv
    dsimp only; rw [hv]
    exact ⟨hc _ _ q0, hc _ _ q1⟩
  · have hj : j < vs.length := by rw [ht.1]; exact (List.getElem?_eq_some_iff.1 hx).1
    have hv : vs[j]? = some vs[j] := List.getElem?_eq_getElem hj
    have := ht.2 j _ x hv hx
    simpa [hv] using this

set_option maxRecDepth 100000 in
set_option maxHeartbeats 4000000 in
theorem read_any {A : Option Addr} {n c : Nat} {xs : List Cm} {w : World} (h : SlC w A n c xs) (key : ByteArray) (at_ : Int) (hr : ∀ c ∈ xs, Rise W3.key c.set) (h60 : ∀ c ∈ xs, c.set.length ≤ 60) :
    Calls Try.prog 28 #[.slice A n c, .string key, .int .u64 at_] w fun e w' => e = .returned (.tuple #[.string (rdT (hist xs key at_)), .bool (rdB (hist xs key at_))]) ∧ Below w.heap.size w w' := by
  have hm := slC_max h
  have hl := Lib.hid (slC_len h)
  obtain ⟨g, hg, hgx⟩ := h.fn
  have HG := Lib.hid hg; have HX := Lib.hid hgx
  have HR := Lib.hid hr; have H60 := Lib.hid h60; clear h hr h60 hg hgx
  have h1 : 1 ≤ 6 := by omega
  refine (callsIn_wide (n := 6)).1 ?_
  refine callsIn_of_wp_marks Try.func28 rfl trivial ?_ rfl
  simp only [Try.ntmps28, List.size_toArray, List.length_cons, List.length_nil, Nat.reduceAdd, Nat.reduceSub, Array.replicate_succ, Array.replicate_zero, List.push_toArray, List.append_toArray, List.nil_append, List.cons_append]
  gi_wp2_with (refine ⟨trivial, ?_⟩; gi_at_call 39; refine (back_in Fence.wide (6 - 1) trivial rfl _ _ _ _).mono ?_; rintro e w' ⟨rfl, rfl⟩)
  have bK := (((((Boxed.new w 9 (.string key)).alloc (.cells #[.int .u64 at_] 24)).alloc (.cells #[.string ⟨#[]⟩] 9)).alloc (.cells #[.bool false] 4)).alloc (.cells #[.slice A n c] 29))
  have bA := (((Boxed.new (w.alloc (.cells #[.string key] 9)) 24 (.int .u64 at_)).alloc (.cells #[.string ⟨#[]⟩] 9)).alloc (.cells #[.bool false] 4)).alloc (.cells #[.slice A n c] 29)
  have bT := ((Boxed.new ((w.alloc (.cells #[.string key] 9)).alloc (.cells #[.int .u64 at_] 24)) 9 (.string ⟨#[]⟩)).alloc (.cells #[.bool false] 4)).alloc (.cells #[.slice A n c] 29)
  have bI := (Boxed.new (((w.alloc (.cells #[.string key] 9)).alloc (.cells #[.int .u64 at_] 24)).alloc (.cells #[.string ⟨#[]⟩] 9)) 4 (.bool false)).alloc (.cells #[.slice A n c] 29)
  have bS := Boxed.new ((((w.alloc (.cells #[.string key] 9)).alloc (.cells #[.int .u64 at_] 24)).alloc (.cells #[.string ⟨#[]⟩] 9)).alloc (.cells #[.bool false] 4)) 29 (.slice A n c)
  have hB0 := (((((Below.refl _ w).alloc (Nat.le_refl _) (.cells #[.string key] 9)).alloc (by simp) (.cells #[.int .u64 at_] 24)).alloc (by simp; omega) (.cells #[.string ⟨#[]⟩] 9)).alloc (by simp; omega) (.cells #[.bool false] 4)).alloc (by simp; omega) (.cells #[.slice A n c] 29)
  simp only [World.size_alloc] at bA bT bI bS
  have hsz : (((((w.alloc (.cells #[.string key] 9)).alloc (.cells #[.int .u64 at_] 24)).alloc (.cells #[.string ⟨#[]⟩] 9)).alloc (.cells #[.bool false] 4)).alloc (.cells #[.slice A n c] 29)).heap.size = w.heap.size + 5 := by simp
  obtain ⟨W0, hW0⟩ : ∃ W0, (((((w.alloc (.cells #[.string key] 9)).alloc (.cells #[.int .u64 at_] 24)).alloc (.cells #[.string ⟨#[]⟩] 9)).alloc (.cells #[.bool false] 4)).alloc (.cells #[.slice A n c] 29)) = W0 := ⟨_, rfl⟩
  rw [hW0] at bK bA bT bI bS hB0 hsz ⊢
  clear hW0
  have hG0 : CmAt W0.heap.size W0 A n g := fun h0 => by
    obtain ⟨b, o, e, hlt, hc⟩ := HG.out.below hB0 h0
    exact ⟨b, o, e, by omega, hc⟩
  refine wpIn_rangeFunc_ownH rfl h1 (gf := 44) (lb := #[.pointer (some ⟨w.heap.size + 1 + 1 + 1 + 1, 0, none⟩)]) rfl trivial (enters_of Try.func44 (by kernel_rfl) rfl)
    (back_stops Fence.wide (6 - 1) trivial rfl (by omega) (w.heap.size + 1 + 1 + 1 + 1) W0.heap.size A n c g (by omega) W0 (by omega) (Nat.le_refl _) (by omega) bS.cell hG0) belowK_t (belowK_b (Nat.le_refl _)) (Below.refl _ _) (fun _ => rfl)
    (fun pre W => (((((∀ i ∈ pre, ∀ x, xs[i.1]? = some x → passB key at_ x) ∧ Boxed W w.heap.size 9 (.string key)) ∧ Boxed W (w.heap.size + 1) 24 (.int .u64 at_)) ∧ Boxed W (w.heap.size + 1 + 1) 9 (.string ⟨#[]⟩)) ∧ (Boxed W (w.heap.size + 1 + 1 + 1) 4 (.bool false) ∧ w.heap.size + 5 ≤ W.heap.size)) ∧ Below w.heap.size w W)
    (fun c pre W => (∃ u, (c = .ret ∧ ∃ ini x y, pre = ini ++ [x] ∧ xs[x.1]? = some y ∧ y.stamp ≤ at_ ∧ look W3.key key y.set = some u ∧ (∀ i ∈ ini, ∀ x, xs[i.1]? = some x → passB key at_ x)) ∧ Boxed W (w.heap.size + 1 + 1) 9 (.string (rdT (some u)))
      ∧ Boxed W (w.heap.size + 1 + 1 + 1) 4 (.bool (rdB (some u)))) ∧ Below w.heap.size w W)
    (OwnFrom.and (OwnFrom.and (OwnFrom.and (OwnFrom.and (OwnFrom.and (ownFrom_pure _ _) (Own.from (boxed_own _ _ _) _)) (Own.from (boxed_own _ _ _) _)) (Own.from (boxed_own _ _ _) _)) (OwnFrom.and (Own.from (boxed_own _ _ _) _) (fun _ _ _ _ hs hg _ => Nat.le_trans hs hg.size))) (ownFrom_below (Nat.le_refl _) (by omega)))
    (fun c => OwnFrom.and (fun s X Y row hs hg hr => by
      obtain ⟨u, q1, q2, q3⟩ := hs
      exact ⟨u, q1, boxed_own (w.heap.size + 1 + 1) 9 (fun (_ : Unit) => Value.string (rdT (some u))) () X Y row q2 hg (fun r e => (hr r e).2), boxed_own (w.heap.size + 1 + 1 + 1) 4 (fun (_ : Unit) => Value.bool (rdB (some u))) () X Y row q3 hg (fun r e => (hr r e).2)⟩) (ownFrom_below (Nat.le_refl _) (by omega)))
    ⟨⟨⟨⟨⟨by simp, bK⟩, bA⟩, bT⟩, bI, by omega⟩, hB0⟩
    (fun x a' W => ∃ Bx, w.heap.size + 4 < Bx ∧ Blk W Bx 72 #[.int .u64 (g x.1).stamp, .slice (g x.1).a (g x.1).n (g x.1).c] ∧ a' = { tmps := #[.slice A n c, .string key, .int .u64 at_, undef, .pointer (some ⟨w.heap.size, 0, none⟩), .pointer (some ⟨w.heap.size + 1, 0, none⟩), .pointer (some ⟨w.heap.size + 1 + 1, 0, none⟩), .pointer (some ⟨w.heap.size + 1 + 1 + 1, 0, none⟩), undef, .pointer (some ⟨Bx, 0, none⟩), undef, undef, .slice A n c, .func (.func 44) #[] #[.pointer (some ⟨w.heap.size + 1 + 1 + 1 + 1, 0, none⟩)], .int .i64 (x.1 : Int), .agg #[.int .u64 (g x.1).stamp, .slice (g x.1).a (g x.1).n (g x.1).c],
      undef, undef, undef, undef, undef, undef, undef, undef, undef, undef, undef, undef, undef, undef, undef, undef, undef, undef, undef, undef], defers := [] })
    (fun x a' _ X Y row hs hg hr => by obtain ⟨Bx, e1, e2, e3⟩ := hs; exact ⟨Bx, e1, blk_own Bx 72 (fun (_ : Unit) => #[Value.int .u64 (g x.1).stamp, .slice (g x.1).a (g x.1).n (g x.1).c]) () X Y row e2 hg (fun r e => (hr r e).2), e3⟩)
    ?assign ?body ?done ?stop
  case assign =>
    rintro l pre x W K ⟨⟨⟨⟨⟨hp, b1⟩, b2⟩, b3⟩, b4, hsW⟩, hB⟩ hK
    have HP := Lib.hid hp; clear hp
    unfold CmV.enc
    gi_wp2
    exact hK _ _ ((KeepsOthers.alloc _ _).from _) ((Below.refl _ W).alloc (by omega) _) ⟨⟨⟨⟨⟨HP.out, b1.alloc _⟩, b2.alloc _⟩, b3.alloc _⟩, b4.alloc _, by simp; omega⟩, hB.alloc hB.size _⟩ ⟨W.heap.size, by omega, Blk.new W _ _, rfl⟩
  case body =>
    rintro l pre x a' W hl' ⟨r, hr⟩ ⟨⟨⟨⟨⟨hp, b1⟩, b2⟩, b3⟩, b4, hsW⟩, hB⟩ ⟨Bx, hBx, bX, rfl⟩ hlt
    have HP := Lib.hid hp; clear hp hr
    have hy : xs[x.1]? = some (xs[x.1]'(by rw [hl.out]; exact x.2)) := List.getElem?_eq_getElem _
    obtain ⟨y, hy'⟩ : ∃ y, xs[x.1]? = some y := ⟨_, hy⟩
    have HY := Lib.hid hy'; clear hy hy'
    obtain ⟨e1, _, hs1⟩ := HX.out x.1 y HY.out
    have HE := Lib.hid e1; clear e1
    have c1 := b1.cell
    have c2 := b2.cell
    have x0 := bX.cell (i := 0) (v := .int .u64 (g x.1).stamp) rfl
    have x1 := bX.cell (i := 1) (v := .slice (g x.1).a (g x.1).n (g x.1).c) rfl
    by_cases hs : (g x.1).stamp ≤ at_
    · have hys : y.stamp ≤ at_ := by rw [← HE.out]; exact hs
      have hget := get_any (hs1.below hB) key (HR.out y (List.mem_of_getElem? HY.out)) (by rw [← slW_len hs1]; have := H60.out y (List.mem_of_getElem? HY.out); omega)
      clear hs1
      cases hlk : look W3.key key y.set with
      | none =>
        rw [hlk] at hget
        have HGet := Lib.hid hget; have HL := Lib.hid hlk; clear hget hlk
        dsimp only [okey, otext, ogone, Option.isSome] at HGet
        gi_wp2
        refine ⟨trivial, (CallsIn.inRound l (callsIn_wide.2 HGet.out)).mono ?_⟩
        rintro e w1 ⟨rfl, hb1⟩
        have q3 := (box_later b3 hb1).cell; have q4 := (box_later b4 hb1).cell; have g3 := (box_later b3 hb1).frozen; have g4 := (box_later b4 hb1).frozen; have hz1 := hb1.size; have l3 : w.heap.size + 1 + 1 < w1.heap.size := by omega
        have l4 : w.heap.size + 1 + 1 + 1 < w1.heap.size := by omega
        gi_wp2
        have hk1 := hb1.alloc (by omega) (.cells #[.string ⟨#[]⟩, .string ⟨#[]⟩, .bool false] 70)
        exact ⟨keepsFrom_of _ hk1 (Nat.le_refl _), hk1.mono (by omega), ⟨⟨⟨⟨⟨fun i hi z hz => (List.mem_append.1 hi).elim (fun h => HP.out i h z hz) (fun h => by
          obtain rfl : i = x := by simpa using h
          rw [HY.out] at hz; cases hz
          exact .inr HL.out), box_later b1 hk1⟩, box_later b2 hk1⟩, box_later b3 hk1⟩, box_later b4 hk1, by have := hk1.size; omega⟩, bt hB hk1⟩⟩
      | some u =>
        rw [hlk] at hget
        have HGet := Lib.hid hget; have HL := Lib.hid hlk; clear hget hlk
        dsimp only [okey, otext, ogone, Option.isSome] at HGet
        cases hgn : u.gone with
        | true =>
          rw [hgn] at HGet
          gi_wp2
          refine ⟨trivial, (CallsIn.inRound l (callsIn_wide.2 HGet.out)).mono ?_⟩
          rintro e w1 ⟨rfl, hb1⟩
          have q3 := (box_later b3 hb1).cell; have q4 := (box_later b4 hb1).cell; have g3 := (box_later b3 hb1).frozen; have g4 := (box_later b4 hb1).frozen; have hz1 := hb1.size; have l3 : w.heap.size + 1 + 1 < w1.heap.size := by omega
          have l4 : w.heap.size + 1 + 1 + 1 < w1.heap.size := by omega
          gi_wp2
          have et : rdT (some u) = ⟨#[]⟩ := by simp [rdT, hgn]
          have ei : rdB (some u) = false := by simp [rdB, hgn]
          have hk2 := ((bt hB hb1).setCell (p := ⟨w.heap.size + 1 + 1, 0, none⟩) (by simp; omega) (.string ⟨#[]⟩)).setCell (p := ⟨w.heap.size + 1 + 1 + 1, 0, none⟩) (by simp; omega) (.bool false)
          refine ⟨(keepsFrom_of _ hb1 (Nat.le_refl _)).trans ((((KeepsOthers.setCell _ _ _).trans (KeepsOthers.setCell _ _ _)).trans (KeepsOthers.alloc _ _)).from _), ⟨u, ⟨rfl, pre, x, y, rfl, HY.out, hys, HL.out, HP.out⟩, ?_, ?_⟩, hk2.alloc hk2.size _⟩
          · rw [et]; exact ((box_later b3 hb1).set _).other (by omega) _ |>.alloc _
          · rw [ei]; exact (((box_later b4 hb1).other (by omega) _).set _).alloc _
        | false =>
          rw [hgn] at HGet
          gi_wp2
          refine ⟨trivial, (CallsIn.inRound l (callsIn_wide.2 HGet.out)).mono ?_⟩
          rintro e w1 ⟨rfl, hb1⟩
          have q3 := (box_later b3 hb1).cell; have q4 := (box_later b4 hb1).cell; have g3 := (box_later b3 hb1).frozen; have g4 := (box_later b4 hb1).frozen; have hz1 := hb1.size; have l3 : w.heap.size + 1 + 1 < w1.heap.size := by omega
          have l4 : w.heap.size + 1 + 1 + 1 < w1.heap.size := by omega
          gi_wp2
          have et : rdT (some u) = u.text := by simp [rdT, hgn]
          have ei : rdB (some u) = true := by simp [rdB, hgn]
          have hk2 := ((bt hB hb1).setCell (p := ⟨w.heap.size + 1 + 1, 0, none⟩) (by simp; omega) (.string u.text)).setCell (p := ⟨w.heap.size + 1 + 1 + 1, 0, none⟩) (by simp; omega) (.bool true)
          refine ⟨(keepsFrom_of _ hb1 (Nat.le_refl _)).trans ((((KeepsOthers.setCell _ _ _).trans (KeepsOthers.setCell _ _ _)).trans (KeepsOthers.alloc _ _)).from _), ⟨u, ⟨rfl, pre, x, y, rfl, HY.out, hys, HL.out, HP.out⟩, ?_, ?_⟩, hk2.alloc hk2.size _⟩
          · rw [et]; exact ((box_later b3 hb1).set _).other (by omega) _ |>.alloc _
          · rw [ei]; exact (((box_later b4 hb1).other (by omega) _).set _).alloc _
    · clear hs1
      gi_wp2
      exact ⟨KeepsFrom.refl _ _, Below.refl _ _, ⟨⟨⟨⟨⟨fun i hi z hz => (List.mem_append.1 hi).elim (fun h => HP.out i h z hz) (fun h => by
        obtain rfl : i = x := by simpa using h
        rw [HY.out] at hz; cases hz
        exact .inl (by rw [← HE.out]; omega)), b1⟩, b2⟩, b3⟩, b4, hsW⟩, hB⟩⟩
  case done =>
    rintro D ys W hD hall ⟨⟨⟨⟨⟨hp, b1⟩, b2⟩, b3⟩, b4, hsW⟩, hB⟩ hK
    have c3 := b3.cell
    have c4 := b4.cell
    have f3 := b3.frozen
    have f4 := b4.frozen
    have HP := Lib.hid hp; clear hp
    have HH := Lib.hid (hist_none (xs := xs) (key := key) (at_ := at_) (fun i x hx => HP.out ⟨i, by rw [← hl.out]; exact (List.getElem?_eq_some_iff.1 hx).1⟩ (hall _) x hx))
    gi_wp2
    have k3 := ((b3.set (.string ⟨#[]⟩)).other (B' := w.heap.size + 1 + 1 + 1) (by omega) (.bool false))
    have k4 := (b4.other (B' := w.heap.size + 1 + 1) (by omega) (.string ⟨#[]⟩)).set (.bool false)
    have hK' := ((KeepsOthers.setCell W ⟨w.heap.size + 1 + 1, 0, none⟩ (.string ⟨#[]⟩)).trans (KeepsOthers.setCell _ ⟨w.heap.size + 1 + 1 + 1, 0, none⟩ (.bool false))).same D _ hK rfl
    refine ⟨by simp, .inl ⟨_, _, rfl, run_takeDeferred hK', ?_⟩⟩
    have h3 := cell_kept k3.cell (grownBy_putObj' _ D (.deferred none)) (fun r e => by cases e; exact ⟨_, hK', rfl⟩)
    have h4 := cell_kept k4.cell (grownBy_putObj' _ D (.deferred none)) (fun r e => by cases e; exact ⟨_, hK', rfl⟩)
    refine ⟨.tuple #[.string ⟨#[]⟩, .bool false], ?_, by rw [HH.out]; rfl, ((hB.setCell (p := ⟨w.heap.size + 1 + 1, 0, none⟩) (by simp; omega) _).setCell (p := ⟨w.heap.size + 1 + 1 + 1, 0, none⟩) (by simp; omega) _).trans (belowK_b (w := w) (Nat.le_refl _) _ D _ _ (by omega) hK' rfl rfl)⟩
    simp [results, Try.f28, go_sem, h3, h4]
  case stop =>
    rintro D c pre W hD ⟨ini, x, rfl, hall⟩ ⟨⟨u, ⟨rfl, ini', x', y, hi', hy, hys, hlk, hp⟩, b3, b4⟩, hB⟩ hK
    obtain ⟨rfl, e5⟩ := List.append_inj' hi' rfl
    obtain rfl : x = x' := by simpa using e5
    have HH := Lib.hid (hist_some hy hys hlk (fun i z hi hz => hp ⟨i, by rw [← hl.out]; exact (List.getElem?_eq_some_iff.1 hz).1⟩ (hall _ hi) z hz))
    clear hi' hy hys hlk hp hall e5
    gi_wp2
    refine ⟨by simp, .inl ⟨_, _, rfl, run_takeDeferred hK, ?_⟩⟩
    have h3 := cell_kept b3.cell (grownBy_putObj' _ D (.deferred none)) (fun r e => by cases e; exact ⟨_, hK, rfl⟩)
    have h4 := cell_kept b4.cell (grownBy_putObj' _ D (.deferred none)) (fun r e => by cases e; exact ⟨_, hK, rfl⟩)
    refine ⟨.tuple #[.string (rdT (some u)), .bool (rdB (some u))], ?_, by rw [HH.out], hB.trans (belowK_b (w := w) (Nat.le_refl _) W D _ _ (by omega) hK rfl rfl)⟩
    simp [results, Try.f28, go_sem, h3, h4]
end Go.Proofs.Ytincjomgcceldaa
