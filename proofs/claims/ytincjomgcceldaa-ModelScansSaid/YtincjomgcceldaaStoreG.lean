/- A store written anew, commit by commit. -/
import Derived.Test.YtincjomgcceldaaStoreF
import Derived.Deep.AppendLies
import Derived.Deep.RegionHeld3
namespace Go.Proofs.Ytincjomgcceldaa
open Go.RowKit

theorem Sl.grown {w w' : World} {row : Option Nat} {sz : Nat} {A : Option Addr} {n c : Nat} {cs : List Value} (h : Sl w sz A n c cs) (hg : w.grownBy w' row) (hne : 0 < n → ∀ b o, A = some ⟨b, o, none⟩ → row ≠ some b) : Sl w' sz A n c cs :=
  ⟨h.1, h.2.1, h.2.2.1, fun hn => by
    obtain ⟨b, o, e, hlt, hc⟩ := h.2.2.2 hn
    refine ⟨b, o, e, Nat.lt_of_lt_of_le hlt hg.size, fun j u hu => ?_⟩
    rw [World.cell?_of_block (a := ⟨b, o + j, none⟩) (hg.block b hlt (fun e' => hne hn b o e e'.symm))]
    exact hc j u hu⟩
theorem cell_al {W : World} {a : Addr} {v : Value} (o : Obj) (h : W.cell? a = some v) : (W.alloc o).cell? a = some v := cell_kept h (World.grownBy_alloc W o none) (fun r e => by cases e)
/-- no set lies in the block that the row owns -/
def Far (v : Value) (vs : List CmV) : Prop := ∀ x ∈ vs, 0 < x.n → ∀ b o, x.a = some ⟨b, o, none⟩ → v.ownBlock ≠ some b
/-- each set lies ahead of n -/
theorem Tells.lies {w : World} {vs : List CmV} {xs : List Cm} (h : Tells w vs xs) : ∀ x ∈ vs, 0 < x.n → ∀ b o, x.a = some ⟨b, o, none⟩ → b < w.heap.size := by
  intro x hx h0 b o e
  obtain ⟨k, hk, rfl⟩ := List.mem_iff_getElem.1 hx
  have h1 : vs[k]? = some vs[k] := List.getElem?_eq_getElem hk
  have h2 : xs[k]? = some (xs[k]'(by rw [← h.1]; exact hk)) := List.getElem?_eq_getElem _
  obtain ⟨_, _, h3⟩ := h.2 k _ _ h1 h2
  obtain ⟨b', o', e', hlt, _⟩ := h3.2.2.2 h0
  rw [e] at e'; cases e'; exact hlt
theorem Tells.grown {w w' : World} {row : Option Nat} {vs : List CmV} {xs : List Cm} (h : Tells w vs xs) (hg : w.grownBy w' row) (hne : ∀ x ∈ vs, 0 < x.n → ∀ b o, x.a = some ⟨b, o, none⟩ → row ≠ some b) : Tells w' vs xs :=
  ⟨h.1, fun k v x h1 h2 => let ⟨a, b, c⟩ := h.2 k v x h1 h2; ⟨a, b, c.grown hg (hne v (List.mem_of_getElem? h1))⟩⟩
/-- what an append does to a row of commits -/
theorem commit_app {w w' : World} {v : Value} {vs : List CmV} {xs : List Cm} {m : CmV} {x : Cm} (ht : Tells w vs xs) (hf : Far v vs) (hg : w.grownBy w' v.ownBlock) (hm : m.stamp = x.stamp) (hok : okStamp x.stamp) (hs : SlW w m.a m.n m.c x.set)
    (hfm : 0 < m.n → ∀ b o, m.a = some ⟨b, o, none⟩ → v.ownBlock ≠ some b) {g n cap : Nat} (hat : v.ownBlock = some g ∨ g = w.heap.size) :
    Tells w' (vs ++ [m]) (xs ++ [x]) ∧ Far (.slice (some ⟨g, 0, none⟩) n cap) (vs ++ [m]) := by
  refine ⟨(ht.grown hg hf).snoc hm hok (hs.grown hg hfm), fun y hy h0 b o e => ?_⟩
  have hb : b < w.heap.size ∧ v.ownBlock ≠ some b := by
    rcases List.mem_append.1 hy with h | h
    · exact ⟨ht.lies y h h0 b o e, hf y h h0 b o e⟩
    · obtain rfl : y = m := by simpa using h
      obtain ⟨b', o', e', hlt, _⟩ := hs.2.2.2 h0
      rw [e] at e'; cases e'
      exact ⟨hlt, hfm h0 b o e⟩
  intro e2
  obtain rfl : g = b := by simpa [Value.ownBlock] using e2
  rcases hat with h | h
  · exact hb.2 h
  · omega
theorem own_val {w : World} {base e sz n : Nat} {v : Value} {cs : List Value} (h : w.ownsRow base e sz v n cs) : ∃ A c, v = .slice A n c ∧ Sl w sz A n c cs ∧ ∀ b o, A = some ⟨b, o, none⟩ → base ≤ b ∧ b < w.heap.size := by
  obtain ⟨A, c, rfl, hs⟩ := Sl.of_own h
  refine ⟨A, c, rfl, hs, fun b o e => ?_⟩
  rcases h.2 with ⟨hv, _⟩ | ⟨g, cap, cur, hv, hb, hh, _⟩
  · cases hv; cases e
  · cases hv; cases e; exact ⟨hb, (Array.getElem?_eq_some_iff.1 hh).1⟩
theorem own_lt {w : World} {base e sz n : Nat} {v : Value} {cs : List Value} (h : w.ownsRow base e sz v n cs) : ∀ g, v.ownBlock = some g → g < w.heap.size := by
  intro g hg
  rcases h.2 with ⟨rfl, _⟩ | ⟨g', cap, cur, rfl, hb, hh, _⟩
  · simp [Value.ownBlock] at hg
  · obtain rfl : g' = g := by simpa [Value.ownBlock] using hg
    exact (Array.getElem?_eq_some_iff.1 hh).1
theorem SlC.of_own {w : World} {base e n : Nat} {v : Value} {vs : List CmV} {xs : List Cm} (h : w.ownsRow base e 2 v n (cV vs)) (ht : Tells w vs xs) : ∃ A c, v = .slice A n c ∧ SlC w A n c xs := by
  obtain ⟨A, c, rfl, hs⟩ := Sl.of_own h
  exact ⟨A, c, rfl, vs, hs, ht⟩
theorem take_Cm {xs : List Cm} {k : Nat} {x : Cm} (h : xs[k]? = some x) : xs.take (k + 1) = xs.take k ++ [x] := take_at h

theorem info_C : (Try.prog.info? 72).map (fun i => (i.zero, i.size, i.bytes)) = some (some (.agg #[.int .u64 0, .slice none 0 0]), 2, 32) := by kernel_rfl
theorem info_RC : (Try.prog.info? 62).map (fun i => (i.zero, i.size, i.bytes)) = some (some (.agg #[.int .u64 0, .slice none 0 0]), 2, 32) := by kernel_rfl
theorem oneC (m : CmV) : ∀ u ∈ ([.int .u64 m.stamp, .slice m.a m.n m.c] : List Value), u.oneCell' = true := by
  intro u hu; simp at hu; rcases hu with rfl | rfl <;> rfl

set_option maxRecDepth 100000 in
set_option maxHeartbeats 4000000 in
theorem mtheirs_any {A : Option Addr} {n c : Nat} {xs : List Cm} {w : World} (h : SlC w A n c xs) (hs60 : ∀ c ∈ xs, c.set.length ≤ 60) (hn : n ≤ 31) :
    Calls Try.prog 14 #[.slice A n c] w fun e w' => ∃ A' c', e = .returned (.slice A' n c') ∧ SlC w' A' n c' xs ∧ Below w.heap.size w w' := by
  have hm := slC_max h
  have hl := Lib.hid (slC_len h)
  obtain ⟨i0, hi, hz0, hz1, hz2⟩ := info_parts info_C
  have HI := Lib.hid hi; have HZ0 := Lib.hid hz0; have HZ1 := Lib.hid hz1; have HZ2 := Lib.hid hz2; clear hi hz0 hz1 hz2
  have HS := Lib.hid h; have H60 := Lib.hid hs60; clear h hs60
  go_enter Try.func14, Try.ntmps14
  go_wp2
  go_loopw [3, 8] (fun v i wr => ∃ (k : Nat) (vs : List CmV), k ≤ n ∧ i = .int .i64 k ∧ wr.ownsRow w.heap.size 72 2 v k (cV vs) ∧ Tells wr vs (xs.take k) ∧ Far v vs ∧ Below w.heap.size w wr) (fun _ i _ => n - (intOf i).toNat)
  case atStart => exact ⟨0, [], Nat.zero_le _, rfl, World.ownsRow_nil _ _ _ _, Tells.nil_ _, fun x hx => by simp at hx, Below.refl _ _⟩
  case round =>
    obtain ⟨k, vs, hk, rfl, hown, ht, hf, hb⟩ := hrel
    have HO := Lib.hid hown; have HT := Lib.hid ht; have HF := Lib.hid hf; have HB := Lib.hid hb; clear hown ht hf hb
    by_cases hlt : k < n
    · obtain ⟨b, o, x, A', n', c', rfl, hbw, hx, h0, h1, hok, hsw⟩ := slC_get (HS.out.below HB.out) hlt
      have HX := Lib.hid hx; have HK := Lib.hid hok; clear hx hok
      have hn' : n' ≤ 60 := by rw [← slW_len hsw]; exact H60.out x (List.mem_of_getElem? HX.out)
      have HW := Lib.hid hsw; clear hsw
      have hi1 : (0 : Int) ≤ (k : Int) := by omega
      have hi2 : (k : Int) < n := by omega
      go_wp2
      have hsz1 : (wr.alloc (.cells #[.int .u64 x.stamp, .slice A' n' c'] 62)).heap.size = wr.heap.size + 1 := by simp
      have HX1 := Lib.hid (Blk.new wr 62 #[.int .u64 x.stamp, .slice A' n' c'])
      have hbe := (Below.refl wr.heap.size wr).alloc (Nat.le_refl _) (.cells #[.int .u64 x.stamp, .slice A' n' c'] 62)
      have HO1 := Lib.hid (own_below HO.out hbe)
      have HT1 := Lib.hid (HT.out.below hbe)
      have HW1 := Lib.hid (HW.out.below hbe)
      have HB1 := Lib.hid (bt HB.out hbe)
      obtain ⟨W1, hW1⟩ : ∃ W1, wr.alloc (.cells #[.int .u64 x.stamp, .slice A' n' c'] 62) = W1 := ⟨_, rfl⟩
      rw [hW1] at hsz1 HX1 HO1 HT1 HW1 HB1 ⊢
      clear hW1 h0 h1 hbe
      have HC := Lib.hid (theirs_own (w := W1.drew) (HW1.out.below (Below.refl _ _).drew) (by omega))
      have HOD := Lib.hid (own_below HO1.out ((Below.refl _ _).drew))
      have HTD := Lib.hid (HT1.out.below ((Below.refl _ _).drew))
      have HBD := Lib.hid (bt HB1.out ((Below.refl _ _).drew))
      have k0 : W1.drew.cell? ⟨wr.heap.size, 0, none⟩ = some (.int .u64 x.stamp) := HX1.out.cell rfl
      have k1 : W1.drew.cell? ⟨wr.heap.size, 1, none⟩ = some (.slice A' n' c') := HX1.out.cell rfl
      have hlt1 : wr.heap.size < W1.drew.heap.size := by show wr.heap.size < W1.heap.size; omega
      have hne0 : some wr.heap.size ≠ u3.ownBlock := (own_other HO1.out HX1.out (by decide)).symm
      go_region_held3 (fun w' => w'.cell? ⟨wr.heap.size, 0, none⟩ = some (.int .u64 x.stamp) ∧ w'.cell? ⟨wr.heap.size, 1, none⟩ = some (.slice A' n' c')) (first | exact ⟨k0, k1⟩ | exact ⟨s0, s1⟩ | exact ⟨t0, t1⟩ | exact ⟨z0, z1⟩)
        (first
          | ((go_at_call 16; refine HC.out.mono ?_; rintro e w2 ⟨v2, rfl, ho2, hb2⟩; obtain ⟨A2, c2, rfl, hs2, hfr⟩ := own_val ho2
              ; have s0 := (hb2.cell (p := ⟨wr.heap.size, 0, none⟩) hlt1).trans k0
              ; have s1 := (hb2.cell (p := ⟨wr.heap.size, 1, none⟩) hlt1).trans k1
              ; have HO2 := Lib.hid (own_below HOD.out hb2)
              ; have HT2 := Lib.hid (HTD.out.below hb2)
              ; have HB2 := Lib.hid (bt HBD.out hb2)
              ; have hz2 : wr.heap.size < w2.heap.size := Nat.lt_of_lt_of_le hlt1 hb2.size
              ; have t0 := cell_al (.cells #[.int .u64 x.stamp, .slice A2 n' c2] 72) s0
              ; have t1 := cell_al (.cells #[.int .u64 x.stamp, .slice A2 n' c2] 72) s1))
          | ((refine step_append_lies _ (by rfl) _ _ _ (by rfl) w.heap.size 72 i0 (.agg #[.int .u64 0, .slice none 0 0]) 2 32 Try.underlying29 HI.out HZ0.out HZ1.out HZ2.out rfl (by decide) u3 k (cV vs) (by rfl) (HO2.out.alloc _) ⟨w2.heap.size, 0, none⟩ 1 1 [.int .u64 x.stamp, .slice A2 n' c2] (by rfl) rfl (new2 _ _ _ _ rfl) (oneC ⟨x.stamp, A2, n', c2⟩) (by omega) (by unfold maxLen; omega) (by omega) (by have := HB2.out.size; simp; omega) (w2.heap.size + 1) (by simp) ?_
              ; intro g cap w3 hown3 hgrow3 hat3 hlt3
              ; have z0 : w3.cell? ⟨wr.heap.size, 0, none⟩ = some (.int .u64 x.stamp) := (hgrow3.cell_far ⟨wr.heap.size, 0, none⟩ (by simp; omega) hne0).trans t0
              ; have z1 : w3.cell? ⟨wr.heap.size, 1, none⟩ = some (.slice A' n' c') := (hgrow3.cell_far ⟨wr.heap.size, 1, none⟩ (by simp; omega) hne0).trans t1)))
      have hca := commit_app (x := x) (m := ⟨x.stamp, A2, n', c2⟩) (n := k + 1) (cap := cap) (HT2.out.below ((Below.refl w2.heap.size w2).alloc (Nat.le_refl _) _)) HF.out hgrow3 rfl HK.out (hs2.below ((Below.refl w2.heap.size w2).alloc (Nat.le_refl _) _)) (fun _ b' o' e' he => by have h1 := (hfr b' o' e').1; have h2 := own_lt HOD.out b' he; omega) (g := g) (by simpa using hat3)
      have HB3 := Lib.hid ((HB2.out.alloc HB2.out.size (.cells #[.int .u64 x.stamp, .slice A2 n' c2] 72)).grown hgrow3 (by have := HB2.out.size; simp; omega) (own_ge HO2.out))
      have HC3 := Lib.hid hca; have HO3 := Lib.hid hown3
      clear hca hown3 hgrow3 z0 z1 t0 t1 s0 s1 k0 k1 hs2 hfr ho2 hb2
      go_wp2
      go_roundw
      case rel => exact ⟨k + 1, vs ++ [⟨x.stamp, A2, n', c2⟩], by omega, by go_num, by rw [cV_append]; exact HO3.out, by rw [take_Cm HX.out]; exact HC3.out.1, HC3.out.2, HB3.out⟩
      case measure => simp [intOf]; omega
    · obtain rfl : k = n := by omega
      go_wp2
      go_ret
      have := HT.out
      rw [List.take_of_length_le (by rw [hl.out]; exact Nat.le_refl _)] at this
      obtain ⟨A', c', rfl, hs⟩ := SlC.of_own HO.out this
      exact ⟨A', c', rfl, hs, HB.out⟩
set_option maxRecDepth 100000 in
set_option maxHeartbeats 4000000 in
theorem mours_any {A : Option Addr} {n c : Nat} {xs : List Cm} {w : World} (h : SlC w A n c xs) (hs60 : ∀ c ∈ xs, c.set.length ≤ 60) (hn : n ≤ 31) :
    Calls Try.prog 19 #[.slice A n c] w fun e w' => ∃ A' c', e = .returned (.slice A' n c') ∧ SlC w' A' n c' xs ∧ Below w.heap.size w w' := by
  have hm := slC_max h
  have hl := Lib.hid (slC_len h)
  obtain ⟨i0, hi, hz0, hz1, hz2⟩ := info_parts info_RC
  have HI := Lib.hid hi; have HZ0 := Lib.hid hz0; have HZ1 := Lib.hid hz1; have HZ2 := Lib.hid hz2; clear hi hz0 hz1 hz2
  have HS := Lib.hid h; have H60 := Lib.hid hs60; clear h hs60
  go_enter Try.func19, Try.ntmps19
  go_wp2
  go_loopw [3, 8] (fun v i wr => ∃ (k : Nat) (vs : List CmV), k ≤ n ∧ i = .int .i64 k ∧ wr.ownsRow w.heap.size 62 2 v k (cV vs) ∧ Tells wr vs (xs.take k) ∧ Far v vs ∧ Below w.heap.size w wr) (fun _ i _ => n - (intOf i).toNat)
  case atStart => exact ⟨0, [], Nat.zero_le _, rfl, World.ownsRow_nil _ _ _ _, Tells.nil_ _, fun x hx => by simp at hx, Below.refl _ _⟩
  case round =>
    obtain ⟨k, vs, hk, rfl, hown, ht, hf, hb⟩ := hrel
    have HO := Lib.hid hown; have HT := Lib.hid ht; have HF := Lib.hid hf; have HB := Lib.hid hb; clear hown ht hf hb
    by_cases hlt : k < n
    · obtain ⟨b, o, x, A', n', c', rfl, hbw, hx, h0, h1, hok, hsw⟩ := slC_get (HS.out.below HB.out) hlt
      have HX := Lib.hid hx; have HK := Lib.hid hok; clear hx hok
      have hn' : n' ≤ 60 := by rw [← slW_len hsw]; exact H60.out x (List.mem_of_getElem? HX.out)
      have HW := Lib.hid hsw; clear hsw
      have hi1 : (0 : Int) ≤ (k : Int) := by omega
      have hi2 : (k : Int) < n := by omega
      go_wp2
      have hsz1 : (wr.alloc (.cells #[.int .u64 x.stamp, .slice A' n' c'] 72)).heap.size = wr.heap.size + 1 := by simp
      have HX1 := Lib.hid (Blk.new wr 72 #[.int .u64 x.stamp, .slice A' n' c'])
      have hbe := (Below.refl wr.heap.size wr).alloc (Nat.le_refl _) (.cells #[.int .u64 x.stamp, .slice A' n' c'] 72)
      have HO1 := Lib.hid (own_below HO.out hbe)
      have HT1 := Lib.hid (HT.out.below hbe)
      have HW1 := Lib.hid (HW.out.below hbe)
      have HB1 := Lib.hid (bt HB.out hbe)
      obtain ⟨W1, hW1⟩ : ∃ W1, wr.alloc (.cells #[.int .u64 x.stamp, .slice A' n' c'] 72) = W1 := ⟨_, rfl⟩
      rw [hW1] at hsz1 HX1 HO1 HT1 HW1 HB1 ⊢
      clear hW1 h0 h1 hbe
      have HC := Lib.hid (ours_own (w := W1.drew) (HW1.out.below (Below.refl _ _).drew) (by omega))
      have HOD := Lib.hid (own_below HO1.out ((Below.refl _ _).drew))
      have HTD := Lib.hid (HT1.out.below ((Below.refl _ _).drew))
      have HBD := Lib.hid (bt HB1.out ((Below.refl _ _).drew))
      have k0 : W1.drew.cell? ⟨wr.heap.size, 0, none⟩ = some (.int .u64 x.stamp) := HX1.out.cell rfl
      have k1 : W1.drew.cell? ⟨wr.heap.size, 1, none⟩ = some (.slice A' n' c') := HX1.out.cell rfl
      have hlt1 : wr.heap.size < W1.drew.heap.size := by show wr.heap.size < W1.heap.size; omega
      have hne0 : some wr.heap.size ≠ u3.ownBlock := (own_other HO1.out HX1.out (by decide)).symm
      go_region_held3 (fun w' => w'.cell? ⟨wr.heap.size, 0, none⟩ = some (.int .u64 x.stamp) ∧ w'.cell? ⟨wr.heap.size, 1, none⟩ = some (.slice A' n' c')) (first | exact ⟨k0, k1⟩ | exact ⟨s0, s1⟩ | exact ⟨t0, t1⟩ | exact ⟨z0, z1⟩)
        (first
          | ((go_at_call 36; refine HC.out.mono ?_; rintro e w2 ⟨v2, rfl, ho2, hb2⟩; obtain ⟨A2, c2, rfl, hs2, hfr⟩ := own_val ho2
              ; have s0 := (hb2.cell (p := ⟨wr.heap.size, 0, none⟩) hlt1).trans k0
              ; have s1 := (hb2.cell (p := ⟨wr.heap.size, 1, none⟩) hlt1).trans k1
              ; have HO2 := Lib.hid (own_below HOD.out hb2)
              ; have HT2 := Lib.hid (HTD.out.below hb2)
              ; have HB2 := Lib.hid (bt HBD.out hb2)
              ; have hz2 : wr.heap.size < w2.heap.size := Nat.lt_of_lt_of_le hlt1 hb2.size
              ; have t0 := cell_al (.cells #[.int .u64 x.stamp, .slice A2 n' c2] 62) s0
              ; have t1 := cell_al (.cells #[.int .u64 x.stamp, .slice A2 n' c2] 62) s1))
          | ((refine step_append_lies _ (by rfl) _ _ _ (by rfl) w.heap.size 62 i0 (.agg #[.int .u64 0, .slice none 0 0]) 2 32 Try.underlying22 HI.out HZ0.out HZ1.out HZ2.out rfl (by decide) u3 k (cV vs) (by rfl) (HO2.out.alloc _) ⟨w2.heap.size, 0, none⟩ 1 1 [.int .u64 x.stamp, .slice A2 n' c2] (by rfl) rfl (new2 _ _ _ _ rfl) (oneC ⟨x.stamp, A2, n', c2⟩) (by omega) (by unfold maxLen; omega) (by omega) (by have := HB2.out.size; simp; omega) (w2.heap.size + 1) (by simp) ?_
              ; intro g cap w3 hown3 hgrow3 hat3 hlt3
              ; have z0 : w3.cell? ⟨wr.heap.size, 0, none⟩ = some (.int .u64 x.stamp) := (hgrow3.cell_far ⟨wr.heap.size, 0, none⟩ (by simp; omega) hne0).trans t0
              ; have z1 : w3.cell? ⟨wr.heap.size, 1, none⟩ = some (.slice A' n' c') := (hgrow3.cell_far ⟨wr.heap.size, 1, none⟩ (by simp; omega) hne0).trans t1)))
      have hca := commit_app (x := x) (m := ⟨x.stamp, A2, n', c2⟩) (n := k + 1) (cap := cap) (HT2.out.below ((Below.refl w2.heap.size w2).alloc (Nat.le_refl _) _)) HF.out hgrow3 rfl HK.out (hs2.below ((Below.refl w2.heap.size w2).alloc (Nat.le_refl _) _)) (fun _ b' o' e' he => by have h1 := (hfr b' o' e').1; have h2 := own_lt HOD.out b' he; omega) (g := g) (by simpa using hat3)
      have HB3 := Lib.hid ((HB2.out.alloc HB2.out.size (.cells #[.int .u64 x.stamp, .slice A2 n' c2] 62)).grown hgrow3 (by have := HB2.out.size; simp; omega) (own_ge HO2.out))
      have HC3 := Lib.hid hca; have HO3 := Lib.hid hown3
      clear hca hown3 hgrow3 z0 z1 t0 t1 s0 s1 k0 k1 hs2 hfr ho2 hb2
      go_wp2
      go_roundw
      case rel => exact ⟨k + 1, vs ++ [⟨x.stamp, A2, n', c2⟩], by omega, by go_num, by rw [cV_append]; exact HO3.out, by rw [take_Cm HX.out]; exact HC3.out.1, HC3.out.2, HB3.out⟩
      case measure => simp [intOf]; omega
    · obtain rfl : k = n := by omega
      go_wp2
      go_ret
      have := HT.out
      rw [List.take_of_length_le (by rw [hl.out]; exact Nat.le_refl _)] at this
      obtain ⟨A', c', rfl, hs⟩ := SlC.of_own HO.out this
      exact ⟨A', c', rfl, hs, HB.out⟩
end Go.Proofs.Ytincjomgcceldaa
