/- The document's table: Note. -/
import Derived.Test.YteaaeeidbjklbaaTxU
namespace Go.Proofs.Yteaaeeidbjklbaa
open Go.RowKit Go.Maps

/-- notes that lie far from the book -/
def SlFN (w : World) (b M : Nat) (A : Option Addr) (n c : Nat) (xs : List N2) : Prop := SlN w A n c xs ∧ ∀ b' o, A = some ⟨b', o, none⟩ → b' ≠ b ∧ b' ≠ M
section
variable {b M : Nat} {w w1 : World} {A : Option Addr} {n c : Nat} {xs : List N2}
theorem SlFN.chg (h : SlFN w b M A n c xs) (k : Chg b M w w1) : SlFN w1 b M A n c xs := by
  obtain ⟨⟨h1, h2, h3, h4⟩, hf⟩ := h
  refine ⟨⟨h1, h2, h3, fun hn => ?_⟩, hf⟩
  obtain ⟨b', o, e, hlt, hc⟩ := h4 hn
  obtain ⟨f1, f2⟩ := hf b' o e
  have hb := k.block b' hlt f1 f2
  exact ⟨b', o, e, Nat.lt_of_lt_of_le hlt k.size, fun j u hu => (World.cell?_of_block (a := ⟨b', o + j, none⟩) hb).trans (hc j u hu)⟩
theorem SlFN.nil_ (w : World) (b M : Nat) : SlFN w b M none 0 0 [] := ⟨Sl.nil_ w 2, fun _ _ e => by cases e⟩
theorem SlFN.of_own {base e : Nat} {v : Value} {n : Nat} {ys : List N2} (h : w.ownsRow base e 2 v n (cN ys)) (hb : b < base) (hM : M < base) : ∃ A c, v = .slice A n c ∧ SlFN w b M A n c ys := by
  obtain ⟨A, c, rfl, hs⟩ := Sl.of_own h
  refine ⟨A, c, rfl, hs, fun b' o e' => ?_⟩
  rcases h.2 with ⟨hv, _⟩ | ⟨g, cap, cur, hv, hg, hh, _⟩
  · cases hv; cases e'
  · cases hv; cases e'; omega
theorem SlFN.refT {at_ : Nat → Int} {op : Nat → Bool} {S : Nat → SV} {V : SV} {g : Nat} (hs : SlFN w b M A n c xs) (h : RefT w g at_ op S V) (k : w.grownBy w1 (some g)) : SlFN w1 b M A n c xs := by
  obtain ⟨⟨h1, h2, h3, h4⟩, hf⟩ := hs
  refine ⟨⟨h1, h2, h3, fun hn => ?_⟩, hf⟩
  obtain ⟨b', o, e, hlt, hc⟩ := h4 hn
  have hx : xs[0]? = some (xs[0]'(by have := slN_len (show SlN w A n c xs from ⟨h1, h2, h3, h4⟩); omega)) := List.getElem?_eq_getElem _
  have hne := refT_far h (hc 0 _ (cN_get hx).1)
  exact ⟨b', o, e, Nat.lt_of_lt_of_le hlt k.size, fun j u hu => (k.cell_far ⟨b', o + j, none⟩ hlt (fun e => hne (by injection e))).trans (hc j u hu)⟩
end
def noteL (st : Int) (xs : List W3) : List N2 := xs.map (fun x => ⟨x.key, st⟩)
theorem noteL_succ {st : Int} {xs : List W3} {k : Nat} {x : W3} (hx : xs[k]? = some x) : noteL st (xs.take (k + 1)) = noteL st (xs.take k) ++ [⟨x.key, st⟩] := by
  unfold noteL; rw [tx_take hx, List.map_append]; rfl
theorem one_cN (xs : List N2) : ∀ u ∈ cN xs, u.oneCell' = true := by
  intro u hu
  obtain ⟨x, _, hx⟩ := List.mem_flatMap.1 hu
  simp [N2.cells] at hx
  rcases hx with rfl | rfl <;> rfl
theorem oneN (s : ByteArray) (a : Int) : ∀ u ∈ ([.string s, .int .u64 a] : List Value), u.oneCell' = true := by
  intro u hu; simp at hu; rcases hu with rfl | rfl <;> rfl
section
variable {at_ : Nat → Int} {op : Nat → Bool} {S : Nat → SV} {V : SV}
theorem RefT.grownN {w w1 : World} {g : Nat} {row : Option Nat} (h : RefT w g at_ op S V) (k : w.grownBy w1 row) (hne : row ≠ some g) : RefT w1 g at_ op S V := (k.block g h.lt (fun e => hne e.symm)).trans h
set_option maxRecDepth 100000 in
set_option maxHeartbeats 4000000 in
theorem rnote_any {b M : Nat} {A : Option Addr} {n c : Nat} {xs : List W3} {w : World} {l : List N2} (hv : SlFN w b M V.a V.n V.c l) (hs : SlW w A n c xs) (st : Int) (hb0 : b < w.heap.size) (hM0 : M < w.heap.size) (hnn : V.n + n ≤ 60000) :
    Calls Try.prog 18 #[mT at_ op S V, .slice A n c, .int .u64 st] w fun e w' => ∃ V' : SV, e = .returned (mT at_ op S V') ∧ SlFN w' b M V'.a V'.n V'.c (l ++ noteL st xs) ∧ V'.n = V.n + n ∧ Below w.heap.size w w' := by
  have hm := sl_max hs
  have hl := Lib.hid (slW_len hs)
  have hvm := sl_max hv.1
  obtain ⟨i0, hi, hz0, hz1, hz2⟩ := info_parts info_N
  have HI := Lib.hid hi; have HZ0 := Lib.hid hz0; have HZ1 := Lib.hid hz1; have HZ2 := Lib.hid hz2; clear hi hz0 hz1 hz2
  have HV := Lib.hid hv; have HS := Lib.hid hs; have HLB := Lib.hid hb0; have HLM := Lib.hid hM0; clear hv hs hb0 hM0
  obtain ⟨h1, h2, h3⟩ := twoT_new w at_ op S V
  have hsz0 : ((w.alloc (.cells (arrT at_ op S V) 36)).alloc (.cells (arrT zAt zOp zS sv0) 36)).heap.size = w.heap.size + 2 := by simp
  have H1 := Lib.hid h1; have H2 := Lib.hid h2; have H3 := Lib.hid h3; have HSZ0 := Lib.hid hsz0; clear h1 h2 h3 hsz0
  obtain ⟨A0, n0, c0⟩ := V
  simp only at hvm hnn
  go_enter Try.func18, Try.ntmps18
  go_upto_region 1 with (fail)
  refine wp_abs (fun we => RefT we w.heap.size at_ op S ⟨A0, n0, c0⟩ ∧ RefT we (w.heap.size + 1) zAt zOp zS sv0 ∧ Below w.heap.size w we ∧ we.heap.size = w.heap.size + 2) ⟨H1.out, H2.out, H3.out, HSZ0.out⟩ ?_
  clear H1 H2 H3 HSZ0
  rintro we ⟨ht, hz, hb, hsz⟩
  have HT := Lib.hid ht; have HZ := Lib.hid hz; have HB := Lib.hid hb; have HSZ := Lib.hid hsz
  have k0 := ht.v
  have hlt := ht.lt
  have HOE := Lib.hid (ownsRow_empty we (w.heap.size + 2) 99 2 (by omega))
  have hbe := (Below.refl we.heap.size we).alloc (Nat.le_refl _) (.cells #[] 99)
  have HTE := Lib.hid (ht.below hbe); have HZE := Lib.hid (hz.below hbe); have HBE := Lib.hid (bt hb hbe)
  have HVE := Lib.hid (HV.out.chg (Chg.of_below HBE.out))
  clear ht hz hb hbe hsz
  go_wp2_with (at_builtin; refine wpList_append_sl _ rfl _ _ 34 rfl (w.heap.size + 2) 99 i0 (.agg #[.string ⟨#[]⟩, .int .u64 0]) 2 24 Try.underlying34 HI.out HZ0.out HZ1.out HZ2.out rfl (by decide) _ 0 [] rfl HOE.out A0 n0 c0 (cN l) rfl HVE.out.1 (one_cN l) ?c3 ?c4 ?c5 ?_)
  case c3 => unfold maxLen; omega
  case c4 => omega
  case c5 => have := HSZ.out; simp; omega
  intro v4 w4 hown4 hg4
  have hsz := HSZ.out
  have HO4 := Lib.hid hown4
  have HT4 := Lib.hid (HTE.out.grownN hg4 (by intro e; simp [Value.ownBlock] at e; omega))
  have HZ4 := Lib.hid (HZE.out.grownN hg4 (by intro e; simp [Value.ownBlock] at e; omega))
  have HB4 := Lib.hid (HBE.out.grown hg4 HBE.out.size (fun j hj => by simp [Value.ownBlock] at hj; omega))
  clear hown4 hg4 k0 hlt hsz
  go_wp2
  go_loopw [7, 8] (fun v i wr => ∃ k : Nat, k ≤ n ∧ i = .int .i64 k ∧ wr.ownsRow (w.heap.size + 2) 99 2 v (n0 + k) (cN (l ++ noteL st (xs.take k))) ∧ RefT wr w.heap.size at_ op S ⟨A0, n0, c0⟩ ∧ RefT wr (w.heap.size + 1) zAt zOp zS sv0 ∧ Below w.heap.size w wr) (fun _ i _ => n - (intOf i).toNat)
  case atStart => exact ⟨0, Nat.zero_le _, rfl, by rw [show noteL st (xs.take 0) = [] from rfl, List.append_nil]; exact HO4.out, HT4.out, HZ4.out, HB4.out⟩
  case round =>
    obtain ⟨k, hk, rfl, hown, ht, hz, hb⟩ := hrel
    clear HO4 HT4 HZ4 HB4
    have HO := Lib.hid hown; have HT := Lib.hid ht; have HZ := Lib.hid hz; have HB := Lib.hid hb; clear hown ht hz hb
    by_cases hkn : k < n
    · obtain ⟨b', o, x, hA, hbw, hx, h0, h1, h2⟩ := slW_get (HS.out.below HB.out) hkn
      subst hA
      have HX := Lib.hid hx; clear hx h1 h2
      have j1 : (0 : Int) ≤ (k : Int) := by omega
      have j2 : (k : Int) < n := by omega
      have hz1 := HZ.out.lt
      go_wp2_with (at_builtin; refine wpList_append_own _ rfl _ _ 34 rfl (w.heap.size + 2) 99 i0 (.agg #[.string ⟨#[]⟩, .int .u64 0]) 2 24 Try.underlying34 HI.out HZ0.out HZ1.out HZ2.out rfl (by decide) _ _ _ rfl (HO.out.alloc _) ⟨wr.heap.size, 0, none⟩ 1 1 [.string x.key, .int .u64 st] rfl rfl ?a1 ?a2 ?a3 ?a4 ?a5 ?_)
      case a1 => exact new2 _ _ _ _ rfl
      case a2 => exact oneN _ _
      case a3 => unfold maxLen; omega
      case a4 => omega
      case a5 => simp; omega
      intro v5 w5 hown5 hg5 _
      have hge := own_ge' HO.out
      have hbe := (Below.refl wr.heap.size wr).alloc (Nat.le_refl _) (.cells #[.string x.key, .int .u64 st] 99)
      have HO5 := Lib.hid hown5
      have HT5 := Lib.hid ((HT.out.below hbe).grownN hg5 (fun e => by have := hge _ e; omega))
      have HZ5 := Lib.hid ((HZ.out.below hbe).grownN hg5 (fun e => by have := hge _ e; omega))
      have HB5 := Lib.hid ((bt HB.out hbe).grown hg5 (bt HB.out hbe).size (fun j hj => by have := hge j hj; omega))
      clear hown5 hg5 hge hbe h0
      go_wp2
      go_roundw
      case rel => exact ⟨k + 1, by omega, by go_num, by rw [noteL_succ HX.out, ← List.append_assoc, cN_append]; exact HO5.out, HT5.out, HZ5.out, HB5.out⟩
      case measure => simp [intOf]; omega
    · obtain rfl : k = n := by omega
      have k0 := HT.out.v
      have f0 := HT.out.fr 24
      have hlt := HT.out.lt
      have hz1 := HZ.out.lt
      have HF := Lib.hid (List.take_of_length_le (l := xs) (i := k) (by rw [hl.out]; exact Nat.le_refl _))
      obtain ⟨A', c', rfl, hsf⟩ := SlFN.of_own HO.out (show b < w.heap.size + 2 from Nat.lt_of_lt_of_le HLB.out (by omega)) (show M < w.heap.size + 2 from Nat.lt_of_lt_of_le HLM.out (by omega))
      rw [HF.out] at hsf
      have hg5 := set_grown wr w.heap.size 24 (.slice A' (n0 + k) c')
      have HS5 := Lib.hid (hsf.refT HT.out hg5)
      have HT5 := Lib.hid (HT.out.setV ⟨A', n0 + k, c'⟩)
      have HZ5 := Lib.hid (HZ.out.grown hg5 (by omega))
      have HB5 := Lib.hid (HB.out.setCell (p := ⟨w.heap.size, 24, none⟩) (Nat.le_refl _) (.slice A' (n0 + k) c'))
      clear hsf hg5
      go_wp2_with (first
        | (refine wpList_loadT rfl _ rfl w.heap.size at_ op S ⟨A', n0 + k, c'⟩ (by rfl) HT5.out ?_)
        | (refine wpList_storeT rfl _ _ rfl (w.heap.size + 1) at_ op S ⟨A', n0 + k, c'⟩ (by rfl) (by rfl) HZ5.out ?_; intro w6 hr6 hg6; have HR6 := Lib.hid hr6; have HS6 := Lib.hid (HS5.out.refT HZ5.out hg6); have HB6 := Lib.hid (HB5.out.grown hg6 HB5.out.size (fun j hj => by cases hj; omega)); clear hr6 hg6))
      refine bodyPost_ret (v := mT at_ op S ⟨A', n0 + k, c'⟩) ?_ rfl ⟨⟨A', n0 + k, c'⟩, rfl, HS6.out, rfl, HB6.out⟩
      exact results_cell_row Try.results18 _ _ (w.heap.size + 1) 36 _ (0, 0) _ rfl HR6.out Try.underlying36 rfl info_RT
end
end Go.Proofs.Yteaaeeidbjklbaa
