/- A table beside a row that is another's: no set lies in it; what was answered is the caller's. -/
import Derived.Test.YteaaeeidbjklbaaTxI
namespace Go.Proofs.Yteaaeeidbjklbaa
open Go.RowKit Go.Maps

/-- no set of the book lies in block G -/
def Avo (w : World) (b G : Nat) : Prop := ∀ i A n c, i < 8 → w.cell? ⟨b, 49 + i, none⟩ = some (.slice A n c) → 0 < n → ∀ b' o, A = some ⟨b', o, none⟩ → b' ≠ G
section
variable {w w1 : World} {g b M G : Nat} {at_ : Nat → Int} {op : Nat → Bool} {sets : Nat → List W3} {k : Nat} {D : DataW Unit}
theorem Avo.same (h : Avo w b G) (hc : ∀ j, j < 8 → w1.cell? ⟨b, 49 + j, none⟩ = w.cell? ⟨b, 49 + j, none⟩) : Avo w1 b G :=
  fun i A n c hi hs => h i A n c hi ((hc i hi).symm.trans hs)
theorem Avo.below (h : Avo w b G) (hl : b < w.heap.size) (hb : Below w.heap.size w w1) : Avo w1 b G := h.same fun j _ => hb.cell (p := ⟨b, 49 + j, none⟩) hl
theorem Avo.set (h : Avo w b G) {i : Nat} (hi : i < 8) {A : Option Addr} {n c : Nat} {u : Value} (hu : w.cell? ⟨b, 49 + i, none⟩ = some u) (hA : ∀ b' o, A = some ⟨b', o, none⟩ → b' ≠ G) : Avo (w.setCell ⟨b, 49 + i, none⟩ (.slice A n c)) b G := by
  intro j A1 n1 c1 hj hs
  by_cases e : j = i
  · subst e
    rw [World.cell?_setCell_same _ _ _ hu] at hs
    cases hs
    exact fun _ => hA
  · exact h j A1 n1 c1 hj ((World.cell?_setCell_other _ _ _ _ (neA (by omega))).symm.trans hs)
/-- a row of the caller's has turned -/
theorem Tab.far (h : Tab w g b M at_ op sets k D) (hav : Avo w b G) (kk : w.grownBy w1 (some G)) (h1 : g ≠ G) (h2 : b ≠ G) (h3 : M ≠ G) : Tab w1 g b M at_ op sets k D := by
  have hg : some g ≠ some G := fun e => h1 (by injection e)
  have hb : some b ≠ some G := fun e => h2 (by injection e)
  have hM : some M ≠ some G := fun e => h3 (by injection e)
  refine ⟨(kk.cell_far ⟨g, 0, none⟩ h.gl hg).trans h.t, Nat.lt_of_lt_of_le h.gl kk.size, h.wt.farT kk h2, fun i hi => ?_, (kk.cell_far ⟨b, 57, none⟩ h.wt.lt hb).trans h.m, h.own.kept kk hM, h.gb, h.gM, h.bM⟩
  obtain ⟨A, n, c, e1, ⟨⟨s1, s2, s3, s4⟩, hf⟩, e3⟩ := h.s i hi
  refine ⟨A, n, c, (kk.cell_far ⟨b, 49 + i, none⟩ h.wt.lt hb).trans e1, ⟨⟨s1, s2, s3, fun hn => ?_⟩, hf⟩, e3⟩
  obtain ⟨b', o, e, hlt, hc⟩ := s4 hn
  have hne := hav i A n c hi e1 hn b' o e
  exact ⟨b', o, e, Nat.lt_of_lt_of_le hlt kk.size, fun j u hu => (kk.cell_far ⟨b', o + j, none⟩ hlt (fun e => hne (by injection e))).trans (hc j u hu)⟩
set_option maxHeartbeats 2000000 in
theorem write_av (h : Tab w g b M at_ op sets k D) {G : Nat} (hG : G < w.heap.size) (hav : Avo w b G) {i : Nat} (hi : i < 8) (ho : op i = true) (x : W3) : Calls Try.prog 21 #[PT g, .int .i64 i, .agg #[.string x.key, .string x.text, .bool x.gone]] w fun e w' => e = .returned (.int .i64 (putW (sets i) x).2) ∧ Tab w' g b M at_ op (upd sets i (putW (sets i) x).1) k D ∧ Chg b M w w' ∧ Avo w' b G := by
  have hbe := (Below.refl w.heap.size w).alloc (Nat.le_refl _) (.cells #[.string x.key, .string x.text, .bool x.gone] 50)
  have HAV := Lib.hid hav; have HG := Lib.hid hG; have HBL := Lib.hid h.wt.lt; clear hav hG
  have H := Lib.hid (h.below hbe); have HBE := Lib.hid hbe; clear h hbe
  have HK0 := Lib.hid (heap_alloc_new w (.cells #[.string x.key, .string x.text, .bool x.gone] 50))
  have i1 : (0 : Int) ≤ (i : Int) := by omega
  have i2 : (i : Int) < 8 := by omega
  go_enter Try.func21, Try.ntmps21
  go_wp2_with fail
  refine (none_no H.out).mono ?_
  rintro e w1 ⟨rfl, hb1⟩
  have H1 := Lib.hid (H.out.below hb1); have HB := Lib.hid (bt HBE.out hb1)
  have HK1 := Lib.hid ((hb1.block w.heap.size (by simp)).trans HK0.out)
  clear hb1
  have c0 := H1.out.t
  go_wp2_with fail
  refine (wat_in H1.out.wt hi).mono ?_
  rintro e w2 ⟨rfl, hb2⟩
  rw [ho]
  have h2 := H1.out.below hb2
  have H2 := Lib.hid h2
  have HB2 := Lib.hid (bt HB.out hb2)
  have HK2 := Lib.hid ((hb2.block w.heap.size (Array.getElem?_eq_some_iff.1 HK1.out).1).trans HK1.out)
  obtain ⟨A0, n0, m0, e1, hs, hr, hl⟩ := h2.s i hi
  have HS := Lib.hid hs; have HR := Lib.hid hr; have HL := Lib.hid hl
  obtain ⟨hb0, hM0⟩ := h2.lts
  have hn0 : n0 ≤ 16 := by rw [← slW_len hs.1]; exact hl
  have HE := Lib.hid e1
  clear hb2 h2 hs hr hl c0 e1
  have p0 : w2.drew.cell? ⟨g, 0, none⟩ = some (.pointer (some ⟨b, 0, none⟩)) := H2.out.t
  have p1 : w2.drew.cell? ⟨b, 49 + i, none⟩ = some (.slice A0 n0 m0) := HE.out
  have p2 : w2.drew.cell? ⟨w.heap.size, 0, none⟩ = some (.string x.key) := cell_of_row w2 w.heap.size 0 _ _ _ HK2.out
  have p3 : w2.drew.cell? ⟨w.heap.size, 1, none⟩ = some (.string x.text) := cell_of_row w2 w.heap.size 1 _ _ _ HK2.out
  have p4 : w2.drew.cell? ⟨w.heap.size, 2, none⟩ = some (.bool x.gone) := cell_of_row w2 w.heap.size 2 _ _ _ HK2.out
  have hgl : g < w2.drew.heap.size := H2.out.gl
  have hbl : b < w2.drew.heap.size := hb0
  have hxl : w.heap.size < w2.drew.heap.size := (Array.getElem?_eq_some_iff.1 HK2.out).1
  have HPU := Lib.hid (put_any (w := w2.drew) (HS.out.1.below (Below.refl _ _).drew) x HR.out (by omega))
  go_wp2_with fail
  go_region_held3 (fun w' => w'.cell? ⟨g, 0, none⟩ = some (.pointer (some ⟨b, 0, none⟩)) ∧ w'.cell? ⟨b, 49 + i, none⟩ = some (.slice A0 n0 m0) ∧ w'.cell? ⟨w.heap.size, 0, none⟩ = some (.string x.key) ∧ w'.cell? ⟨w.heap.size, 1, none⟩ = some (.string x.text) ∧ w'.cell? ⟨w.heap.size, 2, none⟩ = some (.bool x.gone))
    (first | exact ⟨p0, p1, p2, p3, p4⟩ | exact ⟨(hb3.cell (p := ⟨g, 0, none⟩) hgl).trans p0, (hb3.cell (p := ⟨b, 49 + i, none⟩) hbl).trans p1, (hb3.cell (p := ⟨w.heap.size, 0, none⟩) hxl).trans p2, (hb3.cell (p := ⟨w.heap.size, 1, none⟩) hxl).trans p3, (hb3.cell (p := ⟨w.heap.size, 2, none⟩) hxl).trans p4⟩)
    ((go_at_call 42; refine HPU.out.mono ?_; rintro e w3 ⟨v, rfl, ho3, hb3⟩))
  have hge := own_ge' ho3
  obtain ⟨A3, c3, rfl, hs3⟩ := SlF.of_own ho3 (show b < w2.drew.heap.size from hb0) (show M < w2.drew.heap.size from hM0)
  have h3 := (H2.out.below ((Below.refl _ _).drew)).below hb3
  have HB3 := Lib.hid ((bt HB2.out (Below.refl _ w2).drew).trans (hb3.mono (by have := HB2.out.size; exact this)))
  have HT3 := Lib.hid h3
  have HAV3 := Lib.hid (HAV.out.below HBL.out HB3.out)
  have HGE := Lib.hid (show ∀ b' o, A3 = some ⟨b', o, none⟩ → b' ≠ G from fun b' o e => by subst e; have h1 := hge b' rfl; have h2 := HB2.out.size; have h3 := HG.out; have h4 : w2.drew.heap.size = w2.heap.size := rfl; omega)
  have HP3 := Lib.hid (h3.set hi hs3 (putW_rise HR.out) (putW_len16 HR.out HL.out))
  obtain ⟨A4, n4, m4, e4, _⟩ := h3.s i hi
  have HAVS := Lib.hid (HAV3.out.set hi (n := (putW (sets i) x).1.length) (c := c3) e4 HGE.out)
  have c0 := h3.t
  have f4 := h3.wt.fr (49 + i)
  clear ho3 hs3 hb3 hge p0 p1 p2 p3 p4 hgl hbl hxl HPU h3
  by_cases hz : (putW (sets i) x).2 = 0
  · rw [hz]
    go_wp2
    go_ret
    exact ⟨by rw [hz]; rfl, HP3.out.1, (Chg.of_below HB3.out).trans HP3.out.2, HAVS.out⟩
  · have hne : ((putW (sets i) x).2 != 0) = true := by simpa using hz
    have HKP := Lib.hid (putW_keep hz)
    go_wp2
    go_ret
    refine ⟨rfl, ?_, Chg.of_below HB3.out, HAV3.out⟩
    rw [HKP.out, upd_same']
    exact HT3.out
theorem Avo.new (h : Tab w g b M at_ op sets k D) (hG : w.heap.size ≤ G) : Avo w b G := by
  intro i A n c hi hs hn b' o e
  obtain ⟨A1, n1, c1, e1, ⟨⟨_, _, _, s4⟩, _⟩, _⟩ := h.s i hi
  rw [e1] at hs; cases hs
  obtain ⟨b2, o2, e2, hlt, _⟩ := s4 hn
  rw [e] at e2; cases e2; omega
theorem Avo.self (h : Tab w g b M at_ op sets k D) : Avo w b b := by
  intro i A n c hi hs hn b' o e
  obtain ⟨A1, n1, c1, e1, ⟨_, s5⟩, _⟩ := h.s i hi
  rw [e1] at hs; cases hs
  exact (s5 b' o e).1
/-- the cells of a row may be written -/
def RowN (w : World) (G n : Nat) : Prop := ∀ j, j < n * 3 → (∃ u, w.cell? ⟨G, j, none⟩ = some u) ∧ w.frozen? ⟨G, j, none⟩ = false
theorem RowN.block {n : Nat} (h : RowN w G n) (hb : w1.heap[G]? = w.heap[G]?) : RowN w1 G n := fun j hj => by
  obtain ⟨⟨u, hu⟩, hf⟩ := h j hj
  refine ⟨⟨u, (World.cell?_of_block (a := ⟨G, j, none⟩) hb).trans hu⟩, ?_⟩
  unfold World.frozen? at hf ⊢
  rw [hb]; exact hf
theorem RowN.set {n : Nat} (h : RowN w G n) {i : Nat} (hi : i < n * 3) (v : Value) : RowN (w.setCell ⟨G, i, none⟩ v) G n := fun j hj => by
  obtain ⟨⟨u, hu⟩, hf⟩ := h j hj
  refine ⟨?_, by rw [World.frozen?_setCell]; exact hf⟩
  by_cases e : j = i
  · subst e; exact ⟨v, World.cell?_setCell_same _ _ _ hu⟩
  · exact ⟨u, (World.cell?_setCell_other _ _ _ _ (neA (by omega))).trans hu⟩
theorem set_grown (w : World) (G j : Nat) (v : Value) : w.grownBy (w.setCell ⟨G, j, none⟩ v) (some G) := ⟨rfl, rfl, rfl, by rw [setSize]; exact Nat.le_refl _, fun j _ hj => Below.heap_setCell _ _ _ j (fun e => hj (by rw [e]))⟩
theorem own_alt (h : Tab w g b M at_ op sets k D) (hb : Below w.heap.size w w1) {e : TypeId} {v : Value} {n : Nat} {xs : List W3} (ho : w1.ownsRow w.heap.size e 3 v n (cW xs)) :
    ∃ A c G, v = .slice A n c ∧ SlF w1 b M A n c xs ∧ G < w1.heap.size ∧ Avo w1 b G ∧ (0 < n → A = some ⟨G, 0, none⟩ ∧ w.heap.size ≤ G ∧ RowN w1 G n) := by
  obtain ⟨hl1, hl2⟩ := h.lts
  obtain ⟨A, c, hv, hs⟩ := SlF.of_own ho hl1 hl2
  rcases ho.2 with ⟨hv2, hn⟩ | ⟨G, cap, cur, hv2, hg, hh, hnc, _, hsz, _⟩
  · exact ⟨A, c, b, hv, hs, Nat.lt_of_lt_of_le hl1 hb.size, Avo.self (h.below hb), fun h0 => by omega⟩
  · rw [hv2] at hv; cases hv
    refine ⟨_, _, G, hv2, hs, (Array.getElem?_eq_some_iff.1 hh).1, (Avo.new h hg).below hl1 hb, fun _ => ⟨rfl, hg, fun j hj => ⟨?_, frozen_of_row _ _ j _ _ hh⟩⟩⟩
    have hjs : j < cur.size := by
      have := Nat.mul_le_mul_right 3 hnc
      omega
    exact ⟨cur[j], (cell_of_row _ _ j _ _ _ hh).trans (Array.getElem?_eq_getElem hjs)⟩
/-- what Set answers is the caller's own -/
theorem tset_own (h : Tab w g b M at_ op sets k D) {i : Nat} (hi : i < 8) (ho : op i = true) : Calls Try.prog 28 #[PT g, .int .i64 i] w fun e w' => (∃ v, e = .returned (.tuple #[v, .bool true]) ∧ w'.ownsRow w.heap.size 50 3 v (sets i).length (cW (sets i))) ∧ Below w.heap.size w w' := by
  have H := Lib.hid h; clear h
  have i1 : (0 : Int) ≤ (i : Int) := by omega
  have i2 : (i : Int) < 8 := by omega
  go_enter Try.func28, Try.ntmps28
  go_wp2_with fail
  refine (tat_in H.out hi).mono ?_
  rintro e w1 ⟨rfl, hb1⟩
  rw [ho]
  have HB := Lib.hid hb1
  have h1 := H.out.below hb1
  have c0 := h1.t
  obtain ⟨A0, n0, m0, c1, hs, hr, hl⟩ := h1.s i hi
  have HS := Lib.hid hs
  have HLN := Lib.hid (slW_len hs.1)
  have hn0 : n0 ≤ 16 := by rw [← slW_len hs.1]; exact hl
  clear hb1 h1 hs hr hl
  go_wp2_with fail
  refine (clone_any HS.out.1 (by omega)).mono ?_
  rintro e w2 ⟨v, rfl, ho2, hb2⟩
  have HO2 := Lib.hid (ownsRow_base ho2 HB.out.size)
  have HB2 := Lib.hid (bt HB.out hb2)
  clear ho2 hb2 c0 c1
  go_wp2
  go_returns
  exact ⟨⟨_, rfl, by rw [HLN.out]; exact HO2.out⟩, HB2.out⟩
end
end Go.Proofs.Yteaaeeidbjklbaa
