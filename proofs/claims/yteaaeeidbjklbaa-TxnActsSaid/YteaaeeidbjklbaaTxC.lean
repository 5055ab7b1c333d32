/- A table: Set, Write. -/
import Derived.Test.YteaaeeidbjklbaaTxB
namespace Go.Proofs.Yteaaeeidbjklbaa
open Go.RowKit Go.Maps
section
variable {w w1 : World} {g b M : Nat} {at_ : Nat → Int} {op : Nat → Bool} {sets : Nat → List W3} {k : Nat} {D : DataW Unit}
theorem Tab.lts (h : Tab w g b M at_ op sets k D) : b < w.heap.size ∧ M < w.heap.size := ⟨h.wt.lt, h.own.lt⟩
theorem tset_closed (h : Tab w g b M at_ op sets k D) {i : Nat} (hi : i < 8) (ho : op i = false) : Calls Try.prog 28 #[PT g, .int .i64 i] w fun e w' => e = .returned (.tuple #[.slice none 0 0, .bool false]) ∧ Below w.heap.size w w' := by
  have H := Lib.hid h; clear h
  go_enter Try.func28, Try.ntmps28
  go_wp2_with fail
  refine (tat_in H.out hi).mono ?_
  rintro e w1 ⟨rfl, hb1⟩
  rw [ho]
  have HB := Lib.hid hb1; clear hb1
  go_wp2
  go_returns
  exact ⟨rfl, HB.out⟩
theorem tset_open (h : Tab w g b M at_ op sets k D) {i : Nat} (hi : i < 8) (ho : op i = true) : Calls Try.prog 28 #[PT g, .int .i64 i] w fun e w' => (∃ A n c, e = .returned (.tuple #[.slice A n c, .bool true]) ∧ SlF w' b M A n c (sets i)) ∧ Below w.heap.size w w' := by
  have H := Lib.hid h; clear h
  have i1 : (0 : Int) ≤ (i : Int) := by omega
  have i2 : (i : Int) < 8 := by omega
  go_enter Try.func28, Try.ntmps28
  go_wp2_with fail
  refine (tat_in H.out hi).mono ?_
  rintro e w1 ⟨rfl, hb1⟩
  rw [ho]
  have HB := Lib.hid hb1
  have h1 := H.out.below hb1
  have c0 := h1.t
  obtain ⟨A0, n0, m0, c1, hs, hr, hl⟩ := h1.s i hi
  have HS := Lib.hid hs
  obtain ⟨hb0, hM0⟩ := h1.lts
  have hn0 : n0 ≤ 16 := by rw [← slW_len hs.1]; exact hl
  clear hb1 h1 hs hr hl
  go_wp2_with fail
  refine (clone_any HS.out.1 (by omega)).mono ?_
  rintro e w2 ⟨v, rfl, ho2, hb2⟩
  obtain ⟨A2, c2, rfl, hs2⟩ := SlF.of_own ho2 hb0 hM0
  have HS2 := Lib.hid hs2
  have HB2 := Lib.hid (bt HB.out hb2)
  clear ho2 hs2 hb2 c0 c1
  go_wp2
  go_returns
  exact ⟨⟨_, _, _, rfl, HS2.out⟩, HB2.out⟩
theorem write_out (h : Tab w g b M at_ op sets k D) {id : Int} (hi : id < 0 ∨ 8 ≤ id) (x : W3) : Calls Try.prog 21 #[PT g, .int .i64 id, .agg #[.string x.key, .string x.text, .bool x.gone]] w fun e w' => e = .returned (.int .i64 7) ∧ Below w.heap.size w w' := by
  have hbe := (Below.refl w.heap.size w).alloc (Nat.le_refl _) (.cells #[.string x.key, .string x.text, .bool x.gone] 50)
  have H := Lib.hid (h.below hbe); have HI := Lib.hid hi; have HBE := Lib.hid hbe; clear h hi hbe
  go_enter Try.func21, Try.ntmps21
  go_wp2_with fail
  refine (none_no H.out).mono ?_
  rintro e w1 ⟨rfl, hb1⟩
  have H1 := Lib.hid (H.out.below hb1); have HB := Lib.hid (bt HBE.out hb1); clear hb1
  have c0 := H1.out.t
  go_wp2_with fail
  refine (at_out b HI.out _).mono ?_
  rintro e w2 ⟨rfl, hb2⟩
  have HB2 := Lib.hid (bt HB.out hb2); clear hb2 c0
  go_wp2
  go_ret
  exact ⟨rfl, HB2.out⟩
theorem write_no (h : Tab w g b M at_ op sets k D) {i : Nat} (hi : i < 8) (ho : op i = false) (x : W3) : Calls Try.prog 21 #[PT g, .int .i64 i, .agg #[.string x.key, .string x.text, .bool x.gone]] w fun e w' => e = .returned (.int .i64 7) ∧ Below w.heap.size w w' := by
  have hbe := (Below.refl w.heap.size w).alloc (Nat.le_refl _) (.cells #[.string x.key, .string x.text, .bool x.gone] 50)
  have H := Lib.hid (h.below hbe); have HBE := Lib.hid hbe; clear h hbe
  go_enter Try.func21, Try.ntmps21
  go_wp2_with fail
  refine (none_no H.out).mono ?_
  rintro e w1 ⟨rfl, hb1⟩
  have H1 := Lib.hid (H.out.below hb1); have HB := Lib.hid (bt HBE.out hb1); clear hb1
  have c0 := H1.out.t
  go_wp2_with fail
  refine (wat_in H1.out.wt hi).mono ?_
  rintro e w2 ⟨rfl, hb2⟩
  rw [ho]
  have HB2 := Lib.hid (bt HB.out hb2); clear hb2 c0
  go_wp2
  go_ret
  exact ⟨rfl, HB2.out⟩
theorem putW_len16 {s : List W3} {x : W3} (hr : Rise W3.key s) (h : s.length ≤ 16) : (putW s x).1.length ≤ 16 := by
  unfold putW; split
  · exact h
  · split <;> rename_i h1
    · rw [length_ins hr, if_pos h1]; exact h
    · split <;> rename_i h2
      · exact h
      · rw [length_ins hr, if_neg h1]; simp at h2 ⊢; omega
theorem putW_rise {s : List W3} {x : W3} (hr : Rise W3.key s) : Rise W3.key (putW s x).1 := by
  unfold putW; split
  · exact hr
  · split
    · exact rise_ins hr x
    · split
      · exact hr
      · exact rise_ins hr x
theorem putW_keep {s : List W3} {x : W3} (h : (putW s x).2 ≠ 0) : (putW s x).1 = s := by
  unfold putW at *; split at h <;> rename_i h0
  · rw [if_pos h0]
  · rw [if_neg h0]; split at h <;> rename_i h1
    · exact absurd rfl h
    · rw [if_neg h1]; split at h <;> rename_i h2
      · rw [if_pos h2]
      · exact absurd rfl h
theorem upd_same' {α : Type} (v : Nat → α) (f : Nat) : upd v f (v f) = v := by
  funext j
  by_cases e : j = f
  · subst e; rw [upd_same]
  · rw [upd_other e]
set_option maxHeartbeats 2000000 in
theorem write_yes (h : Tab w g b M at_ op sets k D) {i : Nat} (hi : i < 8) (ho : op i = true) (x : W3) : Calls Try.prog 21 #[PT g, .int .i64 i, .agg #[.string x.key, .string x.text, .bool x.gone]] w fun e w' => e = .returned (.int .i64 (putW (sets i) x).2) ∧ Tab w' g b M at_ op (upd sets i (putW (sets i) x).1) k D ∧ Chg b M w w' := by
  have hbe := (Below.refl w.heap.size w).alloc (Nat.le_refl _) (.cells #[.string x.key, .string x.text, .bool x.gone] 50)
  have H := Lib.hid (h.below hbe); have HBE := Lib.hid hbe; clear h hbe
  have HK0 := Lib.hid (heap_alloc_new w (.cells #[.string x.key, .string x.text, .bool x.gone] 50))
  have i1 : (0 : Int) ≤ (i : Int) := by omega
  have i2 : (i : Int) < 8 := by omega
  go_enter Try.func21, Try.ntmps21
  go_wp2_with fail
  refine (none_no H.out).mono ?_
  rintro e w1 ⟨rfl, hb1⟩
  have H1 := Lib.hid (H.out.below hb1); have HB := Lib.hid (bt HBE.out hb1)
  have HK1 := Lib.hid ((hb1.block w.heap.size (by simp)).trans HK0.out)
  clear hb1
  have c0 := H1.out.t
  go_wp2_with fail
  refine (wat_in H1.out.wt hi).mono ?_
  rintro e w2 ⟨rfl, hb2⟩
  rw [ho]
  have h2 := H1.out.below hb2
  have H2 := Lib.hid h2
  have HB2 := Lib.hid (bt HB.out hb2)
  have HK2 := Lib.hid ((hb2.block w.heap.size (Array.getElem?_eq_some_iff.1 HK1.out).1).trans HK1.out)
  obtain ⟨A0, n0, m0, e1, hs, hr, hl⟩ := h2.s i hi
  have HS := Lib.hid hs; have HR := Lib.hid hr; have HL := Lib.hid hl
  obtain ⟨hb0, hM0⟩ := h2.lts
  have hn0 : n0 ≤ 16 := by rw [← slW_len hs.1]; exact hl
  have HE := Lib.hid e1
  clear hb2 h2 hs hr hl c0 e1
  have p0 : w2.drew.cell? ⟨g, 0, none⟩ = some (.pointer (some ⟨b, 0, none⟩)) := H2.out.t
  have p1 : w2.drew.cell? ⟨b, 49 + i, none⟩ = some (.slice A0 n0 m0) := HE.out
  have p2 : w2.drew.cell? ⟨w.heap.size, 0, none⟩ = some (.string x.key) := cell_of_row w2 w.heap.size 0 _ _ _ HK2.out
  have p3 : w2.drew.cell? ⟨w.heap.size, 1, none⟩ = some (.string x.text) := cell_of_row w2 w.heap.size 1 _ _ _ HK2.out
  have p4 : w2.drew.cell? ⟨w.heap.size, 2, none⟩ = some (.bool x.gone) := cell_of_row w2 w.heap.size 2 _ _ _ HK2.out
  have hgl : g < w2.drew.heap.size := H2.out.gl
  have hbl : b < w2.drew.heap.size := hb0
  have hxl : w.heap.size < w2.drew.heap.size := (Array.getElem?_eq_some_iff.1 HK2.out).1
  have HPU := Lib.hid (put_any (w := w2.drew) (HS.out.1.below (Below.refl _ _).drew) x HR.out (by omega))
  go_wp2_with fail
  go_region_held3 (fun w' => w'.cell? ⟨g, 0, none⟩ = some (.pointer (some ⟨b, 0, none⟩)) ∧ w'.cell? ⟨b, 49 + i, none⟩ = some (.slice A0 n0 m0) ∧ w'.cell? ⟨w.heap.size, 0, none⟩ = some (.string x.key) ∧ w'.cell? ⟨w.heap.size, 1, none⟩ = some (.string x.text) ∧ w'.cell? ⟨w.heap.size, 2, none⟩ = some (.bool x.gone))
    (first | exact ⟨p0, p1, p2, p3, p4⟩ | exact ⟨(hb3.cell (p := ⟨g, 0, none⟩) hgl).trans p0, (hb3.cell (p := ⟨b, 49 + i, none⟩) hbl).trans p1, (hb3.cell (p := ⟨w.heap.size, 0, none⟩) hxl).trans p2, (hb3.cell (p := ⟨w.heap.size, 1, none⟩) hxl).trans p3, (hb3.cell (p := ⟨w.heap.size, 2, none⟩) hxl).trans p4⟩)
    ((go_at_call 42; refine HPU.out.mono ?_; rintro e w3 ⟨v, rfl, ho3, hb3⟩))
  obtain ⟨A3, c3, rfl, hs3⟩ := SlF.of_own ho3 (show b < w2.drew.heap.size from hb0) (show M < w2.drew.heap.size from hM0)
  have h3 := (H2.out.below ((Below.refl _ _).drew)).below hb3
  have HB3 := Lib.hid ((bt HB2.out (Below.refl _ w2).drew).trans (hb3.mono (by have := HB2.out.size; exact this)))
  have HT3 := Lib.hid h3
  have HP3 := Lib.hid (h3.set hi hs3 (putW_rise HR.out) (putW_len16 HR.out HL.out))
  obtain ⟨A4, n4, m4, e4, _⟩ := h3.s i hi
  have c0 := h3.t
  have f4 := h3.wt.fr (49 + i)
  clear ho3 hs3 hb3 p0 p1 p2 p3 p4 hgl hbl hxl HPU h3
  by_cases hz : (putW (sets i) x).2 = 0
  · rw [hz]
    go_wp2
    go_ret
    exact ⟨by rw [hz]; rfl, HP3.out.1, (Chg.of_below HB3.out).trans HP3.out.2⟩
  · have hne : ((putW (sets i) x).2 != 0) = true := by simpa using hz
    have HKP := Lib.hid (putW_keep hz)
    go_wp2
    go_ret
    refine ⟨rfl, ?_, Chg.of_below HB3.out⟩
    rw [HKP.out, upd_same']
    exact HT3.out
end
end Go.Proofs.Yteaaeeidbjklbaa
