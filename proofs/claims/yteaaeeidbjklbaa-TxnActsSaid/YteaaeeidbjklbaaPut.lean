/- Walks: the program's Put. -/
import Derived.Test.YteaaeeidbjklbaaAppend
import Derived.Test.YteaaeeidbjklbaaMeet
import Derived.Test.YteaaeeidbjklbaaRight
namespace Go.Proofs.Yteaaeeidbjklbaa
open Go.RowKit

/-- what Put answers: the set, the error's number -/
def putW (s : List W3) (w : W3) : List W3 × Int :=
  if rightB w = false then (s, 2) else if (look W3.key w.key s).isSome = true then (ins W3.key s w, 0) else if 16 ≤ s.length then (s, 3) else (ins W3.key s w, 0)

theorem putW_wrong {s : List W3} {w : W3} (h : rightB w = false) : putW s w = (s, 2) := if_pos h
theorem putW_set {s : List W3} {w : W3} (h : rightB w = true) (hr : Rise W3.key s) (hl : (look W3.key w.key s).isSome = true) : putW s w = (s.set (pos W3.key s w.key) w, 0) := by
  unfold putW; rw [if_neg (by rw [h]; simp), if_pos hl, ins_set hr hl]
theorem putW_big {s : List W3} {w : W3} (h : rightB w = true) (hl : (look W3.key w.key s).isSome = false) (h16 : 16 ≤ s.length) : putW s w = (s, 3) := by
  unfold putW; rw [if_neg (by rw [h]; simp), if_neg (by rw [hl]; simp), if_pos h16]
theorem putW_new {s : List W3} {w : W3} (h : rightB w = true) (hl : (look W3.key w.key s).isSome = false) (h16 : ¬ 16 ≤ s.length) : putW s w = (s.take (pos W3.key s w.key) ++ w :: s.drop (pos W3.key s w.key), 0) := by
  unfold putW; rw [if_neg (by rw [h]; simp), if_neg (by rw [hl]; simp), if_neg h16, ins_new (by simpa using hl)]

/-- a box of three cells, that may be written -/
def Box3 (w : World) (b : Nat) (x y z : Value) : Prop :=
  b < w.heap.size ∧ w.cell? ⟨b, 0, none⟩ = some x ∧ w.cell? ⟨b, 1, none⟩ = some y ∧ w.cell? ⟨b, 2, none⟩ = some z ∧
    w.frozen? ⟨b, 0, none⟩ = false ∧ w.frozen? ⟨b, 1, none⟩ = false ∧ w.frozen? ⟨b, 2, none⟩ = false
theorem Box3.new {w w1 : World} {a b c : Value} {t : TypeId} (hb : Below (w.alloc (.cells #[a, b, c] t)).heap.size (w.alloc (.cells #[a, b, c] t)) w1) : Box3 w1 w.heap.size a b c := by
  obtain ⟨h1, h⟩ := kept3 hb
  exact ⟨by omega, h⟩
theorem Box3.below {w w1 : World} {b : Nat} {x y z : Value} (h : Box3 w b x y z) (hb : Below w.heap.size w w1) : Box3 w1 b x y z := by
  obtain ⟨h0, c0, c1, c2, f0, f1, f2⟩ := h
  have hc : ∀ j, w1.cell? ⟨b, j, none⟩ = w.cell? ⟨b, j, none⟩ := fun j => hb.cell (p := ⟨b, j, none⟩) h0
  have hf : ∀ j, w1.frozen? ⟨b, j, none⟩ = w.frozen? ⟨b, j, none⟩ := fun j => hb.frozen (p := ⟨b, j, none⟩) h0
  exact ⟨Nat.lt_of_lt_of_le h0 hb.size, (hc 0).trans c0, (hc 1).trans c1, (hc 2).trans c2, (hf 0).trans f0, (hf 1).trans f1, (hf 2).trans f2⟩

set_option maxRecDepth 100000 in
/-- a slice that the call made: read as a list -/
theorem put_any {A : Option Addr} {n c : Nat} {xs : List W3} {w : World} (h : SlW w A n c xs) (x : W3) (hr : Rise W3.key xs) (hn : n ≤ 65536) :
    Calls Try.prog 42 #[.slice A n c, .agg #[.string x.key, .string x.text, .bool x.gone]] w fun e w' =>
      ∃ v, e = .returned (.tuple #[v, .int .i64 (putW xs x).2]) ∧ w'.ownsRow w.heap.size 50 3 v (putW xs x).1.length (cW (putW xs x).1) ∧ Below w.heap.size w w' := by
  have hm := sl_max h
  have hl := Lib.hid (slW_len h)
  have HS := Lib.hid h
  have HR := Lib.hid hr
  clear h hr
  go_enter Try.func42, Try.ntmps42
  go_wp2_with fail
  refine (right_any x _).mono ?_
  rintro e w1 ⟨rfl, hb1⟩
  have hbx := Box3.new hb1
  have hb := bt ((Below.refl w.heap.size w).alloc (Nat.le_refl _) _) hb1
  have HB := Lib.hid hb; clear hb1 hb
  have HX := Lib.hid hbx
  cases hri : rightB x with
  | false =>
    have HP := Lib.hid (putW_wrong (s := xs) hri)
    have HC := Lib.hid (clone_any (HS.out.below HB.out) hn)
    clear hri hbx
    go_wp2_with fail
    refine HC.out.mono ?_
    rintro e w2 ⟨v, rfl, hown, hb2⟩
    have HO := Lib.hid hown; have HB2 := Lib.hid hb2; clear hown hb2
    go_wp2
    go_ret2
    refine ⟨v, by rw [HP.out]; rfl, ?_, bt HB.out HB2.out⟩
    rw [HP.out, hl.out]; exact ownsRow_base HO.out HB.out.size
  | true =>
    have HRI := Lib.hid hri; clear hri
    have HC := Lib.hid (find_any (HS.out.below HB.out) x.key HR.out hn)
    obtain ⟨hlt, c0, c1, c2, f0, f1, f2⟩ := hbx
    go_wp2_with fail
    clear c0 c1 c2 f0 f1 f2 hlt
    refine HC.out.mono ?_
    rintro e w2 ⟨rfl, hb2⟩
    have hbx := HX.out.below hb2
    have hb := bt HB.out hb2
    clear HB HX hb2 HC
    have HB := Lib.hid hb; have HX := Lib.hid hbx; clear hb hbx
    have hpos := pos_le (f := W3.key) xs x.key
    rw [hl.out] at hpos
    cases hlk : (look W3.key x.key xs).isSome with
    | true =>
      have HP := Lib.hid (putW_set HRI.out HR.out hlk)
      have HC := Lib.hid (clone_any (HS.out.below HB.out) hn)
      have hlt : pos W3.key xs x.key < n := by
        rcases Nat.lt_or_ge (pos W3.key xs x.key) n with h | h
        · exact h
        · rw [look_end (by rw [hl.out]; omega)] at hlk; cases hlk
      generalize pos W3.key xs x.key = q at *
      have HL := Lib.hid hlk
      go_wp2_with fail
      refine HC.out.mono ?_
      rintro e w3 ⟨v, rfl, hown, hb3⟩
      obtain ⟨g, cap, rfl, hg, hg2⟩ := own_form hown (by omega)
      have HO := Lib.hid hown
      have hbx := HX.out.below hb3
      have hb := bt HB.out hb3
      have HBB := Lib.hid hb
      have HZ := Lib.hid HB.out.size
      have hgw : w.heap.size ≤ g := Nat.le_trans HB.out.size hg
      have hcell := fun j hj => hown.cellAt j hj
      have hfr := fun j => hown.frozenAt j
      obtain ⟨y, hy⟩ : ∃ y, xs[q]? = some y := ⟨_, List.getElem?_eq_getElem (by rw [hl.out]; exact hlt)⟩
      obtain ⟨e0, e1, e2⟩ := cW_get hy
      have k0 := (hcell (q * 3) (by omega)).trans e0
      have k1 := (hcell (q * 3 + 1) (by omega)).trans e1
      have k2 := (hcell (q * 3 + 2) (by omega)).trans e2
      have g0 := hfr (q * 3); have g1 := hfr (q * 3 + 1); have g2 := hfr (q * 3 + 2)
      obtain ⟨hlt2, c0, c1, c2, f0, f1, f2⟩ := hbx
      have hne : ¬ w.heap.size = g := by have := HX.out.1; omega
      have hqi : (0 : Int) ≤ (q : Int) := by omega
      have hqn : (q : Int) < n := by omega
      clear hcell hfr hown hb3 hb hy e0 e1 e2 HX HB HC
      go_wp2
      go_ret2
      refine ⟨_, by rw [HP.out]; rfl, ?_, ((HBB.out.setCell (p := ⟨g, q * 3, none⟩) hgw _).setCell (p := ⟨g, q * 3 + 1, none⟩) hgw _).setCell (p := ⟨g, q * 3 + 2, none⟩) hgw _⟩
      have s2 := (((HO.out.stored (q * 3) (.string x.key)).1.stored (q * 3 + 1) (.string x.text)).1.stored (q * 3 + 2) (.bool x.gone)).1
      rw [HP.out]
      show World.ownsRow _ _ _ _ _ (xs.set q x).length (cW (xs.set q x))
      rw [List.length_set, hl.out, cW_set _ _ _ (by rw [hl.out]; exact hlt)]
      exact ownsRow_base s2 HZ.out
    | false =>
      have HL := Lib.hid hlk; clear hlk
      by_cases h16 : 16 ≤ n
      · have HP := Lib.hid (putW_big HRI.out HL.out (by rw [hl.out]; exact h16))
        have HC := Lib.hid (clone_any (HS.out.below HB.out) hn)
        generalize pos W3.key xs x.key = q at *
        go_wp2_with fail
        refine HC.out.mono ?_
        rintro e w3 ⟨v, rfl, hown, hb3⟩
        have HO := Lib.hid hown; have HB3 := Lib.hid hb3; clear hown hb3
        go_wp2
        go_ret2
        refine ⟨v, by rw [HP.out]; rfl, ?_, bt HB.out HB3.out⟩
        rw [HP.out, hl.out]; exact ownsRow_base HO.out HB.out.size
      · have HP := Lib.hid (putW_new HRI.out HL.out (by rw [hl.out]; exact h16))
        have ht := HS.out.below HB.out
        have hT := ht.take hpos
        have hD := ht.drop hpos
        rw [← cW_take] at hT
        rw [← cW_drop] at hD
        generalize hB : (if c = pos W3.key xs x.key then A else A.map (fun x_1 => x_1.add (pos W3.key xs x.key * 3))) = B at hD
        have HBq := Lib.hid hB; clear hB
        have HT := Lib.hid hT; have HD := Lib.hid hD; clear ht hT hD
        generalize pos W3.key xs x.key = q at *
        obtain ⟨i0, hi, hz0, hz1, hz2⟩ := info_parts info_W
        have HI := Lib.hid hi; have HZ0 := Lib.hid hz0; have HZ1 := Lib.hid hz1; have HZ2 := Lib.hid hz2; clear hi hz0 hz1 hz2
        obtain ⟨hlt, c0, c1, c2, f0, f1, f2⟩ := HX.out
        go_wp2_with (at_make; refine wpList_make_own _ rfl _ _ 52 rfl w2.heap.size 50 i0 (.agg #[.string ⟨#[]⟩, .string ⟨#[]⟩, .bool false]) 3 Try.underlying52 HI.out HZ0.out HZ1.out _ _ _ (n + 1) rfl rfl (by omega) ?m1 ?m2 ?m3 ?_)
        case m1 => rw [HZ2.out]; omega
        case m2 => unfold maxLen; omega
        case m3 => exact Nat.le_refl _
        intro w3 hown hg
        have HO3 := Lib.hid hown
        have hb3 := (Below.refl w2.heap.size w2).grown hg (Nat.le_refl _) (fun k hk => by cases hk)
        have HB3 := Lib.hid hb3
        obtain ⟨hlt, c0, c1, c2, f0, f1, f2⟩ := HX.out.below hb3
        clear hown hg hb3
        go_wp2_with (at_builtin; refine wpList_append_sl _ rfl (.tmp 39) (.tmp 42) 52 rfl w2.heap.size 50 i0 (.agg #[.string ⟨#[]⟩, .string ⟨#[]⟩, .bool false]) 3 40 Try.underlying52 HI.out HZ0.out HZ1.out HZ2.out rfl (by decide) _ 0 [] rfl HO3.out A q c (cW (xs.take q)) rfl (HT.out.below HB3.out) (one_cW _) ?a1 ?a2 ?a3 ?_)
        case a1 => unfold maxLen; omega
        case a2 => omega
        case a3 => exact HB3.out.size
        intro v4 w4 hown hg
        have hb4 := HB3.out.grown hg HB3.out.size (own_ge HO3.out)
        have HO4 := Lib.hid hown
        have HB4 := Lib.hid hb4
        obtain ⟨hlt, c0, c1, c2, f0, f1, f2⟩ := HX.out.below hb4
        clear hown hg hb4
        go_wp2_with (at_builtin; refine wpList_append_own _ rfl (.tmp 44) (.tmp 46) 52 rfl w2.heap.size 50 i0 (.agg #[.string ⟨#[]⟩, .string ⟨#[]⟩, .bool false]) 3 40 Try.underlying52 HI.out HZ0.out HZ1.out HZ2.out rfl (by decide) _ _ _ rfl (HO4.out.alloc _) ⟨w4.heap.size, 0, none⟩ 1 1 [.string x.key, .string x.text, .bool x.gone] rfl rfl ?d1 ?d2 ?d3 ?d4 ?d5 ?_)
        case d1 => exact new3 _ _ _ _ _ rfl
        case d2 => exact one3 _ _ _
        case d3 => unfold maxLen; omega
        case d4 => omega
        case d5 => have := HB4.out.size; simp; omega
        intro v5 w5 hown hg _
        have hb5 := (HB4.out.alloc HB4.out.size _).grown hg (by have := HB4.out.size; simp; omega) (own_ge HO4.out)
        have HO5 := Lib.hid hown
        have HB5 := Lib.hid hb5
        clear hown hg hb5
        have hqi : (0 : Int) ≤ (q : Int) := by omega
        have hqn : (q : Int) ≤ n := by omega
        have hBq := HBq.out
        go_wp2_with (at_builtin; refine wpList_append_sl _ rfl (.tmp 48) (.tmp 51) 52 rfl w2.heap.size 50 i0 (.agg #[.string ⟨#[]⟩, .string ⟨#[]⟩, .bool false]) 3 40 Try.underlying52 HI.out HZ0.out HZ1.out HZ2.out rfl (by decide) _ _ _ rfl HO5.out _ _ _ (cW (xs.drop q)) rfl (HD.out.below HB5.out) (one_cW _) ?e1 ?e2 ?e3 ?_)
        case e1 => unfold maxLen; omega
        case e2 => omega
        case e3 => exact HB5.out.size
        intro v6 w6 hown hg
        have hb6 := HB5.out.grown hg HB5.out.size (own_ge HO5.out)
        have HO6 := Lib.hid hown
        have HB6 := Lib.hid hb6
        clear hown hg hb6
        go_wp2
        go_ret2
        refine ⟨v6, by rw [HP.out]; rfl, ?_, bt HB.out HB6.out⟩
        rw [HP.out]
        show World.ownsRow _ _ _ _ _ (xs.take q ++ x :: xs.drop q).length (cW (xs.take q ++ x :: xs.drop q))
        have e : (xs.take q ++ x :: xs.drop q).length = q + 1 + (n - q) := by
          rw [List.length_append, List.length_cons, List.length_take, List.length_drop, hl.out]; omega
        have e' : cW (xs.take q ++ x :: xs.drop q) = cW (xs.take q) ++ .string x.key :: .string x.text :: .bool x.gone :: cW (xs.drop q) := by
          rw [cW_append]; rfl
        rw [e, e']
        exact ownsRow_base HO6.out HB.out.size
end Go.Proofs.Yteaaeeidbjklbaa
