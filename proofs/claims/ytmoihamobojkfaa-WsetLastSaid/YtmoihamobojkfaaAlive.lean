/- The walk of 'alive' of layer 15: it answers true. -/
import Derived.Test.YtmoihamobojkfaaSumB
namespace Go.Proofs.Ytmoihamobojkfaa
open Go.RowKit

theorem Sl.lit (w : World) (cs : Array Value) (t sz n : Nat) (hs : cs.size = n * sz) (hn : n ≤ maxLen) {g : Nat} (hg : g = w.heap.size) : Sl (w.alloc (.cells cs t)) sz (some ⟨g, 0, none⟩) n n cs.toList := by
  subst hg
  refine ⟨by simpa using hs, Nat.le_refl _, hn, fun _ => ⟨_, 0, rfl, by simp, fun j u hu => ?_⟩⟩
  rw [Nat.zero_add, cell_of_row _ _ j _ _ (0, 0) (heap_alloc_new w _)]; simpa using hu

theorem pc1 (w : World) : Calls Try.prog 19 #[.slice none 0 0, .agg #[.string ⟨#[99]⟩, .string ⟨#[51]⟩, .bool false]] w fun e w' =>
    ∃ A c, e = .returned (.tuple #[.slice A 1 c, .int .i64 0]) ∧ SlW w' A 1 c [wC] ∧ Below w.heap.size w w' := by
  have h := put_sl (Sl.nil_ w 3 : SlW w none 0 0 []) wC rise_nil (by omega)
  rw [put1] at h
  refine h.mono fun e w' ⟨A, n, c, he, hs, hb⟩ => ?_
  have : 1 = n := slW_len hs
  subst this
  exact ⟨A, c, he, hs, hb⟩
theorem pc2 {A : Option Addr} {c : Nat} {w : World} (h : SlW w A 1 c [wC]) : Calls Try.prog 19 #[.slice A 1 c, .agg #[.string ⟨#[97]⟩, .string ⟨#[]⟩, .bool true]] w fun e w' =>
    ∃ A c, e = .returned (.tuple #[.slice A 2 c, .int .i64 0]) ∧ SlW w' A 2 c [wA, wC] ∧ Below w.heap.size w w' := by
  have h := put_sl h wA rise1 (by omega)
  rw [put2] at h
  refine h.mono fun e w' ⟨A, n, c, he, hs, hb⟩ => ?_
  have : 2 = n := slW_len hs
  subst this
  exact ⟨A, c, he, hs, hb⟩
theorem pc3 {A : Option Addr} {c : Nat} {w : World} (h : SlW w A 2 c [wA, wC]) : Calls Try.prog 19 #[.slice A 2 c, .agg #[.string ⟨#[97]⟩, .string ⟨#[120]⟩, .bool true]] w fun e w' =>
    ∃ A n c, e = .returned (.tuple #[.slice A n c, .int .i64 2]) ∧ Below w.heap.size w w' := by
  have h := put_sl h ⟨kA, tX, true⟩ rise2 (by omega)
  rw [put3] at h
  exact h.mono fun e w' ⟨A, n, c, he, hs, hb⟩ => ⟨A, n, c, he, hb⟩
theorem gc1 {A : Option Addr} {c : Nat} {w : World} (h : SlW w A 2 c [wA, wC]) : Calls Try.prog 22 #[.slice A 2 c, .string ⟨#[99]⟩] w fun e w' =>
    e = .returned (.tuple #[.agg #[.string ⟨#[99]⟩, .string ⟨#[51]⟩, .bool false], .bool true]) ∧ Below w.heap.size w w' := by
  have h := get_any h kC rise2 (by omega)
  rw [lookC] at h
  exact h
theorem oc1 {A B : Option Addr} {c d : Nat} {w : World} (h : SlP w A 2 c [⟨kA, t1⟩, ⟨kB, t2⟩]) (h' : SlW w B 2 d [wA, wC]) : Calls Try.prog 14 #[.slice A 2 c, .slice B 2 d] w fun e w' =>
    ∃ A c, e = .returned (.slice A 2 c) ∧ SlP w' A 2 c [⟨kB, t2⟩, ⟨kC, t3⟩] ∧ Below w.heap.size w w' := by
  have h := over_sl h h' (by omega) (by omega)
  rw [over1] at h
  refine h.mono fun e w' ⟨A, n, c, he, hs, hb⟩ => ?_
  have : 2 = n := slP_len hs
  subst this
  exact ⟨A, c, he, hs, hb⟩
theorem mc1 {A : Option Addr} {c : Nat} {w : World} (h : SlW w A 2 c [wA, wC]) : Calls Try.prog 23 #[.slice A 2 c, .slice A 2 c] w fun e w' => e = .returned (.bool true) ∧ Below w.heap.size w w' := by
  have h := meet_any h h rise2 (by omega)
  rw [meet1] at h
  exact h
theorem mc2 {A : Option Addr} {c : Nat} {w : World} (h : SlW w A 2 c [wA, wC]) : Calls Try.prog 23 #[.slice A 2 c, .slice none 0 0] w fun e w' => e = .returned (.bool false) ∧ Below w.heap.size w w' := by
  have h := meet_any h (Sl.nil_ w 3 : SlW w none 0 0 []) rise_nil (by omega)
  rw [meet2] at h
  exact h

set_option maxRecDepth 100000 in
set_option maxHeartbeats 1000000 in
theorem alive_any (w : World) : Calls Try.prog 9 #[] w fun e w' => e = .returned (.bool true) ∧ Below w.heap.size w w' := by
  go_enter Try.func9, Try.ntmps9
  go_wp2_with fail
  refine (pc1 _).mono ?_
  rintro e w1 ⟨A1, c1, rfl, hs1, hb1⟩
  go_wp2_with fail
  refine (pc2 hs1).mono ?_
  rintro e w2 ⟨A2, c2, rfl, hs2, hb2⟩
  have hb2 := bt hb1 hb2
  clear hb1 hs1
  go_wp2_with fail
  refine (gc1 hs2).mono ?_
  rintro e w3 ⟨rfl, hb3⟩
  have hs3 := hs2.below hb3
  have hb3 := bt hb2 hb3
  clear hb2 hs2
  have HS := Lib.hid hs3
  have HB := Lib.hid hb3
  clear hs3 hb3
  go_wp2_with fail
  have hb4 := (HB.out.alloc HB.out.size (.cells #[.string ⟨#[99]⟩, .string ⟨#[51]⟩, .bool false] 45))
  have hb5 := hb4.alloc hb4.size (.cells #[.string ⟨#[97]⟩, .string ⟨#[49]⟩, .string ⟨#[98]⟩, .string ⟨#[50]⟩] 55)
  have hk4 : Blk (w3.alloc (.cells #[.string ⟨#[99]⟩, .string ⟨#[51]⟩, .bool false] 45)) w3.heap.size 45 #[.string ⟨#[99]⟩, .string ⟨#[51]⟩, .bool false] := Blk.new _ _ _
  have hk5 := hk4.alloc (.cells #[.string ⟨#[97]⟩, .string ⟨#[49]⟩, .string ⟨#[98]⟩, .string ⟨#[50]⟩] 55)
  have hs5 := (HS.out.below ((Below.refl w3.heap.size w3).alloc (Nat.le_refl _) (.cells #[.string ⟨#[99]⟩, .string ⟨#[51]⟩, .bool false] 45))).below ((Below.refl _ _).alloc (Nat.le_refl _) (.cells #[.string ⟨#[97]⟩, .string ⟨#[49]⟩, .string ⟨#[98]⟩, .string ⟨#[50]⟩] 55))
  refine (oc1 (Sl.lit _ _ _ 2 2 rfl (by simp [maxLen]) (by simp)) hs5).mono ?_
  rintro e w6 ⟨A6, c6, rfl, hp6, hb6⟩
  have HS6 := Lib.hid (hs5.below hb6); have HP6 := Lib.hid hp6; have HB6 := Lib.hid (bt hb5 hb6); have HK6 := Lib.hid (hk5.later hb6)
  clear hb4 hb5 hk4 hk5 hs5 hp6 hb6
  go_wp2_with fail
  refine (pc3 HS6.out).mono ?_
  rintro e w7 ⟨A7, n7, c7, rfl, hb7⟩
  have HS7 := Lib.hid (HS6.out.below hb7); have HP7 := Lib.hid (HP6.out.below hb7); have HB7 := Lib.hid (bt HB6.out hb7); have HK7 := Lib.hid (HK6.out.later hb7)
  clear hb7
  have d0 := HK7.out.cell (i := 0) (v := .string ⟨#[99]⟩) rfl
  have d1 := HK7.out.cell (i := 1) (v := .string ⟨#[51]⟩) rfl
  have d2 := HK7.out.cell (i := 2) (v := .bool false) rfl
  obtain ⟨b, o, x, rfl, hbw, hx, u0, u1, u2⟩ := slW_get HS7.out (k := 0) (by omega)
  have hx : wA = x := by simpa using hx
  subst hx
  obtain ⟨b', o', y, rfl, hbw', hy, v0, v1⟩ := slP_get HP7.out (k := 0) (by omega)
  have hy : (⟨kB, t2⟩ : P2) = y := by simpa using hy
  subst hy
  obtain ⟨v4, v2, v3⟩ := slP_at HP7.out (k := 1) (x := ⟨kC, t3⟩) rfl
  have e2 : w7.cell? ⟨b, o + 2, none⟩ = some (.bool true) := by rw [show o + 2 = o + 0 * 3 + 2 from by omega]; exact u2
  have f0 : w7.cell? ⟨b', o', none⟩ = some (.string ⟨#[98]⟩) := by rw [show o' = o' + 0 * 2 from by omega]; exact v0
  have f2 : w7.cell? ⟨b', o' + 2, none⟩ = some (.string ⟨#[99]⟩) := v2
  have f3 : w7.cell? ⟨b', o' + 2 + 1, none⟩ = some (.string ⟨#[51]⟩) := v3
  clear u0 u1 u2 v0 v1 v2 v3 v4
  go_wp2_with fail
  refine (mc1 HS7.out).mono ?_
  rintro e w8 ⟨rfl, hb8⟩
  have HS8 := Lib.hid (HS7.out.below hb8); have HB8 := Lib.hid (bt HB7.out hb8)
  clear hb8 d0 d1 d2 e2 f0 f2 f3
  go_wp2_with fail
  refine (mc2 HS8.out).mono ?_
  rintro e w9 ⟨rfl, hb9⟩
  have HB9 := Lib.hid (bt HB8.out hb9)
  clear hb9
  go_wp2
  go_ret
  exact ⟨rfl, HB9.out⟩
end Go.Proofs.Ytmoihamobojkfaa
