/- The walk of 'alive' of layer 16: it answers true. -/
import Derived.Test.YtincjomgcceldaaStoreI
namespace Go.Proofs.Ytincjomgcceldaa
open Go.RowKit

theorem Sl.lit (w : World) (cs : Array Value) (t sz n : Nat) (hs : cs.size = n * sz) (hn : n ≤ maxLen) {g : Nat} (hg : g = w.heap.size) : Sl (w.alloc (.cells cs t)) sz (some ⟨g, 0, none⟩) n n cs.toList := by
  subst hg
  refine ⟨by simpa using hs, Nat.le_refl _, hn, fun _ => ⟨_, 0, rfl, by simp, fun j u hu => ?_⟩⟩
  rw [Nat.zero_add, cell_of_row _ _ j _ _ (0, 0) (heap_alloc_new w _)]; simpa using hu
theorem klt_lit (a b : ByteArray) (v : Bool) (h : Op.bytesLess a.data.toList b.data.toList = v) : klt a b = v := by
  unfold klt; rw [Lib.toList_data, Lib.toList_data]; exact h
def kA : ByteArray := ⟨#[97]⟩
def kB : ByteArray := ⟨#[98]⟩
def tX : ByteArray := ⟨#[120]⟩
def tY : ByteArray := ⟨#[121]⟩
def nil0 : ByteArray := ⟨#[]⟩
theorem ab : klt kA kB = true := klt_lit _ _ _ rfl
theorem ne_ab : kA ≠ kB := klt_ne ab
/-- the sets and the stores of 'alive' -/
def sA : List W3 := [⟨kA, tX, false⟩]
def sB : List W3 := [⟨kA, nil0, true⟩, ⟨kB, tY, false⟩]
def sC : List W3 := [⟨kB, nil0, false⟩]
def st1 : List Cm := [⟨1, sA⟩]
def st2 : List Cm := [⟨1, sA⟩, ⟨2, sB⟩]
theorem addE1 : addE [] = 0 := rfl
theorem addC1 : addC [] sA = st1 := rfl
theorem addE2 : addE st1 = 0 := rfl
theorem addC2 : addC st1 sB = st2 := rfl
theorem last2 : lastC st2 = 2 := rfl
theorem riseA : Rise W3.key sA := rise_cons.2 ⟨by simp, rise_nil⟩
theorem riseC0 : Rise W3.key sC := rise_cons.2 ⟨by simp, rise_nil⟩
theorem riseB0 : Rise W3.key sB := rise_cons.2 ⟨by intro y hy; simp at hy; subst hy; exact ab, rise_cons.2 ⟨by simp, rise_nil⟩⟩
theorem sets2 : ∀ c ∈ st2, Rise W3.key c.set := by
  intro c hc; simp [st2] at hc; rcases hc with rfl | rfl
  · exact riseA
  · exact riseB0
theorem len2 : ∀ c ∈ st2, c.set.length ≤ 60 := by
  intro c hc; simp [st2] at hc; rcases hc with rfl | rfl <;> simp [sA, sB]
theorem lookA : look W3.key kA sA = some ⟨kA, tX, false⟩ := by unfold sA; rw [look_cons, if_pos rfl]
theorem lookB : look W3.key kA sB = some ⟨kA, nil0, true⟩ := by unfold sB; rw [look_cons, if_pos rfl]
theorem hist1 : hist st2 kA 1 = some ⟨kA, tX, false⟩ := by
  show histS 1 kA (histS 1 kA none ⟨1, sA⟩) ⟨2, sB⟩ = _
  unfold histS; rw [if_neg (show ¬ (2 : Int) ≤ 1 by omega), if_pos (show (1 : Int) ≤ 1 by omega), lookA]
theorem hist2 : hist st2 kA 2 = some ⟨kA, nil0, true⟩ := by
  show histS 2 kA (histS 2 kA none ⟨1, sA⟩) ⟨2, sB⟩ = _
  unfold histS; rw [if_pos (show (2 : Int) ≤ 2 by omega), lookB]
theorem ovA : ov [] sA = [⟨kA, tX⟩] := by unfold sA; rw [ov_none, ov_nil]; rfl
theorem ovB : ov [⟨kA, tX⟩] sB = [⟨kB, tY⟩] := by unfold sB; rw [ov_eq _ _ _ _ rfl, ov_none, ov_nil]; rfl
theorem scan2 : scanC st2 2 = [⟨kB, tY⟩] := by
  have h : scanC st2 2 = ov (ov [] sA) sB := rfl
  rw [h, ovA, ovB]
theorem meetBC : meetB sB sC = true := by
  unfold meetB sB sC
  rw [List.any_cons, List.any_cons, look_cons, look_cons, if_pos (show (W3.mk kB nil0 false).key = (W3.mk kB tY false).key from rfl)]
  simp
theorem clash1 : clashB st2 sC 1 = true := by
  unfold clashB st2
  rw [List.any_cons, List.any_cons, meetBC]; simp
theorem clash2 : clashB st2 sC 2 = false := by
  unfold clashB st2
  rw [List.any_cons, List.any_cons, List.any_nil]; simp

set_option maxRecDepth 100000 in
set_option maxHeartbeats 4000000 in
theorem alive_any (w : World) : Calls Try.prog 10 #[] w fun e w' => e = .returned (.bool true) ∧ Below w.heap.size w w' := by
  go_enter Try.func10, Try.ntmps10
  go_wp2_with fail
  have hb0 := (Below.refl w.heap.size w).alloc (Nat.le_refl _) (.cells #[.string ⟨#[97]⟩, .string ⟨#[120]⟩, .bool false] 70)
  refine (add_any (xs := []) (ys := sA) (SlC.nil_ _) (Sl.lit w #[.string ⟨#[97]⟩, .string ⟨#[120]⟩, .bool false] _ 3 1 rfl (by simp [maxLen]) rfl) (by omega) (by omega)).mono ?_
  rintro e w1 ⟨A1, n1, c1, rfl, hs1, hb1⟩
  rw [addC1] at hs1
  obtain rfl : 1 = n1 := slC_len hs1
  rw [addE1]
  have HS1 := Lib.hid hs1; have HB1 := Lib.hid (bt hb0 hb1)
  clear hs1 hb1 hb0
  go_wp2_with fail
  have hb2 := (Below.refl w1.heap.size w1).alloc (Nat.le_refl _) (.cells #[.string ⟨#[97]⟩, .string ⟨#[]⟩, .bool true, .string ⟨#[98]⟩, .string ⟨#[121]⟩, .bool false] 70)
  refine (add_any (xs := st1) (ys := sB) (HS1.out.below hb2) (Sl.lit w1 #[.string ⟨#[97]⟩, .string ⟨#[]⟩, .bool true, .string ⟨#[98]⟩, .string ⟨#[121]⟩, .bool false] _ 3 2 rfl (by simp [maxLen]) rfl) (by omega) (by omega)).mono ?_
  rintro e w3 ⟨A3, n3, c3, rfl, hs3, hb3⟩
  rw [addC2] at hs3
  obtain rfl : 2 = n3 := slC_len hs3
  rw [addE2]
  have HS3 := Lib.hid hs3; have HB3 := Lib.hid (bt HB1.out (bt hb2 hb3))
  clear hs3 hb3 hb2
  go_wp2_with fail
  refine (read_any HS3.out kA 1 sets2 len2).mono ?_
  rintro e w4 ⟨rfl, hb4⟩
  rw [hist1, show rdT (some ⟨kA, tX, false⟩) = ⟨#[120]⟩ from rfl, show rdB (some ⟨kA, tX, false⟩) = true from rfl]
  have HS4 := Lib.hid (HS3.out.below hb4); have HB4 := Lib.hid (bt HB3.out hb4)
  clear hb4
  go_wp2_with fail
  refine (read_any HS4.out kA 2 sets2 len2).mono ?_
  rintro e w5 ⟨rfl, hb5⟩
  rw [hist2, show rdT (some ⟨kA, nil0, true⟩) = ⟨#[]⟩ from rfl, show rdB (some ⟨kA, nil0, true⟩) = false from rfl]
  have HS5 := Lib.hid (HS4.out.below hb5); have HB5 := Lib.hid (bt HB4.out hb5)
  clear hb5
  go_wp2_with fail
  refine (scan_any HS5.out 2 len2 (by omega)).mono ?_
  rintro e w6 ⟨A6, n6, c6, rfl, hp6, hb6⟩
  rw [scan2] at hp6
  obtain rfl : 1 = n6 := slP_len hp6
  have HS6 := Lib.hid (HS5.out.below hb6); have HB6 := Lib.hid (bt HB5.out hb6)
  obtain ⟨b, o, y, rfl, hbw, hy, v0, v1⟩ := slP_get hp6 (k := 0) (by omega)
  have hy : (⟨kB, tY⟩ : P2) = y := by simpa using hy
  subst hy
  have f0 : w6.cell? ⟨b, o, none⟩ = some (.string ⟨#[98]⟩) := by rw [show o = o + 0 * 2 from by omega]; exact v0
  have f1 : w6.cell? ⟨b, o + 1, none⟩ = some (.string ⟨#[121]⟩) := by rw [show o + 1 = o + 0 * 2 + 1 from by omega]; exact v1
  clear hb6 v0 v1 hp6
  go_wp2_with fail
  refine (last_any HS6.out).mono ?_
  rintro e w7 ⟨rfl, rfl⟩
  rw [last2]
  clear f0 f1
  go_wp2_with fail
  have hb8 := (Below.refl w6.heap.size w6).alloc (Nat.le_refl _) (.cells #[.string ⟨#[98]⟩, .string ⟨#[]⟩, .bool false] 70)
  refine (clash_any (xs := st2) (ys := sC) (HS6.out.below hb8) (Sl.lit w6 #[.string ⟨#[98]⟩, .string ⟨#[]⟩, .bool false] _ 3 1 rfl (by simp [maxLen]) rfl) 1 riseC0 (by omega)).mono ?_
  rintro e w8 ⟨rfl, hb9⟩
  rw [clash1]
  have HS8 := Lib.hid (HS6.out.below (bt hb8 hb9)); have HB8 := Lib.hid (bt HB6.out (bt hb8 hb9))
  clear hb8 hb9
  go_wp2_with fail
  have hb8 := (Below.refl w8.heap.size w8).alloc (Nat.le_refl _) (.cells #[.string ⟨#[98]⟩, .string ⟨#[]⟩, .bool false] 70)
  refine (clash_any (xs := st2) (ys := sC) (HS8.out.below hb8) (Sl.lit w8 #[.string ⟨#[98]⟩, .string ⟨#[]⟩, .bool false] _ 3 1 rfl (by simp [maxLen]) rfl) 2 riseC0 (by omega)).mono ?_
  rintro e w9 ⟨rfl, hb9⟩
  rw [clash2]
  have HB9 := Lib.hid (bt HB8.out (bt hb8 hb9))
  clear hb8 hb9
  go_wp2
  go_ret
  exact ⟨rfl, HB9.out⟩
end Go.Proofs.Ytincjomgcceldaa
