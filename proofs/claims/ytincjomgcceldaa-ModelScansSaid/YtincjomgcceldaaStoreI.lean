/- Stores: one more. -/
import Derived.Test.YtincjomgcceldaaStoreH
namespace Go.Proofs.Ytincjomgcceldaa
open Go.RowKit

def addC (xs : List Cm) (ys : List W3) : List Cm := if 60000 ≤ lastC xs then xs else xs ++ [⟨lastC xs + 1, ys⟩]
def addE (xs : List Cm) : Int := if 60000 ≤ lastC xs then 10 else 0

/-- the end of both: a commit laid behind a row -/
theorem commit_end {w w2 w3 : World} {base e n m : Nat} {v : Value} {vs : List CmV} {xs : List Cm} {ys : List W3} {A2 : Option Addr} {c2 g cap : Nat} {t : TypeId} {s : Int}
    (ho : w2.ownsRow base e 2 v n (cV vs)) (ht : Tells w2 vs xs) (hf : Far v vs) (hok : okStamp s) (hs : SlW w2 A2 m c2 ys) (hfm : 0 < m → ∀ b o, A2 = some ⟨b, o, none⟩ → v.ownBlock ≠ some b) (hb : Below w.heap.size w w2) (hbase : base = w.heap.size)
    (hgrow : (w2.alloc (.cells #[.int .u64 s, .slice A2 m c2] t)).grownBy w3 v.ownBlock) (hat : v.ownBlock = some g ∨ g = w2.heap.size + 1)
    (ho3 : w3.ownsRow base e 2 (.slice (some ⟨g, 0, none⟩) (n + 1) cap) (n + 1) (cV vs ++ [.int .u64 s, .slice A2 m c2])) :
    SlC w3 (some ⟨g, 0, none⟩) (n + 1) cap (xs ++ [⟨s, ys⟩]) ∧ Below w.heap.size w w3 := by
  subst hbase
  have hbe := (Below.refl w2.heap.size w2).alloc (Nat.le_refl _) (.cells #[.int .u64 s, .slice A2 m c2] t)
  have hca := commit_app (x := ⟨s, ys⟩) (m := ⟨s, A2, m, c2⟩) (n := n + 1) (cap := cap) (ht.below hbe) hf hgrow rfl hok (hs.below hbe) hfm (g := g) (by simpa using hat)
  refine ⟨⟨vs ++ [⟨s, A2, m, c2⟩], ?_, hca.1⟩, (hb.alloc hb.size _).grown hgrow (by have := hb.size; simp; omega) (own_ge ho)⟩
  obtain ⟨A, c, hv, hsl⟩ := Sl.of_own ho3
  cases hv
  rw [cV_append]; exact hsl

set_option maxRecDepth 100000 in
set_option maxHeartbeats 4000000 in
theorem add_any {A B : Option Addr} {n c m d : Nat} {xs : List Cm} {ys : List W3} {w : World} (h : SlC w A n c xs) (h' : SlW w B m d ys) (hn : n ≤ 31) (hmm : m ≤ 60) :
    Calls Try.prog 15 #[.slice A n c, .slice B m d] w fun e w' => ∃ A' n' c', e = .returned (.tuple #[.slice A' n' c', .int .i64 (addE xs)]) ∧ SlC w' A' n' c' (addC xs ys) ∧ Below w.heap.size w w' := by
  have hm := slC_max h
  have hd := sl_max h'
  have hk := lastC_ok h
  obtain ⟨hk1, hk2⟩ := hk
  obtain ⟨i0, hi, hz0, hz1, hz2⟩ := info_parts info_C
  have HI := Lib.hid hi; have HZ0 := Lib.hid hz0; have HZ1 := Lib.hid hz1; have HZ2 := Lib.hid hz2; clear hi hz0 hz1 hz2
  have HS := Lib.hid h; have HW := Lib.hid h'; clear h h'
  have HA := Lib.hid (again_any HS.out (by omega))
  go_enter Try.func15, Try.ntmps15
  go_wp2_with fail
  refine HA.out.mono ?_
  rintro e w1 ⟨v, vs, rfl, ho, ht, hlies, hb⟩
  have HO := Lib.hid ho; have HT := Lib.hid ht; have HLI := Lib.hid hlies; have HB := Lib.hid hb; clear ho ht hlies hb HA
  have HLast := Lib.hid (fun (W : World) (hW : Below w.heap.size w W) => last_any (HS.out.below hW))
  by_cases hend : 60000 ≤ lastC xs
  · go_wp2_with fail
    refine (HLast.out _ HB.out).mono ?_
    rintro e w2 ⟨rfl, rfl⟩
    go_wp2
    go_ret2
    obtain ⟨A', c', rfl, hs⟩ := SlC.of_own HO.out HT.out
    refine ⟨A', n, c', by rw [addE, if_pos hend]; rfl, by rw [addC, if_pos hend]; exact hs, HB.out⟩
  · go_wp2_with fail
    refine (HLast.out _ HB.out).mono ?_
    rintro e w2 ⟨rfl, rfl⟩
    have hlt : lastC xs < 60000 := by omega
    have HC := Lib.hid (clone_any (HW.out.below HB.out) (by omega))
    go_wp2_with fail
    refine (HLast.out _ HB.out).mono ?_
    rintro e w2 ⟨rfl, rfl⟩
    go_wp2_with fail
    refine HC.out.mono ?_
    rintro e w2 ⟨v2, rfl, ho2, hb2⟩
    obtain ⟨A2, c2, rfl, hs2, hfr⟩ := own_val ho2
    have HB2 := Lib.hid (bt HB.out hb2)
    have HO2 := Lib.hid (own_below HO.out hb2)
    have HT2 := Lib.hid (HT.out.below hb2)
    have HS2 := Lib.hid hs2
    have HFR := Lib.hid hfr
    have HOL := Lib.hid (own_lt HO.out)
    have HF := Lib.hid (show Far v vs from fun x hx h0 b o e hv => by
      have h1 := HLI.out x hx h0 b o e
      have h2 := own_ge HO.out b hv
      omega)
    clear ho2 hb2 hs2 hfr
    go_wp2_with (at_builtin; refine wpList_append_lies _ rfl _ _ 29 rfl w.heap.size 72 i0 (.agg #[.int .u64 0, .slice none 0 0]) 2 32 Try.underlying29 HI.out HZ0.out HZ1.out HZ2.out rfl (by decide) v n (cV vs) rfl (HO2.out.alloc _) ⟨w2.heap.size, 0, none⟩ 1 1 [.int .u64 (lastC xs + 1), .slice A2 m c2] rfl rfl ?c1 ?c2 (by omega) ?c3 ?c4 ?c5 (w2.heap.size + 1) (by simp) ?_)
    case c1 => exact new2 _ _ _ _ rfl
    case c2 => exact oneC ⟨lastC xs + 1, A2, m, c2⟩
    case c3 => unfold maxLen; omega
    case c4 => omega
    case c5 => have := HB2.out.size; simp; omega
    intro g cap w3 hown3 hgrow3 hat3 hlt3
    obtain ⟨hs3, hb3⟩ := commit_end (s := lastC xs + 1) (ys := ys) HO2.out HT2.out HF.out ⟨by omega, by omega⟩ HS2.out (fun _ b o e hv => by
      have h1 := (HFR.out b o e).1
      have h2 := HOL.out b hv
      omega) HB2.out rfl hgrow3 hat3 hown3
    have HS3 := Lib.hid hs3; have HB3 := Lib.hid hb3
    clear hgrow3 hat3 hown3 hs3 hb3
    go_wp2
    go_ret2
    have hno : ¬ 60000 ≤ lastC xs := by omega
    exact ⟨some ⟨g, 0, none⟩, n + 1, cap, by rw [addE, if_neg hno]; rfl, by rw [addC, if_neg hno]; exact HS3.out, HB3.out⟩

set_option maxRecDepth 100000 in
set_option maxHeartbeats 4000000 in
theorem radd_any {A B : Option Addr} {n c m d : Nat} {xs : List Cm} {ys : List W3} {w : World} (h : SlC w A n c xs) (h' : SlW w B m d ys) (hn : n ≤ 31) :
    Calls Try.prog 17 #[.slice A n c, .slice B m d] w fun e w' => ∃ A' n' c', e = .returned (.tuple #[.slice A' n' c', .int .i64 (addE xs)]) ∧ SlC w' A' n' c' (addC xs ys) ∧ Below w.heap.size w w' := by
  have hm := slC_max h
  have hd := sl_max h'
  have hk := lastC_ok h
  obtain ⟨hk1, hk2⟩ := hk
  obtain ⟨i0, hi, hz0, hz1, hz2⟩ := info_parts info_RC
  have HI := Lib.hid hi; have HZ0 := Lib.hid hz0; have HZ1 := Lib.hid hz1; have HZ2 := Lib.hid hz2; clear hi hz0 hz1 hz2
  have HS := Lib.hid h; have HW := Lib.hid h'; clear h h'
  have HLast := Lib.hid (fun (W : World) (hW : Below w.heap.size w W) => rlast_any (HS.out.below hW))
  obtain ⟨vs, hsl, hts⟩ := HS.out
  have HSL := Lib.hid hsl; have HTS := Lib.hid hts; clear hsl hts
  go_enter Try.func17, Try.ntmps17
  by_cases hend : 60000 ≤ lastC xs
  · go_wp2_with fail
    refine (HLast.out _ (Below.refl _ _)).mono ?_
    rintro e w2 ⟨rfl, rfl⟩
    go_wp2
    go_ret2
    exact ⟨A, n, c, by rw [addE, if_pos hend]; rfl, by rw [addC, if_pos hend]; exact HS.out, Below.refl _ _⟩
  · go_wp2_with fail
    refine (HLast.out _ (Below.refl _ _)).mono ?_
    rintro e w2 ⟨rfl, rfl⟩
    have hlt : lastC xs < 60000 := by omega
    go_wp2_with (at_builtin; refine wpList_append_sl _ rfl _ _ 22 rfl w.heap.size 62 i0 (.agg #[.int .u64 0, .slice none 0 0]) 2 32 Try.underlying22 HI.out HZ0.out HZ1.out HZ2.out rfl (by decide) _ 0 [] rfl (ownsRow_empty w w.heap.size _ _ (Nat.le_refl _)) A n c (cV vs) rfl (HSL.out.below ((Below.refl w.heap.size w).alloc (Nat.le_refl _) _)) (one_cV vs) ?c3 ?c4 ?c5 ?_)
    case c3 => unfold maxLen; omega
    case c4 => omega
    case c5 => simp
    intro v w1 hown1 hg1
    have hb1 : Below w.heap.size w w1 := ((Below.refl w.heap.size w).alloc (Nat.le_refl _) _).grown hg1 (by simp) (fun k hk => by simp [Value.ownBlock] at hk; omega)
    have HB := Lib.hid hb1
    have HO := Lib.hid (show w1.ownsRow w.heap.size 62 2 v n (cV vs) by simpa using hown1)
    have HT := Lib.hid (HTS.out.below hb1)
    have HF := Lib.hid (show Far v vs from fun x hx h0 b o e hv => by
      have h1 := HTS.out.lies x hx h0 b o e
      have h2 := own_ge HO.out b hv
      omega)
    have HWL := Lib.hid (show 0 < m → ∀ b o, B = some ⟨b, o, none⟩ → v.ownBlock ≠ some b from fun h0 b o e hv => by
      obtain ⟨b', o', e', hlt', _⟩ := HW.out.2.2.2 h0
      rw [e] at e'; cases e'
      have h2 := own_ge HO.out b hv
      omega)
    clear hown1 hg1 hb1
    go_wp2_with fail
    refine (HLast.out _ HB.out).mono ?_
    rintro e w2 ⟨rfl, rfl⟩
    go_wp2_with (at_builtin; refine wpList_append_lies _ rfl _ _ 22 rfl w.heap.size 62 i0 (.agg #[.int .u64 0, .slice none 0 0]) 2 32 Try.underlying22 HI.out HZ0.out HZ1.out HZ2.out rfl (by decide) v n (cV vs) rfl (HO.out.alloc _) ⟨w1.heap.size, 0, none⟩ 1 1 [.int .u64 (lastC xs + 1), .slice B m d] rfl rfl ?d1 ?d2 (by omega) ?d3 ?d4 ?d5 (w1.heap.size + 1) (by simp) ?_)
    case d1 => exact new2 _ _ _ _ rfl
    case d2 => exact oneC ⟨lastC xs + 1, B, m, d⟩
    case d3 => unfold maxLen; omega
    case d4 => omega
    case d5 => have := HB.out.size; simp; omega
    intro g cap w3 hown3 hgrow3 hat3 hlt3
    obtain ⟨hs3, hb3⟩ := commit_end (s := lastC xs + 1) (ys := ys) HO.out HT.out HF.out ⟨by omega, by omega⟩ (HW.out.below HB.out) HWL.out HB.out rfl hgrow3 hat3 hown3
    have HS3 := Lib.hid hs3; have HB3 := Lib.hid hb3
    clear hgrow3 hat3 hown3 hs3 hb3
    go_wp2
    go_ret2
    have hno : ¬ 60000 ≤ lastC xs := by omega
    exact ⟨some ⟨g, 0, none⟩, n + 1, cap, by rw [addE, if_neg hno]; rfl, by rw [addC, if_neg hno]; exact HS3.out, HB3.out⟩
end Go.Proofs.Ytincjomgcceldaa
