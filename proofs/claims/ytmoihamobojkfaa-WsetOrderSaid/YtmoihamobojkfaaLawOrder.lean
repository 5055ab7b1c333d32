/- The walk of the law WsetOrder: it answers true, whatever comes in. -/
import Derived.Test.YtmoihamobojkfaaCounts
import Derived.Test.YtmoihamobojkfaaAlive
import Derived.Deep.AppendLies
namespace Go.Proofs.Ytmoihamobojkfaa
open Go.RowKit

open Go.Maps
theorem okByte_of {n : Int} (h : (Lit.int .u8 n).wf = true) : 0 ≤ n ∧ n ≤ 255 := by
  simp [Lit.wf] at h
  have e1 : IntKind.u8.min = 0 := rfl
  have e2 : IntKind.u8.max = 255 := rfl
  rw [e1, e2] at h
  exact h
theorem few_key {ys : List W3} {x : W3} (h : fewB ys = true) (hx : x ∈ ys) : x.key.size ≤ maxLen := by
  unfold fewB at h
  rw [Bool.and_eq_true, List.all_eq_true] at h
  have h6 := h.1 x hx
  unfold shortW at h6
  simp at h6
  unfold maxLen; omega

set_option maxRecDepth 100000 in
set_option maxHeartbeats 2000000 in
theorem lawOrder_any {A : Option Addr} {n c : Nat} {xs : List W3} {w : World} (h : SlW w A n c xs) {at_ : Int} (h' : (Lit.int .u8 at_).wf = true) :
    Calls Try.prog 6 #[.slice A n c, .int .u8 at_] w fun e w' => e = .returned (.bool true) ∧ Below w.heap.size w w' := by
  have hmm := @run_makeMap Try.prog
  obtain ⟨hat1, hat2⟩ := okByte_of h'
  clear h'
  have h_m := sl_max h
  have hl := Lib.hid (slW_len h)
  have HS := Lib.hid h; clear h
  go_enter Try.func6, Try.ntmps6
  go_wp2_with fail
  refine (alive_any _).mono ?_
  rintro e w1 ⟨rfl, hb1⟩
  have HB1 := Lib.hid (hb1)
  clear hb1
  go_wp2_with fail
  refine (few_any (HS.out.below HB1.out)).mono ?_
  rintro e w2 ⟨rfl, hb2⟩
  have HB2 := Lib.hid (bt HB1.out hb2)
  clear hb2
  cases hf : fewB xs with
  | false =>
    go_wp2
    go_ret
    exact ⟨rfl, HB2.out⟩
  | true =>
  have HFW := Lib.hid hf; clear hf
  by_cases hn16 : n ≤ 16
  case neg =>
    have hn17 : (16 : Int) < n := by omega
    go_wp2
    go_ret
    exact ⟨rfl, HB2.out⟩
  by_cases hn0 : 0 < n
  case neg =>
    obtain rfl : n = 0 := by omega
    go_wp2
    go_ret
    exact ⟨rfl, HB2.out⟩
  have hnI : (0 : Int) < n := by omega
  have hnz : ¬ (n : Int) = 0 := by omega
  have hd1 : decide ((16 : Int) < n) = false := decide_eq_false (by omega)
  have hd2 : ((n : Int) == 0) = false := by simpa using hnz
  go_wp2
  go_loopw [30] (fun i wr => ∃ (k : Nat) (D : DataW Unit), k ≤ n ∧ i = .int .i64 k ∧ wr.ownsMap Try.prog 9 (plainElem Try.prog 3) w2.heap.size k D ∧ CntB D (xs.take k) ∧ KD (xs.take k) ∧ Below w2.heap.size w2 wr) (fun i _ => n - (intOf i).toNat)
  case atStart => exact ⟨0, _, Nat.zero_le _, rfl, World.ownsMap_made _ _ _ _, cntB_start, kd_nil, (Below.refl _ _).alloc (Nat.le_refl _) _⟩
  case round =>
    obtain ⟨k, D, hk, rfl, hown, hcnt, hkd, hb⟩ := hrel
    have HO := Lib.hid hown; have HC := Lib.hid hcnt; have HBB := Lib.hid hb; have HKD := Lib.hid hkd; clear hown hcnt hb hkd
    by_cases hlt : k < n
    · obtain ⟨b, o, x, hA, hbw, hx, h0, h1, h2⟩ := slW_get (HS.out.below (bt HB2.out HBB.out)) hlt
      subst hA
      have HX := Lib.hid hx; clear hx
      have hkz : x.key.size ≤ maxLen := few_key HFW.out (List.mem_of_getElem? HX.out)
      have HK := Lib.hid (Blk.new wr 41 #[.string x.key, .string x.text, .bool x.gone])
      have HNE := Lib.hid (show some wr.heap.size ≠ some w2.heap.size from fun e => by injection e with e; have := HO.out.lt; omega)
      have HBE := Lib.hid ((Below.refl wr.heap.size wr).alloc (Nat.le_refl _) (.cells #[.string x.key, .string x.text, .bool x.gone] 41))
      cases hlk : (look W3.key x.key (xs.take k)).isSome with
      | true =>
        have HC1 := Lib.hid (fun (c : Int) (hat : D.atKey (.string x.key.data.toList) (.lit (.int .i64 0)) = .lit (.int .i64 c)) => show c = 1 by have := cntB_at HC.out x.key hat; rw [hlk] at this; simpa using this)
        clear hlk
        go_wp2_with (first
          | (at_lookup; refine wpList_lookup_own_int _ rfl _ _ 51 rfl 9 3 .i64 strKey Try.underlying51 Try.underlying3 (zeroInt _) w2.heap.size k _ rfl (HO.out.alloc _) _ _ rfl (WideMaps.keyOf_string_mk Try.underlying9 hkz) ?_; intro c hat hwc; obtain rfl := HC1.out c hat; clear hat hwc)
          | (at_mapUpdate; refine wpList_mapUpdate_own _ rfl _ _ _ 51 rfl 9 3 strKey Try.underlying51 _ w2.heap.size k _ rfl (HO.out.alloc _) (by unfold maxLen; omega) _ _ _ rfl rfl (WideMaps.keyOf_string_mk Try.underlying9 hkz) _ [] (plainElem_int Try.underlying3 (WalkArith.wf_i64 (by omega))) ?_; intro w1 hown1 hgrow1; have k1 := (hgrow1.cell_far ⟨wr.heap.size, 0, none⟩ (by simp) HNE.out).trans (HK.out.cell (i := 0) (v := .string x.key) rfl))
          | (at_lookup; refine wpList_lookup_own_int _ rfl _ _ 51 rfl 9 3 .i64 strKey Try.underlying51 Try.underlying3 (zeroInt _) w2.heap.size (k + 1) _ rfl (hown1) _ _ rfl (WideMaps.keyOf_string_mk Try.underlying9 hkz) ?_; intro c hat hwc; obtain rfl := put_at x.key HO.out.isMap hat; clear hat hwc))
        go_wp2
        go_ret
        exact ⟨rfl, bt HB2.out (((HBB.out.alloc HBB.out.size _)).grown hgrow1 (by have := HBB.out.size; simp; omega) (fun j hj => by cases hj; exact Nat.le_refl _))⟩
      | false =>
        have HC1 := Lib.hid (fun (c : Int) (hat : D.atKey (.string x.key.data.toList) (.lit (.int .i64 0)) = .lit (.int .i64 c)) => show c = 0 by have := cntB_at HC.out x.key hat; rw [hlk] at this; simpa using this)
        have HLN := Lib.hid (show look W3.key x.key (xs.take k) = none by simpa using hlk)
        clear hlk
        go_wp2_with (first
          | (at_lookup; refine wpList_lookup_own_int _ rfl _ _ 51 rfl 9 3 .i64 strKey Try.underlying51 Try.underlying3 (zeroInt _) w2.heap.size k _ rfl (HO.out.alloc _) _ _ rfl (WideMaps.keyOf_string_mk Try.underlying9 hkz) ?_; intro c hat hwc; obtain rfl := HC1.out c hat; clear hat hwc)
          | (at_mapUpdate; refine wpList_mapUpdate_own _ rfl _ _ _ 51 rfl 9 3 strKey Try.underlying51 _ w2.heap.size k _ rfl (HO.out.alloc _) (by unfold maxLen; omega) _ _ _ rfl rfl (WideMaps.keyOf_string_mk Try.underlying9 hkz) _ [] (plainElem_int Try.underlying3 (WalkArith.wf_i64 (by omega))) ?_; intro w1 hown1 hgrow1; have k1 := (hgrow1.cell_far ⟨wr.heap.size, 0, none⟩ (by simp) HNE.out).trans (HK.out.cell (i := 0) (v := .string x.key) rfl))
          | (at_lookup; refine wpList_lookup_own_int _ rfl _ _ 51 rfl 9 3 .i64 strKey Try.underlying51 Try.underlying3 (zeroInt _) w2.heap.size (k + 1) _ rfl (hown1) _ _ rfl (WideMaps.keyOf_string_mk Try.underlying9 hkz) ?_; intro c hat hwc; obtain rfl := put_at x.key HO.out.isMap hat; clear hat hwc))
        go_wp2
        go_roundw
        case rel => exact ⟨k + 1, _, by omega, by go_num, hown1, by rw [take_at HX.out]; exact cntB_step HC.out HO.out.isMap HLN.out, by rw [take_at HX.out]; exact kd_snoc HKD.out HLN.out, (HBB.out.alloc HBB.out.size _).grown hgrow1 (by have := HBB.out.size; simp; omega) (fun j hj => by cases hj; exact Nat.le_refl _)⟩
        case measure => simp [intOf]; omega
    · obtain rfl : k = n := by omega
      rename World => w7
      have HKX := Lib.hid (show KD xs by have := HKD.out; rwa [List.take_of_length_le (by rw [hl.out]; exact Nat.le_refl _)] at this)
      have HB7 := Lib.hid (bt HB2.out HBB.out)
      clear HKD HC HO HBB
      obtain ⟨t, ht, htk⟩ : ∃ t : Nat, at_.tmod (k : Int) = (t : Int) ∧ t < k := by
        obtain ⟨a, rfl⟩ : ∃ a : Nat, at_ = (a : Int) := ⟨at_.toNat, by omega⟩
        exact ⟨a % k, by rw [← Int.ofNat_tmod], Nat.mod_lt _ hn0⟩
      go_wp2
      go_loopw [8, 9, 52] (fun v8 v9 i wt => ∃ (j : Nat) (A1 : Option Addr) (n1 c1 : Nat) (s1 : List W3) (A2 : Option Addr) (n2 c2 : Nat) (s2 : List W3), j ≤ k ∧ i = .int .i64 j ∧ v8 = .slice A1 n1 c1 ∧ SlW wt A1 n1 c1 s1 ∧ PA s1 (xs.take j) ∧ v9 = .slice A2 n2 c2 ∧ SlW wt A2 n2 c2 s2 ∧ PA s2 ((rot xs t).take j) ∧ Below w7.heap.size w7 wt) (fun _ _ i _ => k - (intOf i).toNat)
      case atStart => exact ⟨0, none, 0, 0, [], none, 0, 0, [], Nat.zero_le _, rfl, rfl, Sl.nil_ _ 3, pa_nil, rfl, Sl.nil_ _ 3, pa_nil, Below.refl _ _⟩
      case round =>
        rename World => wt
        obtain ⟨j, A1, n1, c1, s1, A2, n2, c2, s2, hj, rfl, rfl, hs1, hp1, rfl, hs2, hp2, hb⟩ := hrel
        have HA := Lib.hid hs1; have HB := Lib.hid hs2; have HPA := Lib.hid hp1; have HPB := Lib.hid hp2; have HBT := Lib.hid hb; clear hs1 hs2 hp1 hp2 hb
        have hmx1 := sl_max HA.out
        have hmx2 := sl_max HB.out
        have hn1 : n1 ≤ 16 := by rw [← slW_len HA.out]; have := HPA.out.2.1; rw [List.length_take] at this; omega
        have hn2 : n2 ≤ 16 := by rw [← slW_len HB.out]; have := HPB.out.2.1; rw [List.length_take] at this; omega
        by_cases hjk : j < k
        · obtain ⟨r, hr, hrk, hrt⟩ : ∃ r : Nat, ((j : Int) + (t : Int)).tmod (k : Int) = (r : Int) ∧ r < k ∧ (rot xs t)[j]? = xs[r]? :=
            ⟨(j + t) % k, by rw [← Int.natCast_add, ← Int.ofNat_tmod], Nat.mod_lt _ hn0, rot_at hl.out htk hjk⟩
          obtain ⟨b, o, x, hA, hbw, hx, h0, h1, h2⟩ := slW_get (HS.out.below (bt HB7.out HBT.out)) hjk
          have HX := Lib.hid hx; clear hx
          subst hA
          obtain ⟨b', o', y, he, hbw', hy, g0, g1, g2⟩ := slW_get (HS.out.below (bt HB7.out HBT.out)) hrk
          injection he with he; injection he with he1 he2; subst he1; subst he2
          have HY := Lib.hid (hrt.trans hy); have HYX := Lib.hid hy; clear hy g0 g1 g2
          have HRT := Lib.hid hrt; clear hrt
          go_wp2_with fail
          refine (put_sl HA.out x HPA.out.1 (by omega)).mono ?_
          rintro e wa ⟨A3, n3, c3, rfl, hs3, hba⟩
          have HBA := Lib.hid (bt HBT.out hba)
          have HA3 := Lib.hid hs3
          have HB3 := Lib.hid (HB.out.below hba)
          clear hba hs3 h0 h1 h2
          obtain ⟨b', o', y', he, hbw', hy, g0, g1, g2⟩ := slW_get (HS.out.below (bt HB7.out HBA.out)) hrk
          injection he with he; injection he with he1 he2; subst he1; subst he2
          obtain rfl : y' = y := by rw [HYX.out] at hy; injection hy with hy; exact hy.symm
          clear hy
          have hi1 : (0 : Int) ≤ r := by omega
          have hi2 : (r : Int) < k := by omega
          go_wp2_with fail
          refine (put_sl HB3.out y' HPB.out.1 (by omega)).mono ?_
          rintro e wb ⟨A4, n4, c4, rfl, hs4, hbb⟩
          have HBC := Lib.hid (bt HBA.out hbb)
          have HA4 := Lib.hid (HA3.out.below hbb)
          have HB4 := Lib.hid hs4
          clear hbb hs4 g0 g1 g2
          have hj16 : j < 16 := by omega
          go_wp2
          go_roundw
          case rel => exact ⟨j + 1, A3, n3, c3, _, A4, n4, c4, _, by omega, by go_num, rfl, HA4.out, by
              rw [take_at HX.out]; exact pa_step HPA.out (look_take_none HKX.out HX.out) (by rw [List.length_take]; omega), rfl, HB4.out, by
              rw [take_at HY.out]; exact pa_step HPB.out (look_take_none (rot_kd HKX.out t) HY.out) (by rw [List.length_take]; omega), HBC.out⟩
          case measure => simp [intOf]; omega
        · obtain rfl : j = k := by omega
          have HSE := Lib.hid (show s1 = s2 by
            have h1 := HPA.out; have h2 := HPB.out
            rw [List.take_of_length_le (by rw [hl.out]; exact Nat.le_refl _)] at h1
            rw [List.take_of_length_le (by rw [rot_len xs t (by rw [hl.out]; omega), hl.out]; exact Nat.le_refl _)] at h2
            exact pa_same h1 h2 (rot_kd HKX.out t) (rot_mem xs t))
          clear ht
          go_wp2_with fail
          refine (ours_any HA.out (by omega)).mono ?_
          rintro e wa ⟨A3, c3, rfl, hs3, hba⟩
          have HBA := Lib.hid (bt HBT.out hba)
          have HA3 := Lib.hid hs3
          have HB3 := Lib.hid (HB.out.below hba)
          clear hba hs3
          go_wp2_with fail
          refine (ours_any HB3.out (by omega)).mono ?_
          rintro e wb ⟨A4, c4, rfl, hs4, hbb⟩
          have HBC := Lib.hid (bt HBA.out hbb)
          have HA4 := Lib.hid (HA3.out.below hbb)
          have HB4 := Lib.hid hs4
          clear hbb hs4
          go_wp2_with fail
          refine (sameW_any HA4.out HB4.out).mono ?_
          rintro e wc ⟨rfl, hbc⟩
          have HBD := Lib.hid (bt HB7.out (bt HBC.out hbc))
          rw [eqL_t HSE.out]
          clear hbc
          go_wp2
          go_ret
          exact ⟨rfl, HBD.out⟩
end Go.Proofs.Ytmoihamobojkfaa
