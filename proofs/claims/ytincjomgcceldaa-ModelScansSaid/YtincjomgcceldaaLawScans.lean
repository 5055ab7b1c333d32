/- The walk of the law ModelScans: it answers true, whatever comes in. -/
import Derived.Test.YtincjomgcceldaaStoreM
namespace Go.Proofs.Ytincjomgcceldaa
open Go.RowKit

theorem hist_in {xs : List Cm} {k : ByteArray} {at_ : Int} {w : W3} (h : hist xs k at_ = some w) : w.key = k ∧ ∃ c ∈ xs, w ∈ c.set := by
  unfold hist at h
  have key : ∀ (ys : List Cm) (o : Option W3), (∀ c ∈ ys, c ∈ xs) → (∀ v, o = some v → v.key = k ∧ ∃ c ∈ xs, v ∈ c.set) → ∀ v, ys.foldl (histS at_ k) o = some v → v.key = k ∧ ∃ c ∈ xs, v ∈ c.set := by
    intro ys
    induction ys with
    | nil => intro o _ ho v hv; exact ho v hv
    | cons y ys ih =>
      intro o hy ho v hv
      rw [List.foldl_cons] at hv
      refine ih _ (fun c hc => hy c (List.mem_cons_of_mem _ hc)) ?_ v hv
      intro u hu
      unfold histS at hu
      split at hu
      · split at hu
        · rename_i w' hw'
          cases hu
          unfold look at hw'
          exact ⟨by have := List.find?_some hw'; simpa using this, y, hy y (by simp), List.mem_of_find?_eq_some hw'⟩
        · exact ho u hu
      · exact ho u hu
  exact key xs none (fun c hc => hc) (fun v hv => by cases hv) w h
theorem scan_key {xs : List Cm} {at_ : Int} {p : P2} (hr : ∀ c ∈ xs, Rise W3.key c.set) (hf : ∀ c ∈ xs, fewB c.set = true) (hp : p ∈ scanC xs at_) : p.key.size ≤ 100 := by
  have h := (read_there hr hp).2
  cases hh : hist xs p.key at_ with
  | none => rw [hh] at h; cases h
  | some w =>
    obtain ⟨hk, c, hc, hw⟩ := hist_in hh
    have := hf c hc
    unfold fewB at this
    rw [Bool.and_eq_true, List.all_eq_true] at this
    have := this.1 w hw
    unfold shortW at this
    simp at this
    rw [← hk]; omega
theorem new1 (w : World) (a : Value) (t : TypeId) {g : Nat} (hg : g = w.heap.size) : ∀ j u, [a][j]? = some u → (w.alloc (.cells #[a] t)).cell? ((⟨g, 0, none⟩ : Addr).add j) = some u := by
  intro j u h
  subst hg
  rw [Addr.add_lit, cell_of_row (w.alloc _) w.heap.size _ #[a] t (0, 0) (heap_alloc_new w _)]
  simpa using h
theorem info_S : (Try.prog.info? 9).map (fun i => (i.zero, i.size, i.bytes)) = some (some (.string ⟨#[]⟩), 1, 16) := by kernel_rfl
theorem one1 (a : ByteArray) : ∀ u ∈ ([.string a] : List Value), u.oneCell' = true := by
  intro u hu; simp at hu; subst hu; rfl
theorem rise_at {α : Type} {f : α → ByteArray} {l : List α} (h : Rise f l) {i j : Nat} {a b : α} (ha : l[i]? = some a) (hb : l[j]? = some b) (hij : i < j) : klt (f a) (f b) = true := by
  obtain ⟨hi, rfl⟩ := get_some ha
  obtain ⟨hj, rfl⟩ := get_some hb
  exact List.pairwise_iff_getElem.1 h i j hi hj hij
abbrev SlSM (w : World) (A : Option Addr) (n c : Nat) (ks : List ByteArray) : Prop := SlS w A n c ks ∧ ∀ s ∈ ks, s.size ≤ maxLen
theorem cS_append (a b : List ByteArray) : cS (a ++ b) = cS a ++ cS b := List.map_append

set_option maxRecDepth 100000 in
set_option maxHeartbeats 4000000 in
theorem lawScans_any {A B : Option Addr} {n c m d : Nat} {xs : List Cm} {ks : List ByteArray} {w : World} (h : SlC w A n c xs) (h' : SlSM w B m d ks) (at_ : Int) :
    Calls Try.prog 5 #[.slice A n c, .slice B m d, .int .u64 at_] w fun e w' => e = .returned (.bool true) ∧ Below w.heap.size w w' := by
  have hmm := @run_makeMap Try.prog
  obtain ⟨i0, hi, hz0, hz1, hz2⟩ := info_parts info_S
  have HI := Lib.hid hi; have HZ0 := Lib.hid hz0; have HZ1 := Lib.hid hz1; have HZ2 := Lib.hid hz2; clear hi hz0 hz1 hz2
  obtain ⟨h', hks⟩ := h'
  have HKS := Lib.hid hks; clear hks
  have h_m := slC_max h
  have hl := Lib.hid (slC_len h)
  have HS := Lib.hid h; clear h
  have h'_m := sl_max h'
  have hl' := Lib.hid (slS_len h')
  have HS' := Lib.hid h'; clear h'
  go_enter Try.func5, Try.ntmps5
  go_wp2_with fail
  refine (alive_any _).mono ?_
  rintro e w1 ⟨rfl, hb1⟩
  have HB1 := Lib.hid (hb1)
  clear hb1
  go_wp2_with fail
  refine (fewS_any (HS.out.below HB1.out)).mono ?_
  rintro e w2 ⟨rfl, hb2⟩
  have HB2 := Lib.hid (bt HB1.out hb2)
  clear hb2
  cases hfs : isB (FewS xs) with
  | false =>
    go_wp2
    go_ret
    exact ⟨rfl, HB2.out⟩
  | true =>
  have HF := Lib.hid (isB_iff.1 hfs); clear hfs
  have hn30 : n ≤ 30 := by rw [← hl.out]; exact HF.out.2.1
  by_cases hm100 : m ≤ 100
  case neg =>
    have hm101 : (100 : Int) < m := by omega
    go_wp2
    go_ret
    exact ⟨rfl, HB2.out⟩
  go_wp2_with fail
  refine (mtheirs_any (HS.out.below HB2.out) HF.out.len (by omega)).mono ?_
  rintro e w3 ⟨A5, c5, rfl, hs3, hb3⟩
  have HB3 := Lib.hid (bt HB2.out hb3)
  have FM := Lib.hid hs3; clear hs3
  clear hb3
  go_wp2_with fail
  refine (scan_any FM.out at_ HF.out.len (by omega)).mono ?_
  rintro e w4 ⟨A6, n6, c6, rfl, hs4, hb4⟩
  have HB4 := Lib.hid (bt HB3.out hb4)
  have FM := Lib.hid (FM.out.below hb4)
  have FS := Lib.hid hs4; clear hs4
  clear hb4
  have hn6 : n6 ≤ 1800 := by rw [← slP_len FS.out]; have := scan_len (at_ := at_) HF.out.len; rw [hl.out] at this; omega
  have HRT := Lib.hid (fun (p : P2) (hp : p ∈ scanC xs at_) => read_there HF.out.rise hp)
  have HRI := Lib.hid (fun (k : ByteArray) => read_is (at_ := at_) (k := k) HF.out.rise)
  have HLR := Lib.hid (scan_rise (at_ := at_) HF.out.rise)
  have HKZ := Lib.hid (fun (p : P2) (hp : p ∈ scanC xs at_) => scan_key HF.out.rise HF.out.1 hp)
  have HLL := Lib.hid (slP_len FS.out)
  generalize scanC xs at_ = L at *
  have hmx := sl_max FS.out
  go_wp2
  go_loopw [40] (fun i wr => ∃ (k : Nat) (D : DataW Unit), k ≤ n6 ∧ i = .int .i64 k ∧ wr.ownsMap Try.prog 9 (plainElem Try.prog 3) w4.heap.size k D ∧ Cnt D L k ∧ Below w4.heap.size w4 wr) (fun i _ => n6 - (intOf i).toNat)
  case atStart => exact ⟨0, _, Nat.zero_le _, rfl, World.ownsMap_made _ _ _ _, cnt_start L, (Below.refl _ _).alloc (Nat.le_refl _) _⟩
  case round =>
    obtain ⟨k, D, hk, rfl, hown, hcnt, hb⟩ := hrel
    have HO := Lib.hid hown; have HC := Lib.hid hcnt; have HBB := Lib.hid hb; clear hown hcnt hb
    by_cases hlt : k < n6
    · obtain ⟨b, o, x, hA6, hbw, hx, h0, h1⟩ := slP_get (FS.out.below HBB.out) hlt
      subst hA6
      have HX := Lib.hid hx; clear hx
      have HXM := Lib.hid (List.mem_of_getElem? HX.out)
      have hbe := (Below.refl wr.heap.size wr).alloc (Nat.le_refl _) (.cells #[.string x.key, .string x.text] 60)
      have HK := Lib.hid (Blk.new wr 60 #[.string x.key, .string x.text])
      have HC1 := read_any ((FM.out.below HBB.out).below hbe) x.key at_ HF.out.rise HF.out.len
      rw [(HRT.out x HXM.out).1, (HRT.out x HXM.out).2] at HC1
      have HC1 := Lib.hid HC1
      have HBE := Lib.hid hbe; clear hbe
      go_wp2_with fail
      refine HC1.out.mono ?_
      rintro e wa ⟨rfl, hba⟩
      have k0 := (HK.out.later hba).cell (i := 0) (v := .string x.key) rfl
      have k1 := (HK.out.later hba).cell (i := 1) (v := .string x.text) rfl
      have hbr := bt HBE.out hba
      have HBA := Lib.hid (bt HBB.out hbr)
      have HOA := Lib.hid (ownsMap_below HO.out hbr)
      have HKA := Lib.hid (HK.out.later hba)
      clear hba hbr HC1 h0 h1
      obtain ⟨hbw1, g0, g1⟩ := slP_at (FS.out.below HBA.out) HX.out
      have hkz : x.key.size ≤ maxLen := Nat.le_trans (HKZ.out x HXM.out) (by unfold maxLen; omega)
      cases k with
      | zero =>
        go_wp2
        go_quiet (fail)
        go_wp2_with (first
          | (at_lookup; refine wpList_lookup_own_int _ rfl _ _ 58 rfl 9 3 .i64 strKey Try.underlying58 Try.underlying3 (zeroInt _) w4.heap.size 0 _ rfl (ownsMap_below HOA.out (below_drewN (Below.refl _ _) _)) _ _ rfl (Go.WideMaps.keyOf_string_mk Try.underlying9 hkz) ?_; intro c hat hwc; obtain rfl := cnt_zero HC.out HLR.out HX.out hat; clear hat hwc)
          | (at_mapUpdate; refine wpList_mapUpdate_own _ rfl _ _ _ 58 rfl 9 3 strKey Try.underlying58 _ w4.heap.size 0 _ rfl (ownsMap_below HOA.out (below_drewN (Below.refl _ _) _)) (by unfold maxLen; omega) _ _ _ rfl rfl (Go.WideMaps.keyOf_string_mk Try.underlying9 hkz) _ [] (plainElem_int Try.underlying3 (WalkArith.wf_i64 (by omega))) ?_; intro w1 hown1 hgrow1))
        go_wp2
        go_roundw
        case rel => exact ⟨0 + 1, _, by omega, by go_num, hown1, cnt_step HC.out HO.out.isMap HLR.out HX.out, (below_drewN HBA.out _).grown hgrow1 (below_drewN HBA.out _).size (fun j hj => by cases hj; exact Nat.le_refl _)⟩
        case measure => simp [intOf]; omega
      | succ j =>
        obtain ⟨b', o', y, he, hbw', hy, f0, f1⟩ := slP_get (FS.out.below HBA.out) (k := j) (by omega)
        injection he with he; injection he with he1 he2; subst he1; subst he2
        have hyx : Op.bytesLess y.key.toList x.key.toList = true := rise_at HLR.out hy HX.out (by omega)
        clear hy f1 g1
        have hi1 : (0 : Int) ≤ (j : Int) + 1 - 1 := by omega
        have hi2 : (j : Int) + 1 - 1 < n6 := by omega
        have hi3 : (j : Int) + 1 < n6 := by omega
        have hi4 : (0 : Int) ≤ (j : Int) + 1 := by omega
        go_wp2
        go_quiet (fail)
        go_wp2_with (first
          | (at_lookup; refine wpList_lookup_own_int _ rfl _ _ 58 rfl 9 3 .i64 strKey Try.underlying58 Try.underlying3 (zeroInt _) w4.heap.size (j + 1) _ rfl (ownsMap_below HOA.out (below_drewN (Below.refl _ _) _)) _ _ rfl (Go.WideMaps.keyOf_string_mk Try.underlying9 hkz) ?_; intro c hat hwc; obtain rfl := cnt_zero HC.out HLR.out HX.out hat; clear hat hwc)
          | (at_mapUpdate; refine wpList_mapUpdate_own _ rfl _ _ _ 58 rfl 9 3 strKey Try.underlying58 _ w4.heap.size (j + 1) _ rfl (ownsMap_below HOA.out (below_drewN (Below.refl _ _) _)) (by unfold maxLen; omega) _ _ _ rfl rfl (Go.WideMaps.keyOf_string_mk Try.underlying9 hkz) _ [] (plainElem_int Try.underlying3 (WalkArith.wf_i64 (by omega))) ?_; intro w1 hown1 hgrow1))
        go_wp2
        go_roundw
        case rel => exact ⟨j + 1 + 1, _, by omega, by go_num, hown1, cnt_step HC.out HO.out.isMap HLR.out HX.out, (below_drewN HBA.out _).grown hgrow1 (below_drewN HBA.out _).size (fun j hj => by cases hj; exact Nat.le_refl _)⟩
        case measure => simp [intOf]; omega
    · obtain rfl : k = n6 := by omega
      rename World => w7
      have hl0 : SlS w7 B m d ks := (HS'.out.below (bt HB4.out HBB.out))
      have hbw : Below w.heap.size w w7 := bt HB4.out HBB.out
      have HBW := Lib.hid hbw; clear hbw
      have HFM := Lib.hid (FM.out.below HBB.out)
      have HCA := Lib.hid (fun (s : ByteArray) (c : Int) (hat : D.atKey (.string s.data.toList) (.lit (.int .i64 0)) = .lit (.int .i64 c)) => cnt_all HC.out HLL.out hat)
      go_wp2
      go_loopw [1, 84] (fun v i wt => ∃ (p : Nat) (A1 : Option Addr) (m1 d1 : Nat) (ks1 : List ByteArray), p ≤ n ∧ i = .int .i64 p ∧ v = .slice A1 m1 d1 ∧ SlSM wt A1 m1 d1 ks1 ∧ m1 ≤ 100 + 60 * p ∧ Below w7.heap.size w7 wt) (fun _ i _ => n - (intOf i).toNat)
      case atStart => exact ⟨0, B, m, d, ks, Nat.zero_le _, rfl, rfl, ⟨hl0, HKS.out⟩, by omega, Below.refl _ _⟩
      case round =>
        rename World => wt
        obtain ⟨p, A1, m1, d1, ks1, hp, rfl, rfl, hs1, hm1, hbt⟩ := hrel
        have HS1 := Lib.hid hs1.1; have HM1 := Lib.hid hs1.2; have HBT := Lib.hid hbt; clear hs1 hbt hl0
        have hmx1 := sl_max HS1.out
        by_cases hpn : p < n
        · obtain ⟨b, o, y, A', n', c', hA, hbw, hy, h0, h1, hok, hsw⟩ := slC_get (HS.out.below (bt HBW.out HBT.out)) hpn
          subst hA
          have hn' : n' ≤ 60 := by rw [← slW_len hsw]; exact HF.out.len y (List.mem_of_getElem? hy)
          have HFW := Lib.hid (HF.out.1 y (List.mem_of_getElem? hy))
          have HSW := Lib.hid hsw
          have hmx2 := sl_max hsw
          clear hy hok hsw
          have hbe := (Below.refl wt.heap.size wt).alloc (Nat.le_refl _) (.cells #[.int .u64 y.stamp, .slice A' n' c'] 62)
          have HK := Lib.hid (Blk.new wt 62 #[.int .u64 y.stamp, .slice A' n' c'])
          have HBE := Lib.hid hbe; clear hbe
          go_wp2
          obtain ⟨W1, hW1⟩ : ∃ W1, wt.alloc (.cells #[.int .u64 y.stamp, .slice A' n' c'] 62) = W1 := ⟨_, rfl⟩
          rw [hW1] at HBE HK ⊢
          clear hW1 h0 h1
          go_loopw [1, 91] (fun v i wu => ∃ (q : Nat) (A2 : Option Addr) (m2 d2 : Nat) (ks2 : List ByteArray), q ≤ n' ∧ i = .int .i64 q ∧ v = .slice A2 m2 d2 ∧ SlSM wu A2 m2 d2 ks2 ∧ m2 ≤ 100 + 60 * p + q ∧ Below W1.heap.size W1 wu) (fun _ i _ => n' - (intOf i).toNat)
          case atStart => exact ⟨0, A1, m1, d1, ks1, Nat.zero_le _, rfl, rfl, ⟨HS1.out.below HBE.out, HM1.out⟩, by omega, Below.refl _ _⟩
          case round =>
            rename World => wu
            obtain ⟨q, A2, m2, d2, ks2, hq, rfl, rfl, hs2, hm2, hbu⟩ := hrel
            have HS2 := Lib.hid hs2.1; have HM2 := Lib.hid hs2.2; have HBU := Lib.hid (bt HBE.out hbu); have HBV := Lib.hid hbu; clear hs2 hbu
            have hmx3 := sl_max HS2.out
            by_cases hqn : q < n'
            · obtain ⟨b, o, z, hA, hbw, hz, h0, h1, h2⟩ := slW_get (HSW.out.below HBU.out) hqn
              subst hA
              have hzk : z.key.size ≤ maxLen := by
                have h5 := HFW.out
                unfold fewB at h5
                rw [Bool.and_eq_true, List.all_eq_true] at h5
                have h6 := h5.1 z (List.mem_of_getElem? hz)
                unfold shortW at h6
                simp at h6
                unfold maxLen; omega
              have HZK := Lib.hid hzk
              clear hz hzk
              have hnone := Lib.hid (show A2 = none → m2 = 0 ∧ m2 = 0 from fun e => by
                rcases Nat.eq_zero_or_pos m2 with h | h
                · exact ⟨h, h⟩
                · obtain ⟨b, o, e', _⟩ := HS2.out.2.2.2 h; rw [e] at e'; cases e')
              have HL2 := Lib.hid (show (cS ks2).length = m2 by simpa using HS2.out.1)
              have HCL := Lib.hid (show ∀ W3 : World, Below wu.heap.size wu W3 → ∀ b, A2 = some b → ∀ j u, (cS ks2)[j]? = some u → W3.cell? (b.add j) = some u by
                intro W3 hW3 b hb j u hu
                rcases Nat.eq_zero_or_pos m2 with h | h
                · have : cS ks2 = [] := List.eq_nil_of_length_eq_zero (by rw [HL2.out, h])
                  rw [this] at hu; simp at hu
                · obtain ⟨g, o', e', hg, hc⟩ := (HS2.out.below hW3).2.2.2 h
                  rw [hb] at e'; cases e'
                  rw [Addr.add_lit]; exact hc j u hu)
              have hbe2 := (Below.refl wu.heap.size wu).alloc (Nat.le_refl _) (.cells #[.string z.key, .string z.text, .bool z.gone] 52)
              have HK2 := Lib.hid (Blk.new wu 52 #[.string z.key, .string z.text, .bool z.gone])
              have HBE2 := Lib.hid hbe2; clear hbe2
              go_wp2
              obtain ⟨W2, hW2⟩ : ∃ W2, wu.alloc (.cells #[.string z.key, .string z.text, .bool z.gone] 52) = W2 := ⟨_, rfl⟩
              have hsz2 : (wu.alloc (.cells #[.string z.key, .string z.text, .bool z.gone] 52)).heap.size = wu.heap.size + 1 := by simp
              rw [hW2] at HBE2 HK2 hsz2 ⊢
              clear hW2 h0 h1 h2
              have k0 : W2.drew.cell? ⟨wu.heap.size, 0, none⟩ = some (.string z.key) := HK2.out.cell rfl
              have HSZ := Lib.hid hsz2; clear hsz2
              have hlt1 : wu.heap.size < W2.heap.size := by rw [HSZ.out]; omega
              have t0 : (W2.alloc (.cells #[.string z.key] 9)).drew.cell? ⟨wu.heap.size, 0, none⟩ = some (.string z.key) := cell_al (.cells #[.string z.key] 9) k0
              go_region_held3 (fun w' => w'.cell? ⟨wu.heap.size, 0, none⟩ = some (.string z.key)) (first | exact k0 | exact t0 | exact z0)
                ((refine step_append_grows (by rfl) _ _ _ (by rfl) 9 i0 (.string ⟨#[]⟩) 1 16 Try.underlying57 HI.out HZ0.out HZ1.out HZ2.out rfl (by decide) A2 m2 m2 (cS ks2) (by rfl) hnone.out (by rw [HL2.out]; omega) (HCL.out _ (HBE2.out.alloc HBE2.out.size _).drew) ⟨W2.heap.size, 0, none⟩ 1 1 [.string z.key] (by rfl) rfl (new1 _ _ _ rfl) (one1 _) (by omega) (by unfold maxLen; omega) (by omega) ?_
                  ; intro v3 w3 hown3 hgrow3
                  ; have z0 : w3.cell? ⟨wu.heap.size, 0, none⟩ = some (.string z.key) := (hgrow3.cell_far ⟨wu.heap.size, 0, none⟩ (by show wu.heap.size < (W2.alloc _).heap.size; simp; omega) (by simp)).trans t0))
              obtain ⟨A3, c3, rfl, hs3⟩ := Sl.of_own hown3
              rw [show cS ks2 ++ [.string z.key] = cS (ks2 ++ [z.key]) from (cS_append ks2 [z.key]).symm] at hs3
              have HS3 := Lib.hid hs3
              have HB3 := Lib.hid (((HBE2.out.alloc HBE2.out.size (.cells #[.string z.key] 9)).drew).grown hgrow3 (by have := HBE2.out.size; show wu.heap.size ≤ (W2.alloc _).heap.size; simp; omega) (fun j hj => by cases hj))
              clear hs3 hown3 hgrow3 z0 t0 k0
              go_wp2
              go_roundw
              case rel => exact ⟨q + 1, A3, m2 + 1, c3, ks2 ++ [z.key], by omega, by go_num, rfl, ⟨HS3.out, fun s hs => by
                rcases List.mem_append.1 hs with h | h
                · exact HM2.out s h
                · simp at h; subst h; exact HZK.out⟩, by omega, bt HBV.out HB3.out⟩
              case measure => simp [intOf]; omega
            · obtain rfl : q = n' := by omega
              go_wp2
              go_roundw
              case rel => exact ⟨p + 1, A2, m2, d2, ks2, by omega, by go_num, rfl, ⟨HS2.out, HM2.out⟩, by omega, bt HBT.out HBU.out⟩
              case measure => simp [intOf]; omega
        · obtain rfl : p = n := by omega
          have HFM2 := Lib.hid (HFM.out.below HBT.out)
          have HO2 := Lib.hid (ownsMap_below HO.out HBT.out)
          have HBW2 := Lib.hid (bt HBW.out HBT.out)
          go_wp2
          go_loopw [109] (fun i wu => ∃ q : Nat, q ≤ m1 ∧ i = .int .i64 q ∧ Below wt.heap.size wt wu) (fun i _ => m1 - (intOf i).toNat)
          case atStart => exact ⟨0, Nat.zero_le _, rfl, Below.refl _ _⟩
          case round =>
            rename World => wu
            obtain ⟨q, hq, rfl, hbu⟩ := hrel
            have HBU := Lib.hid hbu; clear hbu
            by_cases hqn : q < m1
            · obtain ⟨b, o, z, hA, hbw, hz, h0⟩ := slS_get (HS1.out.below HBU.out) hqn
              subst hA
              have hkz : z.size ≤ maxLen := HM1.out z (List.mem_of_getElem? hz)
              clear hz
              have HC1 := read_any (HFM2.out.below HBU.out) z at_ HF.out.rise HF.out.len
              rw [HRI.out z] at HC1
              have HC1 := Lib.hid HC1
              have HCZ := Lib.hid (HCA.out z)
              go_wp2_with fail
              refine HC1.out.mono ?_
              rintro e wa ⟨rfl, hba⟩
              clear h0 HC1
              have HOA := Lib.hid (ownsMap_below HO2.out (bt HBU.out hba))
              have HBA := Lib.hid (bt HBU.out hba); clear hba
              generalize rdT (hist xs z at_) = rt
              generalize hii : (look P2.key z L).isSome = is at *
              clear hii
              cases is with
              | true =>
                have HCY := Lib.hid (fun (c : Int) (hat : D.atKey (.string z.data.toList) (.lit (.int .i64 0)) = .lit (.int .i64 c)) => show c = 1 by simpa using HCZ.out c hat)
                go_wp2_with (at_lookup; refine wpList_lookup_own_int _ rfl _ _ 58 rfl 9 3 .i64 strKey Try.underlying58 Try.underlying3 (zeroInt _) w4.heap.size k _ rfl HOA.out _ _ rfl (Go.WideMaps.keyOf_string_mk Try.underlying9 hkz) ?_; intro c hat hwc; obtain rfl := HCY.out c hat; clear hat hwc)
                go_wp2
                go_roundw
                case rel => exact ⟨q + 1, by omega, by go_num, HBA.out⟩
                case measure => simp [intOf]; omega
              | false =>
                have HCY := Lib.hid (fun (c : Int) (hat : D.atKey (.string z.data.toList) (.lit (.int .i64 0)) = .lit (.int .i64 c)) => show c = 0 by simpa using HCZ.out c hat)
                go_wp2_with (at_lookup; refine wpList_lookup_own_int _ rfl _ _ 58 rfl 9 3 .i64 strKey Try.underlying58 Try.underlying3 (zeroInt _) w4.heap.size k _ rfl HOA.out _ _ rfl (Go.WideMaps.keyOf_string_mk Try.underlying9 hkz) ?_; intro c hat hwc; obtain rfl := HCY.out c hat; clear hat hwc)
                go_wp2
                go_roundw
                case rel => exact ⟨q + 1, by omega, by go_num, HBA.out⟩
                case measure => simp [intOf]; omega
            · obtain rfl : q = m1 := by omega
              go_wp2
              go_ret
              exact ⟨rfl, bt HBW2.out HBU.out⟩
end Go.Proofs.Ytincjomgcceldaa
