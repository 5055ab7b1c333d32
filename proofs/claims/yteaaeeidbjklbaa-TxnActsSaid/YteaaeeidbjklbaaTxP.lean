/- The document's Put of a write. -/
import Derived.Test.YteaaeeidbjklbaaTxM
import Derived.Test.YteaaeeidbjklbaaStF
import Derived.Test.YteaaeeidbjklbaaRPut
namespace Go.Proofs.Yteaaeeidbjklbaa
open Go.RowKit Go.Maps

theorem rright_any (x : W3) (w : World) : Calls Try.prog 54 #[.agg #[.string x.key, .string x.text, .bool x.gone]] w fun e w' => e = .returned (.bool (rightB x)) ∧ Below w.heap.size w w' := by
  by_cases h1 : x.key.size ≤ 16
  case neg =>
    have HE := Lib.hid (show rightB x = false from (right1 (.inl (by omega))).symm)
    have h2 : 16 < (x.key.size : Int) := by omega
    go_enter Try.func54, Try.ntmps54
    go_wp2
    go_ret
    exact ⟨by rw [HE.out]; rfl, by go_grown⟩
  by_cases h2 : x.text.size ≤ 40
  case neg =>
    have HE := Lib.hid (show rightB x = false from (right1 (.inr (by omega))).symm)
    have h2 : 40 < (x.text.size : Int) := by omega
    go_enter Try.func54, Try.ntmps54
    go_wp2
    go_ret
    exact ⟨by rw [HE.out]; rfl, by go_grown⟩
  have h16 : (x.key.size : Int) ≤ 16 := by omega
  have h40 : (x.text.size : Int) ≤ 40 := by omega
  have HE := Lib.hid (right2 (x := x) ⟨h16, h40⟩)
  cases hg : x.gone with
  | false =>
    rw [hg] at HE
    go_enter Try.func54, Try.ntmps54
    go_wp2
    go_ret
    exact ⟨by rw [HE.out]; rfl, by go_grown⟩
  | true =>
    rw [hg] at HE
    go_enter Try.func54, Try.ntmps54
    go_wp2
    all_goals go_ret
    all_goals refine ⟨?_, by go_grown⟩
    all_goals rw [HE.out]
    all_goals rfl

/-- a box of three cells, that is read -/
theorem box3r {w wr : World} {a b c : Value} {t : TypeId} (hb : Below (w.heap.size + 1) (w.alloc (.cells #[a, b, c] t)) wr) :
    w.heap.size < wr.heap.size ∧ wr.cell? ⟨w.heap.size, 0, none⟩ = some a ∧ wr.cell? ⟨w.heap.size, 1, none⟩ = some b ∧ wr.cell? ⟨w.heap.size, 2, none⟩ = some c := by
  have hb' : Below (w.alloc (.cells #[a, b, c] t)).heap.size (w.alloc (.cells #[a, b, c] t)) wr := by simpa using hb
  obtain ⟨h1, h2, _⟩ := kept hb'
  exact ⟨by omega, h2 0 a rfl, h2 1 b rfl, h2 2 c rfl⟩
set_option maxRecDepth 100000 in
set_option maxHeartbeats 4000000 in
theorem rput17_any {b M : Nat} {A : Option Addr} {n c : Nat} {xs : List W3} {w : World} (h : SlF w b M A n c xs) (hb0 : b < w.heap.size) (hM0 : M < w.heap.size) (x : W3) (hr : Rise W3.key xs) (hn : n ≤ 16) :
    Calls Try.prog 43 #[.slice A n c, .agg #[.string x.key, .string x.text, .bool x.gone]] w fun e w' => ∃ A' n' c', e = .returned (.tuple #[.slice A' n' c', .int .i64 (putW xs x).2]) ∧ SlF w' b M A' n' c' (putW xs x).1 ∧ Below w.heap.size w w' := by
  have hm := sl_max h.1
  have hl := Lib.hid (slW_len h.1)
  obtain ⟨i0, hi, hz0, hz1, hz2⟩ := info_parts info_RW
  have HI := Lib.hid hi; have HZ0 := Lib.hid hz0; have HZ1 := Lib.hid hz1; have HZ2 := Lib.hid hz2; clear hi hz0 hz1 hz2
  have HS := Lib.hid h; have HR := Lib.hid hr; have HLB := Lib.hid hb0; have HLM := Lib.hid hM0; clear h hr hb0 hM0
  have hbe := (Below.refl w.heap.size w).alloc (Nat.le_refl _) (.cells #[.string x.key, .string x.text, .bool x.gone] 38)
  have HBE := Lib.hid hbe; clear hbe
  go_enter Try.func43, Try.ntmps43
  go_wp2_with fail
  refine (rget_any (HS.out.1.below HBE.out) x.key).mono ?_
  rintro e w1 ⟨rfl, hb1⟩
  have HX1 := Lib.hid (Box3.new hb1)
  have HB1 := Lib.hid (show Below (w.heap.size + 1) (w.alloc (.cells #[.string x.key, .string x.text, .bool x.gone] 38)) w1 by simpa using hb1)
  clear hb1
  go_upto_region 2 with (fail)
  refine wp_abs (fun we => Box3 we w.heap.size (.string x.key) (.string x.text) (.bool x.gone) ∧ Below (w.heap.size + 1) (w.alloc (.cells #[.string x.key, .string x.text, .bool x.gone] 38)) we) ⟨HX1.out.below ((Below.refl _ _).alloc (Nat.le_refl _) _), HB1.out.alloc (by have := HB1.out.size; simp at this; omega) _⟩ ?_
  clear HX1 HB1
  rintro we ⟨hx, hb⟩
  have HX1 := Lib.hid hx; have HB1 := Lib.hid hb
  obtain ⟨hlt, c0, c1, c2, _⟩ := hx
  clear hb
  go_wp2_with fail
  clear c0 c1 c2 hlt
  refine (rright_any x _).mono ?_
  rintro e w2 ⟨rfl, hb⟩
  have HB3 := Lib.hid (HB1.out.trans (hb.mono (by have := HB1.out.size; simp at this; omega))); clear hb
  have HBF := Lib.hid (HBE.out.trans (HB3.out.mono (by omega)))
  cases hri : rightB x with
  | false =>
    have HP := Lib.hid (putW_wrong (s := xs) hri)
    clear hri
    go_wp2
    go_ret2
    exact ⟨A, n, c, by rw [HP.out]; rfl, by rw [HP.out]; exact HS.out.chg (Chg.of_below HBF.out), HBF.out⟩
  | true =>
    have HRI := Lib.hid hri; clear hri
    cases hlk : (look W3.key x.key xs).isSome with
    | true =>
      have HPN := Lib.hid (show putW xs x = (ins W3.key xs x, 0) by unfold putW; rw [if_neg (by rw [HRI.out]; simp), if_pos hlk])
      clear hlk
      go_wp2
      go_loopw [8, 9, 10] (fun v d i wr => ∃ (k : Nat) (done : Bool) (acc : List W3), k ≤ n ∧ i = .int .i64 k ∧ d = .bool done ∧ PutInv W3.key xs x k done acc ∧ wr.ownsRow (w.heap.size + 1) 38 3 v acc.length (cW acc) ∧ Below (w.heap.size + 1) (w.alloc (.cells #[.string x.key, .string x.text, .bool x.gone] 38)) wr) (fun _ _ i _ => n - (intOf i).toNat)
      case atStart => exact ⟨0, false, [], Nat.zero_le _, rfl, rfl, PutInv.start _ _, World.ownsRow_nil _ _ _ _, HB3.out⟩
      case round =>
        obtain ⟨k, done, acc, hk, rfl, rfl, hinv, hown, hb⟩ := hrel
        obtain ⟨hla, hlf⟩ := hinv.len (by rw [hl.out]; exact hk)
        rw [hl.out] at hla hlf
        obtain ⟨hbs, p0, p1, p2⟩ := box3r hb
        have HB := Lib.hid hb; have HO := Lib.hid hown; have HV := Lib.hid hinv
        have hs := (HS.out.1.below HBE.out).below (show Below (w.alloc (.cells #[.string x.key, .string x.text, .bool x.gone] 38)).heap.size _ _ by simpa using hb)
        clear hb hown hinv
        by_cases hlt : k < n
        · obtain ⟨b', o, y, rfl, hbw, hy, h0, h1, h2⟩ := slW_get hs hlt
          have HY := Lib.hid hy; clear hy hs
          have hi1 : (0 : Int) ≤ (k : Int) := by omega
          have hi2 : (k : Int) < n := by omega
          cases done with
          | true =>
            go_wp2
            go_quiet (fail)
            go_wp2
            go_quiet (fail)
            go_wp2_with (at_builtin; refine wpList_append_own _ rfl (.tmp 62) (.tmp 67) 32 rfl (w.heap.size + 1) 38 i0 (.agg #[.string ⟨#[]⟩, .string ⟨#[]⟩, .bool false]) 3 40 Try.underlying32 HI.out HZ0.out HZ1.out HZ2.out rfl (by decide) _ _ _ rfl ((own_drew HO.out _).alloc _) ⟨wr.heap.size, 0, none⟩ 1 1 [.string y.key, .string y.text, .bool y.gone] rfl rfl ?la1 ?la2 ?la3 ?la4 ?la5 ?_)
            case la1 => exact new3 _ _ _ _ _ rfl
            case la2 => exact one3 _ _ _
            case la3 => unfold maxLen; omega
            case la4 => omega
            case la5 => have := HB.out.size; simp at this ⊢; omega
            · intro v' w4 hown' hgrow _
              go_wp2
              go_roundw
              case rel => exact ⟨k + 1, true, acc ++ [y], by omega, by go_num, rfl, HV.out.t_ne HY.out (keq_f' (by assumption)), by rw [List.length_append, List.length_singleton, cW_append]; exact hown', ((below_drewN HB.out _).alloc (by have := HB.out.size; simp at this ⊢; omega) _).grown hgrow (by have := HB.out.size; simp at this ⊢; omega) (own_ge HO.out)⟩
              case measure => simp [intOf]; omega
            · go_roundw
              case rel => exact ⟨k + 1, true, acc, by omega, by go_num, rfl, HV.out.t_eq HY.out (keq_t' (by assumption)), HO.out, below_drewN HB.out _⟩
              case measure => simp [intOf]; omega
          | false =>
            have hlf := hlf rfl
            by_cases hkl : klt y.key x.key = true
            · have hkb : Op.bytesLess y.key.toList x.key.toList = true := hkl
              have hne : (y.key.toList == x.key.toList) = false := keq_ne (klt_ne hkl)
              go_wp2
              go_quiet (fail)
              go_wp2
              go_quiet (fail)
              go_wp2_with (at_builtin; refine wpList_append_own _ rfl (.tmp 62) (.tmp 67) 32 rfl (w.heap.size + 1) 38 i0 (.agg #[.string ⟨#[]⟩, .string ⟨#[]⟩, .bool false]) 3 40 Try.underlying32 HI.out HZ0.out HZ1.out HZ2.out rfl (by decide) _ _ _ rfl ((own_drew HO.out _).alloc _) ⟨wr.heap.size, 0, none⟩ 1 1 [.string y.key, .string y.text, .bool y.gone] rfl rfl ?lb1 ?lb2 ?lb3 ?lb4 ?lb5 ?_)
              case lb1 => exact new3 _ _ _ _ _ rfl
              case lb2 => exact one3 _ _ _
              case lb3 => unfold maxLen; omega
              case lb4 => omega
              case lb5 => have := HB.out.size; simp at this ⊢; omega
              intro v' w4 hown' hgrow _
              go_wp2
              go_roundw
              case rel => exact ⟨k + 1, false, acc ++ [y], by omega, by go_num, rfl, HV.out.lt HY.out hkl, by rw [List.length_append, List.length_singleton, cW_append]; exact hown', ((below_drewN HB.out _).alloc (by have := HB.out.size; simp at this ⊢; omega) _).grown hgrow (by have := HB.out.size; simp at this ⊢; omega) (own_ge HO.out)⟩
              case measure => simp [intOf]; omega
            · have hkl := notT hkl
              have hkb : Op.bytesLess y.key.toList x.key.toList = false := hkl
              go_wp2
              go_quiet (fail)
              go_wp2_with (at_builtin; refine wpList_append_own _ rfl (.tmp 50) (.tmp 52) 32 rfl (w.heap.size + 1) 38 i0 (.agg #[.string ⟨#[]⟩, .string ⟨#[]⟩, .bool false]) 3 40 Try.underlying32 HI.out HZ0.out HZ1.out HZ2.out rfl (by decide) _ _ _ rfl ((own_drew HO.out _).alloc _) ⟨wr.heap.size, 0, none⟩ 1 1 [.string x.key, .string x.text, .bool x.gone] rfl rfl ?lc1 ?lc2 ?lc3 ?lc4 ?lc5 ?_)
              case lc1 => exact new3 _ _ _ _ _ rfl
              case lc2 => exact one3 _ _ _
              case lc3 => unfold maxLen; omega
              case lc4 => omega
              case lc5 => have := HB.out.size; simp at this ⊢; omega
              intro v' w4 hown' hgrow _
              have hb1 := ((below_drewN HB.out _).alloc (by have := HB.out.size; simp at this ⊢; omega) _).grown hgrow (by have := HB.out.size; simp at this ⊢; omega) (own_ge HO.out)
              have HB4 := Lib.hid hb1; have HO4 := Lib.hid hown'
              obtain ⟨hbs', p0', p1', p2'⟩ := box3r hb1
              obtain ⟨hbw', h0', h1', h2'⟩ := slW_at ((HS.out.1.below HBE.out).below (show Below (w.alloc (.cells #[.string x.key, .string x.text, .bool x.gone] 38)).heap.size _ _ by simpa using hb1)) HY.out
              clear hb1 hown' hgrow h0 h1 h2 p0 p1 p2
              by_cases he : y.key = x.key
              · have hne : (y.key.toList == x.key.toList) = true := by rw [he]; simp
                go_wp2
                go_quiet (fail)
                go_wp2
                go_roundw
                case rel => exact ⟨k + 1, true, acc ++ [x], by omega, by go_num, rfl, (HV.out.turn HY.out hkl).t_eq HY.out he, by rw [List.length_append, List.length_singleton, cW_append]; exact HO4.out, below_drewN HB4.out _⟩
                case measure => simp [intOf]; omega
              · have hne : (y.key.toList == x.key.toList) = false := keq_ne he
                go_wp2
                go_quiet (fail)
                go_wp2_with (at_builtin; refine wpList_append_own _ rfl (.tmp 62) (.tmp 67) 32 rfl (w.heap.size + 1) 38 i0 (.agg #[.string ⟨#[]⟩, .string ⟨#[]⟩, .bool false]) 3 40 Try.underlying32 HI.out HZ0.out HZ1.out HZ2.out rfl (by decide) _ _ _ rfl ((own_drew HO4.out _).alloc _) ⟨w4.heap.size, 0, none⟩ 1 1 [.string y.key, .string y.text, .bool y.gone] rfl rfl ?ld1 ?ld2 ?ld3 ?ld4 ?ld5 ?_)
                case ld1 => exact new3 _ _ _ _ _ rfl
                case ld2 => exact one3 _ _ _
                case ld3 => unfold maxLen; omega
                case ld4 => omega
                case ld5 => have := HB4.out.size; simp at this ⊢; omega
                intro v2 w5 hown2 hgrow _
                go_wp2
                go_roundw
                case rel => exact ⟨k + 1, true, acc ++ [x] ++ [y], by omega, by go_num, rfl, (HV.out.turn HY.out hkl).t_ne HY.out he, by rw [List.length_append, List.length_append, List.length_singleton, List.length_singleton, cW_append, cW_append, List.append_assoc]; exact hown2, ((below_drewN HB4.out _).alloc (by have := HB4.out.size; simp at this ⊢; omega) _).grown hgrow (by have := HB4.out.size; simp at this ⊢; omega) (own_ge HO4.out)⟩
                case measure => simp [intOf]; omega
        · clear hs
          obtain rfl : k = n := by omega
          cases done with
          | true =>
            go_wp2
            go_ret2
            have e := HV.out.end_t hl.out
            rw [rput_eq HR.out] at e
            subst e
            obtain ⟨A', c', rfl, hsf⟩ := SlF.of_own HO.out (show b < w.heap.size + 1 from Nat.lt_succ_of_lt HLB.out) (show M < w.heap.size + 1 from Nat.lt_succ_of_lt HLM.out)
            exact ⟨A', _, c', by rw [HPN.out]; rfl, by rw [HPN.out]; exact hsf, HBE.out.trans (HB.out.mono (by omega))⟩
          | false =>
            have hlf := hlf rfl
            go_wp2_with (at_builtin; refine wpList_append_own _ rfl (.tmp 71) (.tmp 73) 32 rfl (w.heap.size + 1) 38 i0 (.agg #[.string ⟨#[]⟩, .string ⟨#[]⟩, .bool false]) 3 40 Try.underlying32 HI.out HZ0.out HZ1.out HZ2.out rfl (by decide) _ _ _ rfl (HO.out.alloc _) ⟨wr.heap.size, 0, none⟩ 1 1 [.string x.key, .string x.text, .bool x.gone] rfl rfl ?le1 ?le2 ?le3 ?le4 ?le5 ?_)
            case le2 => exact ⟨rfl, rfl, rfl⟩
            case le3 => unfold maxLen; omega
            case le4 => omega
            case le5 => have := HB.out.size; simp at this ⊢; omega
            intro v' w4 hown' hgrow _
            go_wp2
            go_ret2
            have e := HV.out.end_f hl.out
            rw [rput_eq HR.out] at e
            have hown2 : w4.ownsRow (w.heap.size + 1) 38 3 v' (ins W3.key xs x).length (cW (ins W3.key xs x)) := by rw [← e, List.length_append, List.length_singleton, cW_append]; exact hown'
            obtain ⟨A', c', rfl, hsf⟩ := SlF.of_own hown2 (show b < w.heap.size + 1 from Nat.lt_succ_of_lt HLB.out) (show M < w.heap.size + 1 from Nat.lt_succ_of_lt HLM.out)
            exact ⟨A', _, c', by rw [HPN.out]; rfl, by rw [HPN.out]; exact hsf, HBE.out.trans (((HB.out.alloc (by have := HB.out.size; simp at this ⊢; omega) _).grown hgrow (by have := HB.out.size; simp at this ⊢; omega) (own_ge HO.out)).mono (by omega))⟩
    | false =>
      by_cases h16 : 16 ≤ n
      · have HP := Lib.hid (putW_big (s := xs) HRI.out hlk (by rw [hl.out]; exact h16))
        have h16i : (16 : Int) ≤ n := by omega
        clear hlk
        go_wp2
        go_ret2
        exact ⟨A, n, c, by rw [HP.out]; rfl, by rw [HP.out]; exact HS.out.chg (Chg.of_below HBF.out), HBF.out⟩
      · have HPN := Lib.hid (show putW xs x = (ins W3.key xs x, 0) by unfold putW; rw [if_neg (by rw [HRI.out]; simp), if_neg (by rw [hlk]; simp), if_neg (by rw [hl.out]; exact h16)])
        clear hlk
        have h16i : ¬ (16 : Int) ≤ n := by omega
        go_wp2
        go_loopw [8, 9, 10] (fun v d i wr => ∃ (k : Nat) (done : Bool) (acc : List W3), k ≤ n ∧ i = .int .i64 k ∧ d = .bool done ∧ PutInv W3.key xs x k done acc ∧ wr.ownsRow (w.heap.size + 1) 38 3 v acc.length (cW acc) ∧ Below (w.heap.size + 1) (w.alloc (.cells #[.string x.key, .string x.text, .bool x.gone] 38)) wr) (fun _ _ i _ => n - (intOf i).toNat)
        case atStart => exact ⟨0, false, [], Nat.zero_le _, rfl, rfl, PutInv.start _ _, World.ownsRow_nil _ _ _ _, HB3.out⟩
        case round =>
          obtain ⟨k, done, acc, hk, rfl, rfl, hinv, hown, hb⟩ := hrel
          obtain ⟨hla, hlf⟩ := hinv.len (by rw [hl.out]; exact hk)
          rw [hl.out] at hla hlf
          obtain ⟨hbs, p0, p1, p2⟩ := box3r hb
          have HB := Lib.hid hb; have HO := Lib.hid hown; have HV := Lib.hid hinv
          have hs := (HS.out.1.below HBE.out).below (show Below (w.alloc (.cells #[.string x.key, .string x.text, .bool x.gone] 38)).heap.size _ _ by simpa using hb)
          clear hb hown hinv
          by_cases hlt : k < n
          · obtain ⟨b', o, y, rfl, hbw, hy, h0, h1, h2⟩ := slW_get hs hlt
            have HY := Lib.hid hy; clear hy hs
            have hi1 : (0 : Int) ≤ (k : Int) := by omega
            have hi2 : (k : Int) < n := by omega
            cases done with
            | true =>
              go_wp2
              go_quiet (fail)
              go_wp2
              go_quiet (fail)
              go_wp2_with (at_builtin; refine wpList_append_own _ rfl (.tmp 62) (.tmp 67) 32 rfl (w.heap.size + 1) 38 i0 (.agg #[.string ⟨#[]⟩, .string ⟨#[]⟩, .bool false]) 3 40 Try.underlying32 HI.out HZ0.out HZ1.out HZ2.out rfl (by decide) _ _ _ rfl ((own_drew HO.out _).alloc _) ⟨wr.heap.size, 0, none⟩ 1 1 [.string y.key, .string y.text, .bool y.gone] rfl rfl ?ma1 ?ma2 ?ma3 ?ma4 ?ma5 ?_)
              case ma1 => exact new3 _ _ _ _ _ rfl
              case ma2 => exact one3 _ _ _
              case ma3 => unfold maxLen; omega
              case ma4 => omega
              case ma5 => have := HB.out.size; simp at this ⊢; omega
              · intro v' w4 hown' hgrow _
                go_wp2
                go_roundw
                case rel => exact ⟨k + 1, true, acc ++ [y], by omega, by go_num, rfl, HV.out.t_ne HY.out (keq_f' (by assumption)), by rw [List.length_append, List.length_singleton, cW_append]; exact hown', ((below_drewN HB.out _).alloc (by have := HB.out.size; simp at this ⊢; omega) _).grown hgrow (by have := HB.out.size; simp at this ⊢; omega) (own_ge HO.out)⟩
                case measure => simp [intOf]; omega
              · go_roundw
                case rel => exact ⟨k + 1, true, acc, by omega, by go_num, rfl, HV.out.t_eq HY.out (keq_t' (by assumption)), HO.out, below_drewN HB.out _⟩
                case measure => simp [intOf]; omega
            | false =>
              have hlf := hlf rfl
              by_cases hkl : klt y.key x.key = true
              · have hkb : Op.bytesLess y.key.toList x.key.toList = true := hkl
                have hne : (y.key.toList == x.key.toList) = false := keq_ne (klt_ne hkl)
                go_wp2
                go_quiet (fail)
                go_wp2
                go_quiet (fail)
                go_wp2_with (at_builtin; refine wpList_append_own _ rfl (.tmp 62) (.tmp 67) 32 rfl (w.heap.size + 1) 38 i0 (.agg #[.string ⟨#[]⟩, .string ⟨#[]⟩, .bool false]) 3 40 Try.underlying32 HI.out HZ0.out HZ1.out HZ2.out rfl (by decide) _ _ _ rfl ((own_drew HO.out _).alloc _) ⟨wr.heap.size, 0, none⟩ 1 1 [.string y.key, .string y.text, .bool y.gone] rfl rfl ?mb1 ?mb2 ?mb3 ?mb4 ?mb5 ?_)
                case mb1 => exact new3 _ _ _ _ _ rfl
                case mb2 => exact one3 _ _ _
                case mb3 => unfold maxLen; omega
                case mb4 => omega
                case mb5 => have := HB.out.size; simp at this ⊢; omega
                intro v' w4 hown' hgrow _
                go_wp2
                go_roundw
                case rel => exact ⟨k + 1, false, acc ++ [y], by omega, by go_num, rfl, HV.out.lt HY.out hkl, by rw [List.length_append, List.length_singleton, cW_append]; exact hown', ((below_drewN HB.out _).alloc (by have := HB.out.size; simp at this ⊢; omega) _).grown hgrow (by have := HB.out.size; simp at this ⊢; omega) (own_ge HO.out)⟩
                case measure => simp [intOf]; omega
              · have hkl := notT hkl
                have hkb : Op.bytesLess y.key.toList x.key.toList = false := hkl
                go_wp2
                go_quiet (fail)
                go_wp2_with (at_builtin; refine wpList_append_own _ rfl (.tmp 50) (.tmp 52) 32 rfl (w.heap.size + 1) 38 i0 (.agg #[.string ⟨#[]⟩, .string ⟨#[]⟩, .bool false]) 3 40 Try.underlying32 HI.out HZ0.out HZ1.out HZ2.out rfl (by decide) _ _ _ rfl ((own_drew HO.out _).alloc _) ⟨wr.heap.size, 0, none⟩ 1 1 [.string x.key, .string x.text, .bool x.gone] rfl rfl ?mc1 ?mc2 ?mc3 ?mc4 ?mc5 ?_)
                case mc1 => exact new3 _ _ _ _ _ rfl
                case mc2 => exact one3 _ _ _
                case mc3 => unfold maxLen; omega
                case mc4 => omega
                case mc5 => have := HB.out.size; simp at this ⊢; omega
                intro v' w4 hown' hgrow _
                have hb1 := ((below_drewN HB.out _).alloc (by have := HB.out.size; simp at this ⊢; omega) _).grown hgrow (by have := HB.out.size; simp at this ⊢; omega) (own_ge HO.out)
                have HB4 := Lib.hid hb1; have HO4 := Lib.hid hown'
                obtain ⟨hbs', p0', p1', p2'⟩ := box3r hb1
                obtain ⟨hbw', h0', h1', h2'⟩ := slW_at ((HS.out.1.below HBE.out).below (show Below (w.alloc (.cells #[.string x.key, .string x.text, .bool x.gone] 38)).heap.size _ _ by simpa using hb1)) HY.out
                clear hb1 hown' hgrow h0 h1 h2 p0 p1 p2
                by_cases he : y.key = x.key
                · have hne : (y.key.toList == x.key.toList) = true := by rw [he]; simp
                  go_wp2
                  go_quiet (fail)
                  go_wp2
                  go_roundw
                  case rel => exact ⟨k + 1, true, acc ++ [x], by omega, by go_num, rfl, (HV.out.turn HY.out hkl).t_eq HY.out he, by rw [List.length_append, List.length_singleton, cW_append]; exact HO4.out, below_drewN HB4.out _⟩
                  case measure => simp [intOf]; omega
                · have hne : (y.key.toList == x.key.toList) = false := keq_ne he
                  go_wp2
                  go_quiet (fail)
                  go_wp2_with (at_builtin; refine wpList_append_own _ rfl (.tmp 62) (.tmp 67) 32 rfl (w.heap.size + 1) 38 i0 (.agg #[.string ⟨#[]⟩, .string ⟨#[]⟩, .bool false]) 3 40 Try.underlying32 HI.out HZ0.out HZ1.out HZ2.out rfl (by decide) _ _ _ rfl ((own_drew HO4.out _).alloc _) ⟨w4.heap.size, 0, none⟩ 1 1 [.string y.key, .string y.text, .bool y.gone] rfl rfl ?md1 ?md2 ?md3 ?md4 ?md5 ?_)
                  case md1 => exact new3 _ _ _ _ _ rfl
                  case md2 => exact one3 _ _ _
                  case md3 => unfold maxLen; omega
                  case md4 => omega
                  case md5 => have := HB4.out.size; simp at this ⊢; omega
                  intro v2 w5 hown2 hgrow _
                  go_wp2
                  go_roundw
                  case rel => exact ⟨k + 1, true, acc ++ [x] ++ [y], by omega, by go_num, rfl, (HV.out.turn HY.out hkl).t_ne HY.out he, by rw [List.length_append, List.length_append, List.length_singleton, List.length_singleton, cW_append, cW_append, List.append_assoc]; exact hown2, ((below_drewN HB4.out _).alloc (by have := HB4.out.size; simp at this ⊢; omega) _).grown hgrow (by have := HB4.out.size; simp at this ⊢; omega) (own_ge HO4.out)⟩
                  case measure => simp [intOf]; omega
          · clear hs
            obtain rfl : k = n := by omega
            cases done with
            | true =>
              go_wp2
              go_ret2
              have e := HV.out.end_t hl.out
              rw [rput_eq HR.out] at e
              subst e
              obtain ⟨A', c', rfl, hsf⟩ := SlF.of_own HO.out (show b < w.heap.size + 1 from Nat.lt_succ_of_lt HLB.out) (show M < w.heap.size + 1 from Nat.lt_succ_of_lt HLM.out)
              exact ⟨A', _, c', by rw [HPN.out]; rfl, by rw [HPN.out]; exact hsf, HBE.out.trans (HB.out.mono (by omega))⟩
            | false =>
              have hlf := hlf rfl
              go_wp2_with (at_builtin; refine wpList_append_own _ rfl (.tmp 71) (.tmp 73) 32 rfl (w.heap.size + 1) 38 i0 (.agg #[.string ⟨#[]⟩, .string ⟨#[]⟩, .bool false]) 3 40 Try.underlying32 HI.out HZ0.out HZ1.out HZ2.out rfl (by decide) _ _ _ rfl (HO.out.alloc _) ⟨wr.heap.size, 0, none⟩ 1 1 [.string x.key, .string x.text, .bool x.gone] rfl rfl ?me1 ?me2 ?me3 ?me4 ?me5 ?_)
              case me2 => exact ⟨rfl, rfl, rfl⟩
              case me3 => unfold maxLen; omega
              case me4 => omega
              case me5 => have := HB.out.size; simp at this ⊢; omega
              intro v' w4 hown' hgrow _
              go_wp2
              go_ret2
              have e := HV.out.end_f hl.out
              rw [rput_eq HR.out] at e
              have hown2 : w4.ownsRow (w.heap.size + 1) 38 3 v' (ins W3.key xs x).length (cW (ins W3.key xs x)) := by rw [← e, List.length_append, List.length_singleton, cW_append]; exact hown'
              obtain ⟨A', c', rfl, hsf⟩ := SlF.of_own hown2 (show b < w.heap.size + 1 from Nat.lt_succ_of_lt HLB.out) (show M < w.heap.size + 1 from Nat.lt_succ_of_lt HLM.out)
              exact ⟨A', _, c', by rw [HPN.out]; rfl, by rw [HPN.out]; exact hsf, HBE.out.trans (((HB.out.alloc (by have := HB.out.size; simp at this ⊢; omega) _).grown hgrow (by have := HB.out.size; simp at this ⊢; omega) (own_ge HO.out)).mono (by omega))⟩
end Go.Proofs.Yteaaeeidbjklbaa
