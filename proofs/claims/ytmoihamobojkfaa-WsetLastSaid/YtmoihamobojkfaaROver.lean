/- The reference's Over: the walk. -/
import Derived.Test.YtmoihamobojkfaaRPut
import Derived.StillTailTactics
namespace Go.Proofs.Ytmoihamobojkfaa
open Go.RowKit

/-- of the first k pairs those that the set does not have -/
def kept1 (l : List P2) (s : List W3) (k : Nat) : List P2 := (l.take k).filter (fun p => (look W3.key p.key s).isNone)
theorem kept1_yes {l : List P2} {s : List W3} {k : Nat} {x : P2} (hx : l[k]? = some x) (h : (look W3.key x.key s).isSome = false) : kept1 l s (k + 1) = kept1 l s k ++ [x] := by
  unfold kept1; rw [take_at hx, List.filter_append, List.filter_cons_of_pos (by simpa using h), List.filter_nil]
theorem kept1_no {l : List P2} {s : List W3} {k : Nat} {x : P2} (hx : l[k]? = some x) (h : (look W3.key x.key s).isSome = true) : kept1 l s (k + 1) = kept1 l s k := by
  unfold kept1; rw [take_at hx, List.filter_append, List.filter_cons_of_neg (by simp [Option.isSome_iff_ne_none] at h; simpa using h), List.filter_nil, List.append_nil]
theorem kept1_len (l : List P2) (s : List W3) (k : Nat) : (kept1 l s k).length ≤ k := by
  unfold kept1
  have h1 := List.length_filter_le (fun p => (look W3.key p.key s).isNone) (l.take k)
  have h2 := List.length_take_le k l
  omega
/-- with what the first k writes lay -/
def laid2 (l : List P2) (s : List W3) (k : Nat) : List P2 := ((s.take k).filter (fun w => !w.gone)).foldl (fun a w => rput P2.key a w.pair) (kept1 l s l.length)
theorem laid2_yes {l : List P2} {s : List W3} {k : Nat} {x : W3} (hx : s[k]? = some x) (h : x.gone = false) : laid2 l s (k + 1) = rput P2.key (laid2 l s k) x.pair := by
  unfold laid2; rw [take_at hx, List.filter_append, List.filter_cons_of_pos (by simp [h]), List.filter_nil, List.foldl_append]; rfl
theorem laid2_no {l : List P2} {s : List W3} {k : Nat} {x : W3} (hx : s[k]? = some x) (h : x.gone = true) : laid2 l s (k + 1) = laid2 l s k := by
  unfold laid2; rw [take_at hx, List.filter_append, List.filter_cons_of_neg (by simp [h]), List.filter_nil, List.append_nil]
theorem laid2_len (l : List P2) (s : List W3) : ∀ k, k ≤ s.length → (laid2 l s k).length ≤ l.length + k
  | 0, _ => by have := kept1_len l s l.length; simpa [laid2] using this
  | k + 1, h => by
    have ih := laid2_len l s k (by omega)
    have hx : s[k]? = some s[k] := List.getElem?_eq_getElem (by omega)
    cases hg : s[k].gone with
    | true => rw [laid2_no hx hg]; omega
    | false => rw [laid2_yes hx hg]; have := rput_len (f := P2.key) (laid2 l s k) s[k].pair; omega
theorem laid2_all (l : List P2) (s : List W3) : laid2 l s s.length = rov l s := by
  unfold laid2 rov kept1; rw [List.take_length, List.take_length]

theorem someF {α : Type} {o : Option α} (h : o.isNone = true) : o.isSome = false := by cases o <;> simp_all
theorem someT {α : Type} {o : Option α} (h : o.isNone = false) : o.isSome = true := by cases o <;> simp_all
theorem own_below {w w1 : World} {base e sz n : Nat} {v : Value} {cs : List Value} (h : w.ownsRow base e sz v n cs) (hb : Below w.heap.size w w1) : w1.ownsRow base e sz v n cs := by
  refine ⟨h.1, ?_⟩
  rcases h.2 with h2 | ⟨g, cap, cur, hv, hg, hh, r⟩
  · exact .inl h2
  · exact .inr ⟨g, cap, cur, hv, hg, (hb.block g (Array.getElem?_eq_some_iff.1 hh).1).trans hh, r⟩

set_option maxRecDepth 100000 in
set_option maxHeartbeats 1000000 in
theorem rover_any {A B : Option Addr} {n c m d : Nat} {xs : List P2} {ys : List W3} {w : World} (h : SlP w A n c xs) (h' : SlW w B m d ys) (hn : n ≤ 16384) (hm : m ≤ 16384) :
    Calls Try.prog 18 #[.slice A n c, .slice B m d] w fun e w' => ∃ v, e = .returned v ∧ w'.ownsRow w.heap.size 28 2 v (rov xs ys).length (cP (rov xs ys)) ∧ Below w.heap.size w w' := by
  have hc := sl_max h
  have hd := sl_max h'
  have hl := Lib.hid (slP_len h)
  have hl' := Lib.hid (slW_len h')
  obtain ⟨i0, hi, hz0, hz1, hz2⟩ := info_parts info_RP
  have HI := Lib.hid hi; have HZ0 := Lib.hid hz0; have HZ1 := Lib.hid hz1; have HZ2 := Lib.hid hz2; clear hi hz0 hz1 hz2
  have HS := Lib.hid h; have HS' := Lib.hid h'; clear h h'
  go_enter Try.func18, Try.ntmps18
  go_wp2
  go_loopw [5, 6] (fun v i wr => ∃ k : Nat, k ≤ n ∧ i = .int .i64 k ∧ wr.ownsRow w.heap.size 28 2 v (kept1 xs ys k).length (cP (kept1 xs ys k)) ∧ Below w.heap.size w wr) (fun _ i _ => n - (intOf i).toNat)
  case atStart => exact ⟨0, Nat.zero_le _, rfl, World.ownsRow_nil _ _ _ _, Below.refl _ _⟩
  case round =>
    obtain ⟨k, hk, rfl, hown, hb⟩ := hrel
    have hkl := kept1_len xs ys k
    have HB := Lib.hid hb; have HO := Lib.hid hown; clear hb hown
    by_cases hlt : k < n
    · obtain ⟨b, o, x, rfl, hbw, hx, h0, h1⟩ := slP_get (HS.out.below HB.out) hlt
      have HX := Lib.hid hx
      have HC := Lib.hid (rget_any (HS'.out.below HB.out) x.key)
      clear hx
      have hi1 : (0 : Int) ≤ (k : Int) := by omega
      have hi2 : (k : Int) < n := by omega
      go_wp2_with fail
      refine HC.out.mono ?_
      rintro e w1 ⟨rfl, hb1⟩
      have hb2 := HB.out.trans (hb1.mono HB.out.size)
      obtain ⟨hbw', h0', h1'⟩ := slP_at (HS.out.below hb2) HX.out
      have HO1 := Lib.hid (own_below HO.out hb1)
      have HB2 := Lib.hid hb2
      clear HC hb1 hb2 h0 h1
      generalize hlk : look W3.key x.key ys = lk
      have HL := Lib.hid hlk; clear hlk
      go_wp2_with (at_builtin; refine wpList_append_own _ rfl (.tmp 28) (.tmp 33) 22 rfl w.heap.size 28 i0 (.agg #[.string ⟨#[]⟩, .string ⟨#[]⟩]) 2 32 Try.underlying22 HI.out HZ0.out HZ1.out HZ2.out rfl (by decide) _ _ _ rfl ((HO1.out.alloc _).alloc _) ⟨w1.heap.size + 1, 0, none⟩ 1 1 [.string x.key, .string x.text] rfl rfl ?a1 ?a2 ?a3 ?a4 ?a5 ?_)
      case a1 => exact new2 _ _ _ _ (by simp)
      case a2 => exact one2 _ _
      case a3 => unfold maxLen; omega
      case a4 => omega
      case a5 => have := HB2.out.size; simp; omega
      · intro v' w2 hown' hgrow _
        go_wp2
        go_roundw
        case rel =>
          have e : kept1 xs ys (k + 1) = kept1 xs ys k ++ [x] := kept1_yes HX.out (by rw [HL.out]; exact someF (by assumption))
          exact ⟨k + 1, by omega, by go_num, by rw [e, List.length_append, List.length_singleton, cP_append]; exact hown', ((HB2.out.alloc HB2.out.size _).alloc (by have := HB2.out.size; simp; omega) _).grown hgrow (by have := HB2.out.size; simp; omega) (own_ge HO1.out)⟩
        case measure => simp [intOf]; omega
      · go_roundw
        case rel =>
          have e : kept1 xs ys (k + 1) = kept1 xs ys k := kept1_no HX.out (by rw [HL.out]; exact someT (by assumption))
          exact ⟨k + 1, by omega, by go_num, by rw [e]; exact HO1.out.alloc _, HB2.out.alloc HB2.out.size _⟩
        case measure => simp [intOf]; omega
    · obtain rfl : k = n := by omega
      have HK := Lib.hid (show kept1 xs ys k = laid2 xs ys 0 by unfold laid2; rw [hl.out]; rfl)
      go_wp2
      go_loopw [5, 9] (fun v j wr => ∃ (q : Nat) (A' : Option Addr) (m' c' : Nat), q ≤ m ∧ j = .int .i64 q ∧ v = .slice A' m' c' ∧ m' = (laid2 xs ys q).length ∧ wr.ownsRow w.heap.size 28 2 v m' (cP (laid2 xs ys q)) ∧ Below w.heap.size w wr) (fun _ j _ => m - (intOf j).toNat)
      case atStart =>
        obtain ⟨A', c', rfl, _⟩ := Sl.of_own HO.out
        exact ⟨0, A', _, c', Nat.zero_le _, rfl, rfl, by rw [← HK.out], by rw [← HK.out]; exact HO.out, HB.out⟩
      case round =>
        obtain ⟨q, A', m', c', hq, rfl, rfl, hm', hown, hb⟩ := hrel
        have hkl := laid2_len xs ys q (by rw [hl'.out]; exact hq)
        rw [hl.out, ← hm'] at hkl
        have HM := Lib.hid hm'; clear hm'
        have HB := Lib.hid hb; have HO := Lib.hid hown; clear hb hown
        by_cases hlt : q < m
        · obtain ⟨b, o, x, rfl, hbw, hx, h0, h1, h2⟩ := slW_get (HS'.out.below HB.out) hlt
          have HX := Lib.hid hx
          clear hx
          have hi1 : (0 : Int) ≤ (q : Int) := by omega
          have hi2 : (q : Int) < m := by omega
          cases hg : x.gone with
          | true =>
            go_wp2
            go_roundw
            case rel =>
              have e : laid2 xs ys (q + 1) = laid2 xs ys q := laid2_no HX.out (by assumption)
              exact ⟨q + 1, A', m', c', by omega, by go_num, rfl, by rw [e]; exact HM.out, by rw [e]; exact HO.out, HB.out⟩
            case measure => simp [intOf]; omega
          | false =>
            obtain ⟨A2, c2', hv, hs⟩ := Sl.of_own HO.out
            cases hv
            have hC := rputP_any (w := wr.drew) (hs.below (Below.refl _ _).drew) ⟨x.key, x.text⟩ (by omega)
            dsimp only at hC
            have HC := Lib.hid hC; clear hC
            clear hs
            go_wp2
            go_still_tail 12, (by kernel_rfl)
            go_wp2_with fail
            refine HC.out.mono ?_
            rintro e w1 ⟨v', rfl, hown, hb1⟩
            have hb2 : Below w.heap.size w w1 := HB.out.drew.trans (hb1.mono HB.out.size)
            have HO2 := Lib.hid (ownsRow_base hown HB.out.size)
            have HB2 := Lib.hid hb2
            obtain ⟨A3, c3, rfl, _⟩ := Sl.of_own hown
            clear hown hb1 hb2
            go_wp2
            go_roundw
            case rel =>
              have e : laid2 xs ys (q + 1) = rput P2.key (laid2 xs ys q) ⟨x.key, x.text⟩ := laid2_yes HX.out (by assumption)
              exact ⟨q + 1, A3, _, c3, by omega, by go_num, rfl, by rw [e], by rw [e]; exact HO2.out, HB2.out⟩
            case measure => simp [intOf]; omega
        · obtain rfl : q = m := by omega
          go_wp2
          go_ret
          have e : laid2 xs ys q = rov xs ys := by rw [← laid2_all, hl'.out]
          refine ⟨_, rfl, ?_, HB.out⟩
          rw [← e, ← HM.out]; exact HO.out
end Go.Proofs.Ytmoihamobojkfaa
