/- The walk of the law StampGone: it answers true, whatever comes in. -/
import Derived.Test.YtpknllhbebjleaaStM
import Derived.Deep.DeepCutAuto
namespace Go.Proofs.Ytpknllhbebjleaa
open Go.RowKit Go.Maps

/-- what a number's stamp reads as -/
def vU (at_ : Nat → Int) : Nat → DataW Unit := fun i => .lit (.int .u64 (at_ i))
theorem vU_open (at_ : Nat → Int) (i : Nat) (a : Int) : upd (vU at_) i (.lit (.int .u64 a)) = vU (upd at_ i a) := by
  funext j
  unfold vU
  by_cases e : j = i
  · subst e; rw [upd_same, upd_same]
  · rw [upd_other e, upd_other e]
theorem vU_close (at_ : Nat → Int) {op : Nat → Bool} (t : Nat) : ∀ i, i < 8 → upd op t false i = true → vU at_ i = vU (upd at_ t 0) i := fun i _ ho => by
  unfold vU
  by_cases e : i = t
  · subst e; rw [upd_same] at ho; cases ho
  · rw [upd_other e]
theorem mapI_congr {D : DataW Unit} {op : Nat → Bool} {v v' : Nat → DataW Unit} (h : MapI D op v) (hv : ∀ i, i < 8 → op i = true → v i = v' i) : MapI D op v' :=
  ⟨fun i z hi => by
    rw [h.1 i z hi]
    by_cases e : op i = true ∧ i < 8
    · rw [if_pos e, if_pos e, hv i e.2 e.1]
    · rw [if_neg e, if_neg e], h.2⟩
/-- no other number is a key -/
def MapO (D : DataW Unit) : Prop := ∀ x : Int, (x < 0 ∨ 8 ≤ x) → ∀ z, D.atKey (.int .i64 x) z = z
theorem mapO_start : MapO (.map []) := fun _ _ _ => rfl
theorem mapO_put {D : DataW Unit} (h : MapO D) {f : Nat} (hf : f < 8) (d : DataW Unit) : MapO (D.put (.int .i64 f) d) := fun x hx z => by
  rw [atKey_put_other (fun e => by injection e with _ e; omega)]; exact h x hx z
theorem mapO_del {D : DataW Unit} (h : MapO D) {f : Nat} (hf : f < 8) : MapO (D.del (.int .i64 f)) := fun x hx z => by
  rw [atKey_del_other (fun e => by injection e with _ e; omega)]; exact h x hx z
theorem mapI_came {D : DataW Unit} {op : Nat → Bool} {at_ : Nat → Int} (h : MapI D op (vU at_)) (ho : MapO D) {x c : Int} (hat : ∀ zd, D.atKey (.int .i64 x) zd = .lit (.int .u64 c)) : ∃ i : Nat, x = i ∧ i < 8 ∧ op i = true ∧ c = at_ i := by
  by_cases hx : x < 0 ∨ 8 ≤ x
  · have := hat .nil
    rw [ho x hx] at this; cases this
  · obtain ⟨i, rfl⟩ : ∃ i : Nat, x = i := ⟨x.toNat, by omega⟩
    have h1 := hat .nil
    rw [h.1 i _ (by omega)] at h1
    by_cases e : op i = true ∧ i < 8
    · rw [if_pos e] at h1
      unfold vU at h1
      injection h1 with h1; injection h1 with _ h1
      exact ⟨i, rfl, e.2, e.1, h1.symm⟩
    · rw [if_neg e] at h1; cases h1
/-- the least of those that have come -/
def LM (at_ : Nat → Int) (op : Nat → Bool) (nn : Int) (left : Lit → Bool) (r : Int) (first : Bool) : Prop :=
  (first = true ∧ r = nn ∧ ∀ i : Nat, i < 8 → op i = true → left (.int .i64 i) = true) ∨
  (first = false ∧ ∃ i, i < 8 ∧ op i = true ∧ at_ i = r ∧ ∀ j : Nat, j < 8 → op j = true → left (.int .i64 j) = true ∨ r ≤ at_ j)
section
variable {at_ : Nat → Int} {op : Nat → Bool} {nn r : Int} {left : Lit → Bool} {first : Bool}
theorem lm_end (h : LM at_ op nn left r first) (hl : ∀ kl, left kl = false) : IsLeast at_ op nn r := by
  rcases h with ⟨_, h2, h3⟩ | ⟨_, i, hi, ho, e, hm⟩
  · refine .inl ⟨fun i hi => ?_, h2⟩
    cases ho : op i with
    | false => rfl
    | true => have := h3 i hi ho; rw [hl] at this; cases this
  · refine .inr ⟨i, hi, ho, e, fun j hj hoj => ?_⟩
    rcases hm j hj hoj with h | h
    · rw [hl] at h; cases h
    · exact h
theorem struck {i j : Nat} (h : j ≠ i) (hl : left (.int .i64 j) = true) : (fun z : Lit => left z && !z.sameKey (.int .i64 i)) (.int .i64 j) = true := by
  show (left (.int .i64 j) && !(Lit.int .i64 (j : Int)).sameKey (.int .i64 i)) = true
  rw [hl, sameKey_ne (litI_ne h)]; rfl
theorem lm_first (h : LM at_ op nn left r true) {i : Nat} (hi : i < 8) (ho : op i = true) : LM at_ op nn (fun z => left z && !z.sameKey (.int .i64 (i : Int))) (at_ i) false := by
  rcases h with ⟨_, _, h3⟩ | ⟨h1, _⟩
  · refine .inr ⟨rfl, i, hi, ho, rfl, fun j hj hoj => ?_⟩
    by_cases e : j = i
    · subst e; exact .inr (Int.le_refl _)
    · exact .inl (struck e (h3 j hj hoj))
  · cases h1
theorem lm_less (h : LM at_ op nn left r false) {i : Nat} (hi : i < 8) (ho : op i = true) (hlr : at_ i < r) : LM at_ op nn (fun z => left z && !z.sameKey (.int .i64 (i : Int))) (at_ i) false := by
  rcases h with ⟨h1, _⟩ | ⟨_, i', hi', ho', e', hm⟩
  · cases h1
  · refine .inr ⟨rfl, i, hi, ho, rfl, fun j hj hoj => ?_⟩
    by_cases e : j = i
    · subst e; exact .inr (Int.le_refl _)
    · rcases hm j hj hoj with h | h
      · exact .inl (struck e h)
      · exact .inr (by omega)
theorem lm_same (h : LM at_ op nn left r false) {i : Nat} (hlr : ¬ at_ i < r) : LM at_ op nn (fun z => left z && !z.sameKey (.int .i64 (i : Int))) r false := by
  rcases h with ⟨h1, _⟩ | ⟨_, i', hi', ho', e', hm⟩
  · cases h1
  · refine .inr ⟨rfl, i', hi', ho', e', fun j hj hoj => ?_⟩
    by_cases e : j = i
    · subst e; exact .inr (by omega)
    · rcases hm j hj hoj with h | h
      · exact .inl (struck e h)
      · exact .inr h
end
set_option maxRecDepth 100000 in
set_option maxHeartbeats 4000000 in
theorem lawGone_any {A A' : Option Addr} {n c m d : Nat} {xs ys : List Int} {w : World} (h : SlI w .u64 A n c xs ∧ ∀ x ∈ xs, (Lit.int .u64 x).wf = true) (h' : SlI w .u8 A' m d ys ∧ ∀ x ∈ ys, (Lit.int .u8 x).wf = true) (nn : Int) :
    Calls Try.prog 7 #[.slice A n c, .slice A' m d, .int .u64 nn] w fun e w' => e = .returned (.bool true) ∧ Below w.heap.size w w' := by
  obtain ⟨h, hwf⟩ := h
  obtain ⟨h', hwf'⟩ := h'
  have hmm := @run_makeMap Try.prog
  have h_m := sl_max h
  have h_m' := sl_max h'
  have HS := Lib.hid h; have HS' := Lib.hid h'; clear h h'
  have HWF := Lib.hid hwf; have HWF' := Lib.hid hwf'; clear hwf hwf'
  go_enter Try.func7, Try.ntmps7
  go_wp2_with fail
  refine (alive_any w).mono ?_
  rintro e w1 ⟨rfl, hb1⟩
  have HB1 := Lib.hid hb1; clear hb1
  by_cases hn : n ≤ 8
  case neg =>
    have hn2 : (8 : Int) < n := by omega
    go_wp2
    go_ret
    exact ⟨rfl, HB1.out⟩
  by_cases hm : m ≤ 50
  case neg =>
    have hm2 : (50 : Int) < m := by omega
    go_wp2
    go_ret
    exact ⟨rfl, HB1.out⟩
  have hd1 : decide ((8 : Int) < n) = false := decide_eq_false (by omega)
  have hd2 : decide ((50 : Int) < m) = false := decide_eq_false (by omega)
  have HA1 := Lib.hid ((Watch.new w1).below ((Below.refl _ _).alloc (Nat.le_refl _) (.map #[] 0)))
  have hsz : (w1.alloc (.cells zer 33)).heap.size = w1.heap.size + 1 := by simp
  have ho0 := World.ownsMap_made (w1.alloc (.cells zer 33)) Try.prog 3 (plainElem (H := Unit) Try.prog 23)
  rw [hsz] at ho0
  have HO0 := Lib.hid ho0
  have HA3 := Lib.hid (((Below.refl w1.heap.size w1).alloc (Nat.le_refl _) (.cells zer 33)).alloc (by simp) (.map #[] 0))
  clear hsz ho0
  go_wp2
  go_loopw [32] (fun i wr => ∃ (k : Nat) (at_ : Nat → Int) (op : Nat → Bool) (D : DataW Unit), k ≤ n ∧ i = .int .i64 k ∧ (∀ j, j < 8 → op j = decide (j < k)) ∧ Watch wr w1.heap.size at_ op ∧ wr.ownsMap Try.prog 3 (plainElem Try.prog 23) (w1.heap.size + 1) k D ∧ MapI D op (vU at_) ∧ MapO D ∧ Below w1.heap.size w1 wr) (fun i _ => n - (intOf i).toNat)
  case atStart => exact ⟨0, _, _, _, Nat.zero_le _, rfl, fun j _ => by simp, HA1.out, HO0.out, mapI_start _, mapO_start, HA3.out⟩
  case round =>
    obtain ⟨k, at_, op, D, hk, rfl, hop, hw, ho, hmi, hmo, hb⟩ := hrel
    have HP := Lib.hid hop; have HW := Lib.hid hw; have HO := Lib.hid ho; have HM := Lib.hid hmi; have HX := Lib.hid hmo; have HB := Lib.hid hb; clear hop hw ho hmi hmo hb
    by_cases hlt : k < n
    · obtain ⟨b, o, x, hA, hbw, hx, h0⟩ := slI_get (HS.out.below (bt HB1.out HB.out)) hlt
      subst hA
      have hxw := HWF.out x (List.mem_of_getElem? hx)
      clear hx
      have HF := Lib.hid (show FF op k from ⟨by omega, by rw [HP.out k (by omega)]; simp, fun j hj => by rw [HP.out j (by omega)]; simpa using hj⟩)
      go_wp2_with fail
      refine (open_free HW.out HF.out x).mono ?_
      rintro e wa ⟨rfl, hwa, hta⟩
      have HWA := Lib.hid hwa; have HOA := Lib.hid (ownsMap_turn HO.out hta (by omega)); have HBA := Lib.hid (HB.out.trans (hta.below (Nat.le_refl _) HW.out.lt))
      clear hwa hta h0
      go_wp2_with (at_mapUpdate; refine wpList_mapUpdate_own _ rfl _ _ _ 60 rfl 3 23 intKey Try.underlying60 _ (w1.heap.size + 1) k _ rfl HOA.out (by unfold maxLen; omega) _ _ _ rfl rfl (keyI (by omega)) (.lit (.int .u64 x)) [] (plainElem_int Try.underlying23 hxw) ?_; intro wz hown1 hgrow1)
      go_roundw
      case rel => exact ⟨k + 1, _, _, _, by omega, by go_num, fun j hj => by
          by_cases e : j = k
          · subst e; rw [upd_same]; simp
          · rw [upd_other e, HP.out j hj]; exact decide_eq_decide.2 (by omega), HWA.out.far hgrow1 (by omega), hown1, by have := mapI_put HM.out (HO.out.tidy intKey) HF.out.1 HF.out.2.1 (.lit (.int .u64 x)); rwa [vU_open] at this, mapO_put HX.out HF.out.1 _, HBA.out.grown hgrow1 HBA.out.size (fun j hj => by cases hj; exact Nat.le_succ _)⟩
      case measure => simp [intOf]; omega
    · obtain rfl : n = k := by omega
      go_wp2
      go_loopw [49] (fun i wt => ∃ (p : Nat) (at2 : Nat → Int) (op2 : Nat → Bool) (D : DataW Unit), p ≤ m ∧ i = .int .i64 p ∧ Watch wt w1.heap.size at2 op2 ∧ wt.ownsMap Try.prog 3 (plainElem Try.prog 23) (w1.heap.size + 1) n D ∧ MapI D op2 (vU at2) ∧ MapO D ∧ Below w1.heap.size w1 wt) (fun i _ => m - (intOf i).toNat)
      case atStart => exact ⟨0, at_, op, D, Nat.zero_le _, rfl, HW.out, HO.out, HM.out, HX.out, HB.out⟩
      case round =>
        rename World => wg
        clear HM HX HO HW HB HP
        obtain ⟨p, at2, op2, D, hp, rfl, hw, ho, hmi, hmo, hb⟩ := hrel
        have HWT := Lib.hid hw; have HOT2 := Lib.hid ho; have HM2 := Lib.hid hmi; have HX2 := Lib.hid hmo; have HBT2 := Lib.hid hb; clear hw ho hmi hmo hb
        by_cases hpm : p < m
        · obtain ⟨b, o, x, hA, hbw, hx, h0⟩ := slI_get (HS'.out.below (bt HB1.out HBT2.out)) hpm
          subst hA
          obtain ⟨hx0, hx1⟩ := okByte_of (HWF'.out x (List.mem_of_getElem? hx))
          clear hx
          obtain ⟨t, ht, ht8⟩ : ∃ t : Nat, x % 8 = (t : Int) ∧ t < 8 := ⟨(x % 8).toNat, by omega, by omega⟩
          go_wp2_with fail
          cases hot : op2 t with
          | true =>
            refine (wclose_yes HWT.out ht8 hot).mono ?_
            rintro e w2 ⟨rfl, hw2, ht2⟩
            clear h0
            have HO2 := Lib.hid (ownsMap_turn HOT2.out ht2 (by omega))
            have HW2 := Lib.hid (hw2)
            have HB2 := Lib.hid (HBT2.out.trans (ht2.below (Nat.le_refl _) HWT.out.lt))
            clear hw2 ht2
            go_wp2_with (first
              | (at_delete; refine wpList_delete_own _ rfl _ _ 60 3 rfl 23 intKey Try.underlying60 _ (w1.heap.size + 1) n D rfl HO2.out _ _ rfl (keyI (by omega)) ?_; intro w4 hown4 hturn4)
              | (at_range; refine wpList_range_own _ rfl _ 60 rfl 3 23 intKey Try.underlying60 _ (w1.heap.size + 1) n _ rfl hown4 ?_; intro w8 hrg0 hg0 hs0))
            go_frame
            have HD4 := Lib.hid (hown4.tidy intKey)
            have HM4 := Lib.hid (show MapI (D.del (.int .i64 t)) (upd op2 t false) (vU (upd at2 t 0)) from mapI_congr (mapI_del HM2.out (HO2.out.tidy intKey) ht8) (vU_close _ _))
            have HX4 := Lib.hid (mapO_del HX2.out ht8)
            have HW4 := Lib.hid (HW2.out.far hturn4.grown (by omega))
            have HB4 := Lib.hid (HB2.out.grown hturn4.grown HB2.out.size (fun j hj => by cases hj; exact Nat.le_succ _))
            have HB8 := Lib.hid (show Below w4.heap.size w4 w8 from (Below.refl _ _).grown hg0 (Nat.le_refl _) (fun j hj => by cases hj))
            have HRG0 := Lib.hid hrg0
            clear hown4 hturn4 hg0 hs0 hrg0
            generalize D.del (.int .i64 (t : Int)) = D4 at *
            generalize hq3 : (upd op2 t false) = op4 at *
            generalize hq4 : (upd at2 t 0) = at4 at *
            clear hq3 hq4
            go_loopw [15, 16, 18] (fun v f _ wr => ∃ (left : Lit → Bool) (cn : Nat) (r : Int) (first : Bool), v = .int .u64 r ∧ f = .bool first ∧ wr.ranges Try.prog 3 (plainElem Try.prog 23) (w1.heap.size + 1) w4.heap.size n D4 left cn ∧ LM at4 op4 nn left r first ∧ Below w4.heap.size w4 wr) (fun _ _ _ wr => wr.rangeLeft (w1.heap.size + 1) w4.heap.size)
            case atStart => exact ⟨_, _, nn, true, rfl, rfl, HRG0.out, .inl ⟨rfl, rfl, fun i hi ho => by rw [HM4.out.2.1 i (by omega), ho, decide_eq_true hi]; rfl⟩, HB8.out⟩
            case round =>
              rename World => wt
              obtain ⟨left, cn, r, first, rfl, rfl, hrg, hlm, hbt⟩ := hrel
              have HRG := Lib.hid hrg; have HLM := Lib.hid hlm; have HBT := Lib.hid hbt; clear hrg hlm hbt
              go_wp2_with (at_next; refine wpList_next_ranges_ii _ rfl _ rfl 3 23 .i64 .u64 intKey Try.underlying3 Try.underlying23 (w1.heap.size + 1) w4.heap.size n _ _ _ rfl HRG.out ?_ ?_)
              · intro _ hl0
                have HIL := Lib.hid (lm_end HLM.out hl0)
                have hsz : Maps.size D4 = cnt op4 8 := HM4.out.2.2
                have HOT := Lib.hid HRG.out.owns
                clear hl0
                go_wp2_with fail
                refine (least_any (HW4.out.below HBT.out) nn).mono ?_
                rintro e wa ⟨r', rfl, hl3, hwa, hta⟩
                obtain rfl : r' = r := isLeast_one hl3 HIL.out
                have HWA := Lib.hid hwa
                have HOA := Lib.hid (ownsMap_turn HOT.out hta (by omega))
                have HBA := Lib.hid ((bt HB4.out HBT.out).trans (hta.below (Nat.le_refl _) (HW4.out.below HBT.out).lt))
                clear hwa hta hl3
                go_wp2_with fail
                refine (len_any HWA.out).mono ?_
                rintro e wb ⟨rfl, hbb⟩
                have HWB := Lib.hid (HWA.out.below hbb)
                have HOB := Lib.hid (ownsMap_below HOA.out hbb)
                have HBB := Lib.hid (bt HBA.out hbb)
                clear hbb
                have hlen := HOB.out.len Try.underlying60 3
                rw [hsz] at hlen
                go_wp2
                go_roundw
                case rel => exact ⟨p + 1, _, _, _, by omega, by go_num, HWB.out, HOB.out, HM4.out, HX4.out, HBB.out⟩
                case measure => simp [intOf]; omega
              · intro x c w5 cn1 hwx hwc hlx hat hrg1 hlt1 hg1 hs1 hen
                obtain ⟨i, rfl, hi8, hoi, hci⟩ := mapI_came HM4.out HX4.out hat
                have HRG1 := Lib.hid hrg1
                have HLT := Lib.hid hlt1
                have HB5 := Lib.hid (HBT.out.grown hg1 HBT.out.size (fun j hj => by cases hj; exact Nat.le_refl _))
                clear hrg1 hlt1 hg1 hs1 hwx hwc hlx hat
                subst hci
                cases first with
                | true =>
                  go_wp2
                  go_roundw
                  case rel => exact ⟨_, _, _, _, rfl, rfl, HRG1.out, lm_first HLM.out hi8 hoi, HB5.out⟩
                  case measure => rw [HRG1.out.left_eq, HRG.out.left_eq]; exact HLT.out
                | false =>
                  by_cases hlr : at4 i < r
                  · have hd : decide (at4 i < r) = true := decide_eq_true hlr
                    go_wp2
                    go_roundw
                    case rel => exact ⟨_, _, _, _, rfl, rfl, HRG1.out, lm_less HLM.out hi8 hoi hlr, HB5.out⟩
                    case measure => rw [HRG1.out.left_eq, HRG.out.left_eq]; exact HLT.out
                  · have hd : decide (at4 i < r) = false := decide_eq_false hlr
                    go_wp2
                    go_roundw
                    case rel => exact ⟨_, _, _, _, rfl, rfl, HRG1.out, lm_same HLM.out hlr, HB5.out⟩
                    case measure => rw [HRG1.out.left_eq, HRG.out.left_eq]; exact HLT.out
          | false =>
            refine (wclose_no HWT.out ht8 hot).mono ?_
            rintro e w2 ⟨rfl, hb2⟩
            clear h0
            have HO2 := Lib.hid (ownsMap_below HOT2.out hb2)
            have HW2 := Lib.hid (HWT.out.below hb2)
            have HB2 := Lib.hid (bt HBT2.out hb2)
            clear hb2
            go_wp2_with (first
              | (at_delete; refine wpList_delete_own _ rfl _ _ 60 3 rfl 23 intKey Try.underlying60 _ (w1.heap.size + 1) n D rfl HO2.out _ _ rfl (keyI (by omega)) ?_; intro w4 hown4 hturn4)
              | (at_range; refine wpList_range_own _ rfl _ 60 rfl 3 23 intKey Try.underlying60 _ (w1.heap.size + 1) n _ rfl hown4 ?_; intro w8 hrg0 hg0 hs0))
            go_frame
            have HD4 := Lib.hid (hown4.tidy intKey)
            have HM4 := Lib.hid (show MapI (D.del (.int .i64 t)) (op2) (vU (at2)) from mapI_close HM2.out (HO2.out.tidy intKey) ht8 hot)
            have HX4 := Lib.hid (mapO_del HX2.out ht8)
            have HW4 := Lib.hid (HW2.out.far hturn4.grown (by omega))
            have HB4 := Lib.hid (HB2.out.grown hturn4.grown HB2.out.size (fun j hj => by cases hj; exact Nat.le_succ _))
            have HB8 := Lib.hid (show Below w4.heap.size w4 w8 from (Below.refl _ _).grown hg0 (Nat.le_refl _) (fun j hj => by cases hj))
            have HRG0 := Lib.hid hrg0
            clear hown4 hturn4 hg0 hs0 hrg0
            generalize D.del (.int .i64 (t : Int)) = D4 at *
            generalize hq3 : (op2) = op4 at *
            generalize hq4 : (at2) = at4 at *
            clear hq3 hq4
            go_loopw [15, 16, 18] (fun v f _ wr => ∃ (left : Lit → Bool) (cn : Nat) (r : Int) (first : Bool), v = .int .u64 r ∧ f = .bool first ∧ wr.ranges Try.prog 3 (plainElem Try.prog 23) (w1.heap.size + 1) w4.heap.size n D4 left cn ∧ LM at4 op4 nn left r first ∧ Below w4.heap.size w4 wr) (fun _ _ _ wr => wr.rangeLeft (w1.heap.size + 1) w4.heap.size)
            case atStart => exact ⟨_, _, nn, true, rfl, rfl, HRG0.out, .inl ⟨rfl, rfl, fun i hi ho => by rw [HM4.out.2.1 i (by omega), ho, decide_eq_true hi]; rfl⟩, HB8.out⟩
            case round =>
              rename World => wt
              obtain ⟨left, cn, r, first, rfl, rfl, hrg, hlm, hbt⟩ := hrel
              have HRG := Lib.hid hrg; have HLM := Lib.hid hlm; have HBT := Lib.hid hbt; clear hrg hlm hbt
              go_wp2_with (at_next; refine wpList_next_ranges_ii _ rfl _ rfl 3 23 .i64 .u64 intKey Try.underlying3 Try.underlying23 (w1.heap.size + 1) w4.heap.size n _ _ _ rfl HRG.out ?_ ?_)
              · intro _ hl0
                have HIL := Lib.hid (lm_end HLM.out hl0)
                have hsz : Maps.size D4 = cnt op4 8 := HM4.out.2.2
                have HOT := Lib.hid HRG.out.owns
                clear hl0
                go_wp2_with fail
                refine (least_any (HW4.out.below HBT.out) nn).mono ?_
                rintro e wa ⟨r', rfl, hl3, hwa, hta⟩
                obtain rfl : r' = r := isLeast_one hl3 HIL.out
                have HWA := Lib.hid hwa
                have HOA := Lib.hid (ownsMap_turn HOT.out hta (by omega))
                have HBA := Lib.hid ((bt HB4.out HBT.out).trans (hta.below (Nat.le_refl _) (HW4.out.below HBT.out).lt))
                clear hwa hta hl3
                go_wp2_with fail
                refine (len_any HWA.out).mono ?_
                rintro e wb ⟨rfl, hbb⟩
                have HWB := Lib.hid (HWA.out.below hbb)
                have HOB := Lib.hid (ownsMap_below HOA.out hbb)
                have HBB := Lib.hid (bt HBA.out hbb)
                clear hbb
                have hlen := HOB.out.len Try.underlying60 3
                rw [hsz] at hlen
                go_wp2
                go_roundw
                case rel => exact ⟨p + 1, _, _, _, by omega, by go_num, HWB.out, HOB.out, HM4.out, HX4.out, HBB.out⟩
                case measure => simp [intOf]; omega
              · intro x c w5 cn1 hwx hwc hlx hat hrg1 hlt1 hg1 hs1 hen
                obtain ⟨i, rfl, hi8, hoi, hci⟩ := mapI_came HM4.out HX4.out hat
                have HRG1 := Lib.hid hrg1
                have HLT := Lib.hid hlt1
                have HB5 := Lib.hid (HBT.out.grown hg1 HBT.out.size (fun j hj => by cases hj; exact Nat.le_refl _))
                clear hrg1 hlt1 hg1 hs1 hwx hwc hlx hat
                subst hci
                cases first with
                | true =>
                  go_wp2
                  go_roundw
                  case rel => exact ⟨_, _, _, _, rfl, rfl, HRG1.out, lm_first HLM.out hi8 hoi, HB5.out⟩
                  case measure => rw [HRG1.out.left_eq, HRG.out.left_eq]; exact HLT.out
                | false =>
                  by_cases hlr : at4 i < r
                  · have hd : decide (at4 i < r) = true := decide_eq_true hlr
                    go_wp2
                    go_roundw
                    case rel => exact ⟨_, _, _, _, rfl, rfl, HRG1.out, lm_less HLM.out hi8 hoi hlr, HB5.out⟩
                    case measure => rw [HRG1.out.left_eq, HRG.out.left_eq]; exact HLT.out
                  · have hd : decide (at4 i < r) = false := decide_eq_false hlr
                    go_wp2
                    go_roundw
                    case rel => exact ⟨_, _, _, _, rfl, rfl, HRG1.out, lm_same HLM.out hlr, HB5.out⟩
                    case measure => rw [HRG1.out.left_eq, HRG.out.left_eq]; exact HLT.out
        · obtain rfl : p = m := by omega
          go_wp2
          go_ret
          exact ⟨rfl, bt HB1.out HBT2.out⟩

end Go.Proofs.Ytpknllhbebjleaa
