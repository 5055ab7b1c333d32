/- The walk of the law StampNumbers: it answers true, whatever comes in. -/
import Derived.Test.YtpknllhbebjleaaStM
namespace Go.Proofs.Ytpknllhbebjleaa
open Go.RowKit Go.Maps

abbrev v1 : Nat → DataW Unit := fun _ => .lit (.int .i64 1)
theorem mapI_lit {D : DataW Unit} {op : Nat → Bool} (h : MapI D op v1) {q : Nat} (hq : q ≤ 8) {c : Int} (hat : D.atKey (.int .i64 q) (.lit (.int .i64 0)) = .lit (.int .i64 c)) : c = if op q = true ∧ q < 8 then 1 else 0 := by
  rw [h.1 q _ hq] at hat
  by_cases e : op q = true ∧ q < 8
  · rw [if_pos e] at hat ⊢; injection hat with hat; injection hat with _ hat; exact hat.symm
  · rw [if_neg e] at hat ⊢; injection hat with hat; injection hat with _ hat; exact hat.symm
set_option maxRecDepth 100000 in
set_option maxHeartbeats 4000000 in
theorem lawNumbers_any {A : Option Addr} {n c : Nat} {xs : List Int} {w : World} (h : SlI w .u8 A n c xs ∧ ∀ x ∈ xs, (Lit.int .u8 x).wf = true) :
    Calls Try.prog 6 #[.slice A n c] w fun e w' => e = .returned (.bool true) ∧ Below w.heap.size w w' := by
  obtain ⟨h, hwf⟩ := h
  have hmm := @run_makeMap Try.prog
  have h_m := sl_max h
  have hl := Lib.hid (slI_len h)
  have HS := Lib.hid h; clear h
  have HWF := Lib.hid hwf; clear hwf
  go_enter Try.func6, Try.ntmps6
  go_wp2_with fail
  refine (alive_any w).mono ?_
  rintro e w1 ⟨rfl, hb1⟩
  have HB1 := Lib.hid hb1; clear hb1
  by_cases hn : n ≤ 300
  case neg =>
    have hn2 : (300 : Int) < n := by omega
    go_wp2
    go_ret
    exact ⟨rfl, HB1.out⟩
  have HA1 := Lib.hid ((Watch.new w1).below ((Below.refl _ _).alloc (Nat.le_refl _) (.map #[] 0)))
  have hsz : (w1.alloc (.cells zer 33)).heap.size = w1.heap.size + 1 := by simp
  have ho0 := World.ownsMap_made (w1.alloc (.cells zer 33)) Try.prog 3 (plainElem (H := Unit) Try.prog 3)
  rw [hsz] at ho0
  have HO0 := Lib.hid ho0
  have HA3 := Lib.hid (((Below.refl w1.heap.size w1).alloc (Nat.le_refl _) (.cells zer 33)).alloc (by simp) (.map #[] 0))
  clear hsz ho0
  go_wp2
  go_loopw [19] (fun i wr => ∃ (k : Nat) (at_ : Nat → Int) (op : Nat → Bool) (D : DataW Unit), k ≤ n ∧ i = .int .i64 k ∧ Watch wr w1.heap.size at_ op ∧ wr.ownsMap Try.prog 3 (plainElem Try.prog 3) (w1.heap.size + 1) k D ∧ MapI D op v1 ∧ Below w1.heap.size w1 wr) (fun i _ => n - (intOf i).toNat)
  case atStart => exact ⟨0, _, _, _, Nat.zero_le _, rfl, HA1.out, HO0.out, mapI_start _, HA3.out⟩
  case round =>
    obtain ⟨k, at_, op, D, hk, rfl, hw, ho, hm, hb⟩ := hrel
    have HW := Lib.hid hw; have HO := Lib.hid ho; have HM := Lib.hid hm; have HB := Lib.hid hb; clear hw ho hm hb
    by_cases hlt : k < n
    · obtain ⟨b, o, x, hA, hbw, hx, h0⟩ := slI_get (HS.out.below (bt HB1.out HB.out)) hlt
      subst hA
      obtain ⟨hx0, hx1⟩ := okByte_of (HWF.out x (List.mem_of_getElem? hx))
      clear hx
      have hk300 : k ≤ 300 := by omega
      go_wp2_with fail
      · rcases ff_or op with hf | ⟨i, hf⟩
        · refine (open_full HW.out hf _).mono ?_
          rintro e wa ⟨rfl, hba⟩
          have HWA := Lib.hid (HW.out.below hba); have HOA := Lib.hid (ownsMap_below HO.out hba); have HBA := Lib.hid (bt HB.out hba); have HF := Lib.hid hf
          clear hba h0 hf
          go_wp2
          go_loopw [9] (fun v wr => ∃ q : Nat, q ≤ 8 ∧ v = .int .i64 q ∧ Below wa.heap.size wa wr) (fun v _ => 8 - (intOf v).toNat)
          case atStart => exact ⟨0, Nat.zero_le _, rfl, Below.refl _ _⟩
          case round =>
            rename World => wq
            obtain ⟨q, hq, rfl, hbq⟩ := hrel
            have HBQ := Lib.hid hbq; clear hbq
            have HOQ := Lib.hid (ownsMap_below HOA.out HBQ.out)
            by_cases hq8 : q < 8
            · have HC := Lib.hid (fun (c : Int) (hat : D.atKey (.int .i64 q) (.lit (.int .i64 0)) = .lit (.int .i64 c)) => show c = 1 by rw [mapI_lit HM.out hq hat, if_pos ⟨HF.out q hq8, hq8⟩])
              go_wp2_with (at_lookup; refine wpList_lookup_own_int _ rfl _ _ 58 rfl 3 3 .i64 intKey Try.underlying58 Try.underlying3 (zeroInt _) (w1.heap.size + 1) k _ rfl HOQ.out _ _ rfl (keyI hq) ?_; intro c hat hwc; obtain rfl := HC.out c hat; clear hat hwc)
              go_roundw
              case rel => exact ⟨q + 1, by omega, by go_num, HBQ.out⟩
              case measure => simp [intOf]; omega
            · obtain rfl : q = 8 := by omega
              have HC := Lib.hid (fun (c : Int) (hat : D.atKey (.int .i64 ((8 : Nat) : Int)) (.lit (.int .i64 0)) = .lit (.int .i64 c)) => show c = 0 by rw [mapI_lit HM.out (Nat.le_refl 8) hat, if_neg (by omega)])
              go_wp2_with (at_lookup; refine wpList_lookup_own_int _ rfl _ _ 58 rfl 3 3 .i64 intKey Try.underlying58 Try.underlying3 (zeroInt _) (w1.heap.size + 1) k _ rfl HOQ.out _ _ rfl (keyI (Nat.le_refl 8)) ?_; intro c hat hwc; obtain rfl := HC.out c hat; clear hat hwc)
              go_roundw
              case rel => exact ⟨k + 1, at_, op, D, by omega, by go_num, HWA.out.below HBQ.out, HOQ.out.mono (Nat.le_succ _), HM.out, bt HBA.out HBQ.out⟩
              case measure => simp [intOf]; omega
        · refine (open_free HW.out hf _).mono ?_
          rintro e wa ⟨rfl, hwa, hta⟩
          have hi8 : i < 8 := hf.1
          have HWA := Lib.hid hwa; have HOA := Lib.hid (ownsMap_turn HO.out hta (by omega)); have HBA := Lib.hid (HB.out.trans (hta.below (Nat.le_refl _) HW.out.lt)); have HF := Lib.hid hf
          clear hwa hta h0 hf
          go_wp2
          go_loopw [9] (fun v wr => ∃ q : Nat, q ≤ i ∧ v = .int .i64 q ∧ Below wa.heap.size wa wr) (fun v _ => 8 - (intOf v).toNat)
          case atStart => exact ⟨0, Nat.zero_le _, rfl, Below.refl _ _⟩
          case round =>
            rename World => wq
            obtain ⟨q, hq, rfl, hbq⟩ := hrel
            have HBQ := Lib.hid hbq; clear hbq
            have HOQ := Lib.hid (ownsMap_below HOA.out HBQ.out)
            have hq8 : q ≤ 8 := by omega
            by_cases hqi : q < i
            · have HC := Lib.hid (fun (c : Int) (hat : D.atKey (.int .i64 q) (.lit (.int .i64 0)) = .lit (.int .i64 c)) => show c = 1 by rw [mapI_lit HM.out hq8 hat, if_pos ⟨HF.out.2.2 q hqi, by omega⟩])
              go_wp2_with (at_lookup; refine wpList_lookup_own_int _ rfl _ _ 58 rfl 3 3 .i64 intKey Try.underlying58 Try.underlying3 (zeroInt _) (w1.heap.size + 1) k _ rfl HOQ.out _ _ rfl (keyI hq8) ?_; intro c hat hwc; obtain rfl := HC.out c hat; clear hat hwc)
              go_roundw
              case rel => exact ⟨q + 1, by omega, by go_num, HBQ.out⟩
              case measure => simp [intOf]; omega
            · obtain rfl : q = i := by omega
              have HC := Lib.hid (fun (c : Int) (hat : D.atKey (.int .i64 q) (.lit (.int .i64 0)) = .lit (.int .i64 c)) => show c = 0 by rw [mapI_lit HM.out hq8 hat, if_neg (by rw [HF.out.2.1]; simp)])
              have hne : ((q : Int) == 8) = false := by rw [beq_eq_false_iff_ne]; omega
              have HWQ := Lib.hid (HWA.out.below HBQ.out)
              have HBB := Lib.hid (bt HBA.out HBQ.out)
              go_wp2_with (first | (at_lookup; refine wpList_lookup_own_int _ rfl _ _ 58 rfl 3 3 .i64 intKey Try.underlying58 Try.underlying3 (zeroInt _) (w1.heap.size + 1) k _ rfl HOQ.out _ _ rfl (keyI hq8) ?_; intro c hat hwc; obtain rfl := HC.out c hat; clear hat hwc) | (at_mapUpdate; refine wpList_mapUpdate_own _ rfl _ _ _ 58 rfl 3 3 intKey Try.underlying58 _ (w1.heap.size + 1) k _ rfl HOQ.out (by unfold maxLen; omega) _ _ _ rfl rfl (keyI hq8) (.lit (.int .i64 1)) [] (plainElem_int Try.underlying3 (WalkArith.wf_i64 (by omega))) ?_; intro wz hown1 hgrow1))
              go_roundw
              case rel => exact ⟨k + 1, _, _, _, by omega, by go_num, HWQ.out.far hgrow1 (by omega), hown1, by have := mapI_put HM.out (HO.out.tidy intKey) HF.out.1 HF.out.2.1 (v1 q); rwa [upd_self] at this, HBB.out.grown hgrow1 HBB.out.size (fun j hj => by cases hj; exact Nat.le_succ _)⟩
              case measure => simp [intOf]; omega
      · obtain ⟨t, ht, ht8⟩ : ∃ t : Nat, x / 2 % 8 = (t : Int) ∧ t < 8 := ⟨(x / 2 % 8).toNat, by omega, by omega⟩
        rw [ht]
        clear h0
        have htt : t ≤ 8 := by omega
        have HL := Lib.hid (fun (W : World) (hW : W.ownsMap Try.prog 3 (plainElem Try.prog 3) (w1.heap.size + 1) k D) => show (Instr.lookup 58 (.map (some (w1.heap.size + 1))) (.int .i64 t) false).run Try.prog W = .ok (.int .i64 (if op t = true ∧ t < 8 then 1 else 0)) W by
          obtain ⟨c, hrun, hat, _⟩ := hW.lookup_int intKey Try.underlying58 Try.underlying3 (zeroInt _) (keyI htt)
          rw [mapI_lit HM.out htt hat] at hrun
          exact hrun)
        have HWD := Lib.hid (HW.out.below (Below.refl _ _).drew)
        have HOD := Lib.hid (ownsMap_below HO.out (Below.refl _ _).drew)
        have HBD := Lib.hid (bt HB.out (Below.refl _ _).drew)
        clear ht
        cases hot : op t with
        | true =>
          have HL1 := Lib.hid (fun (W : World) (hW : W.ownsMap Try.prog 3 (plainElem Try.prog 3) (w1.heap.size + 1) k D) => show (Instr.lookup 58 (.map (some (w1.heap.size + 1))) (.int .i64 t) false).run Try.prog W = .ok (.int .i64 1) W by
            rw [HL.out W hW, if_pos ⟨hot, ht8⟩])
          go_region_held3 (fun w' => (Instr.lookup 58 (.map (some (w1.heap.size + 1))) (.int .i64 t) false).run Try.prog w' = .ok (.int .i64 1) w') (first | exact HL1.out _ HOD.out | exact HL1.out _ ho2)
            ((go_at_call 11; refine (wclose_yes HWD.out ht8 hot).mono ?_; rintro e w2 ⟨rfl, hw2, ht2⟩; have ho2 := ownsMap_turn HOD.out ht2 (by omega)))
          all_goals
            have HO2 := Lib.hid ho2
            have HW2 := Lib.hid hw2
            have HB2 := Lib.hid (HBD.out.trans (ht2.below (Nat.le_refl _) HWD.out.lt))
            clear ho2 hw2 ht2
            go_wp2_with (at_delete; refine wpList_delete_own _ rfl _ _ 58 3 rfl 3 intKey Try.underlying58 _ (w1.heap.size + 1) k D rfl HO2.out _ _ rfl (keyI htt) ?_; intro w4 hown4 hturn4)
            go_roundw
            case rel => exact ⟨k + 1, _, _, _, by omega, by go_num, HW2.out.far hturn4.grown (by omega), hown4.mono (Nat.le_succ _), mapI_del HM.out (HO.out.tidy intKey) ht8, HB2.out.grown hturn4.grown HB2.out.size (fun j hj => by cases hj; exact Nat.le_succ _)⟩
            case measure => simp [intOf]; omega
        | false =>
          have HL1 := Lib.hid (fun (W : World) (hW : W.ownsMap Try.prog 3 (plainElem Try.prog 3) (w1.heap.size + 1) k D) => show (Instr.lookup 58 (.map (some (w1.heap.size + 1))) (.int .i64 t) false).run Try.prog W = .ok (.int .i64 0) W by
            rw [HL.out W hW, if_neg (by rw [hot]; simp)])
          go_region_held3 (fun w' => (Instr.lookup 58 (.map (some (w1.heap.size + 1))) (.int .i64 t) false).run Try.prog w' = .ok (.int .i64 0) w') (first | exact HL1.out _ HOD.out | exact HL1.out _ ho2)
            ((go_at_call 11; refine (wclose_no HWD.out ht8 hot).mono ?_; rintro e w2 ⟨rfl, hb2⟩; have ho2 := ownsMap_below HOD.out hb2))
          all_goals
            have HO2 := Lib.hid ho2
            have HW2 := Lib.hid (HWD.out.below hb2)
            have HB2 := Lib.hid (bt HBD.out hb2)
            clear ho2 hb2
            go_wp2_with (at_delete; refine wpList_delete_own _ rfl _ _ 58 3 rfl 3 intKey Try.underlying58 _ (w1.heap.size + 1) k D rfl HO2.out _ _ rfl (keyI htt) ?_; intro w4 hown4 hturn4)
            go_roundw
            case rel => exact ⟨k + 1, _, _, _, by omega, by go_num, HW2.out.far hturn4.grown (by omega), hown4.mono (Nat.le_succ _), mapI_close HM.out (HO.out.tidy intKey) ht8 hot, HB2.out.grown hturn4.grown HB2.out.size (fun j hj => by cases hj; exact Nat.le_succ _)⟩
            case measure => simp [intOf]; omega
    · obtain rfl : k = n := by omega
      have hsz : Maps.size D = cnt op 8 := HM.out.2.2
      go_wp2_with fail
      refine (len_any HW.out).mono ?_
      rintro e wa ⟨rfl, hba⟩
      have HOA := Lib.hid (ownsMap_below HO.out hba)
      have HBA := Lib.hid (bt HB1.out (bt HB.out hba)); clear hba
      go_wp2_with (at_len; refine wpList_len_own _ rfl _ 58 rfl 3 3 Try.underlying58 _ (w1.heap.size + 1) k D rfl HOA.out ?_)
      go_ret
      exact ⟨by simp, HBA.out⟩
end Go.Proofs.Ytpknllhbebjleaa
