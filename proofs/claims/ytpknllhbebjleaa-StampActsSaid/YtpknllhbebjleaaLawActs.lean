/- The walk of the law StampActs: it answers true, whatever comes in. -/
import Derived.Test.YtpknllhbebjleaaStH
import Derived.Deep.DeepCutAuto
namespace Go.Proofs.Ytpknllhbebjleaa
open Go.RowKit

set_option maxRecDepth 100000 in
set_option maxHeartbeats 4000000 in
theorem lawActs_any {A : Option Addr} {n c : Nat} {acts : List A14} {w : World} (h : SlA w A n c acts ∧ ∀ x ∈ acts, (Lit.int .u8 x.kind).wf = true) (nn : Int) :
    Calls Try.prog 3 #[.slice A n c, .int .u64 nn] w fun e w' => e = .returned (.bool true) ∧ Below w.heap.size w w' := by
  obtain ⟨h, hwf⟩ := h
  have h_m := sl_max h
  have hl := Lib.hid (slA_len h)
  have HS := Lib.hid h; clear h
  have HWF := Lib.hid hwf; clear hwf
  go_enter Try.func3, Try.ntmps3
  go_wp2_with fail
  refine (alive_any w).mono ?_
  rintro e w1 ⟨rfl, hb1⟩
  have HB1 := Lib.hid hb1; clear hb1
  by_cases hn : n ≤ 300
  case neg =>
    have hn2 : (300 : Int) < n := by omega
    go_wp2
    go_ret
    exact ⟨rfl, HB1.out⟩
  obtain ⟨_, ha2, ha3⟩ := two_new w1 (.cells zer 33) (.cells (arr (fun _ => 0) (fun _ => false)) 35)
  have HA2 := Lib.hid ha2; have HA3 := Lib.hid ha3
  have HA1 := Lib.hid ((Watch.new w1).below ((Below.refl _ _).alloc (Nat.le_refl _) (.cells (arr (fun _ => 0) (fun _ => false)) 35)))
  clear ha2 ha3
  go_wp2
  go_loopw [31] (fun i wr => ∃ (k : Nat) (at_ : Nat → Int) (op : Nat → Bool), k ≤ n ∧ i = .int .i64 k ∧ Watch wr w1.heap.size at_ op ∧ RefW wr (w1.heap.size + 1) at_ op ∧ Zed at_ op ∧ Below w1.heap.size w1 wr) (fun i _ => n - (intOf i).toNat)
  case atStart => exact ⟨0, _, _, Nat.zero_le _, rfl, HA1.out, HA2.out, zed_new, HA3.out⟩
  case round =>
    obtain ⟨k, at_, op, hk, rfl, hw, hr, hz, hb⟩ := hrel
    have HW := Lib.hid hw; have HR := Lib.hid hr; have HZ := Lib.hid hz; have HB := Lib.hid hb; clear hw hr hz hb
    by_cases hlt : k < n
    · obtain ⟨b, o, x, hA, hbw, hx, h0, h1, h2⟩ := slA_get (HS.out.below (bt HB1.out HB.out)) hlt
      subst hA
      obtain ⟨hk0, hk1⟩ := okByte_of (HWF.out x (List.mem_of_getElem? hx))
      clear hx
      have hbe := (Below.refl wr.heap.size wr).alloc (Nat.le_refl _) (.cells #[.int .u8 x.kind, .int .u64 x.at_, .int .i64 x.id] 37)
      have HWE := Lib.hid (HW.out.below hbe); have HRE := Lib.hid (HR.out.below hbe); have HBE := Lib.hid (bt HB.out hbe)
      have HKE := Lib.hid (Bk.new wr 37 #[.int .u8 x.kind, .int .u64 x.at_, .int .i64 x.id])
      have hgt : w1.heap.size + 1 < wr.heap.size := HR.out.lt
      clear hbe
      go_upto_if 38 with (fail)
      refine wp_abs (fun we => Watch we w1.heap.size at_ op ∧ RefW we (w1.heap.size + 1) at_ op ∧ Below w1.heap.size w1 we ∧ Bk we wr.heap.size 37 #[.int .u8 x.kind, .int .u64 x.at_, .int .i64 x.id]) ⟨HWE.out, HRE.out, HBE.out, HKE.out⟩ ?_
      clear HWE HRE HBE HKE
      rintro we ⟨hwe, hre, hbe, hke⟩
      have HWE := Lib.hid hwe; have HRE := Lib.hid hre; have HBE := Lib.hid hbe; have HKE := Lib.hid hke
      clear hwe hre hbe hke h0 h1 h2
      go_cut [] (fun wx => ∃ (at2 : Nat → Int) (op2 : Nat → Bool), Watch wx w1.heap.size at2 op2 ∧ RefW wx (w1.heap.size + 1) at2 op2 ∧ Zed at2 op2 ∧ Below w1.heap.size w1 wx)
      case first =>
        have k1 := HKE.out.cell (i := 1) (v := .int .u64 x.at_) rfl
        have k2 := HKE.out.cell (i := 2) (v := .int .i64 x.id) rfl
        go_wp2_with fail
        · clear k1 k2
          rcases ff_or op with hf | ⟨i, hf⟩
          · refine (open_full HWE.out hf x.at_).mono ?_
            rintro e wa ⟨rfl, hba⟩
            have HWA := Lib.hid (HWE.out.below hba); have RA := Lib.hid (HRE.out.below hba); have KA := Lib.hid (HKE.out.below hba); have BA := Lib.hid (bt HBE.out hba)
            clear hba
            have k1 := KA.out.cell (i := 1) (v := .int .u64 x.at_) rfl
            go_wp2_with (refine wpList_loadW rfl _ rfl (w1.heap.size + 1) at_ op (by rfl) RA.out ?_)
            refine (rput_full hf x.at_ wa).mono ?_
            rintro e wb ⟨rfl, hbb⟩
            have HWB := Lib.hid (HWA.out.below hbb); have RB := Lib.hid (RA.out.below hbb); have BB := Lib.hid (bt BA.out hbb)
            clear hbb k1
            go_wp2_with (first
              | (refine wpList_storeW rfl _ _ rfl wb.heap.size (at_) (op) (by rfl) (by rfl) (heap_alloc_new wb (.cells (arr (fun _ => 0) (fun _ => false)) 35)) ?_; intro wd rd gd; have RD := Lib.hid rd; have BD := Lib.hid (below_new gd); clear rd gd)
              | (refine wpList_loadW rfl _ rfl wb.heap.size (at_) (op) (by rfl) RD.out ?_)
              | (refine wpList_storeW rfl _ _ rfl (w1.heap.size + 1) (at_) (op) (by rfl) (by rfl) (RB.out.below BD.out) ?_; intro we re ge; have RE := Lib.hid re; have GE := Lib.hid ge; clear re ge))
            go_meet
            exact ⟨_, _, (HWB.out.below BD.out).far GE.out (by omega), RE.out, HZ.out, (bt BB.out BD.out).grown GE.out (bt BB.out BD.out).size (fun j hj => by cases hj; exact Nat.le_succ _)⟩
          · refine (open_free HWE.out hf x.at_).mono ?_
            rintro e wa ⟨rfl, hwa, hta⟩
            have HWA := Lib.hid hwa; have RA := Lib.hid (HRE.out.turn hta (by omega)); have KA := Lib.hid (HKE.out.turn hta (by omega)); have BA := Lib.hid (HBE.out.trans (hta.below (Nat.le_refl _) HWE.out.lt))
            clear hwa hta
            have k1 := KA.out.cell (i := 1) (v := .int .u64 x.at_) rfl
            go_wp2_with (refine wpList_loadW rfl _ rfl (w1.heap.size + 1) at_ op (by rfl) RA.out ?_)
            refine (rput_free hf x.at_ wa).mono ?_
            rintro e wb ⟨rfl, hbb⟩
            have HWB := Lib.hid (HWA.out.below hbb); have RB := Lib.hid (RA.out.below hbb); have BB := Lib.hid (bt BA.out hbb)
            clear hbb k1
            go_wp2_with (first
              | (refine wpList_storeW rfl _ _ rfl wb.heap.size (upd at_ i x.at_) (upd op i true) (by rfl) (by rfl) (heap_alloc_new wb (.cells (arr (fun _ => 0) (fun _ => false)) 35)) ?_; intro wd rd gd; have RD := Lib.hid rd; have BD := Lib.hid (below_new gd); clear rd gd)
              | (refine wpList_loadW rfl _ rfl wb.heap.size (upd at_ i x.at_) (upd op i true) (by rfl) RD.out ?_)
              | (refine wpList_storeW rfl _ _ rfl (w1.heap.size + 1) (upd at_ i x.at_) (upd op i true) (by rfl) (by rfl) (RB.out.below BD.out) ?_; intro we re ge; have RE := Lib.hid re; have GE := Lib.hid ge; clear re ge))
            go_meet
            exact ⟨_, _, (HWB.out.below BD.out).far GE.out (by omega), RE.out, zed_open HZ.out _ _, (bt BB.out BD.out).grown GE.out (bt BB.out BD.out).size (fun j hj => by cases hj; exact Nat.le_succ _)⟩
        · clear k1 k2
          by_cases hid : x.id < 0 ∨ 8 ≤ x.id
          · refine (close_out _ hid we).mono ?_
            rintro e wa ⟨rfl, hba⟩
            have HWA := Lib.hid (HWE.out.below hba); have RA := Lib.hid (HRE.out.below hba); have KA := Lib.hid (HKE.out.below hba); have BA := Lib.hid (bt HBE.out hba)
            clear hba
            have k1 := KA.out.cell (i := 2) (v := .int .i64 x.id) rfl
            go_wp2_with (refine wpList_loadW rfl _ rfl (w1.heap.size + 1) at_ op (by rfl) RA.out ?_)
            refine (rclose_out hid wa).mono ?_
            rintro e wb ⟨rfl, hbb⟩
            have HWB := Lib.hid (HWA.out.below hbb); have RB := Lib.hid (RA.out.below hbb); have BB := Lib.hid (bt BA.out hbb)
            clear hbb k1
            go_wp2_with (first
              | (refine wpList_storeW rfl _ _ rfl wb.heap.size (at_) (op) (by rfl) (by rfl) (heap_alloc_new wb (.cells (arr (fun _ => 0) (fun _ => false)) 35)) ?_; intro wd rd gd; have RD := Lib.hid rd; have BD := Lib.hid (below_new gd); clear rd gd)
              | (refine wpList_loadW rfl _ rfl wb.heap.size (at_) (op) (by rfl) RD.out ?_)
              | (refine wpList_storeW rfl _ _ rfl (w1.heap.size + 1) (at_) (op) (by rfl) (by rfl) (RB.out.below BD.out) ?_; intro we re ge; have RE := Lib.hid re; have GE := Lib.hid ge; clear re ge))
            go_meet
            exact ⟨_, _, (HWB.out.below BD.out).far GE.out (by omega), RE.out, HZ.out, (bt BB.out BD.out).grown GE.out (bt BB.out BD.out).size (fun j hj => by cases hj; exact Nat.le_succ _)⟩
          · obtain ⟨i, hi, hi8⟩ : ∃ i : Nat, x.id = (i : Int) ∧ i < 8 := ⟨x.id.toNat, by omega, by omega⟩
            rw [hi] at HKE ⊢
            cases ho : op i with
            | false =>
              refine (wclose_no HWE.out hi8 ho).mono ?_
              rintro e wa ⟨rfl, hba⟩
              have HWA := Lib.hid (HWE.out.below hba); have RA := Lib.hid (HRE.out.below hba); have KA := Lib.hid (HKE.out.below hba); have BA := Lib.hid (bt HBE.out hba)
              clear hba
              have k1 := KA.out.cell (i := 2) (v := .int .i64 i) rfl
              go_wp2_with (refine wpList_loadW rfl _ rfl (w1.heap.size + 1) at_ op (by rfl) RA.out ?_)
              refine (rclose_no hi8 ho wa).mono ?_
              rintro e wb ⟨rfl, hbb⟩
              have HWB := Lib.hid (HWA.out.below hbb); have RB := Lib.hid (RA.out.below hbb); have BB := Lib.hid (bt BA.out hbb)
              clear hbb k1
              go_wp2_with (first
                | (refine wpList_storeW rfl _ _ rfl wb.heap.size (at_) (op) (by rfl) (by rfl) (heap_alloc_new wb (.cells (arr (fun _ => 0) (fun _ => false)) 35)) ?_; intro wd rd gd; have RD := Lib.hid rd; have BD := Lib.hid (below_new gd); clear rd gd)
                | (refine wpList_loadW rfl _ rfl wb.heap.size (at_) (op) (by rfl) RD.out ?_)
                | (refine wpList_storeW rfl _ _ rfl (w1.heap.size + 1) (at_) (op) (by rfl) (by rfl) (RB.out.below BD.out) ?_; intro we re ge; have RE := Lib.hid re; have GE := Lib.hid ge; clear re ge))
              go_meet
              exact ⟨_, _, (HWB.out.below BD.out).far GE.out (by omega), RE.out, HZ.out, (bt BB.out BD.out).grown GE.out (bt BB.out BD.out).size (fun j hj => by cases hj; exact Nat.le_succ _)⟩
            | true =>
              refine (wclose_yes HWE.out hi8 ho).mono ?_
              rintro e wa ⟨rfl, hwa, hta⟩
              have HWA := Lib.hid hwa; have RA := Lib.hid (HRE.out.turn hta (by omega)); have KA := Lib.hid (HKE.out.turn hta (by omega)); have BA := Lib.hid (HBE.out.trans (hta.below (Nat.le_refl _) HWE.out.lt))
              clear hwa hta
              have k1 := KA.out.cell (i := 2) (v := .int .i64 i) rfl
              go_wp2_with (refine wpList_loadW rfl _ rfl (w1.heap.size + 1) at_ op (by rfl) RA.out ?_)
              refine (rclose_yes hi8 ho wa).mono ?_
              rintro e wb ⟨rfl, hbb⟩
              have HWB := Lib.hid (HWA.out.below hbb); have RB := Lib.hid (RA.out.below hbb); have BB := Lib.hid (bt BA.out hbb)
              clear hbb k1
              go_wp2_with (first
                | (refine wpList_storeW rfl _ _ rfl wb.heap.size (upd at_ i 0) (upd op i false) (by rfl) (by rfl) (heap_alloc_new wb (.cells (arr (fun _ => 0) (fun _ => false)) 35)) ?_; intro wd rd gd; have RD := Lib.hid rd; have BD := Lib.hid (below_new gd); clear rd gd)
                | (refine wpList_loadW rfl _ rfl wb.heap.size (upd at_ i 0) (upd op i false) (by rfl) RD.out ?_)
                | (refine wpList_storeW rfl _ _ rfl (w1.heap.size + 1) (upd at_ i 0) (upd op i false) (by rfl) (by rfl) (RB.out.below BD.out) ?_; intro we re ge; have RE := Lib.hid re; have GE := Lib.hid ge; clear re ge))
              go_meet
              exact ⟨_, _, (HWB.out.below BD.out).far GE.out (by omega), RE.out, zed_close HZ.out _, (bt BB.out BD.out).grown GE.out (bt BB.out BD.out).size (fun j hj => by cases hj; exact Nat.le_succ _)⟩
      case rest =>
        obtain ⟨at2, op2, hw2, hr2, hz2, hb2⟩ := hcut
        have HW2 := Lib.hid hw2; have HR2 := Lib.hid hr2; have HZ2 := Lib.hid hz2; have HB2 := Lib.hid hb2; clear hw2 hr2 hz2 hb2
        go_wp2_with fail
        have HWD := Lib.hid (HW2.out.below (Below.refl _ _).drew)
        have HRD := Lib.hid (HR2.out.below (Below.refl _ _).drew)
        have HBD := Lib.hid (bt HB2.out (Below.refl _ _).drew)
        go_region_held3 (fun w' => w'.cell? ⟨w1.heap.size + 1, 0, none⟩ = some (.int .u64 (at2 0)) ∧ w'.cell? ⟨w1.heap.size + 1, 1, none⟩ = some (.int .u64 (at2 1)) ∧ w'.cell? ⟨w1.heap.size + 1, 2, none⟩ = some (.int .u64 (at2 2)) ∧ w'.cell? ⟨w1.heap.size + 1, 3, none⟩ = some (.int .u64 (at2 3)) ∧ w'.cell? ⟨w1.heap.size + 1, 4, none⟩ = some (.int .u64 (at2 4)) ∧ w'.cell? ⟨w1.heap.size + 1, 5, none⟩ = some (.int .u64 (at2 5)) ∧ w'.cell? ⟨w1.heap.size + 1, 6, none⟩ = some (.int .u64 (at2 6)) ∧ w'.cell? ⟨w1.heap.size + 1, 7, none⟩ = some (.int .u64 (at2 7)) ∧ w'.cell? ⟨w1.heap.size + 1, 8, none⟩ = some (.bool (op2 0)) ∧ w'.cell? ⟨w1.heap.size + 1, 9, none⟩ = some (.bool (op2 1)) ∧ w'.cell? ⟨w1.heap.size + 1, 10, none⟩ = some (.bool (op2 2)) ∧ w'.cell? ⟨w1.heap.size + 1, 11, none⟩ = some (.bool (op2 3)) ∧ w'.cell? ⟨w1.heap.size + 1, 12, none⟩ = some (.bool (op2 4)) ∧ w'.cell? ⟨w1.heap.size + 1, 13, none⟩ = some (.bool (op2 5)) ∧ w'.cell? ⟨w1.heap.size + 1, 14, none⟩ = some (.bool (op2 6)) ∧ w'.cell? ⟨w1.heap.size + 1, 15, none⟩ = some (.bool (op2 7))) (first | exact RefW.nums HRD.out | exact RefW.nums r2 | exact RefW.nums r3 | exact RefW.nums r4 | exact RefW.nums r5)
          (first
            | ((go_at_call 13; refine (least_any HWD.out nn).mono ?_; rintro e w2 ⟨r, rfl, hl2, hw2, ht2⟩; have r2 := HRD.out.turn ht2 (by omega)))
            | ((go_at_call 14; refine (rleast_any (at_ := at2) (op := op2) nn _).mono ?_; rintro e w3 ⟨⟨r', rfl, hl3⟩, hb3⟩; obtain rfl : r' = r := isLeast_one hl3 hl2; have r3 := r2.below hb3))
            | ((go_at_call 15; refine (len_any (hw2.below hb3)).mono ?_; rintro e w4 ⟨rfl, hb4⟩; have r4 := r3.below hb4))
            | ((go_at_call 16; refine (rlen_any (at_ := at2) (op := op2) _).mono ?_; rintro e w5 ⟨rfl, hb5⟩; have r5 := r4.below hb5)))
        have HW5 := Lib.hid ((hw2.below hb3).below (bt hb4 hb5))
        have HR5 := Lib.hid r5
        have HB5 := Lib.hid (bt (HBD.out.trans (ht2.below (Nat.le_refl _) HWD.out.lt)) (bt (bt hb3 hb4) hb5))
        clear hw2 ht2 hb3 hb4 hb5 r2 r3 r4 r5 hl2 hl3 HWD HRD HBD
        go_wp2
        go_loopw [88] (fun i wr => ∃ j : Nat, j ≤ 8 ∧ i = .int .i64 j ∧ Below w5.heap.size w5 wr) (fun i _ => 8 - (intOf i).toNat)
        case atStart => exact ⟨0, Nat.zero_le _, rfl, Below.refl _ _⟩
        case round =>
          rename World => wj
          obtain ⟨j, hj, rfl, hbj⟩ := hrel
          have HBJ := Lib.hid hbj; clear hbj
          by_cases hj8 : j < 8
          · go_wp2_with fail
            refine (wat_in (HW5.out.below HBJ.out) hj8).mono ?_
            rintro e wa ⟨rfl, hba⟩
            rw [zed_at HZ2.out hj8]
            have r6 := (HR5.out.below HBJ.out).below hba
            have c0 := r6.a hj8
            have c1 := r6.o hj8
            have hlt6 := r6.lt
            have HBA := Lib.hid (bt HBJ.out hba)
            have j1 : (0 : Int) ≤ (j : Int) := by omega
            have j2 : (j : Int) < 8 := by omega
            clear hba r6
            go_wp2
            go_roundw
            case rel => exact ⟨j + 1, by omega, by go_num, HBA.out⟩
            case measure => simp [intOf]; omega
          · obtain rfl : j = 8 := by omega
            go_wp2
            go_roundw
            case rel => exact ⟨k + 1, at2, op2, by omega, by go_num, HW5.out.below HBJ.out, HR5.out.below HBJ.out, HZ2.out, bt HB5.out HBJ.out⟩
            case measure => simp [intOf]; omega
    · obtain rfl : k = n := by omega
      go_wp2_with fail
      refine (at_out w1.heap.size (id := -1) (.inl (by decide)) _).mono ?_
      rintro e wa ⟨rfl, hba⟩
      have HBA := Lib.hid (bt HB.out hba); clear hba
      go_wp2_with fail
      refine (at_out w1.heap.size (id := 8) (.inr (by decide)) _).mono ?_
      rintro e wb ⟨rfl, hbb⟩
      have HBB := Lib.hid (bt HBA.out hbb); clear hbb
      go_wp2
      go_ret
      exact ⟨rfl, bt HB1.out HBB.out⟩
end Go.Proofs.Ytpknllhbebjleaa
