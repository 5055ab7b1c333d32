/- The walk of the law WsetMeets: it answers true, whatever comes in. -/
import Derived.Test.YtmoihamobojkfaaLawTwice
namespace Go.Proofs.Ytmoihamobojkfaa
open Go.RowKit

theorem slW_one (w : World) (t : TypeId) (x : W3) : SlW (w.alloc (.cells #[.string x.key, .string x.text, .bool x.gone] t)) (some ⟨w.heap.size, 0, none⟩) 1 1 [x] :=
  Sl.lit w #[.string x.key, .string x.text, .bool x.gone] t 3 1 rfl (by simp [maxLen]) rfl
theorem meetB_iff {a b : List W3} : meetB a b = true ↔ ∃ x ∈ a, ∃ y ∈ b, y.key = x.key := by
  unfold meetB
  rw [List.any_eq_true]
  refine ⟨fun ⟨x, hx, h⟩ => ?_, fun ⟨x, hx, y, hy, e⟩ => ⟨x, hx, ?_⟩⟩
  · obtain ⟨y, hy⟩ := Option.isSome_iff_exists.1 h
    exact ⟨x, hx, y, look_some hy⟩
  · cases h : look W3.key x.key b with
    | some z => rfl
    | none => exact absurd e (look_none_iff.1 h y hy)
theorem bool_eq {a b : Bool} (h : a = true ↔ b = true) : a = b := by cases a <;> cases b <;> simp_all
theorem meet_comm (a b : List W3) : meetB a b = meetB b a :=
  bool_eq (by rw [meetB_iff, meetB_iff]; exact ⟨fun ⟨x, hx, y, hy, e⟩ => ⟨y, hy, x, hx, e.symm⟩, fun ⟨x, hx, y, hy, e⟩ => ⟨y, hy, x, hx, e.symm⟩⟩)
theorem meet_self (a : List W3) : meetB a a = decide (0 < a.length) :=
  bool_eq (by
    rw [meetB_iff, decide_eq_true_eq]
    refine ⟨fun ⟨x, hx, _⟩ => List.length_pos_of_mem hx, fun h => ?_⟩
    exact ⟨a[0], List.getElem_mem h, a[0], List.getElem_mem h, rfl⟩)
theorem mem_ins_self {l : List W3} (hl : Rise W3.key l) (w : W3) : w ∈ ins W3.key l w := by
  have := look_ins hl w w.key
  rw [if_pos rfl] at this
  exact (look_some this).1
theorem mem_ins_key {l : List W3} (hl : Rise W3.key l) (w : W3) {x : W3} (hx : x ∈ l) : ∃ y ∈ ins W3.key l w, y.key = x.key := by
  by_cases h : w.key = x.key
  · exact ⟨w, mem_ins_self hl w, h⟩
  · have := look_ins hl w x.key
    rw [if_neg h, look_mem hl hx] at this
    exact ⟨x, (look_some this).1, rfl⟩
theorem meet_ins {l : List W3} (hl : Rise W3.key l) (w : W3) : meetB (ins W3.key l w) [w] = true :=
  meetB_iff.2 ⟨w, mem_ins_self hl w, w, by simp, rfl⟩
theorem meet_less {l b : List W3} (hl : Rise W3.key l) {w : W3} (h : meetB (ins W3.key l w) b = false) : meetB l b = false := by
  cases h1 : meetB l b with
  | false => rfl
  | true =>
    obtain ⟨x, hx, y, hy, e⟩ := meetB_iff.1 h1
    obtain ⟨z, hz, e2⟩ := mem_ins_key hl w hx
    rw [meetB_iff.2 ⟨z, hz, y, hy, e.trans e2.symm⟩] at h; cases h
theorem putW_ok {s : List W3} {w : W3} (_ : Rise W3.key s) (h : (putW s w).2 = 0) : (putW s w).1 = ins W3.key s w ∧ (ins W3.key s w).length ≤ s.length + 1 := by
  have hle : (ins W3.key s w).length ≤ s.length + 1 := by rw [length_ins ‹_›]; split <;> omega
  refine ⟨?_, hle⟩
  unfold putW at h ⊢
  split at h
  · cases h
  · split at h
    · rename_i h1 h2; rw [if_neg h1, if_pos h2]
    · split at h
      · cases h
      · rename_i h1 h2 h3; rw [if_neg h1, if_neg h2, if_neg h3]

set_option maxRecDepth 100000 in
set_option maxHeartbeats 2000000 in
theorem lawMeets_any {A B : Option Addr} {n c m d : Nat} {xs ys : List W3} {w : World} (h : SlW w A n c xs) (h' : SlW w B m d ys) (x : W3) :
    Calls Try.prog 8 #[.slice A n c, .slice B m d, .agg #[.string x.key, .string x.text, .bool x.gone]] w fun e w' => e = .returned (.bool true) ∧ Below w.heap.size w w' := by
  have h_m := sl_max h
  have hl := Lib.hid (slW_len h)
  have HS := Lib.hid h; clear h
  have h'_m := sl_max h'
  have hl' := Lib.hid (slW_len h')
  have HS' := Lib.hid h'; clear h'
  go_enter Try.func8, Try.ntmps8
  go_wp2_with fail
  refine (alive_any _).mono ?_
  rintro e w1 ⟨rfl, hb0⟩
  have HB1 := Lib.hid (bt ((Below.refl w.heap.size w).alloc (Nat.le_refl _) _) hb0)
  have HK := Lib.hid ((Blk.new w 41 #[.string x.key, .string x.text, .bool x.gone]).later hb0)
  clear hb0
  go_wp2_with fail
  refine (few_any (HS.out.below HB1.out)).mono ?_
  rintro e w2 ⟨rfl, hb2⟩
  have HB2 := Lib.hid (bt HB1.out hb2)
  have HK := Lib.hid (HK.out.later hb2)
  clear hb2
  cases hf : fewB xs with
  | false =>
    go_wp2
    go_ret
    exact ⟨rfl, HB2.out⟩
  | true =>
  have n60 : n ≤ 60 := by have := fewB_len hf; rw [hl.out] at this; exact this
  clear hf
  go_wp2_with fail
  refine (few_any (HS'.out.below HB2.out)).mono ?_
  rintro e w3 ⟨rfl, hb3⟩
  have HB3 := Lib.hid (bt HB2.out hb3)
  have HK := Lib.hid (HK.out.later hb3)
  clear hb3
  cases hf : fewB ys with
  | false =>
    go_wp2
    go_ret
    exact ⟨rfl, HB3.out⟩
  | true =>
  have m60 : m ≤ 60 := by have := fewB_len hf; rw [hl'.out] at this; exact this
  clear hf
  go_wp2_with fail
  refine (riseW_any (HS.out.below HB3.out)).mono ?_
  rintro e w4 ⟨rfl, hb4⟩
  have HB4 := Lib.hid (bt HB3.out hb4)
  have HK := Lib.hid (HK.out.later hb4)
  clear hb4
  cases hr : riseB W3.key xs with
  | false =>
    go_wp2
    go_ret
    exact ⟨rfl, HB4.out⟩
  | true =>
  have HP := Lib.hid (riseB_iff.1 hr); clear hr
  go_wp2_with fail
  refine (riseW_any (HS'.out.below HB4.out)).mono ?_
  rintro e w5 ⟨rfl, hb5⟩
  have HB5 := Lib.hid (bt HB4.out hb5)
  have HK := Lib.hid (HK.out.later hb5)
  clear hb5
  cases hr : riseB W3.key ys with
  | false =>
    go_wp2
    go_ret
    exact ⟨rfl, HB5.out⟩
  | true =>
  have HW := Lib.hid (riseB_iff.1 hr); clear hr
  have k0 := HK.out.cell (i := 0) (v := .string x.key) rfl
  have k1 := HK.out.cell (i := 1) (v := .string x.text) rfl
  have k2 := HK.out.cell (i := 2) (v := .bool x.gone) rfl
  go_wp2_with fail
  refine (few_any (slW_one w5 _ x)).mono ?_
  rintro e w6 ⟨rfl, hb6⟩
  have hb6 := bt ((Below.refl w5.heap.size w5).alloc (by simp) _) hb6
  have HB6 := Lib.hid (bt HB5.out hb6)
  have HK := Lib.hid (HK.out.later hb6)
  clear hb6
  clear k0 k1 k2
  cases hf : fewB [x] with
  | false =>
    go_wp2
    go_ret
    exact ⟨rfl, HB6.out⟩
  | true =>
  clear hf
  go_wp2_with fail
  refine (theirs_any (HS.out.below HB6.out) (by omega)).mono ?_
  rintro e w7 ⟨A5, c5, rfl, hs7, hb7⟩
  have HB7 := Lib.hid (bt HB6.out hb7)
  have HK := Lib.hid (HK.out.later hb7)
  have F5 := Lib.hid hs7; clear hs7
  clear hb7
  go_wp2_with fail
  refine (theirs_any (HS'.out.below HB7.out) (by omega)).mono ?_
  rintro e w8 ⟨A6, c6, rfl, hs8, hb8⟩
  have HB8 := Lib.hid (bt HB7.out hb8)
  have HK := Lib.hid (HK.out.later hb8)
  have F5 := Lib.hid (F5.out.below hb8)
  have F6 := Lib.hid hs8; clear hs8
  clear hb8
  have k0 := HK.out.cell (i := 0) (v := .string x.key) rfl
  have k1 := HK.out.cell (i := 1) (v := .string x.text) rfl
  have k2 := HK.out.cell (i := 2) (v := .bool x.gone) rfl
  by_cases hp : (putW xs x).2 = 0
  case neg =>
    have hput := put_sl F5.out x HP.out (by omega)
    have hne : ((putW xs x).2 != 0) = true := bne_iff_ne.2 hp
    generalize (putW xs x).2 = ec at *
    have HPU := Lib.hid hput; clear hput hp
    go_wp2_with fail
    refine (HPU.out).mono ?_
    rintro e w9 ⟨A7, n7, c7, rfl, hs9, hb9⟩
    have HB9 := Lib.hid (bt HB8.out hb9)
    have HK := Lib.hid (HK.out.later hb9)
    have F5 := Lib.hid (F5.out.below hb9)
    have F6 := Lib.hid (F6.out.below hb9)
    have F7 := Lib.hid hs9; clear hs9
    clear hb9
    clear k0 k1 k2 HPU
    go_wp2_with fail
    refine (meet_any F5.out F6.out HW.out (by omega)).mono ?_
    rintro e w10 ⟨rfl, hb10⟩
    have HB10 := Lib.hid (bt HB9.out hb10)
    have HK := Lib.hid (HK.out.later hb10)
    have F5 := Lib.hid (F5.out.below hb10)
    have F6 := Lib.hid (F6.out.below hb10)
    have F7 := Lib.hid (F7.out.below hb10)
    clear hb10
    have HM1 := Lib.hid (meet_comm ys xs)
    go_wp2_with fail
    refine (meet_any F6.out F5.out HP.out (by omega)).mono ?_
    rintro e w11 ⟨rfl, hb11⟩
    have HB11 := Lib.hid (bt HB10.out hb11)
    have HK := Lib.hid (HK.out.later hb11)
    have F5 := Lib.hid (F5.out.below hb11)
    have F6 := Lib.hid (F6.out.below hb11)
    have F7 := Lib.hid (F7.out.below hb11)
    clear hb11
    rw [HM1.out]
    go_wp2_with fail
    refine (meet_any F5.out F5.out HP.out (by omega)).mono ?_
    rintro e w12 ⟨rfl, hb12⟩
    have HB12 := Lib.hid (bt HB11.out hb12)
    have HK := Lib.hid (HK.out.later hb12)
    have F5 := Lib.hid (F5.out.below hb12)
    have F6 := Lib.hid (F6.out.below hb12)
    have F7 := Lib.hid (F7.out.below hb12)
    clear hb12
    rw [show meetB xs xs = decide (0 < n) by rw [← hl.out]; exact meet_self xs]
    have hgt : (decide (0 < n) == decide ((0 : Int) < (n : Int))) = true := by simp
    go_wp2
    go_ret
    exact ⟨rfl, HB12.out⟩
  have HC := Lib.hid (show _ ∧ _ from putW_ok (HP.out) hp)
  have hput := put_sl F5.out x HP.out (by omega)
  rw [hp, HC.out.1] at hput
  have HPU := Lib.hid hput; clear hput hp
  go_wp2_with fail
  refine (HPU.out).mono ?_
  rintro e w9 ⟨A7, n7, c7, rfl, hs9, hb9⟩
  have HB9 := Lib.hid (bt HB8.out hb9)
  have HK := Lib.hid (HK.out.later hb9)
  have F5 := Lib.hid (F5.out.below hb9)
  have F6 := Lib.hid (F6.out.below hb9)
  have F7 := Lib.hid hs9; clear hs9
  clear hb9
  clear k0 k1 k2 HPU
  go_wp2_with fail
  refine (meet_any F5.out F6.out HW.out (by omega)).mono ?_
  rintro e w10 ⟨rfl, hb10⟩
  have HB10 := Lib.hid (bt HB9.out hb10)
  have HK := Lib.hid (HK.out.later hb10)
  have F5 := Lib.hid (F5.out.below hb10)
  have F6 := Lib.hid (F6.out.below hb10)
  have F7 := Lib.hid (F7.out.below hb10)
  clear hb10
  have HM1 := Lib.hid (meet_comm ys xs)
  go_wp2_with fail
  refine (meet_any F6.out F5.out HP.out (by omega)).mono ?_
  rintro e w11 ⟨rfl, hb11⟩
  have HB11 := Lib.hid (bt HB10.out hb11)
  have HK := Lib.hid (HK.out.later hb11)
  have F5 := Lib.hid (F5.out.below hb11)
  have F6 := Lib.hid (F6.out.below hb11)
  have F7 := Lib.hid (F7.out.below hb11)
  clear hb11
  rw [HM1.out]
  go_wp2_with fail
  refine (meet_any F5.out F5.out HP.out (by omega)).mono ?_
  rintro e w12 ⟨rfl, hb12⟩
  have HB12 := Lib.hid (bt HB11.out hb12)
  have HK := Lib.hid (HK.out.later hb12)
  have F5 := Lib.hid (F5.out.below hb12)
  have F6 := Lib.hid (F6.out.below hb12)
  have F7 := Lib.hid (F7.out.below hb12)
  clear hb12
  rw [show meetB xs xs = decide (0 < n) by rw [← hl.out]; exact meet_self xs]
  have hgt : (decide (0 < n) == decide ((0 : Int) < (n : Int))) = true := by simp
  have k0 := HK.out.cell (i := 0) (v := .string x.key) rfl
  have k1 := HK.out.cell (i := 1) (v := .string x.text) rfl
  have k2 := HK.out.cell (i := 2) (v := .bool x.gone) rfl
  go_wp2_with fail
  refine (meet_any (F7.out.below ((Below.refl w12.heap.size w12).alloc (Nat.le_refl _) _)) (slW_one w12 _ x) (rise_cons.2 ⟨by simp, rise_nil⟩) (by omega)).mono ?_
  rintro e w13 ⟨rfl, hb13⟩
  have hb13 := bt ((Below.refl w12.heap.size w12).alloc (by simp) _) hb13
  have HB13 := Lib.hid (bt HB12.out hb13)
  have HK := Lib.hid (HK.out.later hb13)
  have F5 := Lib.hid (F5.out.below hb13)
  have F6 := Lib.hid (F6.out.below hb13)
  have F7 := Lib.hid (F7.out.below hb13)
  clear hb13
  clear k0 k1 k2
  rw [meet_ins HP.out x]
  go_wp2_with fail
  refine (meet_any F7.out F6.out HW.out (by omega)).mono ?_
  rintro e w14 ⟨rfl, hb14⟩
  have HB14 := Lib.hid (bt HB13.out hb14)
  have HK := Lib.hid (HK.out.later hb14)
  have F5 := Lib.hid (F5.out.below hb14)
  have F6 := Lib.hid (F6.out.below hb14)
  have F7 := Lib.hid (F7.out.below hb14)
  clear hb14
  cases hmc : meetB (ins W3.key xs x) ys with
  | true =>
    go_wp2
    go_ret
    exact ⟨rfl, HB14.out⟩
  | false =>
  have HM2 := Lib.hid (meet_less HP.out hmc); clear hmc
  go_wp2_with fail
  refine (meet_any F5.out F6.out HW.out (by omega)).mono ?_
  rintro e w15 ⟨rfl, hb15⟩
  have HB15 := Lib.hid (bt HB14.out hb15)
  have HK := Lib.hid (HK.out.later hb15)
  have F5 := Lib.hid (F5.out.below hb15)
  have F6 := Lib.hid (F6.out.below hb15)
  have F7 := Lib.hid (F7.out.below hb15)
  clear hb15
  rw [HM2.out]
  go_wp2
  go_ret
  exact ⟨rfl, HB15.out⟩
end Go.Proofs.Ytmoihamobojkfaa
