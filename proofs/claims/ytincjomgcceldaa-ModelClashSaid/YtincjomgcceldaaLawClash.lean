/- The walk of the law ModelClash: it answers true, whatever comes in. -/
import Derived.Test.YtincjomgcceldaaStoreL
namespace Go.Proofs.Ytincjomgcceldaa
open Go.RowKit


set_option maxRecDepth 100000 in
set_option maxHeartbeats 4000000 in
theorem lawClash_any {A B : Option Addr} {n c m d : Nat} {xs : List Cm} {ys : List W3} {w : World} (h : SlC w A n c xs) (h' : SlW w B m d ys) (a0 a1 : Int) :
    Calls Try.prog 9 #[.slice A n c, .slice B m d, .agg #[.int .u64 a0, .int .u64 a1]] w fun e w' => e = .returned (.bool true) ∧ Below w.heap.size w w' := by
  have h_m := slC_max h
  have hl := Lib.hid (slC_len h)
  have HS := Lib.hid h; clear h
  have h'_m := sl_max h'
  have hl' := Lib.hid (slW_len h')
  have HS' := Lib.hid h'; clear h'
  have hok := lastC_ok HS.out
  obtain ⟨hok1, hok2⟩ := hok
  go_enter Try.func9, Try.ntmps9
  go_wp2_with fail
  refine (alive_any _).mono ?_
  rintro e w1 ⟨rfl, hb0⟩
  have HB1 := Lib.hid (bt ((Below.refl w.heap.size w).alloc (Nat.le_refl _) _) hb0)
  have HK := Lib.hid ((Blk.new w 68 #[.int .u64 a0, .int .u64 a1]).later hb0)
  clear hb0
  go_wp2_with fail
  refine (fewS_any (HS.out.below HB1.out)).mono ?_
  rintro e w2 ⟨rfl, hb2⟩
  have HB2 := Lib.hid (bt HB1.out hb2)
  have HK := Lib.hid (HK.out.later hb2)
  clear hb2
  cases hfs : isB (FewS xs) with
  | false =>
    go_wp2
    go_ret
    exact ⟨rfl, HB2.out⟩
  | true =>
  have HF := Lib.hid (isB_iff.1 hfs); clear hfs
  have hn30 : n ≤ 30 := by rw [← hl.out]; exact HF.out.2.1
  go_wp2_with fail
  refine (few_any (HS'.out.below HB2.out)).mono ?_
  rintro e w3 ⟨rfl, hb3⟩
  have HB3 := Lib.hid (bt HB2.out hb3)
  have HK := Lib.hid (HK.out.later hb3)
  clear hb3
  cases hf : fewB ys with
  | false =>
    go_wp2
    go_ret
    exact ⟨rfl, HB3.out⟩
  | true =>
  have hm60 : m ≤ 60 := by have := fewB_len hf; rw [hl'.out] at this; exact this
  clear hf
  go_wp2_with fail
  refine (riseW_any (HS'.out.below HB3.out)).mono ?_
  rintro e w4 ⟨rfl, hb4⟩
  have HB4 := Lib.hid (bt HB3.out hb4)
  have HK := Lib.hid (HK.out.later hb4)
  clear hb4
  cases hr : riseB W3.key ys with
  | false =>
    go_wp2
    go_ret
    exact ⟨rfl, HB4.out⟩
  | true =>
  have HW := Lib.hid (riseB_iff.1 hr); clear hr
  have c0 := HK.out.cell (i := 0) (v := .int .u64 a0) rfl
  have c1 := HK.out.cell (i := 1) (v := .int .u64 a1) rfl
  by_cases hle : a0 ≤ a1
  case neg =>
    have hgt : a1 < a0 := by omega
    go_wp2
    go_ret
    exact ⟨rfl, HB4.out⟩
  go_wp2_with fail
  refine (mtheirs_any (HS.out.below HB4.out) HF.out.len (by omega)).mono ?_
  rintro e w5 ⟨A5, c5, rfl, hs5, hb5⟩
  have HB5 := Lib.hid (bt HB4.out hb5)
  have HK := Lib.hid (HK.out.later hb5)
  have FM := Lib.hid hs5; clear hs5
  clear hb5
  clear c0 c1
  have HBD := Lib.hid (bt HB5.out (Below.refl _ w5).drew)
  have HTH := Lib.hid (fun (W : World) (hW : Below w5.drew.heap.size w5.drew W) => theirs_any (HS'.out.below (bt HBD.out hW)) (by omega : m ≤ 65536))
  have HFM := Lib.hid (fun (W : World) (hW : Below w5.drew.heap.size w5.drew W) => (FM.out.below (bt (Below.refl _ w5).drew hW)))
  have k0 : w5.drew.cell? ⟨w.heap.size, 0, none⟩ = some (.int .u64 a0) := HK.out.cell rfl
  have k1 : w5.drew.cell? ⟨w.heap.size, 1, none⟩ = some (.int .u64 a1) := HK.out.cell rfl
  have hltk : w.heap.size < w5.drew.heap.size := HK.out.lt
  go_wp2_with fail
  go_cut [8, 9] (fun u v wx => u = .bool (clashB xs ys a0) ∧ v = .bool (clashB xs ys a1) ∧ Below w5.drew.heap.size w5.drew wx)
  case first =>
    go_region_held3 (fun w' => w'.cell? ⟨w.heap.size, 0, none⟩ = some (.int .u64 a0) ∧ w'.cell? ⟨w.heap.size, 1, none⟩ = some (.int .u64 a1)) (first | exact ⟨k0, k1⟩ | exact ⟨(hz2.cell (p := ⟨w.heap.size, 0, none⟩) hltk).trans k0, (hz2.cell (p := ⟨w.heap.size, 1, none⟩) hltk).trans k1⟩)
        (first
          | ((go_at_call 16; refine (HTH.out _ (by first | exact Below.refl _ _ | exact hz2)).mono ?_; rintro e w2 ⟨A2, c2, rfl, hs2, hb2⟩; have hz2 : Below w5.drew.heap.size w5.drew w2 := bt (by first | exact Below.refl _ _ | exact hz2) hb2))
          | ((go_at_call 22; refine (clash_any (HFM.out _ hz2) hs2 _ HW.out (by omega)).mono ?_; rintro e w2 ⟨rfl, hb2⟩; have hz2 : Below w5.drew.heap.size w5.drew w2 := bt (by first | exact Below.refl _ _ | exact hz2) hb2)))
    go_wp2
    go_meet
    exact ⟨rfl, rfl, hz2⟩
  case rest =>
    obtain ⟨rfl, rfl, hwc⟩ := hcut
    have hbc := bt (show Below w5.heap.size w5 w5.drew from (Below.refl _ _).drew) hwc
    have HBC := Lib.hid (bt HB5.out hbc)
    have FMC := Lib.hid (FM.out.below hbc)
    have HKC := Lib.hid (HK.out.later hbc)
    have HM1 := Lib.hid (fun h : clashB xs ys a1 = true => clash_mono hle h)
    clear hbc hwc k0 k1 hltk HTH HFM HBD
    generalize hga : clashB xs ys a0 = ca at *
    generalize hgb : clashB xs ys a1 = cb at *
    clear hga hgb
    have HBD := Lib.hid (bt HBC.out (Below.refl _ wc).drew)
    have HTH := Lib.hid (fun (W : World) (hW : Below wc.drew.heap.size wc.drew W) => theirs_any (HS'.out.below (bt HBD.out hW)) (by omega : m ≤ 65536))
    have HFM := Lib.hid (fun (W : World) (hW : Below wc.drew.heap.size wc.drew W) => (FMC.out.below (bt (Below.refl _ wc).drew hW)))
    have k0 : wc.drew.cell? ⟨w.heap.size, 0, none⟩ = some (.int .u64 a0) := HKC.out.cell rfl
    have k1 : wc.drew.cell? ⟨w.heap.size, 1, none⟩ = some (.int .u64 a1) := HKC.out.cell rfl
    have hltk : w.heap.size < wc.drew.heap.size := HKC.out.lt
    have HC1 := Lib.hid (fun (W : World) (hW : Below wc.drew.heap.size wc.drew W) => by
      have h := clash_any (HFM.out W hW) (Sl.nil_ W 3 : SlW W none 0 0 []) a0 rise_nil (by omega)
      rw [clash_nil_set] at h
      exact h)
    have HC2 := Lib.hid (fun (W : World) (A : Option Addr) (c : Nat) (hs : SlW W A m c ys) => by
      have h := clash_any (SlC.nil_ W) hs a0 HW.out (by omega)
      rw [clash_nil] at h
      exact h)
    have HC3 := Lib.hid (fun (W : World) (A : Option Addr) (c : Nat) (hW : Below wc.drew.heap.size wc.drew W) (hs : SlW W A m c ys) => by
      have h := clash_any (HFM.out W hW) hs (lastC xs) HW.out (by omega)
      rw [clash_last (lastC_ge HF.out.2.2)] at h
      exact h)
    have tok1 : True := trivial
    have tok2 : True := trivial
    cases cb with
    | true =>
      obtain rfl : ca = true := HM1.out rfl
      go_wp2
      first
      | go_region_held (fun w' => w'.cell? ⟨w.heap.size, 0, none⟩ = some (.int .u64 a0) ∧ w'.cell? ⟨w.heap.size, 1, none⟩ = some (.int .u64 a1)) (first | exact ⟨k0, k1⟩ | exact ⟨(hz2.cell (p := ⟨w.heap.size, 0, none⟩) hltk).trans k0, (hz2.cell (p := ⟨w.heap.size, 1, none⟩) hltk).trans k1⟩)
            (first
            | ((go_at_call 16; refine (HTH.out _ (by first | exact Below.refl _ _ | exact hz2)).mono ?_; rintro e w2 ⟨A2, c2, rfl, hs2, hb2⟩; have hz2 : Below wc.drew.heap.size wc.drew w2 := bt (by first | exact Below.refl _ _ | exact hz2) hb2))
            | ((go_at_call 20; refine (last_sl (HFM.out _ (by first | exact Below.refl _ _ | exact hz2))).mono ?_; rintro e w2 ⟨rfl, hb2⟩; have hs2 := hs2.below hb2; have hz2 : Below wc.drew.heap.size wc.drew w2 := bt (by first | exact Below.refl _ _ | exact hz2) hb2))
            | ((have _t := tok1; go_at_call 22; refine (HC1.out _ (by first | exact Below.refl _ _ | exact hz2)).mono ?_; rintro e w2 ⟨rfl, hb2⟩; clear tok1; have hz2 : Below wc.drew.heap.size wc.drew w2 := bt (by first | exact Below.refl _ _ | exact hz2) hb2))
            | ((have _t := tok2; go_at_call 22; refine (HC2.out _ _ _ hs2).mono ?_; rintro e w2 ⟨rfl, hb2⟩; clear tok2; have hz2 : Below wc.drew.heap.size wc.drew w2 := bt (by first | exact Below.refl _ _ | exact hz2) hb2))
            | ((go_at_call 22; refine (HC3.out _ _ _ hz2 hs2).mono ?_; rintro e w2 ⟨rfl, hb2⟩; have hz2 : Below wc.drew.heap.size wc.drew w2 := bt (by first | exact Below.refl _ _ | exact hz2) hb2))
            | fail)
      | fail
      go_wp2
      go_ret
      exact ⟨rfl, bt HBC.out (bt (Below.refl _ wc).drew hz2)⟩
    | false =>
      cases ca with
      | true =>
        go_wp2
        first
        | go_region_held (fun w' => w'.cell? ⟨w.heap.size, 0, none⟩ = some (.int .u64 a0) ∧ w'.cell? ⟨w.heap.size, 1, none⟩ = some (.int .u64 a1)) (first | exact ⟨k0, k1⟩ | exact ⟨(hz2.cell (p := ⟨w.heap.size, 0, none⟩) hltk).trans k0, (hz2.cell (p := ⟨w.heap.size, 1, none⟩) hltk).trans k1⟩)
              (first
              | ((go_at_call 16; refine (HTH.out _ (by first | exact Below.refl _ _ | exact hz2)).mono ?_; rintro e w2 ⟨A2, c2, rfl, hs2, hb2⟩; have hz2 : Below wc.drew.heap.size wc.drew w2 := bt (by first | exact Below.refl _ _ | exact hz2) hb2))
              | ((go_at_call 20; refine (last_sl (HFM.out _ (by first | exact Below.refl _ _ | exact hz2))).mono ?_; rintro e w2 ⟨rfl, hb2⟩; have hs2 := hs2.below hb2; have hz2 : Below wc.drew.heap.size wc.drew w2 := bt (by first | exact Below.refl _ _ | exact hz2) hb2))
              | ((have _t := tok1; go_at_call 22; refine (HC1.out _ (by first | exact Below.refl _ _ | exact hz2)).mono ?_; rintro e w2 ⟨rfl, hb2⟩; clear tok1; have hz2 : Below wc.drew.heap.size wc.drew w2 := bt (by first | exact Below.refl _ _ | exact hz2) hb2))
              | ((have _t := tok2; go_at_call 22; refine (HC2.out _ _ _ hs2).mono ?_; rintro e w2 ⟨rfl, hb2⟩; clear tok2; have hz2 : Below wc.drew.heap.size wc.drew w2 := bt (by first | exact Below.refl _ _ | exact hz2) hb2))
              | ((go_at_call 22; refine (HC3.out _ _ _ hz2 hs2).mono ?_; rintro e w2 ⟨rfl, hb2⟩; have hz2 : Below wc.drew.heap.size wc.drew w2 := bt (by first | exact Below.refl _ _ | exact hz2) hb2))
              | fail)
        | fail
        go_wp2
        go_ret
        exact ⟨rfl, bt HBC.out (bt (Below.refl _ wc).drew hz2)⟩
      | false =>
        go_wp2
        first
        | go_region_held (fun w' => w'.cell? ⟨w.heap.size, 0, none⟩ = some (.int .u64 a0) ∧ w'.cell? ⟨w.heap.size, 1, none⟩ = some (.int .u64 a1)) (first | exact ⟨k0, k1⟩ | exact ⟨(hz2.cell (p := ⟨w.heap.size, 0, none⟩) hltk).trans k0, (hz2.cell (p := ⟨w.heap.size, 1, none⟩) hltk).trans k1⟩)
              (first
              | ((go_at_call 16; refine (HTH.out _ (by first | exact Below.refl _ _ | exact hz2)).mono ?_; rintro e w2 ⟨A2, c2, rfl, hs2, hb2⟩; have hz2 : Below wc.drew.heap.size wc.drew w2 := bt (by first | exact Below.refl _ _ | exact hz2) hb2))
              | ((go_at_call 20; refine (last_sl (HFM.out _ (by first | exact Below.refl _ _ | exact hz2))).mono ?_; rintro e w2 ⟨rfl, hb2⟩; have hs2 := hs2.below hb2; have hz2 : Below wc.drew.heap.size wc.drew w2 := bt (by first | exact Below.refl _ _ | exact hz2) hb2))
              | ((have _t := tok1; go_at_call 22; refine (HC1.out _ (by first | exact Below.refl _ _ | exact hz2)).mono ?_; rintro e w2 ⟨rfl, hb2⟩; clear tok1; have hz2 : Below wc.drew.heap.size wc.drew w2 := bt (by first | exact Below.refl _ _ | exact hz2) hb2))
              | ((have _t := tok2; go_at_call 22; refine (HC2.out _ _ _ hs2).mono ?_; rintro e w2 ⟨rfl, hb2⟩; clear tok2; have hz2 : Below wc.drew.heap.size wc.drew w2 := bt (by first | exact Below.refl _ _ | exact hz2) hb2))
              | ((go_at_call 22; refine (HC3.out _ _ _ hz2 hs2).mono ?_; rintro e w2 ⟨rfl, hb2⟩; have hz2 : Below wc.drew.heap.size wc.drew w2 := bt (by first | exact Below.refl _ _ | exact hz2) hb2))
              | fail)
        | fail
        go_wp2
        go_ret
        exact ⟨rfl, bt HBC.out (bt (Below.refl _ wc).drew hz2)⟩
end Go.Proofs.Ytincjomgcceldaa
