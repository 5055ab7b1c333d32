/- The walk of the law WsetLast: it answers true, whatever comes in. -/
import Derived.Test.YtmoihamobojkfaaCounts
import Derived.Test.YtmoihamobojkfaaAlive
import Derived.Deep.AppendLies
import Derived.Maps.RangeWalk
namespace Go.Proofs.Ytmoihamobojkfaa
open Go.RowKit

open Go.Maps
/-- how a write in a map reads: as itself -/
def writeElem (v : Value) : Option (DataW W3 × List MemPlace) :=
  match v with
  | .agg ⟨[.string k, .string t, .bool g]⟩ => some (.held ⟨k, t, g⟩, [])
  | _ => none
theorem writeElem_mk (x : W3) : writeElem (.agg #[.string x.key, .string x.text, .bool x.gone]) = some (.held x, []) := rfl
def mkW (x : W3) : Value := .agg #[.string x.key, .string x.text, .bool x.gone]
theorem writeElem_inv (v : Value) (y : DataW W3 × List MemPlace) (h : writeElem v = some y) : ∃ c : W3, v = mkW c := by
  unfold writeElem at h
  split at h
  · rename_i k t g; exact ⟨⟨k, t, g⟩, rfl⟩
  · cases h
theorem keyS_inv (key : Value) (kl : Lit) (h : keyOf Try.prog 9 key = some kl) : ∃ x : ByteArray, key = .string x := by
  cases key <;> simp [keyOf, mapKey, Try.underlying9] at h
  exact ⟨_, rfl⟩
theorem keyS_lit {x : ByteArray} {kl : Lit} (h : keyOf Try.prog 9 (.string x) = some kl) : kl = .string x.data.toList := by
  simp [keyOf, mapKey, Try.underlying9] at h
  exact h.2.symm
theorem ranges_below {H : Type} {P : Program} {k : TypeId} {R : Value → Option (DataW H × List MemPlace)} {b r n cnt : Nat} {D : DataW H} {left : Lit → Bool} {w w' : World} (h : w.ranges P k R b r n D left cnt) (hb : Below w.heap.size w w') : w'.ranges P k R b r n D left cnt := by
  have h1 := h.owns.lt
  have h2 := h.lt
  obtain ⟨es, clock, since, seen, c0, e1, e2, e3, e4, e5, e6⟩ := h
  exact ⟨es, clock, since, seen, c0, (hb.block b h1).trans e1, e2, e3, e4, (hb.block r h2).trans e5, e6⟩
/-- the map holds just what the set does -/
def MapIs (D : DataW W3) (s : List W3) : Prop :=
  (∀ k : ByteArray, D.atKey (.string k.data.toList) .nil = match look W3.key k s with | some x => .held x | none => .nil) ∧
  (∀ k : ByteArray, Maps.has D (.string k.data.toList) = (look W3.key k s).isSome) ∧ Maps.size D = s.length
theorem mapIs_start : MapIs (.map []) [] := ⟨fun _ => rfl, fun _ => rfl, rfl⟩
theorem mapIs_put {D : DataW W3} {s : List W3} (h : MapIs D s) (hD : Tidy D) (hr : Rise W3.key s) (x : W3) : MapIs (D.put (.string x.key.data.toList) (.held x)) (ins W3.key s x) := by
  obtain ⟨h1, h2, h3⟩ := h
  have hk : ∀ k : ByteArray, x.key ≠ k → Lit.string k.data.toList ≠ Lit.string x.key.data.toList := fun k hne e => hne (by injection e with e; exact (data_inj e).symm)
  refine ⟨fun k => ?_, fun k => ?_, ?_⟩
  · rw [look_ins hr]
    by_cases e : x.key = k
    · subst e; rw [atKey_put_same hD.isMap (show WideAt.IsKeyLit (.string _) from trivial), if_pos rfl]
    · rw [atKey_put_other (hk k e), if_neg e, h1]
  · rw [look_ins hr]
    by_cases e : x.key = k
    · subst e; rw [has_put_same hD.isMap (show WideAt.IsKeyLit (.string _) from trivial), if_pos rfl]; rfl
    · rw [has_put_other (hk k e), if_neg e, h2]
  · rw [size_put hD, length_ins hr, h2, h3]
    cases (look W3.key x.key s).isSome <;> simp
theorem mapIs_get {D : DataW W3} {s : List W3} (h : MapIs D s) {x : ByteArray} {c : W3} {kl : Lit} {y : DataW W3 × List MemPlace} (hkey : keyOf Try.prog 9 (.string x) = some kl) (hv : writeElem (mkW c) = some y) (hat : ∀ zd, D.atKey kl zd = y.1) : look W3.key x s = some c := by
  obtain rfl := keyS_lit hkey
  rw [mkW, writeElem_mk] at hv
  cases hv
  have h1 := h.1 x
  rw [hat] at h1
  cases e : look W3.key x s with
  | none => rw [e] at h1; cases h1
  | some z => rw [e] at h1; cases h1; rfl
theorem putW_ok {s : List W3} {x : W3} (h : (putW s x).2 = 0) : (putW s x).1 = ins W3.key s x := by
  unfold putW at *; split at h <;> rename_i h0
  · cases h
  · rw [if_neg h0]; split at h <;> rename_i h1
    · rw [if_pos h1]
    · rw [if_neg h1]; split at h <;> rename_i h2
      · cases h
      · rw [if_neg h2]
theorem putW_no {s : List W3} {x : W3} (h : (putW s x).2 ≠ 0) : (putW s x).1 = s := by
  unfold putW at *; split at h <;> rename_i h0
  · rw [if_pos h0]
  · rw [if_neg h0]; split at h <;> rename_i h1
    · exact absurd rfl h
    · rw [if_neg h1]; split at h <;> rename_i h2
      · rw [if_pos h2]
      · exact absurd rfl h
theorem putW_len {s : List W3} {x : W3} (hr : Rise W3.key s) (h : s.length ≤ 16) : (putW s x).1.length ≤ 16 := by
  unfold putW; split
  · exact h
  · split <;> rename_i h1
    · rw [length_ins hr, if_pos h1]; exact h
    · split <;> rename_i h2
      · exact h
      · rw [length_ins hr, if_neg h1]; simp at h2 ⊢; omega
theorem slW_map {P : Program} {H : Type} {ky : TypeId} {R : Value → Option (DataW H × List MemPlace)} {B m : Nat} {D : DataW H} {w w1 : World} {A : Option Addr} {n c : Nat} {cs : List W3} (h : SlW w A n c cs) (hg : w.grownBy w1 (some B)) (hm : w.ownsMap P ky R B m D) : SlW w1 A n c cs := by
  refine ⟨h.1, h.2.1, h.2.2.1, fun hn => ?_⟩
  obtain ⟨b, o, e, hb, hc⟩ := h.2.2.2 hn
  have hl := h.1
  have hne : some b ≠ some B := by
    intro e1
    injection e1 with e1
    subst e1
    have h0 := hc 0 ((cW cs)[0]'(by rw [hl]; omega)) (List.getElem?_eq_getElem _)
    obtain ⟨es, clock, hh, _⟩ := hm
    simp [World.cell?, hh] at h0
  exact ⟨b, o, e, Nat.lt_of_lt_of_le hb hg.size, fun j u hu => (hg.cell_far ⟨b, o + j, none⟩ hb hne).trans (hc j u hu)⟩
theorem neW_self (x : W3) : neW x.key x.text x.gone x.key x.text x.gone = false := by simp [neW]
theorem fewB_len60 {l : List W3} (h : fewB l = true) : l.length ≤ 60 := by
  unfold fewB at h; rw [Bool.and_eq_true] at h; exact of_decide_eq_true h.2
theorem few_key2 {ys : List W3} {x : W3} (h : fewB ys = true) (hx : x ∈ ys) : x.key.size ≤ maxLen := by
  unfold fewB at h
  rw [Bool.and_eq_true, List.all_eq_true] at h
  have h6 := h.1 x hx
  unfold shortW at h6
  simp at h6
  unfold maxLen; omega

set_option maxRecDepth 100000 in
set_option maxHeartbeats 2000000 in
theorem lawLast_any {A : Option Addr} {n c : Nat} {xs : List W3} {w : World} (h : SlW w A n c xs) :
    Calls Try.prog 4 #[.slice A n c] w fun e w' => e = .returned (.bool true) ∧ Below w.heap.size w w' := by
  have hmm := @run_makeMap Try.prog
  have hneq := neW_run
  have h_m := sl_max h
  have hl := Lib.hid (slW_len h)
  have HS := Lib.hid h; clear h
  go_enter Try.func4, Try.ntmps4
  go_wp2_with fail
  refine (alive_any _).mono ?_
  rintro e w1 ⟨rfl, hb1⟩
  have HB1 := Lib.hid (hb1)
  clear hb1
  go_wp2_with fail
  refine (few_any (HS.out.below HB1.out)).mono ?_
  rintro e w2 ⟨rfl, hb2⟩
  have HB2 := Lib.hid (bt HB1.out hb2)
  clear hb2
  cases hf : fewB xs with
  | false =>
    go_wp2
    go_ret
    exact ⟨rfl, HB2.out⟩
  | true =>
  have HFW := Lib.hid hf; have hn60 : n ≤ 60 := by have := fewB_len60 hf; rw [hl.out] at this; exact this
  clear hf
  go_wp2
  go_loopw [3, 21] (fun v i wr => ∃ (k : Nat) (A1 : Option Addr) (n1 c1 : Nat) (s : List W3) (D : DataW W3), k ≤ n ∧ i = .int .i64 k ∧ v = .slice A1 n1 c1 ∧ SlW wr A1 n1 c1 s ∧ Rise W3.key s ∧ s.length ≤ 16 ∧ wr.ownsMap Try.prog 9 writeElem w2.heap.size k D ∧ MapIs D s ∧ Below w2.heap.size w2 wr) (fun _ i _ => n - (intOf i).toNat)
  case atStart => exact ⟨0, none, 0, 0, [], _, Nat.zero_le _, rfl, rfl, Sl.nil_ _ 3, rise_nil, by simp, World.ownsMap_made _ _ _ _, mapIs_start, (Below.refl _ _).alloc (Nat.le_refl _) _⟩
  case round =>
    obtain ⟨k, A1, n1, c1, s, D, hk, rfl, rfl, hs, hr, h16, hown, hmi, hb⟩ := hrel
    have HA := Lib.hid hs; have HR := Lib.hid hr; have HO := Lib.hid hown; have HM := Lib.hid hmi; have HBB := Lib.hid hb; clear hs hr hown hmi hb
    have hmx := sl_max HA.out
    have hn1 : n1 ≤ 16 := by rw [← slW_len HA.out]; exact h16
    have H16 := Lib.hid h16; clear h16
    by_cases hlt : k < n
    · obtain ⟨b, o, x, hA, hbw, hx, h0, h1, h2⟩ := slW_get (HS.out.below (bt HB2.out HBB.out)) hlt
      subst hA
      have HX := Lib.hid hx; clear hx
      have hkz : x.key.size ≤ maxLen := few_key2 HFW.out (List.mem_of_getElem? HX.out)
      have HK := Lib.hid (Blk.new wr 41 #[.string x.key, .string x.text, .bool x.gone])
      have HBE := Lib.hid ((Below.refl wr.heap.size wr).alloc (Nat.le_refl _) (.cells #[.string x.key, .string x.text, .bool x.gone] 41))
      go_wp2_with fail
      refine (put_sl (HA.out.below HBE.out) x HR.out (by omega)).mono ?_
      rintro e wa ⟨A3, n3, c3, rfl, hs3, hba⟩
      have HA3 := Lib.hid hs3
      have HK3 := Lib.hid (HK.out.later hba)
      have HBA := Lib.hid (bt HBB.out (bt HBE.out hba))
      have HO3 := Lib.hid (ownsMap_below HO.out (bt HBE.out hba))
      have HA1 := Lib.hid (HA.out.below (bt HBE.out hba))
      clear hs3 hba h0 h1 h2
      have k0 := HK3.out.cell (i := 0) (v := .string x.key) rfl
      have k1 := HK3.out.cell (i := 1) (v := .string x.text) rfl
      have k2 := HK3.out.cell (i := 2) (v := .bool x.gone) rfl
      by_cases hok : (putW s x).2 = 0
      · have HP := Lib.hid (putW_ok hok)
        have HPL := Lib.hid (putW_len (x := x) HR.out H16.out)
        rw [hok]
        clear hok
        go_wp2_with (at_mapUpdate; refine wpList_mapUpdate_own _ rfl _ _ _ 39 rfl 9 41 strKey Try.underlying39 writeElem w2.heap.size k _ rfl HO3.out (by unfold maxLen; omega) _ _ _ rfl rfl (WideMaps.keyOf_string_mk Try.underlying9 hkz) (.held x) [] (writeElem_mk x) ?_; intro w1 hown1 hgrow1)
        go_wp2
        go_roundw
        case rel => exact ⟨k + 1, A3, n3, c3, _, _, by omega, by go_num, rfl, slW_map HA3.out hgrow1 HO3.out, by rw [HP.out]; exact rise_ins HR.out x, HPL.out, hown1, by rw [HP.out]; exact mapIs_put HM.out (HO3.out.tidy strKey) HR.out x, HBA.out.grown hgrow1 HBA.out.size (fun j hj => by cases hj; exact Nat.le_refl _)⟩
        case measure => simp [intOf]; omega
      · have HP := Lib.hid (putW_no hok)
        have hok2 : ((putW s x).2 == 0) = false := by simpa using hok
        clear hok
        generalize (putW s x).2 = er at *
        go_wp2_with fail
        rw [HP.out] at HA3
        refine (ours_any HA3.out (by rw [← slW_len HA3.out]; have := H16.out; omega)).mono ?_
        rintro e wb ⟨A4, c4, rfl, hs4, hbb⟩
        have HA4 := Lib.hid hs4
        have HA5 := Lib.hid (HA1.out.below hbb)
        have HBC := Lib.hid hbb
        clear hs4 hbb k0 k1 k2
        go_wp2_with fail
        refine (ours_any HA5.out (by omega)).mono ?_
        rintro e wc ⟨A6, c6, rfl, hs6, hbc⟩
        have HA6 := Lib.hid hs6
        have HA7 := Lib.hid (HA4.out.below hbc)
        have HBD := Lib.hid (bt HBC.out hbc)
        clear hs6 hbc
        go_wp2_with fail
        refine (sameW_any HA7.out HA6.out).mono ?_
        rintro e wd ⟨rfl, hbd⟩
        rw [eqL_t rfl]
        have HBE2 := Lib.hid (bt HBD.out hbd)
        clear hbd
        go_wp2
        go_roundw
        case rel => exact ⟨k + 1, A1, n1, c1, s, D, by omega, by go_num, rfl, HA1.out.below HBE2.out, HR.out, H16.out, (ownsMap_below HO3.out HBE2.out).mono (Nat.le_succ _), HM.out, bt HBA.out HBE2.out⟩
        case measure => simp [intOf]; omega
    · obtain rfl : k = n := by omega
      rename World => w7
      have HB7 := Lib.hid (bt HB2.out HBB.out)
      clear HBB
      go_wp2_with (at_range; refine wpList_range_own _ rfl _ 39 rfl 9 41 strKey Try.underlying39 writeElem w2.heap.size k D rfl HO.out ?_; intro w8 hrg0 hg0 hs0)
      go_frame
      go_loopw [9] (fun _ wr => ∃ (left : Lit → Bool) (cnt : Nat), wr.ranges Try.prog 9 writeElem w2.heap.size w7.heap.size k D left cnt ∧ Below w7.heap.size w7 wr) (fun _ wr => wr.rangeLeft w2.heap.size w7.heap.size)
      case atStart => exact ⟨_, _, hrg0, (Below.refl _ _).grown hg0 (Nat.le_refl _) (fun j hj => by cases hj)⟩
      case round =>
        rename World => wt
        obtain ⟨left, cnt, hrg, hb⟩ := hrel
        have HRG := Lib.hid hrg; have HBT := Lib.hid hb; clear hrg hb
        go_wp2_with (at_next; refine wpList_next_ranges _ rfl _ rfl 9 strKey writeElem Value.string mkW keyS_inv writeElem_inv w2.heap.size w7.heap.size k _ _ _ rfl HRG.out ?_ ?_)
        · intro _ _
          have hsz : Maps.size D = n1 := by rw [HM.out.2.2, slW_len HA.out]
          have HA2 := Lib.hid (HA.out.below HBT.out)
          have HO2 := Lib.hid HRG.out.owns
          clear hneq
          go_wp2_with (at_len; refine wpList_len_own _ rfl _ 39 rfl 9 41 Try.underlying39 writeElem w2.heap.size k D rfl HO2.out ?_)
          refine (ours_any HA2.out (by omega)).mono ?_
          rintro e wb ⟨A4, c4, rfl, hs4, hbb⟩
          have HA4 := Lib.hid hs4
          have HBC := Lib.hid (bt HBT.out hbb)
          clear hs4 hbb
          go_wp2_with fail
          refine (riseW_any HA4.out).mono ?_
          rintro e wc ⟨rfl, hbc⟩
          rw [riseB_iff.2 HR.out]
          have HBD := Lib.hid (bt HB7.out (bt HBC.out hbc))
          clear hbc
          go_wp2
          go_ret
          exact ⟨rfl, HBD.out⟩
        · intro x c kl ya yb w1 cnt1 hkey hlx hv hat hrg1 hlt1 hg1 hs1 hen
          have HLK := Lib.hid (mapIs_get (y := (ya, yb)) HM.out hkey hv hat)
          have HRG1 := Lib.hid hrg1
          have HLT := Lib.hid hlt1
          have HBU := Lib.hid (HBT.out.grown hg1 HBT.out.size (fun j hj => by cases hj; exact Nat.le_refl _))
          clear hkey hlx hv hat hrg1 hlt1 hg1 hs1
          have HBE := Lib.hid ((Below.refl w1.heap.size w1).alloc (Nat.le_refl _) (.cells #[.string c.key, .string c.text, .bool c.gone] 41))
          have HK := Lib.hid (Blk.new w1 41 #[.string c.key, .string c.text, .bool c.gone])
          have hen2 : (Instr.entry (.pointer (some ⟨w7.heap.size, 0, none⟩))).run Try.prog w1 = .ok (.tuple #[.string x, .agg #[.string c.key, .string c.text, .bool c.gone]]) w1 := hen
          clear hen
          have HG := get_any ((HA.out.below HBU.out).below HBE.out) x HR.out (by omega)
          rw [HLK.out, show okey (some c) = c.key from rfl, show otext (some c) = c.text from rfl, show ogone (some c) = c.gone from rfl, show (some c).isSome = true from rfl] at HG
          have HG := Lib.hid HG
          unfold mkW
          go_wp2_with fail
          refine HG.out.mono ?_
          rintro e wb ⟨rfl, hbb⟩
          have hbe := bt HBE.out hbb
          have HK3 := HK.out.later hbb
          have k0 := HK3.cell (i := 0) (v := .string c.key) rfl
          have k1 := HK3.cell (i := 1) (v := .string c.text) rfl
          have k2 := HK3.cell (i := 2) (v := .bool c.gone) rfl
          have HRG2 := Lib.hid (ranges_below HRG1.out hbe)
          have HBV := Lib.hid (bt HBU.out hbe)
          have hblt := HK3.lt
          clear hbb hbe HG HK3
          have hnew := neW_self c
          have HRG3 := Lib.hid (HRG2.out.alloc (.cells #[.string c.key, .string c.text, .bool c.gone] 45))
          go_wp2
          go_roundw
          case rel => exact ⟨_, _, HRG3.out, HBV.out.alloc HBV.out.size _⟩
          case measure => rw [HRG3.out.left_eq, HRG.out.left_eq]; exact HLT.out
end Go.Proofs.Ytmoihamobojkfaa
