/- A table: Note, Clash, Open. -/
import Derived.Test.YteaaeeidbjklbaaTxC
import Derived.Test.YteaaeeidbjklbaaInts
namespace Go.Proofs.Yteaaeeidbjklbaa
open Go.RowKit Go.Maps

/-- what was noted of a key: 0: nothing -/
def updK (N : ByteArray → Int) (s : ByteArray) (v : Int) : ByteArray → Int := fun s' => if s' = s then v else N s'
theorem updK_same (N : ByteArray → Int) (s : ByteArray) (v : Int) : updK N s v s = v := by unfold updK; simp
theorem updK_other {N : ByteArray → Int} {s s' : ByteArray} {v : Int} (h : s' ≠ s) : updK N s v s' = N s' := by unfold updK; simp [h]
/-- the map reads as the notes -/
def NI (D : DataW Unit) (N : ByteArray → Int) : Prop := ∀ s : ByteArray, D.atKey (.string s.data.toList) (.lit (.int .u64 0)) = .lit (.int .u64 (N s))
theorem ni_start : NI (.map []) (fun _ => 0) := fun _ => rfl
theorem tx_data_inj {a b : ByteArray} (h : a.data.toList = b.data.toList) : a = b := by
  cases a; cases b; simp at h; simpa using h
theorem ni_put {D : DataW Unit} {N : ByteArray → Int} (h : NI D N) (hD : IsMap D) (s : ByteArray) (v : Int) : NI (D.put (.string s.data.toList) (.lit (.int .u64 v))) (updK N s v) := fun s' => by
  by_cases e : s' = s
  · subst e; rw [atKey_put_same hD (show WideAt.IsKeyLit (.string _) from trivial), updK_same]
  · rw [atKey_put_other (fun e' => e (by injection e' with e'; exact tx_data_inj e')), h s', updK_other e]
theorem ni_at {D : DataW Unit} {N : ByteArray → Int} (h : NI D N) (s : ByteArray) {c : Int} (hat : D.atKey (.string s.data.toList) (.lit (.int .u64 0)) = .lit (.int .u64 c)) : c = N s := by
  rw [h s] at hat; injection hat with hat; injection hat with _ hat; exact hat.symm
def notes (N : ByteArray → Int) (xs : List W3) (st : Int) : ByteArray → Int := xs.foldl (fun N x => updK N x.key (if N x.key < st then st else N x.key)) N
theorem tx_take {α : Type} {l : List α} {k : Nat} {x : α} (h : l[k]? = some x) : l.take (k + 1) = l.take k ++ [x] := by
  obtain ⟨hk, rfl⟩ := List.getElem?_eq_some_iff.1 h
  exact (List.take_append_getElem hk).symm
theorem notes_succ {N : ByteArray → Int} {xs : List W3} {st : Int} {k : Nat} {x : W3} (hx : xs[k]? = some x) : notes N (xs.take (k + 1)) st = updK (notes N (xs.take k) st) x.key (if notes N (xs.take k) st x.key < st then st else notes N (xs.take k) st x.key) := by
  unfold notes; rw [tx_take hx, List.foldl_append]; rfl
theorem zeroWord (w : World) : (zeroValue 23).run Try.prog w = .ok (.int .u64 0) w := by kernel_rfl
theorem txKey : Keyed Try.prog 9 := string_keyed Try.underlying9
section
variable {w w1 : World} {g b M : Nat} {at_ : Nat → Int} {op : Nat → Bool} {sets : Nat → List W3} {k : Nat} {D : DataW Unit}
theorem Tab.look (h : Tab w g b M at_ op sets k D) {N : ByteArray → Int} (hN : NI D N) {s : ByteArray} (hs : s.size ≤ maxLen) : (Instr.lookup 83 (.map (some M)) (.string s) false).run Try.prog w = .ok (.int .u64 (N s)) w := by
  obtain ⟨c, hrun, hat, _⟩ := h.own.lookup_int txKey Try.underlying83 Try.underlying23 (zeroWord _) (WideMaps.keyOf_string_mk Try.underlying9 hs)
  rw [ni_at hN s hat] at hrun
  exact hrun
theorem Watch.farT (h : Watch w b at_ op) {m : Nat} (kk : w.grownBy w1 (some m)) (hne : b ≠ m) : Watch w1 b at_ op := by
  obtain ⟨l, n, ⟨hp, ha, ho⟩, hi⟩ := h
  have hs : some b ≠ some m := fun e => hne (by injection e)
  exact ⟨l, n, ⟨⟨Nat.lt_of_lt_of_le hp.lt kk.size, fun i hi => (kk.cell_far ⟨b, _, none⟩ hp.lt hs).trans (hp.a i hi), fun i hi => (kk.cell_far ⟨b, _, none⟩ hp.lt hs).trans (hp.d i hi), (kk.cell_far ⟨b, _, none⟩ hp.lt hs).trans hp.m, fun j => (kk.frozen_far ⟨b, j, none⟩ hp.lt hs).trans (hp.fr j)⟩,
    fun i hi => (kk.cell_far ⟨b, _, none⟩ hp.lt hs).trans (ha i hi), fun i hi => (kk.cell_far ⟨b, _, none⟩ hp.lt hs).trans (ho i hi)⟩, hi⟩
/-- the map alone has turned -/
theorem Tab.mapped (h : Tab w g b M at_ op sets k D) (kk : w.grownBy w1 (some M)) {k' : Nat} {D' : DataW Unit} (ho : w1.ownsMap Try.prog 9 (plainElem Try.prog 23) M k' D') : Tab w1 g b M at_ op sets k' D' := by
  have hg : some g ≠ some M := fun e => h.gM (by injection e)
  have hb : some b ≠ some M := fun e => h.bM (by injection e)
  exact ⟨(kk.cell_far ⟨g, 0, none⟩ h.gl hg).trans h.t, Nat.lt_of_lt_of_le h.gl kk.size, h.wt.farT kk h.bM,
    fun i hi => by obtain ⟨A, n, c, h1, h2, h3⟩ := h.s i hi; exact ⟨A, n, c, (kk.cell_far ⟨b, 49 + i, none⟩ h.wt.lt hb).trans h1, h2.chg (Chg.of_map kk), h3⟩,
    (kk.cell_far ⟨b, 57, none⟩ h.wt.lt hb).trans h.m, ho, h.gb, h.gM, h.bM⟩
/-- does a key of the set stand above the stamp? -/
def clashN (N : ByteArray → Int) (st : Int) (l : List W3) : Bool := l.any (fun x => decide (st < N x.key))
theorem clashN_upto {N : ByteArray → Int} {st : Int} {l : List W3} {n : Nat} (hl : l.length = n) (h : ∀ j x, j < n → l[j]? = some x → N x.key ≤ st) : clashN N st l = false := by
  unfold clashN
  rw [List.any_eq_false]
  intro x hx
  obtain ⟨j, hj, e⟩ := List.mem_iff_getElem.1 hx
  have := h j x (by omega) (by rw [List.getElem?_eq_getElem hj, e])
  simpa using this
theorem clashN_yes {N : ByteArray → Int} {st : Int} {l : List W3} {x : W3} (hx : x ∈ l) (h : st < N x.key) : clashN N st l = true := by
  unfold clashN
  rw [List.any_eq_true]
  exact ⟨x, hx, by simpa using h⟩
theorem clash_no (h : Tab w g b M at_ op sets k D) {i : Nat} (hi : i < 8) (ho : op i = false) : Calls Try.prog 19 #[PT g, .int .i64 i] w fun e w' => e = .returned (.bool false) ∧ Below w.heap.size w w' := by
  have H := Lib.hid h; clear h
  go_enter Try.func19, Try.ntmps19
  go_wp2_with fail
  refine (tat_in H.out hi).mono ?_
  rintro e w1 ⟨rfl, hb1⟩
  rw [ho]
  have HB := Lib.hid hb1; clear hb1
  go_wp2
  go_ret
  exact ⟨rfl, HB.out⟩
theorem clash_yes (h : Tab w g b M at_ op sets k D) {N : ByteArray → Int} (hN : NI D N) {i : Nat} (hz : ∀ x ∈ sets i, x.key.size ≤ maxLen) (hi : i < 8) (ho : op i = true) : Calls Try.prog 19 #[PT g, .int .i64 i] w fun e w' => e = .returned (.bool (clashN N (at_ i) (sets i))) ∧ Below w.heap.size w w' := by
  have H := Lib.hid h; have HN := Lib.hid hN; have HZ := Lib.hid hz; clear h hN hz
  have i1 : (0 : Int) ≤ (i : Int) := by omega
  have i2 : (i : Int) < 8 := by omega
  go_enter Try.func19, Try.ntmps19
  go_wp2_with fail
  refine (tat_in H.out hi).mono ?_
  rintro e w1 ⟨rfl, hb1⟩
  rw [ho, show atOf at_ op i = at_ i by simp [atOf, ho]]
  have h1 := H.out.below hb1
  have H1 := Lib.hid h1
  have HB := Lib.hid hb1
  have c0 := h1.t
  obtain ⟨A0, n0, m0, c1, hs, _⟩ := h1.s i hi
  have HS := Lib.hid hs.1
  have hl := Lib.hid (slW_len hs.1)
  have hm0 := sl_max hs.1
  clear hb1 h1 hs
  go_wp2
  clear c0 c1
  go_loopw [27] (fun v wr => ∃ p : Nat, p ≤ n0 ∧ v = .int .i64 p ∧ (∀ j x, j < p → (sets i)[j]? = some x → N x.key ≤ at_ i) ∧ Below w1.heap.size w1 wr) (fun v _ => n0 - (intOf v).toNat)
  case atStart => exact ⟨0, Nat.zero_le _, rfl, fun j x h => absurd h (by omega), Below.refl _ _⟩
  case round =>
    obtain ⟨p, hp, rfl, hu, hb⟩ := hrel
    have HU := Lib.hid hu; have HBB := Lib.hid hb; clear hu hb
    by_cases hpn : p < n0
    · obtain ⟨b', o, x, hA, hbw, hx, h0, h1, h2⟩ := slW_get (HS.out.below HBB.out) hpn
      subst hA
      have HX := Lib.hid hx; clear hx
      have hkz : x.key.size ≤ maxLen := HZ.out x (List.mem_of_getElem? HX.out)
      have hbe := (Below.refl wr.heap.size wr).alloc (Nat.le_refl _) (.cells #[.string x.key, .string x.text, .bool x.gone] 50)
      have HBE := Lib.hid (bt HBB.out hbe)
      have HTE := Lib.hid ((H1.out.below HBB.out).below hbe)
      have HKE := Lib.hid (heap_alloc_new wr (.cells #[.string x.key, .string x.text, .bool x.gone] 50))
      clear hbe
      go_wp2
      obtain ⟨W1, hW1⟩ : ∃ W1, wr.alloc (.cells #[.string x.key, .string x.text, .bool x.gone] 50) = W1 := ⟨_, rfl⟩
      rw [hW1] at HBE HTE HKE ⊢
      clear hW1 h0 h1 h2
      have q0 := HTE.out.t
      have q1 := HTE.out.m
      have q2 : W1.cell? ⟨wr.heap.size, 0, none⟩ = some (.string x.key) := cell_of_row W1 wr.heap.size 0 _ _ _ HKE.out
      have hlk := (HTE.out.below (Below.refl _ W1).drew).look HN.out hkz
      go_region
      have HB5 := Lib.hid (bt HBE.out (Below.refl _ W1).drew)
      clear q0 q1 q2 hlk
      by_cases hlt : at_ i < N x.key
      · have HLT := Lib.hid hlt
        have hd : decide (at_ i < N x.key) = true := decide_eq_true hlt
        go_wp2
        go_ret
        exact ⟨by rw [clashN_yes (List.mem_of_getElem? HX.out) HLT.out]; rfl, bt HB.out HB5.out⟩
      · have HLT := Lib.hid hlt
        have hd : decide (at_ i < N x.key) = false := decide_eq_false hlt
        go_wp2
        go_roundw
        case rel => exact ⟨p + 1, by omega, by go_num, fun j y hj hy => by
          rcases Nat.lt_or_ge j p with h | h
          · exact HU.out j y h hy
          · obtain rfl : j = p := by omega
            rw [HX.out] at hy; cases hy; have := HLT.out; omega, HB5.out⟩
        case measure => simp [intOf]; omega
    · obtain rfl : p = n0 := by omega
      go_wp2
      go_ret
      exact ⟨by rw [clashN_upto hl.out HU.out]; rfl, bt HB.out HBB.out⟩
set_option maxHeartbeats 2000000 in
theorem note_any (h : Tab w g b M at_ op sets k D) {N : ByteArray → Int} (hN : NI D N) {A : Option Addr} {n c : Nat} {xs : List W3} (hs : SlF w b M A n c xs) (hz : ∀ x ∈ xs, x.key.size ≤ maxLen) (hk : k + n < 1000000) (st : Int) (hst : (Lit.int .u64 st).wf = true) (hNw : ∀ s, (Lit.int .u64 (N s)).wf = true) :
    Calls Try.prog 17 #[PT g, .slice A n c, .int .u64 st] w fun e w' => e = .returned (.tuple #[]) ∧ (∃ D', Tab w' g b M at_ op sets (k + n) D' ∧ NI D' (notes N xs st)) ∧ Chg b M w w' := by
  have hm := sl_max hs.1
  have hl := Lib.hid (slW_len hs.1)
  have H := Lib.hid h; have HN := Lib.hid hN; have HS := Lib.hid hs; have HZ := Lib.hid hz; clear h hN hs hz
  go_enter Try.func17, Try.ntmps17
  go_wp2_with fail
  refine (none_no H.out).mono ?_
  rintro e w1 ⟨rfl, hb1⟩
  have H1 := Lib.hid (H.out.below hb1); have HB := Lib.hid (Chg.of_below (b := b) (M := M) hb1); have HS1 := Lib.hid (HS.out.chg HB.out); clear hb1
  go_wp2
  go_loopw [12] (fun i wr => ∃ (p : Nat) (D' : DataW Unit), p ≤ n ∧ i = .int .i64 p ∧ Tab wr g b M at_ op sets (k + p) D' ∧ NI D' (notes N (xs.take p) st) ∧ (∀ s, (Lit.int .u64 (notes N (xs.take p) st s)).wf = true) ∧ Chg b M w1 wr) (fun i _ => n - (intOf i).toNat)
  case atStart => exact ⟨0, D, Nat.zero_le _, rfl, H1.out, HN.out, hNw, .refl _ _ _⟩
  case round =>
    obtain ⟨p, D', hp, rfl, ht, hn, hw, hc⟩ := hrel
    have HT := Lib.hid ht; have HNI := Lib.hid hn; have HW := Lib.hid hw; have HC := Lib.hid hc; clear ht hn hw hc
    by_cases hpn : p < n
    · obtain ⟨b', o, x, hA, hbw, hx, h0, h1, h2⟩ := slW_get (HS1.out.chg HC.out).1 hpn
      subst hA
      have HX := Lib.hid hx; clear hx
      have hkz : x.key.size ≤ maxLen := HZ.out x (List.mem_of_getElem? HX.out)
      have hbe := (Below.refl wr.heap.size wr).alloc (Nat.le_refl _) (.cells #[.string x.key, .string x.text, .bool x.gone] 50)
      have HBE := Lib.hid hbe
      have HTE := Lib.hid (HT.out.below hbe)
      have HKE := Lib.hid (heap_alloc_new wr (.cells #[.string x.key, .string x.text, .bool x.gone] 50))
      clear hbe
      go_wp2
      obtain ⟨W1, hW1⟩ : ∃ W1, wr.alloc (.cells #[.string x.key, .string x.text, .bool x.gone] 50) = W1 := ⟨_, rfl⟩
      rw [hW1] at HBE HTE HKE ⊢
      clear hW1 h0 h1 h2
      have q0 := HTE.out.t
      have q1 := HTE.out.m
      have q2 : W1.cell? ⟨wr.heap.size, 0, none⟩ = some (.string x.key) := cell_of_row W1 wr.heap.size 0 _ _ _ HKE.out
      have hlk := (HTE.out.below (Below.refl _ W1).drew).look HNI.out hkz
      have hvw : (Lit.int .u64 (if notes N (xs.take p) st x.key < st then st else notes N (xs.take p) st x.key)).wf = true := by
        split
        · exact hst
        · exact HW.out _
      obtain ⟨w5, hrun5, ho5, hg5⟩ := (HTE.out.own.drew).update txKey Try.underlying83 (by unfold maxLen; omega) (WideMaps.keyOf_string_mk Try.underlying9 hkz) (plainElem_int (H := Unit) Try.underlying23 hvw)
      have HO5 := Lib.hid ho5; have HG5 := Lib.hid hg5; have HVW := Lib.hid hvw
      clear ho5 hg5 hvw
      go_region
      have HT5 := Lib.hid ((HTE.out.below (Below.refl _ W1).drew).mapped HG5.out HO5.out)
      have HC5 := Lib.hid ((HC.out.trans (Chg.of_below (bt HBE.out (Below.refl _ W1).drew))).trans (Chg.of_map HG5.out))
      clear q0 q1 q2 hlk hrun5
      go_wp2
      go_roundw
      case rel => exact ⟨p + 1, _, by omega, by go_num, HT5.out, by rw [notes_succ HX.out]; exact ni_put HNI.out HTE.out.own.isMap _ _, by
        rw [notes_succ HX.out]
        intro s
        by_cases e : s = x.key
        · subst e; rw [updK_same]; exact HVW.out
        · rw [updK_other e]; exact HW.out s, HC5.out⟩
      case measure => simp [intOf]; omega
    · obtain rfl : p = n := by omega
      go_wp2
      go_returns
      have := HNI.out
      rw [List.take_of_length_le (by rw [hl.out]; exact Nat.le_refl _)] at this
      exact ⟨rfl, ⟨D', HT.out, this⟩, HB.out.trans HC.out⟩
end
end Go.Proofs.Yteaaeeidbjklbaa
