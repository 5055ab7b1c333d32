/- The document's notes: find, Clash. -/
import Derived.Test.YteaaeeidbjklbaaTxQ
import Derived.Deep.RegionHeld3
namespace Go.Proofs.Yteaaeeidbjklbaa
open Go.RowKit Go.Maps

attribute [local go_sem ↓] sT_eq sW_eq

structure N2 where
  key : ByteArray
  st : Int
def N2.cells (x : N2) : List Value := [.string x.key, .int .u64 x.st]
def cN (xs : List N2) : List Value := xs.flatMap N2.cells
theorem cN_append (a b : List N2) : cN (a ++ b) = cN a ++ cN b := List.flatMap_append
theorem cN_length : ∀ xs : List N2, (cN xs).length = xs.length * 2
  | [] => rfl
  | x :: l => by simp only [cN, List.flatMap_cons, List.length_append, List.length_cons]; have := cN_length l; unfold cN at this; rw [this]; simp [N2.cells]; omega
theorem cN_get : ∀ {xs : List N2} {k : Nat} {x : N2}, xs[k]? = some x → (cN xs)[k * 2]? = some (.string x.key) ∧ (cN xs)[k * 2 + 1]? = some (.int .u64 x.st)
  | [], k, x, h => by simp at h
  | y :: l, 0, x, h => by
    obtain rfl : y = x := by simpa using h
    exact ⟨rfl, rfl⟩
  | y :: l, k + 1, x, h => by
    have ih := cN_get (xs := l) (k := k) (by simpa using h)
    have e : ∀ j, (cN (y :: l))[j + 2]? = (cN l)[j]? := fun j => rfl
    rw [show (k + 1) * 2 = k * 2 + 2 from by omega, show k * 2 + 2 + 1 = k * 2 + 1 + 2 from by omega, e, e]
    exact ih
abbrev SlN (w : World) (A : Option Addr) (n c : Nat) (xs : List N2) : Prop := Sl w 2 A n c (cN xs)
theorem slN_len {w : World} {A : Option Addr} {n c : Nat} {xs : List N2} (h : SlN w A n c xs) : xs.length = n := by
  have h1 := h.1; rw [cN_length] at h1; omega
theorem slN_get {w : World} {A : Option Addr} {n c : Nat} {xs : List N2} (h : SlN w A n c xs) {k : Nat} (hk : k < n) :
    ∃ b o x, A = some ⟨b, o, none⟩ ∧ b < w.heap.size ∧ xs[k]? = some x ∧ w.cell? ⟨b, o + k * 2, none⟩ = some (.string x.key) ∧ w.cell? ⟨b, o + k * 2 + 1, none⟩ = some (.int .u64 x.st) := by
  obtain ⟨b, o, e, hb, hc⟩ := h.2.2.2 (by omega)
  have hl : k < xs.length := by rw [slN_len h]; exact hk
  have hx : xs[k]? = some xs[k] := List.getElem?_eq_getElem hl
  obtain ⟨h0, h1⟩ := cN_get hx
  exact ⟨b, o, xs[k], e, hb, hx, hc _ _ h0, hc _ _ h1⟩
/-- the stamp that was noted of a key; 0: none -/
def findR (l : List N2) (k : ByteArray) : Int := l.foldl (fun n e => if e.key = k then (if n < e.st then e.st else n) else n) 0
theorem findR_succ {l : List N2} {k : ByteArray} {i : Nat} {x : N2} (hx : l[i]? = some x) : findR (l.take (i + 1)) k = if x.key = k then (if findR (l.take i) k < x.st then x.st else findR (l.take i) k) else findR (l.take i) k := by
  unfold findR; rw [tx_take hx, List.foldl_append]; rfl
theorem findR_snoc (l : List N2) (k : ByteArray) (x : N2) : findR (l ++ [x]) k = if x.key = k then (if findR l k < x.st then x.st else findR l k) else findR l k := by
  unfold findR; rw [List.foldl_append]; rfl
theorem arrT_str (at_ : Nat → Int) (op : Nat → Bool) (S : Nat → SV) (V : SV) (j : Nat) (s : ByteArray) : (arrT at_ op S V)[j]? ≠ some (.string s) := by
  intro h
  have hj : j < 25 := (Array.getElem?_eq_some_iff.1 h).1
  rcases Nat.lt_or_ge j 8 with h8 | h8
  · rw [arrT_at _ _ _ _ h8] at h; cases h
  · rcases Nat.lt_or_ge j 16 with h16 | h16
    · obtain ⟨i, rfl⟩ : ∃ i, j = 8 + i := ⟨j - 8, by omega⟩
      rw [arrT_op _ _ _ _ (by omega)] at h; cases h
    · rcases Nat.lt_or_ge j 24 with h24 | h24
      · obtain ⟨i, rfl⟩ : ∃ i, j = 16 + i := ⟨j - 16, by omega⟩
        rw [arrT_S _ _ _ _ (by omega)] at h; cases h
      · obtain rfl : j = 24 := by omega
        rw [arrT_V] at h; cases h
/-- what begins with a text does not lie in the table's block -/
theorem refT_far {at_ : Nat → Int} {op : Nat → Bool} {S : Nat → SV} {V : SV} {w : World} {g b' o : Nat} {s : ByteArray} (h : RefT w g at_ op S V) (hc : w.cell? ⟨b', o, none⟩ = some (.string s)) : b' ≠ g := by
  rintro rfl
  rw [cell_of_row w b' o _ _ _ h] at hc
  exact arrT_str _ _ _ _ _ _ hc
theorem slF_refT {at_ : Nat → Int} {op : Nat → Bool} {S : Nat → SV} {V : SV} {w w1 : World} {g b M : Nat} {A : Option Addr} {n c : Nat} {xs : List W3} (hs : SlF w b M A n c xs) (h : RefT w g at_ op S V) (k : w.grownBy w1 (some g)) : SlF w1 b M A n c xs := by
  obtain ⟨⟨h1, h2, h3, h4⟩, hf⟩ := hs
  refine ⟨⟨h1, h2, h3, fun hn => ?_⟩, hf⟩
  obtain ⟨b', o, e, hlt, hc⟩ := h4 hn
  have hx : xs[0]? = some (xs[0]'(by have := slW_len (show SlW w A n c xs from ⟨h1, h2, h3, h4⟩); omega)) := List.getElem?_eq_getElem _
  have hne := refT_far h (hc 0 _ (cW_get hx).1)
  exact ⟨b', o, e, Nat.lt_of_lt_of_le hlt k.size, fun j u hu => (k.cell_far ⟨b', o + j, none⟩ hlt (fun e => hne (by injection e))).trans (hc j u hu)⟩
set_option maxHeartbeats 2000000 in
theorem rfind_any {at_ : Nat → Int} {op : Nat → Bool} {S : Nat → SV} {V : SV} {l : List N2} {w : World} (h : SlN w V.a V.n V.c l) (k : ByteArray) : Calls Try.prog 40 #[mT at_ op S V, .string k] w fun e w' => e = .returned (.int .u64 (findR l k)) ∧ Below w.heap.size w w' := by
  have hm := sl_max h
  have hl := Lib.hid (slN_len h)
  have HB := Lib.hid ((Below.refl w.heap.size w).alloc (Nat.le_refl _) (.cells (arrT at_ op S V) 36))
  have HT := Lib.hid (t_new w at_ op S V)
  have HS := Lib.hid h; clear h
  obtain ⟨A, n, c⟩ := V
  simp only at hm hl HS
  go_enter Try.func40, Try.ntmps40
  go_wp2
  go_loopw [5, 6] (fun v i wr => ∃ p : Nat, p ≤ n ∧ i = .int .i64 p ∧ v = .int .u64 (findR (l.take p) k) ∧ RefT wr w.heap.size at_ op S ⟨A, n, c⟩ ∧ Below w.heap.size w wr) (fun _ i _ => n - (intOf i).toNat)
  case atStart => exact ⟨0, Nat.zero_le _, rfl, rfl, HT.out, HB.out⟩
  case round =>
    obtain ⟨p, hp, rfl, rfl, ht, hb⟩ := hrel
    clear HT HB
    have HT := Lib.hid ht; have HB := Lib.hid hb; clear ht hb
    have c0 := HT.out.v
    have hlt := HT.out.lt
    by_cases hpn : p < n
    · obtain ⟨b', o, x, hA, hbw, hx, h0, h1⟩ := slN_get (HS.out.below HB.out) hpn
      subst hA
      have HX := Lib.hid hx; clear hx
      have i1 : (0 : Int) ≤ (p : Int) := by omega
      have i2 : (p : Int) < n := by omega
      by_cases he : x.key = k
      · have hne : (x.key.toList == k.toList) = true := by rw [he]; simp
        have HE := Lib.hid he; clear he
        go_wp2
        go_roundw
        case rel => exact ⟨p + 1, by omega, by go_num, by rw [findR_succ HX.out, if_pos HE.out], HT.out, HB.out⟩
        case measure => simp [intOf]; omega
      · have hne : (x.key.toList == k.toList) = false := by rw [beq_eq_false_iff_ne]; exact fun e => he (ba_toList_inj e)
        have HE := Lib.hid he; clear he
        go_wp2
        go_roundw
        case rel => exact ⟨p + 1, by omega, by go_num, by rw [findR_succ HX.out, if_neg HE.out], HT.out, HB.out⟩
        case measure => simp [intOf]; omega
    · obtain rfl : p = n := by omega
      go_wp2
      go_ret
      exact ⟨by rw [List.take_of_length_le (by rw [hl.out]; exact Nat.le_refl _)]; rfl, HB.out⟩
theorem rclash_out {at_ : Nat → Int} {op : Nat → Bool} {S : Nat → SV} {V : SV} {id : Int} (hi : id < 0 ∨ 8 ≤ id) (w : World) : Calls Try.prog 20 #[mT at_ op S V, .int .i64 id] w fun e w' => e = .returned (.bool false) ∧ Below w.heap.size w w' := by
  have HB := Lib.hid ((Below.refl w.heap.size w).alloc (Nat.le_refl _) (.cells (arrT at_ op S V) 36))
  have HT := Lib.hid (t_new w at_ op S V)
  have HI := Lib.hid hi; clear hi
  go_enter Try.func20, Try.ntmps20
  go_wp2_with (refine wpList_loadT rfl _ rfl w.heap.size at_ op S V (by rfl) HT.out ?_)
  refine (ropen_out HI.out _).mono ?_
  rintro e w1 ⟨rfl, hb⟩
  have HB1 := Lib.hid (bt HB.out hb); clear hb
  go_wp2
  go_ret
  exact ⟨rfl, HB1.out⟩
theorem rclash_no {at_ : Nat → Int} {op : Nat → Bool} {S : Nat → SV} {V : SV} {i : Nat} (hi : i < 8) (ho : op i = false) (w : World) : Calls Try.prog 20 #[mT at_ op S V, .int .i64 i] w fun e w' => e = .returned (.bool false) ∧ Below w.heap.size w w' := by
  have HB := Lib.hid ((Below.refl w.heap.size w).alloc (Nat.le_refl _) (.cells (arrT at_ op S V) 36))
  have HT := Lib.hid (t_new w at_ op S V)
  go_enter Try.func20, Try.ntmps20
  go_wp2_with (refine wpList_loadT rfl _ rfl w.heap.size at_ op S V (by rfl) HT.out ?_)
  refine (ropen_in hi _).mono ?_
  rintro e w1 ⟨rfl, hb⟩
  rw [ho]
  have HB1 := Lib.hid (bt HB.out hb); clear hb
  go_wp2
  go_ret
  exact ⟨rfl, HB1.out⟩
set_option maxRecDepth 100000 in
set_option maxHeartbeats 4000000 in
theorem rclash_yes {at_ : Nat → Int} {op : Nat → Bool} {S : Nat → SV} {V : SV} {i : Nat} (hi : i < 8) (ho : op i = true) {w : World} {l : List N2} {s : List W3} (hv : SlN w V.a V.n V.c l) (hs : SlW w (S i).a (S i).n (S i).c s) : Calls Try.prog 20 #[mT at_ op S V, .int .i64 i] w fun e w' => e = .returned (.bool (clashN (findR l) (at_ i) s)) ∧ Below w.heap.size w w' := by
  have hm := sl_max hs
  have hl := Lib.hid (slW_len hs)
  have HB := Lib.hid ((Below.refl w.heap.size w).alloc (Nat.le_refl _) (.cells (arrT at_ op S V) 36))
  have HT := Lib.hid (t_new w at_ op S V)
  have HV := Lib.hid hv; have HS := Lib.hid hs; clear hv hs
  have i1 : (0 : Int) ≤ (i : Int) := by omega
  have i2 : (i : Int) < 8 := by omega
  go_enter Try.func20, Try.ntmps20
  go_wp2_with (refine wpList_loadT rfl _ rfl w.heap.size at_ op S V (by rfl) HT.out ?_)
  refine (ropen_in hi _).mono ?_
  rintro e w1 ⟨rfl, hb⟩
  rw [ho]
  have HB1 := Lib.hid (bt HB.out hb); have HT1 := Lib.hid (HT.out.below hb); clear hb HB HT
  go_wp2
  go_loopw [5] (fun v wr => ∃ p : Nat, p ≤ (S i).n ∧ v = .int .i64 p ∧ (∀ j x, j < p → s[j]? = some x → findR l x.key ≤ at_ i) ∧ RefT wr w.heap.size at_ op S V ∧ Below w.heap.size w wr) (fun v _ => (S i).n - (intOf v).toNat)
  case atStart => exact ⟨0, Nat.zero_le _, rfl, (fun j x h => absurd h (by omega)), HT1.out, HB1.out⟩
  case round =>
    obtain ⟨p, hp, rfl, hu, ht, hb⟩ := hrel
    clear HT1 HB1
    have HU := Lib.hid hu; have HT := Lib.hid ht; have HB := Lib.hid hb; clear hu ht hb
    have c0 := HT.out.s hi
    have hlt := HT.out.lt
    by_cases hpn : p < (S i).n
    · obtain ⟨b', o, x, hA, hbw, hx, h0, h1, h2⟩ := slW_get (HS.out.below HB.out) hpn
      have HX := Lib.hid hx; clear hx h1 h2
      have j1 : (0 : Int) ≤ (p : Int) := by omega
      have j2 : (p : Int) < ((S i).n : Int) := by omega
      go_wp2
      have HTD := Lib.hid (HT.out.below (Below.refl _ _).drew)
      have HBD := Lib.hid (bt HB.out (Below.refl _ _).drew)
      rw [hA] at c0
      have r0 := HTD.out.ld
      have r1 : wr.drew.cell? ⟨w.heap.size, 16 + i, none⟩ = some (.slice (some ⟨b', o, none⟩) (S i).n (S i).c) := c0
      have r2 : wr.drew.cell? ⟨b', o + p * 3, none⟩ = some (.string x.key) := h0
      have r3 : wr.drew.cell? ⟨w.heap.size, i, none⟩ = some (.int .u64 (at_ i)) := HTD.out.a hi
      have R0 := Lib.hid r0; clear r0
      have HBW := Lib.hid (show b' < wr.drew.heap.size from hbw)
      clear hA
      go_region_held3 (fun w' => (sT (.pointer (some ⟨w.heap.size, 0, none⟩))).run Try.prog w' = .ok (mT at_ op S V) w' ∧ w'.cell? ⟨w.heap.size, 16 + i, none⟩ = some (.slice (some ⟨b', o, none⟩) (S i).n (S i).c) ∧ w'.cell? ⟨b', o + p * 3, none⟩ = some (.string x.key) ∧ w'.cell? ⟨w.heap.size, i, none⟩ = some (.int .u64 (at_ i))) (first | exact ⟨R0.out, r1, r2, r3⟩ | exact ⟨HT2.out.ld, s1, s2, s3⟩)
        ((go_at_call 40; refine (rfind_any (at_ := at_) (op := op) (S := S) (V := V) (HV.out.below HBD.out) x.key).mono ?_; rintro e w2 ⟨rfl, hb2⟩; have HT2 := Lib.hid (HTD.out.below hb2); have HB2 := Lib.hid (bt HBD.out hb2); have s1 := (hb2.cell (p := ⟨w.heap.size, 16 + i, none⟩) HTD.out.lt).trans r1; have s2 := (hb2.cell (p := ⟨b', o + p * 3, none⟩) HBW.out).trans r2; have s3 := HT2.out.a hi; clear hb2))
      clear r1 r2 r3 s1 s2 s3 c0 h0
      by_cases hcl : at_ i < findR l x.key
      · have HCL := Lib.hid hcl
        have hd : decide (at_ i < findR l x.key) = true := decide_eq_true hcl
        go_wp2
        go_ret
        exact ⟨by rw [clashN_yes (List.mem_of_getElem? HX.out) HCL.out]; rfl, HB2.out⟩
      · have HCL := Lib.hid hcl
        have hd : decide (at_ i < findR l x.key) = false := decide_eq_false hcl
        go_wp2
        go_roundw
        case rel => exact ⟨p + 1, by omega, by go_num, (fun j y hj hy => by
          rcases Nat.lt_or_ge j p with h | h
          · exact HU.out j y h hy
          · obtain rfl : j = p := by omega
            rw [HX.out] at hy; cases hy; have := HCL.out; omega), HT2.out, HB2.out⟩
        case measure => simp [intOf]; omega
    · have hpe : p = (S i).n := by omega
      have hnl : ¬ (p : Int) < ((S i).n : Int) := by omega
      have HPE := Lib.hid hpe; clear hpe
      go_wp2
      go_ret
      exact ⟨by rw [clashN_upto (n := p) (by rw [hl.out]; exact HPE.out.symm) HU.out]; rfl, HB.out⟩
end Go.Proofs.Yteaaeeidbjklbaa
