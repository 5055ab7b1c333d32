/- Walks over stores: what a stamp sees of all; the reference's Read; are two stores the same. -/
import Derived.Test.YtincjomgcceldaaStoreC
namespace Go.Proofs.Ytincjomgcceldaa
open Go.RowKit

/-- what a stamp sees of all -/
def scanC (xs : List Cm) (at_ : Int) : List P2 := (xs.filter (fun c => decide (c.stamp ≤ at_))).foldl (fun l c => ov l c.set) []
theorem scan_yes {xs : List Cm} {at_ : Int} {k : Nat} {x : Cm} (hx : xs[k]? = some x) (h : x.stamp ≤ at_) : scanC (xs.take (k + 1)) at_ = ov (scanC (xs.take k) at_) x.set := by
  unfold scanC; rw [take_at hx, List.filter_append, List.filter_cons_of_pos (by simpa using h), List.filter_nil, List.foldl_append]; rfl
theorem scan_no {xs : List Cm} {at_ : Int} {k : Nat} {x : Cm} (hx : xs[k]? = some x) (h : ¬ x.stamp ≤ at_) : scanC (xs.take (k + 1)) at_ = scanC (xs.take k) at_ := by
  unfold scanC; rw [take_at hx, List.filter_append, List.filter_cons_of_neg (by simpa using h), List.filter_nil, List.append_nil]
theorem scan_len {xs : List Cm} {at_ : Int} (h : ∀ c ∈ xs, c.set.length ≤ 60) : (scanC xs at_).length ≤ xs.length * 60 := by
  unfold scanC
  have key : ∀ (ys : List Cm) (l : List P2), (∀ c ∈ ys, c.set.length ≤ 60) → (ys.foldl (fun l c => ov l c.set) l).length ≤ l.length + ys.length * 60 := by
    intro ys
    induction ys with
    | nil => intro l _; simp
    | cons y ys ih =>
      intro l hy
      have h1 := ih (ov l y.set) (fun c hc => hy c (List.mem_cons_of_mem _ hc))
      have h2 := ov_len l y.set
      have h3 := hy y (by simp)
      rw [List.foldl_cons, List.length_cons]; omega
  have h1 := key (xs.filter (fun c => decide (c.stamp ≤ at_))) [] (fun c hc => h c (List.mem_filter.1 hc).1)
  have h2 := List.length_filter_le (fun c : Cm => decide (c.stamp ≤ at_)) xs
  simp only [List.length_nil, Nat.zero_add] at h1
  exact Nat.le_trans h1 (Nat.mul_le_mul_right _ h2)
theorem scan_rise {xs : List Cm} {at_ : Int} (h : ∀ c ∈ xs, Rise W3.key c.set) : Rise P2.key (scanC xs at_) := by
  unfold scanC
  have key : ∀ (ys : List Cm) (l : List P2), (∀ c ∈ ys, Rise W3.key c.set) → Rise P2.key l → Rise P2.key (ys.foldl (fun l c => ov l c.set) l) := by
    intro ys
    induction ys with
    | nil => intro l _ hl; exact hl
    | cons y ys ih => intro l hy hl; exact ih _ (fun c hc => hy c (List.mem_cons_of_mem _ hc)) (ov_spec _ _ hl (hy y (by simp))).1
  exact key _ _ (fun c hc => h c (List.mem_filter.1 hc).1) rise_nil
theorem take_all {α : Type} {p : α → Prop} {xs : List α} (h : ∀ c ∈ xs, p c) (k : Nat) : ∀ c ∈ xs.take k, p c := fun c hc => h c (List.mem_of_mem_take hc)

set_option maxRecDepth 100000 in
set_option maxHeartbeats 1000000 in
theorem scan_any {A : Option Addr} {n c : Nat} {xs : List Cm} {w : World} (h : SlC w A n c xs) (at_ : Int) (hs60 : ∀ c ∈ xs, c.set.length ≤ 60) (hn : n ≤ 31) :
    Calls Try.prog 26 #[.slice A n c, .int .u64 at_] w fun e w' => ∃ A' n' c', e = .returned (.slice A' n' c') ∧ SlP w' A' n' c' (scanC xs at_) ∧ Below w.heap.size w w' := by
  have hm := slC_max h
  have hl := Lib.hid (slC_len h)
  have HS := Lib.hid h; clear h
  have H60 := Lib.hid hs60; clear hs60
  go_enter Try.func26, Try.ntmps26
  go_wp2
  go_loopw [5, 10] (fun v i wr => ∃ (k : Nat) (A' : Option Addr) (n' c' : Nat), k ≤ n ∧ i = .int .i64 k ∧ v = .slice A' n' c' ∧ SlP wr A' n' c' (scanC (xs.take k) at_) ∧ Below w.heap.size w wr) (fun _ i _ => n - (intOf i).toNat)
  case atStart => exact ⟨0, none, 0, 0, Nat.zero_le _, rfl, rfl, Sl.nil_ _ 2, Below.refl _ _⟩
  case round =>
    obtain ⟨k, A1, n1, c1, hk, rfl, rfl, hs, hb⟩ := hrel
    have HB := Lib.hid hb; have HL2 := Lib.hid hs; clear hb hs
    have hn1 : n1 ≤ k * 60 := by
      rw [← slP_len HL2.out]
      have := scan_len (at_ := at_) (take_all H60.out k)
      rw [List.length_take] at this
      have h2 : min k xs.length ≤ k := Nat.min_le_left _ _
      have := Nat.mul_le_mul_right 60 h2
      omega
    by_cases hlt : k < n
    · obtain ⟨b, o, x, A', n', c', rfl, hbw, hx, h0, h1, _, hsw⟩ := slC_get (HS.out.below HB.out) hlt
      have HX := Lib.hid hx; clear hx
      have hn' : n' ≤ 60 := by rw [← slW_len hsw]; exact H60.out x (List.mem_of_getElem? HX.out)
      have hi1 : (0 : Int) ≤ (k : Int) := by omega
      have hi2 : (k : Int) < n := by omega
      by_cases hst : x.stamp ≤ at_
      · have HC := Lib.hid (fun (ob : Obj) => over_sl (HL2.out.below ((Below.refl wr.heap.size wr).alloc (Nat.le_refl _) ob)) (hsw.below ((Below.refl wr.heap.size wr).alloc (Nat.le_refl _) ob)) (by omega) (by omega))
        clear hsw
        go_wp2_with fail
        refine (HC.out _).mono ?_
        rintro e w1 ⟨A3, n3, c3, rfl, hs1, hb1⟩
        have HB1 := Lib.hid (HB.out.trans ((((Below.refl wr.heap.size wr).alloc (Nat.le_refl _) _).trans (hb1.mono (by simp))).mono HB.out.size)); have HL3 := Lib.hid hs1; clear hb1 HC hs1
        go_wp2
        go_roundw
        case rel => exact ⟨k + 1, A3, n3, c3, by omega, by go_num, rfl, by rw [scan_yes HX.out hst]; exact HL3.out, HB1.out⟩
        case measure => simp [intOf]; omega
      · clear hsw
        go_wp2
        go_roundw
        case rel => exact ⟨k + 1, A1, n1, c1, by omega, by go_num, rfl, by rw [scan_no HX.out hst]; exact HL2.out.below ((Below.refl wr.heap.size wr).alloc (Nat.le_refl _) _), HB.out.alloc HB.out.size _⟩
        case measure => simp [intOf]; omega
    · obtain rfl : k = n := by omega
      go_wp2
      go_ret
      refine ⟨A1, n1, c1, rfl, ?_, HB.out⟩
      have := HL2.out
      rwa [List.take_of_length_le (by rw [hl.out]; exact Nat.le_refl _)] at this
set_option maxRecDepth 100000 in
set_option maxHeartbeats 1000000 in
theorem rscan_any {A : Option Addr} {n c : Nat} {xs : List Cm} {w : World} (h : SlC w A n c xs) (at_ : Int) (hs60 : ∀ c ∈ xs, c.set.length ≤ 60) (hn : n ≤ 31) (hr : ∀ c ∈ xs, Rise W3.key c.set) :
    Calls Try.prog 27 #[.slice A n c, .int .u64 at_] w fun e w' => ∃ A' n' c', e = .returned (.slice A' n' c') ∧ SlP w' A' n' c' (scanC xs at_) ∧ Below w.heap.size w w' := by
  have hm := slC_max h
  have hl := Lib.hid (slC_len h)
  have HS := Lib.hid h; clear h
  have H60 := Lib.hid hs60; clear hs60
  have HR := Lib.hid hr; clear hr
  go_enter Try.func27, Try.ntmps27
  go_wp2
  go_loopw [5, 6] (fun v i wr => ∃ (k : Nat) (A' : Option Addr) (n' c' : Nat), k ≤ n ∧ i = .int .i64 k ∧ v = .slice A' n' c' ∧ SlP wr A' n' c' (scanC (xs.take k) at_) ∧ Below w.heap.size w wr) (fun _ i _ => n - (intOf i).toNat)
  case atStart => exact ⟨0, none, 0, 0, Nat.zero_le _, rfl, rfl, Sl.nil_ _ 2, Below.refl _ _⟩
  case round =>
    obtain ⟨k, A1, n1, c1, hk, rfl, rfl, hs, hb⟩ := hrel
    have HB := Lib.hid hb; have HL2 := Lib.hid hs; clear hb hs
    have hn1 : n1 ≤ k * 60 := by
      rw [← slP_len HL2.out]
      have := scan_len (at_ := at_) (take_all H60.out k)
      rw [List.length_take] at this
      have h2 : min k xs.length ≤ k := Nat.min_le_left _ _
      have := Nat.mul_le_mul_right 60 h2
      omega
    by_cases hlt : k < n
    · obtain ⟨b, o, x, A', n', c', rfl, hbw, hx, h0, h1, _, hsw⟩ := slC_get (HS.out.below HB.out) hlt
      have HX := Lib.hid hx; clear hx
      have hn' : n' ≤ 60 := by rw [← slW_len hsw]; exact H60.out x (List.mem_of_getElem? HX.out)
      have hi1 : (0 : Int) ≤ (k : Int) := by omega
      have hi2 : (k : Int) < n := by omega
      by_cases hst : x.stamp ≤ at_
      · have HC := Lib.hid (rover_sl HL2.out hsw (by omega) (by omega))
        clear hsw
        go_wp2_with fail
        refine HC.out.mono ?_
        rintro e w1 ⟨A3, n3, c3, rfl, hs1, hb1⟩
        rw [rov_eq (scan_rise (take_all HR.out k)) (HR.out x (List.mem_of_getElem? HX.out))] at hs1
        have HB1 := Lib.hid (HB.out.trans (hb1.mono HB.out.size)); have HL3 := Lib.hid hs1; clear hb1 HC hs1
        go_wp2
        go_roundw
        case rel => exact ⟨k + 1, A3, n3, c3, by omega, by go_num, rfl, by rw [scan_yes HX.out hst]; exact HL3.out, HB1.out⟩
        case measure => simp [intOf]; omega
      · clear hsw
        go_wp2
        go_roundw
        case rel => exact ⟨k + 1, A1, n1, c1, by omega, by go_num, rfl, by rw [scan_no HX.out hst]; exact HL2.out, HB.out⟩
        case measure => simp [intOf]; omega
    · obtain rfl : k = n := by omega
      go_wp2
      go_ret
      refine ⟨A1, n1, c1, rfl, ?_, HB.out⟩
      have := HL2.out
      rwa [List.take_of_length_le (by rw [hl.out]; exact Nat.le_refl _)] at this
/-! ### the newest write that a stamp sees -/
def histS (at_ : Int) (key : ByteArray) (acc : Option W3) (c : Cm) : Option W3 := if c.stamp ≤ at_ then (match look W3.key key c.set with | some w => some w | none => acc) else acc
def hist (xs : List Cm) (key : ByteArray) (at_ : Int) : Option W3 := xs.foldl (histS at_ key) none
def rdT : Option W3 → ByteArray | some w => if w.gone = true then ⟨#[]⟩ else w.text | none => ⟨#[]⟩
def rdB : Option W3 → Bool | some w => !w.gone | none => false
theorem hist_succ {xs : List Cm} {key : ByteArray} {at_ : Int} {k : Nat} {x : Cm} (hx : xs[k]? = some x) : hist (xs.take (k + 1)) key at_ = histS at_ key (hist (xs.take k) key at_) x := by
  unfold hist; rw [take_at hx, List.foldl_append]; rfl
/-- the loop's two variables -/
def accT : Option W3 → ByteArray | some w => w.text | none => ⟨#[]⟩
theorem rd_gone {o : Option W3} (h : rdB o = false) : rdT o = ⟨#[]⟩ := by
  cases o with
  | none => rfl
  | some w => simp only [rdB, Bool.not_eq_false'] at h; simp [rdT, h]
theorem rd_there {o : Option W3} (h : rdB o = true) : rdT o = accT o := by
  cases o with
  | none => cases h
  | some w => simp only [rdB, Bool.not_eq_true'] at h; simp [rdT, accT, h]

theorem rread_any {A : Option Addr} {n c : Nat} {xs : List Cm} {w : World} (h : SlC w A n c xs) (key : ByteArray) (at_ : Int) :
    Calls Try.prog 29 #[.slice A n c, .string key, .int .u64 at_] w fun e w' => e = .returned (.tuple #[.string (rdT (hist xs key at_)), .bool (rdB (hist xs key at_))]) ∧ Below w.heap.size w w' := by
  have hm := slC_max h
  have hl := Lib.hid (slC_len h)
  have HS := Lib.hid h; clear h
  go_enter Try.func29, Try.ntmps29
  go_wp2
  go_loopw [8, 9, 10] (fun t f i wr => ∃ k : Nat, k ≤ n ∧ i = .int .i64 k ∧ t = .string (accT (hist (xs.take k) key at_)) ∧ f = .bool (rdB (hist (xs.take k) key at_)) ∧ Below w.heap.size w wr) (fun _ _ i _ => n - (intOf i).toNat)
  case atStart => exact ⟨0, Nat.zero_le _, rfl, rfl, rfl, Below.refl _ _⟩
  case round =>
    obtain ⟨k, hk, rfl, rfl, rfl, hb⟩ := hrel
    have HB := Lib.hid hb; clear hb
    by_cases hlt : k < n
    · obtain ⟨b, o, x, A', n', c', rfl, hbw, hx, h0, h1, _, hsw⟩ := slC_get (HS.out.below HB.out) hlt
      have HX := Lib.hid hx
      have HC := Lib.hid (rget_any hsw key)
      clear hx hsw
      have hi1 : (0 : Int) ≤ (k : Int) := by omega
      have hi2 : (k : Int) < n := by omega
      have HE := Lib.hid (hist_succ (key := key) (at_ := at_) HX.out)
      go_wp2_with fail
      refine HC.out.mono ?_
      rintro e w1 ⟨rfl, hb1⟩
      have hb2 := HB.out.trans (hb1.mono HB.out.size)
      obtain ⟨A2, n2, c2, hbw', g0, _, _, _⟩ := slC_at (HS.out.below hb2) HX.out
      have HB1 := Lib.hid hb2; clear hb1 hb2 HC h0 h1
      cases hlk : look W3.key key x.set with
      | none =>
        have HL := Lib.hid hlk; clear hlk
        go_wp2
        go_roundw
        case rel =>
          have e : hist (xs.take (k + 1)) key at_ = hist (xs.take k) key at_ := by rw [HE.out, histS, HL.out]; split <;> rfl
          exact ⟨k + 1, by omega, by go_num, by rw [e], by rw [e], HB1.out.alloc HB1.out.size _⟩
        case measure => simp [intOf]; omega
      | some u =>
        have HL := Lib.hid hlk; clear hlk
        by_cases hs : x.stamp ≤ at_
        · go_wp2
          go_roundw
          case rel =>
            have e : hist (xs.take (k + 1)) key at_ = some u := by rw [HE.out, histS, HL.out, if_pos hs]
            exact ⟨k + 1, by omega, by go_num, by rw [e]; rfl, by rw [e]; rfl, HB1.out.alloc HB1.out.size _⟩
          case measure => simp [intOf]; omega
        · go_wp2
          go_roundw
          case rel =>
            have e : hist (xs.take (k + 1)) key at_ = hist (xs.take k) key at_ := by rw [HE.out, histS, if_neg (show ¬ x.stamp ≤ at_ by omega)]
            exact ⟨k + 1, by omega, by go_num, by rw [e], by rw [e], HB1.out.alloc HB1.out.size _⟩
          case measure => simp [intOf]; omega
    · obtain rfl : k = n := by omega
      have HE := Lib.hid (show xs.take k = xs by rw [List.take_of_length_le (by rw [hl.out]; exact Nat.le_refl _)])
      cases hf : rdB (hist (xs.take k) key at_) with
      | false =>
        have HF := Lib.hid (rd_gone hf); have HG := Lib.hid hf
        go_wp2
        go_ret2
        refine ⟨?_, HB.out⟩
        rw [← HE.out, List.take_take, Nat.min_self, HF.out, HG.out]; rfl
      | true =>
        have HF := Lib.hid (rd_there hf); have HG := Lib.hid hf
        go_wp2
        go_ret2
        refine ⟨?_, HB.out⟩
        rw [← HE.out, List.take_take, Nat.min_self, HF.out, HG.out]; rfl
end Go.Proofs.Ytincjomgcceldaa
