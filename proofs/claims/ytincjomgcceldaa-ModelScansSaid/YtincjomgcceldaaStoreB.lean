/- Walks over stores: is it one; are commits few; does a set clash; what a stamp sees of all. -/
import Derived.Test.YtincjomgcceldaaStore
namespace Go.Proofs.Ytincjomgcceldaa
open Go.RowKit

noncomputable def isB (p : Prop) : Bool := @decide p (Classical.propDecidable p)
theorem isB_t {p : Prop} (h : p) : isB p = true := by unfold isB; simp [h]
theorem isB_f {p : Prop} (h : ¬ p) : isB p = false := by unfold isB; simp [h]
theorem isB_iff {p : Prop} : isB p = true ↔ p := by unfold isB; simp

/-- it is a store -/
def RiseS (xs : List Cm) : Prop := (∀ c ∈ xs, Rise W3.key c.set) ∧ xs.Pairwise (fun a b => a.stamp < b.stamp)
/-- of the first k commits the sets rise, and the stamps -/
def RiseUp (xs : List Cm) (k : Nat) : Prop := Upto xs k (fun c => Rise W3.key c.set) ∧ ∀ j x y, j + 1 < k → xs[j]? = some x → xs[j+1]? = some y → x.stamp < y.stamp
theorem RiseUp.zero (xs : List Cm) : RiseUp xs 0 := ⟨.zero, fun j x y h => absurd h (by omega)⟩
theorem RiseUp.one {xs : List Cm} {x : Cm} (hx : xs[0]? = some x) (hr : Rise W3.key x.set) : RiseUp xs 1 := ⟨Upto.zero.succ hx hr, fun j x y h => absurd h (by omega)⟩
theorem RiseUp.succ {xs : List Cm} {k : Nat} (h : RiseUp xs (k + 1)) {x y : Cm} (hx : xs[k]? = some x) (hy : xs[k+1]? = some y) (hr : Rise W3.key y.set) (hs : x.stamp < y.stamp) : RiseUp xs (k + 2) := by
  refine ⟨h.1.succ hy hr, fun j u v hj hu hv => ?_⟩
  rcases Nat.lt_or_ge (j + 1) (k + 1) with h1 | h1
  · exact h.2 j u v h1 hu hv
  · obtain rfl : j = k := by omega
    rw [hx] at hu; rw [hy] at hv; cases hu; cases hv; exact hs
theorem pairwise_of {xs : List Cm} (h : ∀ j (hj : j + 1 < xs.length), xs[j].stamp < xs[j+1].stamp) : xs.Pairwise (fun a b => a.stamp < b.stamp) := by
  rw [List.pairwise_iff_getElem]
  intro i j hi hj hij
  induction j with
  | zero => omega
  | succ j ih =>
    rcases Nat.lt_or_ge i j with h1 | h1
    · exact Int.lt_trans (ih (by omega) h1) (h j hj)
    · obtain rfl : i = j := by omega
      exact h i hj
theorem RiseUp.all {xs : List Cm} {n : Nat} (hn : xs.length = n) (h : RiseUp xs n) : RiseS xs := by
  refine ⟨fun c hc => ?_, pairwise_of fun j hj => h.2 j _ _ (by omega) (List.getElem?_eq_getElem (by omega)) (List.getElem?_eq_getElem hj)⟩
  obtain ⟨j, hj, e⟩ := List.mem_iff_getElem.1 hc
  exact h.1 j (by omega) c (by rw [List.getElem?_eq_getElem hj, e])
theorem not_riseS {xs : List Cm} {k : Nat} {x : Cm} (hx : xs[k]? = some x) (h : riseB W3.key x.set = false) : ¬ RiseS xs := fun hs => by
  rw [riseB_iff.2 (hs.1 x (List.mem_of_getElem? hx))] at h; cases h
theorem not_riseS2 {xs : List Cm} {k : Nat} {x y : Cm} (hx : xs[k]? = some x) (hy : xs[k+1]? = some y) (h : y.stamp ≤ x.stamp) : ¬ RiseS xs := fun hs => by
  obtain ⟨h1, rfl⟩ := get_some hx
  obtain ⟨h2, rfl⟩ := get_some hy
  have := List.pairwise_iff_getElem.1 hs.2 _ _ h1 h2 (by omega)
  omega

theorem riseW_val {A : Option Addr} {n c : Nat} {xs : List W3} {w : World} (h : SlW w A n c xs) {v : Bool} (hv : riseB W3.key xs = v) :
    Calls Try.prog 13 #[.slice A n c] w fun e w' => e = .returned (.bool v) ∧ Below w.heap.size w w' := by
  subst hv; exact riseW_any h

set_option maxRecDepth 100000 in
set_option maxHeartbeats 1000000 in
theorem riseC_any {A : Option Addr} {n c : Nat} {xs : List Cm} {w : World} (h : SlC w A n c xs) :
    Calls Try.prog 32 #[.slice A n c] w fun e w' => e = .returned (.bool (isB (RiseS xs))) ∧ Below w.heap.size w w' := by
  have hm := slC_max h
  have hl := Lib.hid (slC_len h)
  have HS := Lib.hid h; clear h
  go_enter Try.func32, Try.ntmps32
  go_wp2
  go_loopw [3] (fun i wr => ∃ k : Nat, k ≤ n ∧ i = .int .i64 k ∧ RiseUp xs k ∧ Below w.heap.size w wr) (fun i _ => n - (intOf i).toNat)
  case atStart => exact ⟨0, Nat.zero_le _, rfl, RiseUp.zero _, Below.refl _ _⟩
  case round =>
    obtain ⟨k, hk, rfl, hu, hb⟩ := hrel
    have HU := Lib.hid hu; have HB := Lib.hid hb; clear hu hb
    by_cases hlt : k < n
    · obtain ⟨b, o, x, A', n', c', rfl, hbw, hx, h0, h1, _, hsw⟩ := slC_get (HS.out.below HB.out) hlt
      have HX := Lib.hid hx; have HW := Lib.hid hsw; clear hx hsw
      have hi1 : (0 : Int) ≤ (k : Int) := by omega
      have hi2 : (k : Int) < n := by omega
      have q0 := fun d => Later.cell h0 hbw d
      have q1 := fun d => Later.cell h1 hbw d
      clear h0 h1
      cases hr : riseB W3.key x.set with
      | false =>
        have HR := Lib.hid hr; clear hr
        go_wp2
        refine wp_region_later (by kernel_rfl) (by kernel_rfl) ?_
        repeat (go_big_quiet_step ((go_at_call 13; exact Later.calls (riseW_val (HW.out.below (Later.le _)) HR.out))))
        refine wpQuiet_nil ?_
        rintro ⟨w3, hb3⟩
        dsimp only
        have HB3 := Lib.hid (HB.out.trans (hb3.mono HB.out.size))
        clear q0 q1 hb3
        go_wp2
        go_ret
        exact ⟨ret_bool (isB_f (not_riseS HX.out HR.out)).symm, HB3.out⟩
      | true =>
        have HR := Lib.hid hr; clear hr
        rcases Nat.eq_zero_or_pos k with h0 | h0
        · subst h0
          have hz : decide ((0 : Int) < (0 : Int)) = false := by simp
          have q1' : ∀ d : Later wr, d.val.cell? ⟨b, o + 1, none⟩ = some (.slice A' n' c') := fun d => by have := q1 d; rwa [Nat.zero_mul, Nat.add_zero] at this
          have q0' : ∀ d : Later wr, d.val.cell? ⟨b, o, none⟩ = some (.int .u64 x.stamp) := fun d => by have := q0 d; rwa [Nat.zero_mul, Nat.add_zero] at this
          clear q0 q1
          go_wp2
          refine wp_region_later (by kernel_rfl) (by kernel_rfl) ?_
          repeat (go_big_quiet_step ((go_at_call 13; exact Later.calls (riseW_val (HW.out.below (Later.le _)) HR.out))))
          refine wpQuiet_nil ?_
          rintro ⟨w3, hb3⟩
          dsimp only
          have HB3 := Lib.hid (HB.out.trans (hb3.mono HB.out.size))
          clear q0' q1' hb3 hz
          go_wp2
          go_roundw
          case rel => exact ⟨1, by omega, by go_num, RiseUp.one HX.out (riseB_iff.1 HR.out), HB3.out⟩
          case measure => simp [intOf]; omega
        · obtain ⟨j, rfl⟩ : ∃ j, k = j + 1 := ⟨k - 1, by omega⟩
          obtain ⟨b', o', y, A2, n2, c2, he, hbw', hy, g0, g1, _, _⟩ := slC_get (HS.out.below HB.out) (k := j) (by omega)
          injection he with he; injection he with e1 e2; subst e1; subst e2
          have HY := Lib.hid hy; clear hy
          have p0 := fun d => Later.cell g0 hbw' d
          clear g0 g1
          have hpos : (0 : Int) < ((j + 1 : Nat) : Int) := by omega
          have hi3 : (0 : Int) ≤ ((j + 1 : Nat) : Int) - 1 := by omega
          have hi4 : ((j + 1 : Nat) : Int) - 1 < n := by omega
          go_wp2
          refine wp_region_later (by kernel_rfl) (by kernel_rfl) ?_
          repeat (go_big_quiet_step ((go_at_call 13; exact Later.calls (riseW_val (HW.out.below (Later.le _)) HR.out))))
          refine wpQuiet_nil ?_
          rintro ⟨w3, hb3⟩
          dsimp only
          have HB3 := Lib.hid (HB.out.trans (hb3.mono HB.out.size))
          clear q0 q1 p0 hb3
          go_wp2
          · go_ret
            exact ⟨ret_bool (isB_f (not_riseS2 HY.out HX.out (by assumption))).symm, HB3.out⟩
          · go_roundw
            case rel => exact ⟨j + 2, by omega, by go_num, HU.out.succ HY.out HX.out (riseB_iff.1 HR.out) (by assumption), HB3.out⟩
            case measure => simp [intOf]; omega
    · obtain rfl : k = n := by omega
      go_wp2
      go_ret
      exact ⟨ret_bool (isB_t (HU.out.all hl.out)).symm, HB.out⟩
end Go.Proofs.Ytincjomgcceldaa
