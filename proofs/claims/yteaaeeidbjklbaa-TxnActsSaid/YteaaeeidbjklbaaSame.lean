/- Walks: are two lists the very same. -/
import Derived.Test.YteaaeeidbjklbaaGet
namespace Go.Proofs.Yteaaeeidbjklbaa
open Go.RowKit

noncomputable def eqL {α : Type} (a b : List α) : Bool := @decide (a = b) (Classical.propDecidable _)
theorem eqL_t {α : Type} {a b : List α} (h : a = b) : eqL a b = true := by unfold eqL; simp [h]
theorem eqL_f {α : Type} {a b : List α} (h : a ≠ b) : eqL a b = false := by unfold eqL; simp [h]
theorem eqL_iff {α : Type} {a b : List α} : eqL a b = true ↔ a = b := by unfold eqL; simp

/-- are two pairs unlike; two writes -/
def neP (a b a' b' : ByteArray) : Bool := !(a.toList == a'.toList && b.toList == b'.toList)
def neW (a b : ByteArray) (g : Bool) (a' b' : ByteArray) (g' : Bool) : Bool := !(a.toList == a'.toList && (b.toList == b'.toList && g == g'))
theorem neW_run (a b : ByteArray) (g : Bool) (a' b' : ByteArray) (g' : Bool) (w : World) : (binOp .neq 38 (.agg #[.string a, .string b, .bool g]) (.agg #[.string a', .string b', .bool g'])).run Try.prog w = .ok (.bool (neW a b g a' b' g')) w := by
  rw [run_neq_struct, run_equalIn_agg w 9999 _ _ _ (by kernel_rfl) (by kernel_rfl)]
  simp [go_sem]
  by_cases h1 : a.toList = a'.toList <;> by_cases h2 : b.toList = b'.toList <;> cases g <;> cases g' <;> simp [h1, h2, neW]
theorem neP_f {x y : P2} (h : neP x.key x.text y.key y.text = false) : x = y := by
  simp only [neP, Bool.not_eq_false', Bool.and_eq_true, beq_iff_eq] at h
  cases x; cases y; simp only [P2.mk.injEq]; exact ⟨ba_toList_inj h.1, ba_toList_inj h.2⟩
theorem neW_f {x y : W3} (h : neW x.key x.text x.gone y.key y.text y.gone = false) : x = y := by
  simp only [neW, Bool.not_eq_false', Bool.and_eq_true, beq_iff_eq] at h
  cases x; cases y; simp only [W3.mk.injEq]; exact ⟨ba_toList_inj h.1, ba_toList_inj h.2.1, h.2.2⟩
theorem neP_t {xs ys : List P2} {k : Nat} {x y : P2} (hx : xs[k]? = some x) (hy : ys[k]? = some y) (h : neP x.key x.text y.key y.text = true) : xs ≠ ys := by
  rintro rfl; rw [hx] at hy; cases hy; simp [neP] at h
theorem neW_t {xs ys : List W3} {k : Nat} {x y : W3} (hx : xs[k]? = some x) (hy : ys[k]? = some y) (h : neW x.key x.text x.gone y.key y.text y.gone = true) : xs ≠ ys := by
  rintro rfl; rw [hx] at hy; cases hy; simp [neW] at h
/-- the first k elements are alike -/
def Alike {α : Type} (xs ys : List α) (k : Nat) : Prop := ∀ j, j < k → xs[j]? = ys[j]?
theorem Alike.succ {α : Type} {xs ys : List α} {k : Nat} (h : Alike xs ys k) (e : xs[k]? = ys[k]?) : Alike xs ys (k + 1) := by
  intro j hj
  rcases Nat.lt_or_ge j k with h1 | h1
  · exact h j h1
  · obtain rfl : j = k := by omega
    exact e
theorem Alike.eq {α : Type} {xs ys : List α} {n : Nat} (h : Alike xs ys n) (h1 : xs.length = n) (h2 : ys.length = n) : xs = ys := by
  refine List.ext_getElem? fun i => ?_
  rcases Nat.lt_or_ge i n with hi | hi
  · exact h i hi
  · rw [List.getElem?_eq_none (by omega), List.getElem?_eq_none (by omega)]

theorem sameW_any {A B : Option Addr} {n c m d : Nat} {xs ys : List W3} {w : World} (h : SlW w A n c xs) (h' : SlW w B m d ys) :
    Calls Try.prog 29 #[.slice A n c, .slice B m d] w fun e w' => e = .returned (.bool (eqL xs ys)) ∧ Below w.heap.size w w' := by
  have hm := sl_max h
  have hm' := sl_max h'
  have hl := Lib.hid (slW_len h)
  have hl' := Lib.hid (slW_len h')
  have hneq := neW_run
  by_cases hnm : n = m
  · subst hnm
    go_enter Try.func29, Try.ntmps29
    go_wp2
    go_loopw [5] (fun i wr => ∃ k : Nat, k ≤ n ∧ i = .int .i64 k ∧ Alike xs ys k ∧ Below w.heap.size w wr) (fun i _ => n - (intOf i).toNat)
    case atStart => exact ⟨0, Nat.zero_le _, rfl, fun j h => absurd h (by omega), Below.refl _ _⟩
    case round =>
      obtain ⟨k, hk, rfl, hu, hb⟩ := hrel
      have HU := Lib.hid hu; clear hu
      by_cases hlt : k < n
      · obtain ⟨b, o, x, rfl, hbw, hx, h0, h1, h2⟩ := slW_get (h.below hb) hlt
        obtain ⟨b', o', y, rfl, hbw', hy, h0', h1', h2'⟩ := slW_get (h'.below hb) hlt
        have HX := Lib.hid hx; have HY := Lib.hid hy; clear hx hy h h'
        have hi1 : (0 : Int) ≤ (k : Int) := by omega
        have hi2 : (k : Int) < n := by omega
        go_wp2
        go_quiet (fail)
        go_wp2
        · go_ret
          exact ⟨ret_bool (eqL_f (neW_t HX.out HY.out (by assumption))).symm, below_drewN hb _⟩
        · go_roundw
          case rel => exact ⟨k + 1, by omega, by go_num, HU.out.succ (by rw [HX.out, HY.out, show x = y from neW_f (by assumption)]), below_drewN hb _⟩
          case measure => simp [intOf]; omega
      · go_wp2
        go_ret
        obtain rfl : k = n := by omega
        exact ⟨ret_bool (eqL_t (HU.out.eq hl.out hl'.out)).symm, hb⟩
  · have hd : ((n : Int) != (m : Int)) = true := by rw [bne_iff_ne]; omega
    go_enter Try.func29, Try.ntmps29
    go_wp2
    go_ret
    exact ⟨ret_bool (eqL_f (by rintro rfl; exact hnm (hl.out.symm.trans hl'.out))).symm, Below.refl _ _⟩
end Go.Proofs.Yteaaeeidbjklbaa
