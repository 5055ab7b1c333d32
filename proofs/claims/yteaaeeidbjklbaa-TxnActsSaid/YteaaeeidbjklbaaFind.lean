/- Walks: the search by halves. -/
import Derived.Test.YteaaeeidbjklbaaCopy
namespace Go.Proofs.Yteaaeeidbjklbaa
open Go.RowKit

def Halved (xs : List W3) (key : ByteArray) (p q : Nat) : Prop := (∀ j x, j < p → xs[j]? = some x → klt x.key key = true) ∧ (∀ j x, q ≤ j → xs[j]? = some x → klt x.key key = false)

theorem cmpK_neg {a b : ByteArray} (h : cmpK a b < 0) : klt a b = true := by
  cases h1 : klt a b with
  | true => rfl
  | false =>
    by_cases h2 : a = b
    · subst h2; rw [cmpK_eq] at h; omega
    · rw [cmpK_gt h1 h2] at h; omega
theorem cmpK_nonneg {a b : ByteArray} (h : 0 ≤ cmpK a b) : klt a b = false := by
  cases h1 : klt a b with
  | false => rfl
  | true => rw [cmpK_lt h1] at h; omega
theorem cmpK_zero {a b : ByteArray} : (cmpK a b == 0) = decide (a = b) := by
  by_cases h2 : a = b
  · subst h2; rw [cmpK_eq]; simp
  · cases h1 : klt a b with
    | true => rw [cmpK_lt h1]; simp [h2]
    | false => rw [cmpK_gt h1 h2]; simp [h2]
theorem Halved.start (xs : List W3) (key : ByteArray) {n : Nat} (hn : xs.length = n) : Halved xs key 0 n :=
  ⟨fun j _ h => absurd h (by omega), fun j x h hx => by rw [List.getElem?_eq_none (by omega)] at hx; cases hx⟩
theorem Halved.up {xs : List W3} {key : ByteArray} {p q m : Nat} (hr : Rise W3.key xs) (h : Halved xs key p q) {x : W3} (hx : xs[m]? = some x) (hk : cmpK x.key key < 0) : Halved xs key (m + 1) q := by
  refine ⟨fun j y hj hy => ?_, h.2⟩
  obtain ⟨h1, rfl⟩ := get_some hx
  obtain ⟨h2, rfl⟩ := get_some hy
  rcases Nat.lt_or_ge j m with h3 | h3
  · exact klt_trans (List.pairwise_iff_getElem.1 hr _ _ h2 h1 h3) (cmpK_neg hk)
  · obtain rfl : j = m := by omega
    exact cmpK_neg hk
theorem Halved.down {xs : List W3} {key : ByteArray} {p q m : Nat} (hr : Rise W3.key xs) (h : Halved xs key p q) {x : W3} (hx : xs[m]? = some x) (hk : 0 ≤ cmpK x.key key) : Halved xs key p m := by
  refine ⟨h.1, fun j y hj hy => ?_⟩
  obtain ⟨h1, rfl⟩ := get_some hx
  obtain ⟨h2, rfl⟩ := get_some hy
  have hn := cmpK_nonneg hk
  rcases Nat.lt_or_ge m j with h3 | h3
  · have := List.pairwise_iff_getElem.1 hr _ _ h1 h2 h3
    cases h4 : klt xs[j].key key with
    | false => rfl
    | true => rw [klt_trans this h4] at hn; cases hn
  · obtain rfl : j = m := by omega
    exact hn
theorem Halved.pos {xs : List W3} {key : ByteArray} {p : Nat} (hr : Rise W3.key xs) (h : Halved xs key p p) (hp : p ≤ xs.length) : p = pos W3.key xs key :=
  pos_eq hr hp (fun j hj h' => h.1 j _ h' (List.getElem?_eq_getElem hj)) (fun j hj h' => h.2 j _ h' (List.getElem?_eq_getElem hj))
theorem look_at {xs : List W3} {key : ByteArray} {p : Nat} {x : W3} (hr : Rise W3.key xs) (hp : p = pos W3.key xs key) (hx : xs[p]? = some x) : (look W3.key key xs).isSome = (cmpK x.key key == 0) := by
  subst hp
  obtain ⟨h1, rfl⟩ := get_some hx
  rw [look_pos hr h1, cmpK_zero]
  split <;> simp_all

theorem ret_ib {a b : Int} {f g : Bool} (h : a = b) (h' : f = g) : Ending.returned (.tuple #[.int .i64 a, .bool f]) = .returned (.tuple #[.int .i64 b, .bool g]) := by rw [h, h']

theorem bsf_any {A : Option Addr} {n c : Nat} {xs : List W3} {w : World} (h : SlW w A n c xs) (key : ByteArray) (hr : Rise W3.key xs) (hn : n ≤ 65536) :
    Calls Try.prog 58 #[.slice A n c, .string key, .func (.func 59) #[] #[]] w fun e w' => e = .returned (.tuple #[.int .i64 (pos W3.key xs key), .bool (look W3.key key xs).isSome]) ∧ Below w.heap.size w w' := by
  have hm := sl_max h
  have hl := Lib.hid (slW_len h)
  have HR := Lib.hid hr; clear hr
  go_enter Try.func58, Try.ntmps58
  go_wp2
  go_loopw [9, 10] (fun i j wr => ∃ p q : Nat, p ≤ q ∧ q ≤ n ∧ i = .int .i64 p ∧ j = .int .i64 q ∧ Halved xs key p q ∧ Below w.heap.size w wr) (fun i j _ => (intOf j - intOf i).toNat)
  case atStart => exact ⟨0, n, by omega, by omega, rfl, rfl, Halved.start xs key hl.out, Below.refl _ _⟩
  case round =>
    obtain ⟨p, q, hpq, hqn, rfl, rfl, hu, hb⟩ := hrel
    have HU := Lib.hid hu; clear hu
    by_cases hlt : p < q
    · have hq6 : q ≤ 65536 := by omega
      obtain ⟨b, o, x, rfl, hbw, hx, h0, h1, h2⟩ := slW_get (h.below hb) (k := (p + q) / 2) (by omega)
      have HX := Lib.hid hx; clear hx h
      go_wp2_with (go_at_call 59; refine (stands_any _ _ _ _ _).mono ?_; rintro e w1 ⟨rfl, hb1⟩)
      · go_roundw
        case rel => exact ⟨(p + q) / 2 + 1, q, by omega, by omega, by go_num, rfl, HU.out.up HR.out HX.out (by assumption), bt hb (by assumption)⟩
        case measure => simp [intOf]; omega
      · go_roundw
        case rel => exact ⟨p, (p + q) / 2, by omega, by omega, rfl, by go_num, HU.out.down HR.out HX.out (by assumption), bt hb (by assumption)⟩
        case measure => simp [intOf]; omega
    · obtain rfl : p = q := by omega
      have HP := Lib.hid (HU.out.pos HR.out (by rw [hl.out]; exact hqn))
      by_cases hpn : p < n
      · obtain ⟨b, o, x, rfl, hbw, hx, h0, h1, h2⟩ := slW_get (h.below hb) hpn
        have HX := Lib.hid hx; clear hx h
        go_wp2_with (go_at_call 59; refine (stands_any _ _ _ _ _).mono ?_; rintro e w1 ⟨rfl, hb1⟩)
        go_ret2
        refine ⟨ret_ib ?_ ?_, bt hb (by assumption)⟩
        · rw [← HP.out]
        · rw [look_at HR.out HP.out HX.out]
      · go_wp2
        go_ret2
        refine ⟨ret_ib ?_ ?_, hb⟩
        · rw [← HP.out]
        · rw [look_end (by rw [← HP.out, hl.out]; exact hpn)]; rfl

theorem find_any {A : Option Addr} {n c : Nat} {xs : List W3} {w : World} (h : SlW w A n c xs) (key : ByteArray) (hr : Rise W3.key xs) (hn : n ≤ 65536) :
    Calls Try.prog 52 #[.slice A n c, .string key] w fun e w' => e = .returned (.tuple #[.int .i64 (pos W3.key xs key), .bool (look W3.key key xs).isSome]) ∧ Below w.heap.size w w' := by
  go_enter Try.func52, Try.ntmps52
  go_wp2_with fail
  refine (bsf_any h key hr hn).mono ?_
  rintro e w1 ⟨rfl, hb1⟩
  go_wp2
  go_ret2
  exact ⟨rfl, hb1⟩
end Go.Proofs.Yteaaeeidbjklbaa
