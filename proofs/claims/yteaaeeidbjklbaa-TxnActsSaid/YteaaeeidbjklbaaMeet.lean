/- Walks: the program's Get; do two sets meet. -/
import Derived.Test.YteaaeeidbjklbaaFind
namespace Go.Proofs.Yteaaeeidbjklbaa
open Go.RowKit

theorem pos_some {xs : List W3} {key : ByteArray} {x : W3} (hr : Rise W3.key xs) (h : look W3.key key xs = some x) : pos W3.key xs key < xs.length ∧ xs[pos W3.key xs key]? = some x := by
  rcases Nat.lt_or_ge (pos W3.key xs key) xs.length with h1 | h1
  · rw [look_pos hr h1] at h
    split at h
    · exact ⟨h1, by rw [List.getElem?_eq_getElem h1]; exact h⟩
    · cases h
  · rw [look_end (by omega)] at h; cases h

theorem get_any {A : Option Addr} {n c : Nat} {xs : List W3} {w : World} (h : SlW w A n c xs) (key : ByteArray) (hr : Rise W3.key xs) (hn : n ≤ 65536) :
    Calls Try.prog 46 #[.slice A n c, .string key] w fun e w' =>
      e = .returned (.tuple #[.agg #[.string (okey (look W3.key key xs)), .string (otext (look W3.key key xs)), .bool (ogone (look W3.key key xs))], .bool (look W3.key key xs).isSome]) ∧ Below w.heap.size w w' := by
  have hm := sl_max h
  have hl := Lib.hid (slW_len h)
  have HC := Lib.hid (fun (o : Obj) => find_any (h.below ((Below.refl w.heap.size w).alloc (Nat.le_refl _) o)) key hr hn)
  go_enter Try.func46, Try.ntmps46
  go_wp2_with fail
  refine (HC.out _).mono ?_
  rintro e w1 ⟨rfl, hb1⟩
  obtain ⟨hz, c0, c1, c2, f0, f1, f2⟩ := kept3 hb1
  have hbw := bt ((Below.refl w.heap.size w).alloc (Nat.le_refl _) _) hb1
  have h' := h.below hbw
  have HB := Lib.hid hbw; clear hb1 hbw
  cases hlk : look W3.key key xs with
  | none =>
    have HLK := Lib.hid hlk
    go_wp2
    obtain ⟨q0, q1, q2⟩ := set3 c0 c1 c2 (.string ⟨#[]⟩) (.string ⟨#[]⟩) (.bool false)
    refine bodyPost_ret (v := .tuple #[.agg #[.string ⟨#[]⟩, .string ⟨#[]⟩, .bool false], .bool false]) (by simp [results, Try.results46, go_sem, q0, q1, q2]) rfl ⟨by rw [HLK.out]; rfl, ?_⟩
    have := HB.out; go_grown
  | some x =>
    obtain ⟨hp, hx⟩ := pos_some hr hlk
    have HLK := Lib.hid hlk
    obtain ⟨b, o, y, rfl, hbw, hy, h0, h1, h2⟩ := slW_get h' (k := pos W3.key xs key) (by rw [← hl.out]; exact hp)
    rw [hx] at hy; cases hy
    generalize pos W3.key xs key = q at *
    rw [hl.out] at hp
    clear hx hlk h h' HC
    go_wp2
    obtain ⟨q0, q1, q2⟩ := set3 c0 c1 c2 (.string x.key) (.string x.text) (.bool x.gone)
    refine bodyPost_ret (v := .tuple #[.agg #[.string x.key, .string x.text, .bool x.gone], .bool true]) (by simp [results, Try.results46, go_sem, q0, q1, q2]) rfl ⟨by rw [HLK.out]; rfl, ?_⟩
    have := HB.out; go_grown

/-- do two sets meet -/
def meetB (a b : List W3) : Bool := a.any (fun x => (look W3.key x.key b).isSome)
theorem meet_yes {a b : List W3} {k : Nat} {x : W3} (hx : a[k]? = some x) (h : (look W3.key x.key b).isSome = true) : meetB a b = true := by
  unfold meetB; rw [List.any_eq_true]; exact ⟨x, List.mem_of_getElem? hx, h⟩
theorem meet_no {a b : List W3} {n : Nat} (hn : a.length = n) (h : Upto a n (fun x => (look W3.key x.key b).isSome = false)) : meetB a b = false := by
  unfold meetB; rw [List.any_eq_false]
  intro x hx
  obtain ⟨j, hj, e⟩ := List.mem_iff_getElem.1 hx
  have := h j (by omega) x (by rw [List.getElem?_eq_getElem hj, e])
  simp [this]

theorem meet_any {A B : Option Addr} {n c m d : Nat} {xs ys : List W3} {w : World} (h : SlW w A n c xs) (h' : SlW w B m d ys) (hr : Rise W3.key ys) (hn : m ≤ 65536) :
    Calls Try.prog 33 #[.slice A n c, .slice B m d] w fun e w' => e = .returned (.bool (meetB xs ys)) ∧ Below w.heap.size w w' := by
  have hm := sl_max h
  have hl := Lib.hid (slW_len h)
  go_enter Try.func33, Try.ntmps33
  go_wp2
  go_loopw [11] (fun i wr => ∃ k : Nat, k ≤ n ∧ i = .int .i64 k ∧ Upto xs k (fun x => (look W3.key x.key ys).isSome = false) ∧ Below w.heap.size w wr) (fun i _ => n - (intOf i).toNat)
  case atStart => exact ⟨0, Nat.zero_le _, rfl, .zero, Below.refl _ _⟩
  case round =>
    obtain ⟨k, hk, rfl, hu, hb⟩ := hrel
    have HU := Lib.hid hu; clear hu
    by_cases hlt : k < n
    · obtain ⟨b, o, x, rfl, hbw, hx, h0, h1, h2⟩ := slW_get (h.below hb) hlt
      have HX := Lib.hid hx
      have HC := Lib.hid (fun (o : Obj) => get_any ((h'.below hb).below ((Below.refl wr.heap.size wr).alloc (Nat.le_refl _) o)) x.key hr hn)
      clear hx h h'
      go_wp2_with fail
      refine (HC.out _).mono ?_
      rintro e w1 ⟨rfl, hb1⟩
      have hb2 := hb.trans ((((Below.refl wr.heap.size wr).alloc (Nat.le_refl _) _).trans (hb1.mono (by simp))).mono hb.size)
      have hz1 := hb2.size
      clear HC hb1
      generalize hlk : look W3.key x.key ys = lk
      have HL := Lib.hid hlk; clear hlk
      go_wp2
      · go_ret
        exact ⟨ret_bool (meet_yes HX.out (by rw [HL.out]; assumption)).symm, by go_grown⟩
      · go_roundw
        case rel => exact ⟨k + 1, by omega, by go_num, HU.out.succ HX.out (by rw [HL.out]; first | assumption | exact notT (by assumption)), by go_grown⟩
        case measure => simp [intOf]; omega
    · go_wp2
      go_ret
      obtain rfl : k = n := by omega
      exact ⟨ret_bool (meet_no hl.out HU.out).symm, hb⟩
end Go.Proofs.Yteaaeeidbjklbaa
