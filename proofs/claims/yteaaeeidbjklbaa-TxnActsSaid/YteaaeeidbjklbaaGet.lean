/- Walks: what a set has of a key (the reference's search from the first on, the program's search by halves); do two sets meet; are two lists the same. -/
import Derived.Test.YteaaeeidbjklbaaRead
namespace Go.Proofs.Yteaaeeidbjklbaa
open Go.RowKit

/-- what is handed back of a key: the write's parts, or nothing's -/
def okey : Option W3 → ByteArray | some x => x.key | none => ⟨#[]⟩
def otext : Option W3 → ByteArray | some x => x.text | none => ⟨#[]⟩
def ogone : Option W3 → Bool | some x => x.gone | none => false

theorem look_first {α : Type} {f : α → ByteArray} {l : List α} {k : Nat} {x : α} {key : ByteArray} (hu : Upto l k (fun x => f x ≠ key)) (hx : l[k]? = some x) (he : f x = key) : look f key l = some x := by
  induction l generalizing k with
  | nil => simp at hx
  | cons y l ih =>
    rw [look_cons]
    cases k with
    | zero => obtain rfl : y = x := by simpa using hx
              rw [if_pos he]
    | succ k =>
      rw [if_neg (hu 0 (by omega) y rfl)]
      exact ih (k := k) (fun j hj z hz => hu (j + 1) (by omega) z (by simpa using hz)) (by simpa using hx)
theorem look_last {α : Type} {f : α → ByteArray} {l : List α} {n : Nat} {key : ByteArray} (hn : l.length = n) (hu : Upto l n (fun x => f x ≠ key)) : look f key l = none :=
  look_none fun x hx => by
    obtain ⟨j, hj, e⟩ := List.mem_iff_getElem.1 hx
    exact hu j (by omega) x (by rw [List.getElem?_eq_getElem hj, e])
theorem keq_t {a b : ByteArray} (h : (a.toList == b.toList) = true) : a = b := ba_toList_inj (by simpa using h)
theorem keq_f {a b : ByteArray} (h : (a.toList == b.toList) = false) : a ≠ b := by rintro rfl; simp at h

theorem rget_any {A : Option Addr} {n c : Nat} {xs : List W3} {w : World} (h : SlW w A n c xs) (key : ByteArray) :
    Calls Try.prog 53 #[.slice A n c, .string key] w fun e w' =>
      e = .returned (.tuple #[.agg #[.string (okey (look W3.key key xs)), .string (otext (look W3.key key xs)), .bool (ogone (look W3.key key xs))], .bool (look W3.key key xs).isSome]) ∧ Below w.heap.size w w' := by
  have hm := sl_max h
  have hl := Lib.hid (slW_len h)
  go_enter Try.func53, Try.ntmps53
  go_wp2
  go_loop [6] (fun i => ∃ k : Nat, k ≤ n ∧ i = .int .i64 k ∧ Upto xs k (fun x => x.key ≠ key)) (fun i => n - (intOf i).toNat)
  case atStart => exact ⟨0, Nat.zero_le _, rfl, .zero⟩
  case round =>
    obtain ⟨k, hk, rfl, hu⟩ := hrel
    have HU := Lib.hid hu; clear hu
    by_cases hlt : k < n
    · obtain ⟨b, o, x, rfl, hbw, hx, h0, h1, h2⟩ := slW_get h hlt
      have HX := Lib.hid hx; clear hx h
      go_wp2
      · rw [look_first HU.out HX.out (keq_t (by assumption))]
        go_returns
        exact ⟨rfl, by go_grown⟩
      · go_round
        case rel => exact ⟨k + 1, by omega, by go_num, HU.out.succ HX.out (keq_f (by assumption))⟩
        case measure => simp [intOf]; omega
    · go_wp2
      obtain rfl : k = n := by omega
      rw [look_last hl.out HU.out]
      go_returns
      exact ⟨rfl, by go_grown⟩
end Go.Proofs.Yteaaeeidbjklbaa
