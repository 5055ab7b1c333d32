/- Walks: pairs written anew. -/
import Derived.Test.YtmoihamobojkfaaCopy
namespace Go.Proofs.Ytmoihamobojkfaa
open Go.RowKit

theorem pairs_any {A : Option Addr} {n c : Nat} {xs : List P2} {w : World} (h : SlP w A n c xs) (hn : n ≤ 65536) :
    Calls Try.prog 15 #[.slice A n c] w fun e w' => ∃ A' c', e = .returned (.slice A' n c') ∧ SlP w' A' n c' xs ∧ Below w.heap.size w w' := by
  have hm := sl_max h
  have hl := Lib.hid (slP_len h)
  obtain ⟨i0, hi, hz0, hz1, hz2⟩ := info_parts info_P
  have HI := Lib.hid hi; have HZ0 := Lib.hid hz0; have HZ1 := Lib.hid hz1; have HZ2 := Lib.hid hz2; clear hi hz0 hz1 hz2
  go_enter Try.func15, Try.ntmps15
  go_wp2
  go_loopw [3, 8] (fun v i wr => ∃ k : Nat, k ≤ n ∧ i = .int .i64 k ∧ wr.ownsRow w.heap.size 55 2 v k (cP (xs.take k)) ∧ Below w.heap.size w wr) (fun _ i _ => n - (intOf i).toNat)
  case atStart => exact ⟨0, Nat.zero_le _, rfl, World.ownsRow_nil _ _ _ _, Below.refl _ _⟩
  case round =>
    obtain ⟨k, hk, rfl, hown, hb⟩ := hrel
    by_cases hlt : k < n
    · obtain ⟨b, o, x, rfl, hbw, hx, h0, h1⟩ := slP_get (h.below hb) hlt
      have HX := Lib.hid hx; have HO := Lib.hid hown; clear hx hown h
      go_wp2_with (at_builtin; refine wpList_append_own _ rfl _ _ 30 rfl w.heap.size 55 i0 (.agg #[.string ⟨#[]⟩, .string ⟨#[]⟩]) 2 32 Try.underlying30 HI.out HZ0.out HZ1.out HZ2.out rfl (by decide) _ _ _ rfl ((HO.out.alloc _).alloc _) ⟨wr.heap.size + 1, 0, none⟩ 1 1 [.string x.key, .string x.text] rfl rfl ?c1 ?c2 ?c3 ?c4 ?c5 ?_)
      case c1 => exact new2 _ _ _ _ (by simp)
      case c2 => exact one2 _ _
      case c3 => unfold maxLen; omega
      case c4 => omega
      case c5 => have := hb.size; simp; omega
      intro v' w1 hown' hgrow _
      go_wp2
      go_roundw
      case rel => exact ⟨k + 1, by omega, by go_num, by rw [take_cP HX.out]; exact hown', ((hb.alloc hb.size _).alloc (by have := hb.size; simp; omega) _).grown hgrow (by have := hb.size; simp; omega) (own_ge HO.out)⟩
      case measure => simp [intOf]; omega
    · go_wp2
      obtain rfl : k = n := by omega
      rw [List.take_of_length_le (by rw [hl.out]; exact Nat.le_refl _)] at hown
      obtain ⟨A', c', rfl, hs⟩ := Sl.of_own hown
      go_ret
      exact ⟨A', c', rfl, hs, hb⟩
end Go.Proofs.Ytmoihamobojkfaa
