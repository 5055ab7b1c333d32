/- Walks: a list written anew, element by element. -/
import Derived.Test.YteaaeeidbjklbaaSame
namespace Go.Proofs.Yteaaeeidbjklbaa
open Go.RowKit

theorem info_W : (Try.prog.info? 50).map (fun i => (i.zero, i.size, i.bytes)) = some (some (.agg #[.string ⟨#[]⟩, .string ⟨#[]⟩, .bool false]), 3, 40) := by kernel_rfl
theorem info_RW : (Try.prog.info? 38).map (fun i => (i.zero, i.size, i.bytes)) = some (some (.agg #[.string ⟨#[]⟩, .string ⟨#[]⟩, .bool false]), 3, 40) := by kernel_rfl
theorem take_cW {xs : List W3} {k : Nat} {x : W3} (h : xs[k]? = some x) : cW (xs.take (k + 1)) = cW (xs.take k) ++ x.cells := by
  obtain ⟨hk, rfl⟩ := get_some h
  rw [List.take_succ_eq_append_getElem hk, cW_append]; simp [cW]
theorem take_cP {xs : List P2} {k : Nat} {x : P2} (h : xs[k]? = some x) : cP (xs.take (k + 1)) = cP (xs.take k) ++ x.cells := by
  obtain ⟨hk, rfl⟩ := get_some h
  rw [List.take_succ_eq_append_getElem hk, cP_append]; simp [cP]

/-- three cells in a new block; two -/
theorem new3 (w : World) (a b c : Value) (t : TypeId) {g : Nat} (hg : g = w.heap.size) : ∀ j u, [a, b, c][j]? = some u → (w.alloc (.cells #[a, b, c] t)).cell? ((⟨g, 0, none⟩ : Addr).add j) = some u := by
  intro j u h
  subst hg
  rw [Addr.add_lit, cell_of_row (w.alloc _) w.heap.size _ #[a, b, c] t (0, 0) (heap_alloc_new w _)]
  simpa using h
theorem new2 (w : World) (a b : Value) (t : TypeId) {g : Nat} (hg : g = w.heap.size) : ∀ j u, [a, b][j]? = some u → (w.alloc (.cells #[a, b] t)).cell? ((⟨g, 0, none⟩ : Addr).add j) = some u := by
  intro j u h
  subst hg
  rw [Addr.add_lit, cell_of_row (w.alloc _) w.heap.size _ #[a, b] t (0, 0) (heap_alloc_new w _)]
  simpa using h
theorem one3 (s t : ByteArray) (g : Bool) : ∀ u ∈ ([.string s, .string t, .bool g] : List Value), u.oneCell' = true := by
  intro u hu; simp at hu; rcases hu with rfl | rfl | rfl <;> rfl
theorem one2 (s t : ByteArray) : ∀ u ∈ ([.string s, .string t] : List Value), u.oneCell' = true := by
  intro u hu; simp at hu; rcases hu with rfl | rfl <;> rfl

theorem own_ge {w : World} {base e sz n : Nat} {v : Value} {cs : List Value} (h : w.ownsRow base e sz v n cs) : ∀ k, v.ownBlock = some k → base ≤ k := by
  intro k hk
  rcases h.2 with ⟨rfl, rfl⟩ | ⟨g, cap, cur, rfl, hb, _⟩
  · simp [Value.ownBlock] at hk
  · simp [Value.ownBlock] at hk; omega

theorem ours_own {A : Option Addr} {n c : Nat} {xs : List W3} {w : World} (h : SlW w A n c xs) (hn : n ≤ 65536) :
    Calls Try.prog 30 #[.slice A n c] w fun e w' => ∃ v, e = .returned v ∧ w'.ownsRow w.heap.size 38 3 v n (cW xs) ∧ Below w.heap.size w w' := by
  have hm := sl_max h
  have hl := Lib.hid (slW_len h)
  obtain ⟨i0, hi, hz0, hz1, hz2⟩ := info_parts info_RW
  have HI := Lib.hid hi; have HZ0 := Lib.hid hz0; have HZ1 := Lib.hid hz1; have HZ2 := Lib.hid hz2; clear hi hz0 hz1 hz2
  go_enter Try.func30, Try.ntmps30
  go_wp2
  go_loopw [3, 8] (fun v i wr => ∃ k : Nat, k ≤ n ∧ i = .int .i64 k ∧ wr.ownsRow w.heap.size 38 3 v k (cW (xs.take k)) ∧ Below w.heap.size w wr) (fun _ i _ => n - (intOf i).toNat)
  case atStart => exact ⟨0, Nat.zero_le _, rfl, World.ownsRow_nil _ _ _ _, Below.refl _ _⟩
  case round =>
    obtain ⟨k, hk, rfl, hown, hb⟩ := hrel
    by_cases hlt : k < n
    · obtain ⟨b, o, x, rfl, hbw, hx, h0, h1, h2⟩ := slW_get (h.below hb) hlt
      have HX := Lib.hid hx; have HO := Lib.hid hown; clear hx hown h
      go_wp2_with (at_builtin; refine wpList_append_own _ rfl _ _ 32 rfl w.heap.size 38 i0 (.agg #[.string ⟨#[]⟩, .string ⟨#[]⟩, .bool false]) 3 40 Try.underlying32 HI.out HZ0.out HZ1.out HZ2.out rfl (by decide) _ _ _ rfl ((HO.out.alloc _).alloc _) ⟨wr.heap.size + 1, 0, none⟩ 1 1 [.string x.key, .string x.text, .bool x.gone] rfl rfl ?c1 ?c2 ?c3 ?c4 ?c5 ?_)
      case c1 => exact new3 _ _ _ _ _ (by simp)
      case c2 => exact one3 _ _ _
      case c3 => unfold maxLen; omega
      case c4 => omega
      case c5 => have := hb.size; simp; omega
      intro v' w1 hown' hgrow _
      go_wp2
      go_roundw
      case rel => exact ⟨k + 1, by omega, by go_num, by rw [take_cW HX.out]; exact hown', ((hb.alloc hb.size _).alloc (by have := hb.size; simp; omega) _).grown hgrow (by have := hb.size; simp; omega) (own_ge HO.out)⟩
      case measure => simp [intOf]; omega
    · go_wp2
      obtain rfl : k = n := by omega
      rw [List.take_of_length_le (by rw [hl.out]; exact Nat.le_refl _)] at hown
      go_ret
      exact ⟨_, rfl, hown, hb⟩
theorem ours_any {A : Option Addr} {n c : Nat} {xs : List W3} {w : World} (h : SlW w A n c xs) (hn : n ≤ 65536) :
    Calls Try.prog 30 #[.slice A n c] w fun e w' => ∃ A' c', e = .returned (.slice A' n c') ∧ SlW w' A' n c' xs ∧ Below w.heap.size w w' :=
  (ours_own h hn).mono fun _ _ ⟨_, he, ho, hb⟩ => by
    obtain ⟨A', c', rfl, hs⟩ := Sl.of_own ho
    exact ⟨A', c', he, hs, hb⟩
end Go.Proofs.Yteaaeeidbjklbaa
