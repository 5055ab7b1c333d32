/- A table: the numbers that are open; what alive answers. -/
import Derived.Test.YteaaeeidbjklbaaTxD
namespace Go.Proofs.Yteaaeeidbjklbaa
open Go.RowKit Go.Maps

/-- the numbers that are open, of the first k -/
def openL (op : Nat → Bool) (k : Nat) : List Int := ((List.range k).filter (fun j => op j)).map (fun i : Nat => (i : Int))
theorem openL_succ (op : Nat → Bool) (k : Nat) : openL op (k + 1) = openL op k ++ (if op k = true then [(k : Int)] else []) := by
  unfold openL
  rw [List.range_succ, List.filter_append, List.map_append]
  cases ho : op k <;> simp [ho]
theorem openL_len (op : Nat → Bool) : ∀ k, (openL op k).length = cnt op k
  | 0 => rfl
  | k + 1 => by rw [openL_succ, List.length_append, openL_len op k, cnt]; cases op k <;> simp
theorem cI_append (q : IntKind) (a b : List Int) : cI q (a ++ b) = cI q a ++ cI q b := List.map_append
theorem info_int : (Try.prog.info? 3).map (fun i => (i.zero, i.size, i.bytes)) = some (some (.int .i64 0), 1, 8) := by kernel_rfl
theorem new1i (w : World) (a : Value) (t : TypeId) {g : Nat} (hg : g = w.heap.size) : ∀ j u, [a][j]? = some u → (w.alloc (.cells #[a] t)).cell? ((⟨g, 0, none⟩ : Addr).add j) = some u := by
  intro j u h
  subst hg
  rw [Addr.add_lit, cell_of_row (w.alloc _) w.heap.size _ #[a] t (0, 0) (heap_alloc_new w _)]
  simpa using h
theorem one1i (q : IntKind) (a : Int) : ∀ u ∈ ([.int q a] : List Value), u.oneCell' = true := by
  intro u hu; simp at hu; subst hu; rfl
theorem own_below' {w w1 : World} {base e sz n : Nat} {v : Value} {cs : List Value} (h : w.ownsRow base e sz v n cs) (hb : Below w.heap.size w w1) : w1.ownsRow base e sz v n cs := by
  refine ⟨h.1, ?_⟩
  rcases h.2 with h2 | ⟨g, cap, cur, hv, hg, hh, r⟩
  · exact .inl h2
  · exact .inr ⟨g, cap, cur, hv, hg, (hb.block g (Array.getElem?_eq_some_iff.1 hh).1).trans hh, r⟩
theorem own_ge' {w : World} {base e sz n : Nat} {v : Value} {cs : List Value} (h : w.ownsRow base e sz v n cs) : ∀ k, v.ownBlock = some k → base ≤ k := by
  rcases h.2 with ⟨rfl, _⟩ | ⟨g, cap, cur, rfl, hg, _⟩
  · intro k hk; cases hk
  · intro k hk; simp [Value.ownBlock] at hk; omega
section
variable {w w1 : World} {g b M : Nat} {at_ : Nat → Int} {op : Nat → Bool} {sets : Nat → List W3} {k : Nat} {D : DataW Unit}
set_option maxRecDepth 100000 in
set_option maxHeartbeats 2000000 in
theorem topen_any (h : Tab w g b M at_ op sets k D) : Calls Try.prog 25 #[PT g] w fun e w' => (∃ A c, e = .returned (.slice A (cnt op 8) c) ∧ SlI w' .i64 A (cnt op 8) c (openL op 8)) ∧ Below w.heap.size w w' := by
  have H := Lib.hid h; clear h
  obtain ⟨i0, hi, hz0, hz1, hz2⟩ := info_parts info_int
  have HI := Lib.hid hi; have HZ0 := Lib.hid hz0; have HZ1 := Lib.hid hz1; have HZ2 := Lib.hid hz2; clear hi hz0 hz1 hz2
  go_enter Try.func25, Try.ntmps25
  go_wp2
  go_loopw [3, 7] (fun v i wr => ∃ p : Nat, p ≤ 8 ∧ i = .int .i64 p ∧ wr.ownsRow w.heap.size 3 1 v (cnt op p) (cI .i64 (openL op p)) ∧ Below w.heap.size w wr) (fun _ i _ => 8 - (intOf i).toNat)
  case atStart => exact ⟨0, Nat.zero_le _, rfl, World.ownsRow_nil _ _ _ _, Below.refl _ _⟩
  case round =>
    obtain ⟨p, hp, rfl, hown, hb⟩ := hrel
    have HO := Lib.hid hown; have HB := Lib.hid hb; clear hown hb
    have hc8 := cnt_le op p
    by_cases hp8 : p < 8
    · go_wp2_with fail
      refine (tat_in (H.out.below HB.out) hp8).mono ?_
      rintro e wa ⟨rfl, hba⟩
      have HOA := Lib.hid (own_below' HO.out hba)
      have HBA := Lib.hid (bt HB.out hba)
      clear hba
      generalize atOf at_ op p = ap
      cases ho : op p with
      | false =>
        go_wp2
        go_roundw
        case rel => exact ⟨p + 1, by omega, by go_num, by rw [openL_succ, cnt, ho]; simpa using HOA.out, HBA.out⟩
        case measure => simp [intOf]; omega
      | true =>
        go_wp2_with (at_builtin; refine wpList_append_own _ rfl _ _ 60 rfl w.heap.size 3 i0 (.int .i64 0) 1 8 Try.underlying60 HI.out HZ0.out HZ1.out HZ2.out rfl (by decide) _ _ _ rfl (HOA.out.alloc _) ⟨wa.heap.size, 0, none⟩ 1 1 [.int .i64 p] rfl rfl (new1i _ _ _ rfl) (one1i _ _) ?a3 ?a4 ?a5 ?_)
        case a3 => unfold maxLen; omega
        case a4 => omega
        case a5 => have := HBA.out.size; simp; omega
        intro v4 w4 hown4 hg4 _
        have HB4 := Lib.hid ((HBA.out.alloc HBA.out.size _).grown hg4 (by have := HBA.out.size; simp; omega) (own_ge' HOA.out))
        clear hg4
        go_wp2
        go_roundw
        case rel => exact ⟨p + 1, by omega, by go_num, by rw [openL_succ, cnt, if_pos ho, if_pos ho, cI_append]; exact hown4, HB4.out⟩
        case measure => simp [intOf]; omega
    · obtain rfl : p = 8 := by omega
      go_wp2
      go_ret
      obtain ⟨A, c, rfl, hs⟩ := Sl.of_own HO.out
      exact ⟨⟨A, c, rfl, hs⟩, HB.out⟩
end
end Go.Proofs.Yteaaeeidbjklbaa
