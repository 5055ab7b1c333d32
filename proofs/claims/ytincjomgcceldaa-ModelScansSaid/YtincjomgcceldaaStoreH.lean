/- Stores: the same; one more. -/
import Derived.Test.YtincjomgcceldaaStoreG
namespace Go.Proofs.Ytincjomgcceldaa
open Go.RowKit

theorem sameW_yes {A B : Option Addr} {n c m d : Nat} {xs : List W3} {w : World} (h : SlW w A n c xs) (h' : SlW w B m d xs) :
    Calls Try.prog 35 #[.slice A n c, .slice B m d] w fun e w' => e = .returned (.bool true) ∧ Below w.heap.size w w' :=
  (sameW_any h h').mono fun _ _ ⟨he, hb⟩ => ⟨by rw [he, eqL_t rfl], hb⟩

set_option maxRecDepth 100000 in
set_option maxHeartbeats 1000000 in
/-- at one and the same store: yes -/
theorem sameC_any {A B : Option Addr} {n c m d : Nat} {xs : List Cm} {w : World} (h : SlC w A n c xs) (h' : SlC w B m d xs) :
    Calls Try.prog 18 #[.slice A n c, .slice B m d] w fun e w' => e = .returned (.bool true) ∧ Below w.heap.size w w' := by
  have hm := slC_max h
  have hm' := slC_max h'
  have hl := Lib.hid (slC_len h)
  obtain rfl : n = m := (slC_len h).symm.trans (slC_len h')
  have HS := Lib.hid h; have HS' := Lib.hid h'; clear h h'
  go_enter Try.func18, Try.ntmps18
  go_wp2
  go_loopw [5] (fun i wr => ∃ k : Nat, k ≤ n ∧ i = .int .i64 k ∧ Below w.heap.size w wr) (fun i _ => n - (intOf i).toNat)
  case atStart => exact ⟨0, Nat.zero_le _, rfl, Below.refl _ _⟩
  case round =>
    obtain ⟨k, hk, rfl, hb⟩ := hrel
    have HB := Lib.hid hb; clear hb
    by_cases hlt : k < n
    · obtain ⟨b, o, x, A', n', c', rfl, hbw, hx, h0, h1, _, hsw⟩ := slC_get (HS.out.below HB.out) hlt
      obtain ⟨b', o', y, A2, n2, c2, rfl, hbw', hy, g0, g1, _, hsw'⟩ := slC_get (HS'.out.below HB.out) hlt
      obtain rfl : x = y := by rw [hx] at hy; cases hy; rfl
      clear hx hy
      have q0 := fun d => Later.cell h0 hbw d
      have q1 := fun d => Later.cell h1 hbw d
      have p0 := fun d => Later.cell g0 hbw' d
      have p1 := fun d => Later.cell g1 hbw' d
      have HC := Lib.hid (fun d : Later wr => sameW_yes (hsw.below d.le) (hsw'.below d.le))
      clear h0 h1 g0 g1 hsw hsw'
      have hi1 : (0 : Int) ≤ (k : Int) := by omega
      have hi2 : (k : Int) < n := by omega
      go_wp2
      refine wp_region_later (by kernel_rfl) (by kernel_rfl) ?_
      repeat (go_big_quiet_step ((go_at_call 35; exact Later.calls (HC.out _))))
      refine wpQuiet_nil ?_
      rintro ⟨w3, hb3⟩
      clear q0 q1 p0 p1
      dsimp only
      have HB3 := Lib.hid (HB.out.trans (hb3.mono HB.out.size))
      clear hb3 HC
      go_wp2
      go_roundw
      case rel => exact ⟨k + 1, by omega, by go_num, HB3.out⟩
      case measure => simp [intOf]; omega
    · obtain rfl : k = n := by omega
      go_wp2
      go_ret
      exact ⟨rfl, HB.out⟩

/-- room for one commit more, the commits laid -/
theorem again_any {A : Option Addr} {n c : Nat} {xs : List Cm} {w : World} (h : SlC w A n c xs) (hn : n ≤ 60) :
    Calls Try.prog 33 #[.slice A n c] w fun e w' => ∃ v vs, e = .returned v ∧ w'.ownsRow w.heap.size 72 2 v n (cV vs) ∧ Tells w' vs xs ∧ (∀ x ∈ vs, 0 < x.n → ∀ b o, x.a = some ⟨b, o, none⟩ → b < w.heap.size) ∧ Below w.heap.size w w' := by
  have hm := slC_max h
  obtain ⟨vs, hs, ht⟩ := h
  obtain ⟨i0, hi, hz0, hz1, hz2⟩ := info_parts info_C
  have HI := Lib.hid hi; have HZ0 := Lib.hid hz0; have HZ1 := Lib.hid hz1; have HZ2 := Lib.hid hz2; clear hi hz0 hz1 hz2
  have HS := Lib.hid hs; have HT := Lib.hid ht; clear hs ht
  go_enter Try.func33, Try.ntmps33
  go_wp2_with (first
    | (refine wpList_make_own _ rfl _ _ 29 rfl w.heap.size 72 i0 (.agg #[.int .u64 0, .slice none 0 0]) 2 Try.underlying29 HI.out HZ0.out HZ1.out .i64 .i64 _ (n + 1) rfl rfl (by omega) (by rw [HZ2.out]; omega) (by unfold maxLen; omega) (Nat.le_refl _) ?_; intro w1 hown1 hg1; have HO1 := Lib.hid hown1; have HG1 := Lib.hid hg1)
    | (at_builtin; refine wpList_append_sl _ rfl _ _ 29 rfl w.heap.size 72 i0 (.agg #[.int .u64 0, .slice none 0 0]) 2 32 Try.underlying29 HI.out HZ0.out HZ1.out HZ2.out rfl (by decide) _ 0 [] rfl HO1.out A n c (cV vs) rfl (HS.out.grown HG1.out (fun _ _ _ _ => by simp)) (one_cV vs) ?c3 ?c4 ?c5 ?_))
  case c3 => unfold maxLen; omega
  case c4 => omega
  case c5 => exact HG1.out.size
  intro v' w2 hown2 hg2
  have hb1 : Below w.heap.size w w1 := (Below.refl w.heap.size w).grown HG1.out (Nat.le_refl _) (fun k hk => by cases hk)
  have hb2 : Below w.heap.size w w2 := hb1.grown hg2 hb1.size (fun k hk => by simp [Value.ownBlock] at hk; omega)
  have HT2 := Lib.hid (HT.out.below hb2); have HO2 := Lib.hid hown2; have HB2 := Lib.hid hb2
  have HL := Lib.hid HT.out.lies
  clear hown2 hg2 hb1 hb2 
  go_wp2
  go_ret
  exact ⟨v', vs, rfl, by have := HO2.out; simpa using this, HT2.out, HL.out, HB2.out⟩
end Go.Proofs.Ytincjomgcceldaa
