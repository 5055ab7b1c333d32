/- The given Read: a range over a function: the iterator's contract. -/
import Derived.RangeFuncNested
import Derived.RangeFuncBound
import Derived.RangeFuncCalls
import Derived.RangeFuncLeaves
import Derived.Shelf.Abstract
import Derived.WalkKit
import Derived.OwnWalkIn
import Derived.TacticsInMore
import Derived.LoopNIn
import Derived.LoopIn
import Derived.Test.YtincjomgcceldaaStoreD
namespace Go.Proofs.Ytincjomgcceldaa
open Go.RowKit Go.Shelf
attribute [local go_sem] Oper.semAt_some

/-- a commit as a value -/
def CmV.val (v : CmV) : Value := .agg #[.int .u64 v.stamp, .slice v.a v.n v.c]
def CmV.enc {n : Nat} (g : Nat → CmV) (i : Fin n) : Array Value := #[.int .i64 (i.1 : Int), .agg #[.int .u64 (g i.1).stamp, .slice (g i.1).a (g i.1).n (g i.1).c]]
/-- all of them have come; down to one of them -/
def AllCame {n : Nat} (ys : List (Fin n)) : Prop := ∀ i, i ∈ ys
def DownTo {n : Nat} (ys : List (Fin n)) : Prop := ∃ ini x, ys = ini ++ [x] ∧ ∀ i, x < i → i ∈ ini

set_option maxRecDepth 100000 in
set_option maxHeartbeats 1000000 in
theorem back1_in (F : Fence) (N : Nat) (hf : F.fn 44) (hro : F.round = none) (hn : 1 ≤ N) (l Bs n₀ : Nat) (A : Option Addr) (n c : Nat) (g : Nat → CmV) (hc : n ≤ 9223372036854775807)
    (J Jx : List (Fin n) → World → Prop)
    (hY : ∀ pre x W, J pre W → pre.length < n → YieldAt F (N - 1) Try.prog l (CmV.enc g x) W fun e W' =>
      (e = .returned (.bool true) ∧ J (pre ++ [x]) W' ∧ Below n₀ W W') ∨ (e = .returned (.bool false) ∧ Jx (pre ++ [x]) W'))
    (W : World) (hB : Bs < n₀) (hBs : W.cell? ⟨Bs, 0, none⟩ = some (.slice A n c))
    (hcs : 0 < n → ∃ b o, A = some ⟨b, o, none⟩ ∧ b < n₀ ∧ ∀ j, j < n → W.cell? ⟨b, o + j * 2, none⟩ = some (.int .u64 (g j).stamp) ∧ W.cell? ⟨b, o + j * 2 + 1, none⟩ = some (.slice (g j).a (g j).n (g j).c)) (h0 : J [] W) :
    CallsIn F N Try.prog 44 #[.func (.yield l) #[] #[], .pointer (some ⟨Bs, 0, none⟩)] W fun e W' => (∃ v, e = .returned v) ∧
      ((∃ ys, AllCame ys ∧ J ys W') ∨ (∃ pre, DownTo pre ∧ Jx pre W')) := by
  have HC := Lib.hid hcs; clear hcs
  refine callsIn_of_wp Try.func44 rfl hf ?_ hro
  simp only [Try.ntmps44, List.size_toArray, List.length_cons, List.length_nil, Nat.reduceAdd, Nat.reduceSub, Array.replicate_succ, Array.replicate_zero, List.push_toArray, List.append_toArray, List.nil_append, List.cons_append]
  gi_wp2
  gi_loopw [3] (fun i wr => ∃ (k : Nat) (pre : List (Fin n)), k ≤ n ∧ i = .int .i64 ((k : Int) - 1) ∧ pre.length + k = n ∧ (∀ i : Fin n, k ≤ i.1 → i ∈ pre) ∧ J pre wr ∧ Below n₀ W wr)
    (fun i _ => (intOf i + 1).toNat)
  case atStart => exact ⟨n, [], Nat.le_refl _, rfl, by simp, fun i h => absurd i.2 (by omega), h0, Below.refl _ _⟩
  case round =>
    obtain ⟨k, pre, hk, rfl, hlen, hall, hJs, hnx⟩ := hrel
    have HA := Lib.hid hall; clear hall
    have HJ := Lib.hid hJs; have HN := Lib.hid hnx; clear hJs hnx
    have hbs := (HN.out.cell (p := ⟨Bs, 0, none⟩) hB).trans hBs
    cases k with
    | zero =>
      gi_wp2
      go_end0
      exact ⟨⟨_, rfl⟩, .inl ⟨pre, fun i => HA.out i (Nat.zero_le _), HJ.out⟩⟩
    | succ k =>
      obtain ⟨b, o, rfl, hb, hcc⟩ := HC.out (by omega)
      obtain ⟨q0, q1⟩ := hcc k (by omega)
      have c0 := (HN.out.cell (p := ⟨b, o + k * 2, none⟩) hb).trans q0
      have c1 := (HN.out.cell (p := ⟨b, o + k * 2 + 1, none⟩) hb).trans q1
      clear q0 q1 hcc
      obtain ⟨fn, tmps, assign, body, hy, hR⟩ := hY pre ⟨k, by omega⟩ wr HJ.out (by omega)
      unfold CmV.enc at hy
      dsimp only at hy
      have e1 : ((k + 1 : Nat) : Int) - 1 = (k : Int) := by omega
      rw [e1]
      have hi1 : (0 : Int) ≤ (k : Int) := by omega
      have hi2 : (k : Int) < n := by omega
      gi_wp2
      refine hR.mono ?_
      rintro e W3 (⟨rfl, hJ3, hk3⟩ | ⟨rfl, hJx3⟩)
      · gi_wp2
        go_roundw
        case rel => exact ⟨k, pre ++ [⟨k, by omega⟩], by omega, rfl, by simp; omega, fun i hi => by
          rcases Nat.eq_or_lt_of_le hi with h | h
          · exact List.mem_append.2 (.inr (by simp; exact Fin.ext h.symm))
          · exact List.mem_append.2 (.inl (HA.out i h)), hJ3, HN.out.trans hk3⟩
        case measure => simp [intOf]
      · gi_wp2
        refine bodyPost_ret (results_none rfl _ _ _) rfl ?_
        exact ⟨⟨_, rfl⟩, .inr ⟨_, ⟨pre, ⟨k, by omega⟩, rfl, fun i hi => HA.out i hi⟩, hJx3⟩⟩

set_option maxHeartbeats 1000000 in
theorem back_in (F : Fence) (N : Nat) (hf : F.fn 39) (hro : F.round = none) (a : Option Addr) (n c : Nat) (w : World) :
    CallsIn F N Try.prog 39 #[.slice a n c] w fun e w' => e = .returned (.func (.func 44) #[] #[.pointer (some ⟨w.heap.size, 0, none⟩)]) ∧ w' = w.alloc (.cells #[.slice a n c] 29) := by
  refine callsIn_of_wp Try.func39 rfl hf ?_ hro
  simp only [Try.ntmps39, List.size_toArray, List.length_cons, List.length_nil, Nat.reduceAdd, Nat.reduceSub, Array.replicate_succ, Array.replicate_zero, List.push_toArray, List.append_toArray, List.nil_append, List.cons_append]
  gi_wp2
  go_ret
  exact ⟨rfl, rfl⟩

/-- the cells of a store's slice, by number -/
def CmAt (n₀ : Nat) (W : World) (A : Option Addr) (n : Nat) (g : Nat → CmV) : Prop :=
  0 < n → ∃ b o, A = some ⟨b, o, none⟩ ∧ b < n₀ ∧ ∀ j, j < n → W.cell? ⟨b, o + j * 2, none⟩ = some (.int .u64 (g j).stamp) ∧ W.cell? ⟨b, o + j * 2 + 1, none⟩ = some (.slice (g j).a (g j).n (g j).c)
theorem CmAt.below {n₀ : Nat} {W W' : World} {A : Option Addr} {n : Nat} {g : Nat → CmV} (h : CmAt n₀ W A n g) (hb : Below n₀ W W') : CmAt n₀ W' A n g := fun h0 => by
  obtain ⟨b, o, e, hlt, hc⟩ := h h0
  exact ⟨b, o, e, hlt, fun j hj => ⟨(hb.cell (p := ⟨b, o + j * 2, none⟩) hlt).trans (hc j hj).1, (hb.cell (p := ⟨b, o + j * 2 + 1, none⟩) hlt).trans (hc j hj).2⟩⟩
theorem back_stops (F : Fence) (N : Nat) (hf : F.fn 44) (hro : F.round = none) (hn : 1 ≤ N) (Bs n₀ : Nat) (A : Option Addr) (n c : Nat) (g : Nat → CmV) (hc : n ≤ 9223372036854775807) (w : World) (hBs : Bs < w.heap.size) (hn₀ : n₀ ≤ w.heap.size) (hBn : Bs < n₀)
    (hcell : w.cell? ⟨Bs, 0, none⟩ = some (.slice A n c)) (hI : CmAt n₀ w A n g) :
    SeqStopsK F N Try.prog 44 #[.pointer (some ⟨Bs, 0, none⟩)] (CmV.enc (n := n) g) (Below n₀) AllCame DownTo n w := fun l J Jx W hW _ _ hY h0 =>
  back1_in F N hf hro hn l Bs n₀ A n c g hc J Jx hY W hBn ((hW.cell (p := ⟨Bs, 0, none⟩) hBs).trans hcell) (hI.below (hW.mono hn₀)) h0
end Go.Proofs.Ytincjomgcceldaa
