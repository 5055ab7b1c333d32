/- The contract of Put as the laws take it; the answers that the document fixes for layer 15. -/
import Derived.Test.YtmoihamobojkfaaSum
import Derived.Test.YtmoihamobojkfaaPut
import Derived.Test.YtmoihamobojkfaaPairs
namespace Go.Proofs.Ytmoihamobojkfaa
open Go.RowKit

theorem put_sl {A : Option Addr} {n c : Nat} {xs : List W3} {w : World} (h : SlW w A n c xs) (x : W3) (hr : Rise W3.key xs) (hn : n ≤ 65536) :
    Calls Try.prog 19 #[.slice A n c, .agg #[.string x.key, .string x.text, .bool x.gone]] w fun e w' =>
      ∃ A' n' c', e = .returned (.tuple #[.slice A' n' c', .int .i64 (putW xs x).2]) ∧ SlW w' A' n' c' (putW xs x).1 ∧ Below w.heap.size w w' :=
  (put_any h x hr hn).mono fun _ _ ⟨_, he, ho, hb⟩ => by
    obtain ⟨A', c', rfl, hs⟩ := Sl.of_own ho
    exact ⟨A', _, c', he, hs, hb⟩
/-! ### the answers that the document fixes -/
def kA : ByteArray := ⟨#[97]⟩
def kB : ByteArray := ⟨#[98]⟩
def kC : ByteArray := ⟨#[99]⟩
def t1 : ByteArray := ⟨#[49]⟩
def t2 : ByteArray := ⟨#[50]⟩
def t3 : ByteArray := ⟨#[51]⟩
def tX : ByteArray := ⟨#[120]⟩
def nil0 : ByteArray := ⟨#[]⟩
def wC : W3 := ⟨kC, t3, false⟩
def wA : W3 := ⟨kA, nil0, true⟩
theorem klt_lit (a b : ByteArray) (v : Bool) (h : Op.bytesLess a.data.toList b.data.toList = v) : klt a b = v := by
  unfold klt; rw [Lib.toList_data, Lib.toList_data]; exact h
theorem ac : klt kA kC = true := klt_lit _ _ _ rfl
theorem ca : klt kC kA = false := klt_lit _ _ _ rfl
theorem ba : klt kB kA = false := klt_lit _ _ _ rfl
theorem bc : klt kB kC = true := klt_lit _ _ _ rfl
theorem aa : klt kA kA = false := klt_irrefl _
theorem ne_ac : kA ≠ kC := klt_ne ac
theorem ne_bc : kB ≠ kC := klt_ne bc
theorem ab : klt kA kB = true := klt_lit _ _ _ rfl
theorem ne_ab : kA ≠ kB := klt_ne ab
theorem right_C : rightB wC = true := by unfold rightB; rfl
theorem nil0_empty : nil0.toList.isEmpty = true := by rw [Lib.toList_data]; rfl
theorem tX_not : tX.toList.isEmpty = false := by rw [Lib.toList_data]; rfl
theorem right_A : rightB wA = true := by
  have : wA.text.toList.isEmpty = true := nil0_empty
  unfold rightB; rw [this]; rfl
theorem right_X : rightB ⟨kA, tX, true⟩ = false := by
  have : (W3.mk kA tX true).text.toList.isEmpty = false := tX_not
  unfold rightB; rw [this]; rfl
theorem put1 : putW [] wC = ([wC], 0) := by
  unfold putW; rw [if_neg (by rw [right_C]; simp), if_neg (by simp [look_nil]), if_neg (by simp)]; rfl
theorem rise1 : Rise W3.key [wC] := rise_cons.2 ⟨by simp, rise_nil⟩
theorem put2 : putW [wC] wA = ([wA, wC], 0) := by
  unfold putW
  have hl : look W3.key wA.key [wC] = none := by rw [look_cons, if_neg (show ¬ wC.key = wA.key from ne_ac.symm)]; rfl
  rw [if_neg (by rw [right_A]; simp), if_neg (by rw [hl]; simp), if_neg (by simp)]
  unfold ins
  rw [if_neg (show ¬ klt wC.key wA.key = true by rw [show klt wC.key wA.key = false from ca]; simp), if_neg (show ¬ wC.key = wA.key from ne_ac.symm)]
theorem rise2 : Rise W3.key [wA, wC] := rise_cons.2 ⟨by intro y hy; simp at hy; subst hy; exact ac, rise1⟩
theorem lookC : look W3.key kC [wA, wC] = some wC := by
  rw [look_cons, if_neg (show ¬ wA.key = kC from ne_ac), look_cons, if_pos (show wC.key = kC from rfl)]
theorem put3 : putW [wA, wC] ⟨kA, tX, true⟩ = ([wA, wC], 2) := by
  unfold putW; rw [if_pos right_X]
theorem over1 : ov [⟨kA, t1⟩, ⟨kB, t2⟩] [wA, wC] = [⟨kB, t2⟩, ⟨kC, t3⟩] := by
  rw [ov_eq _ _ _ _ (show (P2.mk kA t1).key = wA.key from rfl), emit, if_pos (show wA.gone = true from rfl), ov_lt _ _ _ _ (show klt (P2.mk kB t2).key wC.key = true from bc), ov_none, emit, if_neg (show ¬ wC.gone = true by simp [wC]), ov_nil]; rfl
theorem meet1 : meetB [wA, wC] [wA, wC] = true := by
  refine meet_yes (k := 0) (x := wA) rfl ?_
  rw [look_cons, if_pos rfl]; rfl
theorem meet2 (s : List W3) : meetB s [] = false := by
  unfold meetB; rw [List.any_eq_false]; intro x _; simp [look_nil]
end Go.Proofs.Ytmoihamobojkfaa
