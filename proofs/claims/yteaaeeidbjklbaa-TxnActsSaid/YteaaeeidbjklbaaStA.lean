/- The watch in memory: its cells, and what a call may turn of them. -/
import Derived.Test.YteaaeeidbjklbaaMem
import Derived.WalkSpells
import Derived.Outline
import Derived.Handy
import Derived.Maps.AppendAt
import Derived.Lib.Hide
import Derived.Deep.QuietTactic
import Derived.BigQuiet
import Derived.Deep.AppendLies
import Derived.OwnWalk
import Derived.BigRegion
namespace Go.Proofs.Yteaaeeidbjklbaa
open Go.RowKit

theorem below_drewN {w0 w : World} {B : Nat} (h : Below B w0 w) (n : Nat) : Below B w0 (w.drewN n) := ⟨h.os, h.tape, h.output, h.size, h.block⟩

/-- another value at one place -/
def upd {α : Type} (f : Nat → α) (i : Nat) (v : α) : Nat → α := fun j => if j = i then v else f j
theorem upd_same {α : Type} (f : Nat → α) (i : Nat) (v : α) : upd f i v i = v := if_pos rfl
theorem upd_other {α : Type} {f : Nat → α} {i j : Nat} {v : α} (h : j ≠ i) : upd f i v j = f j := if_neg h
/-- two values change places -/
def swp {α : Type} (f : Nat → α) (i j : Nat) : Nat → α := upd (upd f i (f j)) j (f i)

/-- the pile's cells -/
structure Pile (w : World) (b : Nat) (l : Nat → Int × Int) (many : Nat) : Prop where
  lt : b < w.heap.size
  a : ∀ i, i < 16 → w.cell? ⟨b, 16 + i * 2, none⟩ = some (.int .u64 (l i).1)
  d : ∀ i, i < 16 → w.cell? ⟨b, 16 + i * 2 + 1, none⟩ = some (.int .i64 (l i).2)
  m : w.cell? ⟨b, 48, none⟩ = some (.int .i64 many)
  fr : ∀ j, w.frozen? ⟨b, j, none⟩ = false

/-- from w to w' nothing has turned but cells lo .. hi of block b -/
structure Turn (b lo hi : Nat) (w w' : World) : Prop where
  g : w.grownBy w' (some b)
  c : ∀ j, (j < lo ∨ hi ≤ j) → w'.cell? ⟨b, j, none⟩ = w.cell? ⟨b, j, none⟩
  f : ∀ j, w'.frozen? ⟨b, j, none⟩ = w.frozen? ⟨b, j, none⟩

theorem Turn.refl (b lo hi : Nat) (w : World) : Turn b lo hi w w := ⟨.refl _ _, fun _ _ => rfl, fun _ => rfl⟩
theorem Turn.trans {b lo hi : Nat} {w w1 w2 : World} (h : Turn b lo hi w w1) (k : Turn b lo hi w1 w2) : Turn b lo hi w w2 :=
  ⟨h.g.trans k.g, fun j hj => (k.c j hj).trans (h.c j hj), fun j => (k.f j).trans (h.f j)⟩
theorem Turn.wide {b lo hi lo' hi' : Nat} {w w1 : World} (h : Turn b lo hi w w1) (hl : lo' ≤ lo) (hh : hi ≤ hi') : Turn b lo' hi' w w1 :=
  ⟨h.g, fun j hj => h.c j (by omega), h.f⟩
theorem Turn.drew {b lo hi : Nat} {w w1 : World} (h : Turn b lo hi w w1) : Turn b lo hi w w1.drew := ⟨⟨h.g.os, h.g.tape, h.g.output, h.g.size, h.g.block⟩, h.c, h.f⟩
theorem Turn.drewN {b lo hi : Nat} {w w1 : World} (h : Turn b lo hi w w1) (n : Nat) : Turn b lo hi w (w1.drewN n) := ⟨⟨h.g.os, h.g.tape, h.g.output, h.g.size, h.g.block⟩, h.c, h.f⟩
theorem Turn.set {b lo hi : Nat} {w w1 : World} (h : Turn b lo hi w w1) {j : Nat} (h1 : lo ≤ j) (h2 : j < hi) (v : Value) : Turn b lo hi w (w1.setCell ⟨b, j, none⟩ v) := by
  refine h.trans ⟨⟨rfl, rfl, rfl, by simp [World.setCell], fun k _ hk => Below.heap_setCell _ _ _ k (fun e => hk (by rw [e]))⟩, fun i hi' => World.cell?_setCell_other _ _ _ _ (fun e => by injection e with _ e; omega), fun i => World.frozen?_setCell _ _ _ _⟩
theorem Turn.below {b lo hi : Nat} {w w1 : World} (h : Turn b lo hi w w1) {n : Nat} (hn : n ≤ b) (hb : b < w.heap.size) : Below n w w1 :=
  ⟨h.g.os, h.g.tape, h.g.output, h.g.size, fun k hk => h.g.block k (by omega) (fun e => by injection e with e; omega)⟩
theorem Turn.alloc {b lo hi : Nat} {w w1 : World} (h : Turn b lo hi w w1) (hb : b < w1.heap.size) (o : Obj) : Turn b lo hi w (w1.alloc o) :=
  h.trans ⟨World.grownBy_alloc w1 o _, fun _ _ => World.cell?_of_block (Below.heap_alloc w1 o b hb), fun _ => World.frozen?_of_block (Below.heap_alloc w1 o b hb)⟩
theorem Turn.of_below {b lo hi : Nat} {w w1 w2 : World} (h : Turn b lo hi w w1) (hb : b < w1.heap.size) (k : Below w1.heap.size w1 w2) : Turn b lo hi w w2 :=
  h.trans ⟨⟨k.os, k.tape, k.output, k.size, fun i hi _ => k.block i hi⟩, fun j _ => k.cell (p := ⟨b, j, none⟩) hb, fun j => k.frozen (p := ⟨b, j, none⟩) hb⟩

theorem Pile.below {w w1 : World} {b : Nat} {l : Nat → Int × Int} {many : Nat} (h : Pile w b l many) (k : Below w.heap.size w w1) : Pile w1 b l many :=
  ⟨Nat.lt_of_lt_of_le h.lt k.size, fun i hi => (k.cell (p := ⟨b, _, none⟩) h.lt).trans (h.a i hi), fun i hi => (k.cell (p := ⟨b, _, none⟩) h.lt).trans (h.d i hi), (k.cell (p := ⟨b, _, none⟩) h.lt).trans h.m, fun j => (k.frozen (p := ⟨b, _, none⟩) h.lt).trans (h.fr j)⟩
theorem Pile.drewN {w : World} {b : Nat} {l : Nat → Int × Int} {many : Nat} (h : Pile w b l many) (n : Nat) : Pile (w.drewN n) b l many := ⟨h.lt, h.a, h.d, h.m, h.fr⟩
theorem Pile.drew {w : World} {b : Nat} {l : Nat → Int × Int} {many : Nat} (h : Pile w b l many) : Pile w.drew b l many := ⟨h.lt, h.a, h.d, h.m, h.fr⟩
theorem setSize (w : World) (a : Addr) (v : Value) : (w.setCell a v).heap.size = w.heap.size := by unfold World.setCell; split <;> simp
theorem neA {b i j : Nat} (h : i ≠ j) : (⟨b, i, none⟩ : Addr) ≠ ⟨b, j, none⟩ := fun e => h (by injection e)
/-- a mark is written -/
theorem Pile.setMark {w : World} {b : Nat} {l : Nat → Int × Int} {many : Nat} (h : Pile w b l many) {i : Nat} (hi : i < 16) (x : Int × Int) :
    Pile ((w.setCell ⟨b, 16 + i * 2, none⟩ (.int .u64 x.1)).setCell ⟨b, 16 + i * 2 + 1, none⟩ (.int .i64 x.2)) b (upd l i x) many := by
  refine ⟨by rw [setSize, setSize]; exact h.lt, fun j hj => ?_, fun j hj => ?_, ?_, fun j => ?_⟩
  · rw [World.cell?_setCell_other _ _ _ _ (neA (by omega))]
    by_cases e : j = i
    · subst e; rw [upd_same]; exact World.cell?_setCell_same _ _ _ (h.a j hj)
    · rw [World.cell?_setCell_other _ _ _ _ (neA (by omega)), upd_other e]; exact h.a j hj
  · by_cases e : j = i
    · subst e; rw [upd_same]
      exact World.cell?_setCell_same _ _ _ ((World.cell?_setCell_other _ _ _ _ (neA (by omega))).trans (h.d j hj))
    · rw [World.cell?_setCell_other _ _ _ _ (neA (by omega)), World.cell?_setCell_other _ _ _ _ (neA (by omega)), upd_other e]; exact h.d j hj
  · rw [World.cell?_setCell_other _ _ _ _ (neA (by omega)), World.cell?_setCell_other _ _ _ _ (neA (by omega))]; exact h.m
  · rw [World.frozen?_setCell, World.frozen?_setCell]; exact h.fr j
theorem Pile.setMany {w : World} {b : Nat} {l : Nat → Int × Int} {many : Nat} (h : Pile w b l many) (n : Nat) : Pile (w.setCell ⟨b, 48, none⟩ (.int .i64 n)) b l n := by
  refine ⟨by rw [setSize]; exact h.lt, fun j hj => ?_, fun j hj => ?_, World.cell?_setCell_same _ _ _ h.m, fun j => ?_⟩
  · rw [World.cell?_setCell_other _ _ _ _ (neA (by omega))]; exact h.a j hj
  · rw [World.cell?_setCell_other _ _ _ _ (neA (by omega))]; exact h.d j hj
  · rw [World.frozen?_setCell]; exact h.fr j

theorem plen_any {w : World} {b : Nat} {l : Nat → Int × Int} {many : Nat} (h : Pile w b l many) :
    Calls Try.prog 81 #[.pointer (some ⟨b, 16, none⟩)] w fun e w' => e = .returned (.int .i64 many) ∧ Below w.heap.size w w' := by
  have c := h.m
  have hlt := h.lt
  go_enter Try.func81, Try.ntmps81
  go_wp2
  go_ret
  exact ⟨rfl, Below.refl _ _⟩
theorem pless_any {w : World} {b : Nat} {l : Nat → Int × Int} {many : Nat} (h : Pile w b l many) {i j : Nat} (hi : i < 16) (hj : j < 16) :
    Calls Try.prog 82 #[.pointer (some ⟨b, 16, none⟩), .int .i64 i, .int .i64 j] w fun e w' => e = .returned (.bool (decide ((l i).1 < (l j).1))) ∧ Below w.heap.size w w' := by
  have c0 := h.a i hi
  have c1 := h.a j hj
  have hlt := h.lt
  have i1 : (0 : Int) ≤ (i : Int) := by omega
  have i2 : (i : Int) < 16 := by omega
  have j1 : (0 : Int) ≤ (j : Int) := by omega
  have j2 : (j : Int) < 16 := by omega
  go_enter Try.func82, Try.ntmps82
  go_wp2
  go_quiet (fail)
  go_wp2
  go_ret
  exact ⟨rfl, below_drewN (Below.refl _ _) _⟩
set_option maxHeartbeats 1000000 in
theorem pswap_any {w : World} {b : Nat} {l : Nat → Int × Int} {many : Nat} (h : Pile w b l many) {i j : Nat} (hi : i < 16) (hj : j < 16) :
    Calls Try.prog 85 #[.pointer (some ⟨b, 16, none⟩), .int .i64 i, .int .i64 j] w fun e w' => e = .returned (.tuple #[]) ∧ Pile w' b (swp l i j) many ∧ Turn b 16 49 w w' := by
  have c0 := h.a i hi
  have c1 := h.a j hj
  have d0 := h.d i hi
  have d1 := h.d j hj
  have hlt := h.lt
  have f0 := h.fr (16 + i * 2)
  have f1 := h.fr (16 + i * 2 + 1)
  have f2 := h.fr (16 + j * 2)
  have f3 := h.fr (16 + j * 2 + 1)
  obtain ⟨v0, e0⟩ : ∃ v, (w.setCell ⟨b, 16 + i * 2, none⟩ (.int .u64 (l j).1)).cell? ⟨b, 16 + j * 2, none⟩ = some v := by
    by_cases e : i = j
    · subst e; exact ⟨_, World.cell?_setCell_same _ _ _ c0⟩
    · exact ⟨_, (World.cell?_setCell_other _ _ _ _ (neA (by omega))).trans c1⟩
  obtain ⟨v1, e1⟩ : ∃ v, ((w.setCell ⟨b, 16 + i * 2, none⟩ (.int .u64 (l j).1)).setCell ⟨b, 16 + i * 2 + 1, none⟩ (.int .i64 (l j).2)).cell? ⟨b, 16 + j * 2 + 1, none⟩ = some v := ⟨_, (h.setMark hi (l j)).d j hj⟩
  have H := Lib.hid h
  clear h
  have i1 : (0 : Int) ≤ (i : Int) := by omega
  have i2 : (i : Int) < 16 := by omega
  have j1 : (0 : Int) ≤ (j : Int) := by omega
  have j2 : (j : Int) < 16 := by omega
  go_enter Try.func85, Try.ntmps85
  go_wp2
  go_region
  go_wp2
  go_returns
  exact ⟨rfl, ((H.out.setMark hi (l j)).setMark hj (l i)).drew, (((((Turn.refl b 16 49 w).set (by omega) (by omega) _).set (by omega) (by omega) _).set (by omega) (by omega) _).set (by omega) (by omega) _).drew⟩

theorem ppop_any {w : World} {b : Nat} {l : Nat → Int × Int} {n : Nat} (h : Pile w b l (n + 1)) (hn : n < 16) :
    Calls Try.prog 83 #[.pointer (some ⟨b, 16, none⟩)] w fun e w' => (∃ v, e = .returned v) ∧ Pile w' b l n ∧ Turn b 16 49 w w' := by
  have c0 := h.m
  have c1 := (h.setMany n).m
  have c2 := (h.setMany n).a n hn
  have c3 := (h.setMany n).d n hn
  have f0 := h.fr 48
  have hlt := h.lt
  have H := Lib.hid h
  clear h
  go_enter Try.func83, Try.ntmps83
  go_wp2
  go_quiet (fail)
  go_wp2
  go_ret
  exact ⟨⟨_, rfl⟩, (H.out.setMany n).drewN _, ((Turn.refl b 16 49 w).set (by omega) (by omega) _).drewN _⟩
theorem assert_mark (a d : Int) (w : World) : (Instr.typeAssert (.iface 85 (.agg #[.int .u64 a, .int .i64 d])) 20 85 true).run Try.prog w = .ok (.tuple #[.agg #[.int .u64 a, .int .i64 d], .bool true]) w := by kernel_rfl
theorem ppush_any {w : World} {b : Nat} {l : Nat → Int × Int} {n : Nat} (h : Pile w b l n) (hn : n < 16) (x : Int × Int) :
    Calls Try.prog 84 #[.pointer (some ⟨b, 16, none⟩), .iface 85 (.agg #[.int .u64 x.1, .int .i64 x.2])] w fun e w' => e = .returned (.tuple #[]) ∧ Pile w' b (upd l n x) (n + 1) ∧ Turn b 16 49 w w' := by
  have hta := assert_mark
  have c0 := h.m
  have c1 := h.a n hn
  have c2 := h.d n hn
  have f0 := h.fr (16 + n * 2)
  have f1 := h.fr (16 + n * 2 + 1)
  have f2 := h.fr 48
  have c4 := (h.setMark hn x).m
  have hlt := h.lt
  have hI : (n : Int) < 16 := by omega
  have H := Lib.hid h
  clear h
  go_enter Try.func84, Try.ntmps84
  go_wp2
  go_region
  go_wp2
  go_returns
  exact ⟨rfl, (((H.out.setMark hn x).setMany (n + 1)).below ((Below.refl _ _).alloc (Nat.le_refl _) _)).drew, ((((Turn.refl b 16 49 w).set (by omega) (by omega) _).set (by omega) (by omega) _).set (by omega) (by omega) _).alloc (by rw [setSize, setSize, setSize]; exact hlt) _ |>.drew⟩
end Go.Proofs.Yteaaeeidbjklbaa
