/- What came in, read: slices of bytes. -/
import Derived.Test.YteaaeeidbjklbaaOpen
import Derived.Test.YteaaeeidbjklbaaInts
namespace Go.Proofs.Yteaaeeidbjklbaa
open Go.RowKit Go.ChangeShapes Go.WideShapes Go.Deep

section
variable {H : Type} {enc : TypeId × Value → H} {W : World}
theorem flat_one {α : Type} (l : List Nat) (f : Nat → α) : l.flatMap (fun i => [f i]) = l.map f := by
  induction l with
  | nil => rfl
  | cons x l ih => rw [List.flatMap_cons, ih]; rfl
theorem open_slI {T E : TypeId} {q : IntKind} (hT : Try.prog.underlying T = some (.slice E)) (hE : Try.prog.underlying E = some (.int q)) (hc : Try.prog.cellsOf E = 1) {a : Option Addr} {len cap : Nat} {d : DataW H} {p : List MemPlace} (h : DataW.Trod enc Try.prog W 0 (fun _ => true) true T (.slice a len cap) d p) : ∃ xs : List Int, SlI W q a len cap xs ∧ ∀ x ∈ xs, (Lit.int q x).wf = true := by
  obtain ⟨fuel, hf⟩ := h
  rcases open_slice hT hf with ⟨hcs', _⟩ | ⟨x, l, c, m, n, D, Pl, hcs', _, hl, hm, hmm, _, hi⟩
  · simp [Value.cells] at hcs'
    obtain ⟨rfl, rfl, rfl⟩ := hcs'
    exact ⟨[], Sl.nil_ W 1, fun s hs => by simp at hs⟩
  · simp [Value.cells] at hcs'
    obtain ⟨rfl, rfl, rfl⟩ := hcs'
    have hmm : m = cap := by simpa using hmm
    subst hmm
    have key : ∀ i, i < len → ∃ s : Int, (∀ j, j < 1 → W.cell? ((x.add (i * 1)).add j) = [Value.int q s][j]?) ∧ (Lit.int q s).wf = true := by
      intro i hi'
      obtain ⟨cs, hcell, ht⟩ := hi i (by omega)
      rw [hc] at hcell
      obtain ⟨_, hcl, hat⟩ := World.cells?_some hcell
      obtain ⟨s, e0, _, hwf⟩ := DataW.trod_int hE ht
      subst e0
      exact ⟨s, hat, hwf⟩
    have hne : Inhabited Int := ⟨0⟩
    obtain ⟨f, hf'⟩ := choose_lt key
    refine ⟨(List.range len).map f, ?_, fun s hs => ?_⟩
    · have := sl_of (w := W) (sz := 1) (by omega) hl hm (fun i => [Value.int q (f i)]) (fun i _ => rfl) (fun i hi => (hf' i hi).1)
      show Sl W 1 (some x) len m (((List.range len).map f).map (Value.int q))
      rw [List.map_map]
      rw [flat_one] at this
      exact this
    · obtain ⟨i, hi, rfl⟩ := List.mem_map.1 hs
      exact (hf' i (by simpa using hi)).2
theorem openB {a : Option Addr} {len cap : Nat} {d : DataW H} {p : List MemPlace} (h : DataW.Trod enc Try.prog W 0 (fun _ => true) true 76 (.slice a len cap) d p) : ∃ xs : List Int, SlI W .u8 a len cap xs ∧ ∀ x ∈ xs, (Lit.int .u8 x).wf = true :=
  open_slI Try.underlying76 Try.underlying5 (by kernel_rfl) h
end
end Go.Proofs.Yteaaeeidbjklbaa
