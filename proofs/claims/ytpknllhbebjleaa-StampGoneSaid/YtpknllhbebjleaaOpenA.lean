/- What came in, read: slices of numbers, of bytes, of acts. -/
import Derived.Test.YtpknllhbebjleaaOpenX
import Derived.Test.YtpknllhbebjleaaInts
namespace Go.Proofs.Ytpknllhbebjleaa
open Go.RowKit Go.ChangeShapes Go.WideShapes Go.Deep

section
variable {H : Type} {enc : TypeId × Value → H} {W : World}
theorem flat_one {α : Type} (l : List Nat) (f : Nat → α) : l.flatMap (fun i => [f i]) = l.map f := by
  induction l with
  | nil => rfl
  | cons x l ih => rw [List.flatMap_cons, ih]; rfl
theorem open_slI {T E : TypeId} {q : IntKind} (hT : Try.prog.underlying T = some (.slice E)) (hE : Try.prog.underlying E = some (.int q)) (hc : Try.prog.cellsOf E = 1) {a : Option Addr} {len cap : Nat} {d : DataW H} {p : List MemPlace} (h : DataW.Trod enc Try.prog W 0 (fun _ => true) true T (.slice a len cap) d p) : ∃ xs : List Int, SlI W q a len cap xs ∧ ∀ x ∈ xs, (Lit.int q x).wf = true := by
  obtain ⟨fuel, hf⟩ := h
  rcases open_slice hT hf with ⟨hcs', _⟩ | ⟨x, l, c, m, n, D, Pl, hcs', _, hl, hm, hmm, _, hi⟩
  · simp [Value.cells] at hcs'
    obtain ⟨rfl, rfl, rfl⟩ := hcs'
    exact ⟨[], Sl.nil_ W 1, fun s hs => by simp at hs⟩
  · simp [Value.cells] at hcs'
    obtain ⟨rfl, rfl, rfl⟩ := hcs'
    have hmm : m = cap := by simpa using hmm
    subst hmm
    have key : ∀ i, i < len → ∃ s : Int, (∀ j, j < 1 → W.cell? ((x.add (i * 1)).add j) = [Value.int q s][j]?) ∧ (Lit.int q s).wf = true := by
      intro i hi'
      obtain ⟨cs, hcell, ht⟩ := hi i (by omega)
      rw [hc] at hcell
      obtain ⟨_, hcl, hat⟩ := World.cells?_some hcell
      obtain ⟨s, e0, _, hwf⟩ := DataW.trod_int hE ht
      subst e0
      exact ⟨s, hat, hwf⟩
    have hne : Inhabited Int := ⟨0⟩
    obtain ⟨f, hf'⟩ := choose_lt key
    refine ⟨(List.range len).map f, ?_, fun s hs => ?_⟩
    · have := sl_of (w := W) (sz := 1) (by omega) hl hm (fun i => [Value.int q (f i)]) (fun i _ => rfl) (fun i hi => (hf' i hi).1)
      show Sl W 1 (some x) len m (((List.range len).map f).map (Value.int q))
      rw [List.map_map]
      rw [flat_one] at this
      exact this
    · obtain ⟨i, hi, rfl⟩ := List.mem_map.1 hs
      exact (hf' i (by simpa using hi)).2
theorem openU {a : Option Addr} {len cap : Nat} {d : DataW H} {p : List MemPlace} (h : DataW.Trod enc Try.prog W 0 (fun _ => true) true 53 (.slice a len cap) d p) : ∃ xs : List Int, SlI W .u64 a len cap xs ∧ ∀ x ∈ xs, (Lit.int .u64 x).wf = true :=
  open_slI Try.underlying53 Try.underlying23 (by kernel_rfl) h
theorem openB {a : Option Addr} {len cap : Nat} {d : DataW H} {p : List MemPlace} (h : DataW.Trod enc Try.prog W 0 (fun _ => true) true 57 (.slice a len cap) d p) : ∃ xs : List Int, SlI W .u8 a len cap xs ∧ ∀ x ∈ xs, (Lit.int .u8 x).wf = true :=
  open_slI Try.underlying57 Try.underlying5 (by kernel_rfl) h
theorem openA {a : Option Addr} {len cap : Nat} {d : DataW H} {p : List MemPlace} (h : DataW.Trod enc Try.prog W 0 (fun _ => true) true 22 (.slice a len cap) d p) : ∃ xs : List A14, SlA W a len cap xs ∧ ∀ x ∈ xs, (Lit.int .u8 x.kind).wf = true := by
  obtain ⟨fuel, hf⟩ := h
  rcases open_slice Try.underlying22 hf with ⟨hcs', _⟩ | ⟨x, l, c, m, n, D, Pl, hcs', _, hl, hm, hmm, _, hi⟩
  · simp [Value.cells] at hcs'
    obtain ⟨rfl, rfl, rfl⟩ := hcs'
    exact ⟨[], Sl.nil_ W 3, fun s hs => by simp at hs⟩
  · simp [Value.cells] at hcs'
    obtain ⟨rfl, rfl, rfl⟩ := hcs'
    have hmm : m = cap := by simpa using hmm
    subst hmm
    have hc : Try.prog.cellsOf 37 = 3 := by kernel_rfl
    have hc0 : Try.prog.cellsOf 5 = 1 := by kernel_rfl
    have hc1 : Try.prog.cellsOf 23 = 1 := by kernel_rfl
    have hc2 : Try.prog.cellsOf 3 = 1 := by kernel_rfl
    have key : ∀ i, i < len → ∃ x2 : A14, (∀ j, j < 3 → W.cell? ((x.add (i * 3)).add j) = x2.cells[j]?) ∧ (Lit.int .u8 x2.kind).wf = true := by
      intro i hi'
      obtain ⟨cs, hcell, ht⟩ := hi i (by omega)
      rw [hc] at hcell
      obtain ⟨_, hcl, hat⟩ := World.cells?_some hcell
      obtain ⟨y0, y1, y2, n', _, _, t0, t1, t2⟩ := trod_struct3 Try.underlying37 ht
      dsimp only at t0 t1 t2
      rw [hc0] at t0
      rw [hc1] at t1
      rw [hc2] at t2
      obtain ⟨s, e0, _, hwf⟩ := DataW.trod_int Try.underlying5 t0
      obtain ⟨t, e1, _⟩ := DataW.trod_int Try.underlying23 t1
      obtain ⟨g, e2, _⟩ := DataW.trod_int Try.underlying3 t2
      match cs, hcl with
      | [c0, c1, c2], _ =>
        simp at e0 e1 e2
        subst e0; subst e1; subst e2
        exact ⟨⟨s, t, g⟩, fun j hj => by rw [hat j hj]; rfl, hwf⟩
    have hne : Inhabited A14 := ⟨⟨0, 0, 0⟩⟩
    obtain ⟨f, hf'⟩ := choose_lt key
    refine ⟨(List.range len).map f, ?_, fun s hs => ?_⟩
    · have := sl_of (w := W) (sz := 3) (by omega) hl hm (fun i => (f i).cells) (fun i _ => rfl) (fun i hi => (hf' i hi).1)
      show Sl W 3 (some x) len m (((List.range len).map f).flatMap A14.cells)
      rw [List.flatMap_map]; exact this
    · obtain ⟨i, hi, rfl⟩ := List.mem_map.1 hs
      exact (hf' i (by simpa using hi)).2
end
end Go.Proofs.Ytpknllhbebjleaa
