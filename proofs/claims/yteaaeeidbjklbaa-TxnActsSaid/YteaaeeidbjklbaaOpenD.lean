/- What came in, read: slices of acts. -/
import Derived.Test.YteaaeeidbjklbaaOpenB
import Derived.Test.YteaaeeidbjklbaaTxW
namespace Go.Proofs.Yteaaeeidbjklbaa
open Go.RowKit Go.ChangeShapes Go.WideShapes Go.Deep

section
variable {H : Type} {enc : TypeId × Value → H} {W : World}
theorem openA {a : Option Addr} {len cap : Nat} {d : DataW H} {p : List MemPlace} (h : DataW.Trod enc Try.prog W 0 (fun _ => true) true 22 (.slice a len cap) d p) : ∃ xs : List A17, SlA17 W a len cap xs ∧ ∀ x ∈ xs, (Lit.int .u8 x.kind).wf = true ∧ (Lit.int .u64 x.at_).wf = true := by
  obtain ⟨fuel, hf⟩ := h
  rcases open_slice Try.underlying22 hf with ⟨hcs', _⟩ | ⟨x, l, c, m, n, D, Pl, hcs', _, hl, hm, hmm, _, hi⟩
  · simp [Value.cells] at hcs'
    obtain ⟨rfl, rfl, rfl⟩ := hcs'
    exact ⟨[], Sl.nil_ W 6, fun s hs => by simp at hs⟩
  · simp [Value.cells] at hcs'
    obtain ⟨rfl, rfl, rfl⟩ := hcs'
    have hmm : m = cap := by simpa using hmm
    subst hmm
    have hc : Try.prog.cellsOf 40 = 6 := by kernel_rfl
    have hc0 : Try.prog.cellsOf 5 = 1 := by kernel_rfl
    have hc1 : Try.prog.cellsOf 3 = 1 := by kernel_rfl
    have hc2 : Try.prog.cellsOf 23 = 1 := by kernel_rfl
    have hc3 : Try.prog.cellsOf 38 = 3 := by kernel_rfl
    have hc4 : Try.prog.cellsOf 9 = 1 := by kernel_rfl
    have hc5 : Try.prog.cellsOf 4 = 1 := by kernel_rfl
    have key : ∀ i, i < len → ∃ x2 : A17, (∀ j, j < 6 → W.cell? ((x.add (i * 6)).add j) = x2.cells[j]?) ∧ ((Lit.int .u8 x2.kind).wf = true ∧ (Lit.int .u64 x2.at_).wf = true) := by
      intro i hi'
      obtain ⟨cs, hcell, ht⟩ := hi i (by omega)
      rw [hc] at hcell
      obtain ⟨_, hcl, hat⟩ := World.cells?_some hcell
      obtain ⟨y0, y1, y2, y3, n', _, _, t0, t1, t2, t3⟩ := Joins.trod_struct4 Try.underlying40 ht
      dsimp only at t0 t1 t2 t3
      rw [hc0] at t0
      rw [hc1] at t1
      rw [hc2] at t2
      rw [hc3] at t3
      obtain ⟨z0, z1, z2, n2, _, _, u0, u1, u2⟩ := trod_struct3 Try.underlying38 t3
      dsimp only at u0 u1 u2
      rw [hc4] at u0 u1
      rw [hc5] at u2
      obtain ⟨s0, e0, _, hw0⟩ := DataW.trod_int Try.underlying5 t0
      obtain ⟨s1, e1, _⟩ := DataW.trod_int Try.underlying3 t1
      obtain ⟨s2, e2, _, hw2⟩ := DataW.trod_int Try.underlying23 t2
      obtain ⟨s3, e3, _⟩ := DataW.trod_string Try.underlying9 u0
      obtain ⟨s4, e4, _⟩ := DataW.trod_string Try.underlying9 u1
      obtain ⟨s5, e5, _⟩ := DataW.trod_bool Try.underlying4 u2
      match cs, hcl with
      | [c0, c1, c2, c3, c4, c5], _ =>
        simp at e0 e1 e2 e3 e4 e5
        subst e0; subst e1; subst e2; subst e3; subst e4; subst e5
        exact ⟨⟨s0, s1, s2, ⟨s3, s4, s5⟩⟩, fun j hj => by rw [hat j hj]; rfl, hw0, hw2⟩
    have hne : Inhabited A17 := ⟨⟨0, 0, 0, ⟨⟨#[]⟩, ⟨#[]⟩, false⟩⟩⟩
    obtain ⟨f, hf'⟩ := choose_lt key
    refine ⟨(List.range len).map f, ?_, fun s hs => ?_⟩
    · have := sl_of (w := W) (sz := 6) (by omega) hl hm (fun i => (f i).cells) (fun i _ => rfl) (fun i hi => (hf' i hi).1)
      show Sl W 6 (some x) len m (((List.range len).map f).flatMap A17.cells)
      rw [List.flatMap_map]; exact this
    · obtain ⟨i, hi, rfl⟩ := List.mem_map.1 hs
      exact (hf' i (by simpa using hi)).2
end
end Go.Proofs.Yteaaeeidbjklbaa
