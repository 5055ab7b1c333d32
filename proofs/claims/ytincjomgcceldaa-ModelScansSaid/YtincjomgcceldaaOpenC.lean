/- What came in, read: slices of commits, of strings. -/
import Derived.Test.YtincjomgcceldaaOpen
import Derived.Test.YtincjomgcceldaaStoreM
namespace Go.Proofs.Ytincjomgcceldaa
open Go.RowKit Go.ChangeShapes Go.WideShapes Go.Deep

theorem okStamp_of {n : Int} (h : (Lit.int .u64 n).wf = true) : okStamp n := by
  simp [Lit.wf] at h
  have e1 : IntKind.u64.min = 0 := rfl
  have e2 : IntKind.u64.max = 18446744073709551615 := rfl
  rw [e1, e2] at h
  exact h
section
variable {H : Type} {enc : TypeId × Value → H} {W : World}
theorem openC {a : Option Addr} {len cap : Nat} {d : DataW H} {p : List MemPlace} (h : DataW.Trod enc Try.prog W 0 (fun _ => true) true 22 (.slice a len cap) d p) : ∃ xs : List Cm, SlC W a len cap xs := by
  obtain ⟨fuel, hf⟩ := h
  rcases open_slice Try.underlying22 hf with ⟨hcs', _⟩ | ⟨x, l, c, m, n, D, Pl, hcs', _, hl, hm, hmm, _, hi⟩
  · simp [Value.cells] at hcs'
    obtain ⟨rfl, rfl, rfl⟩ := hcs'
    exact ⟨[], SlC.nil_ W⟩
  · simp [Value.cells] at hcs'
    obtain ⟨rfl, rfl, rfl⟩ := hcs'
    have hmm : m = cap := by simpa using hmm
    subst hmm
    have hc : Try.prog.cellsOf 62 = 2 := by kernel_rfl
    have hcu : Try.prog.cellsOf 24 = 1 := by kernel_rfl
    have hcs : Try.prog.cellsOf 23 = 1 := by kernel_rfl
    have key : ∀ i, i < len → ∃ x2 : CmV × Cm, (∀ j, j < 2 → W.cell? ((x.add (i * 2)).add j) = x2.1.cells[j]?) ∧ x2.1.stamp = x2.2.stamp ∧ okStamp x2.2.stamp ∧ SlW W x2.1.a x2.1.n x2.1.c x2.2.set := by
      intro i hi'
      obtain ⟨cs, hcell, ht⟩ := hi i (by omega)
      rw [hc] at hcell
      obtain ⟨_, hcl, hat⟩ := World.cells?_some hcell
      obtain ⟨y0, y1, n', _, _, t0, t1⟩ := trod_struct2 Try.underlying62 ht
      dsimp only at t0 t1
      rw [hcu] at t0
      rw [hcs] at t1
      obtain ⟨s, e0, _, hwf⟩ := DataW.trod_int Try.underlying24 t0
      match cs, hcl with
      | [c0, c1], _ =>
        simp at e0
        subst e0
        have t1' : DataW.trod enc Try.prog W 0 (fun _ => true) true n' 23 [c1] = some y1 := t1
        rcases open_slice Try.underlying23 t1' with ⟨hx, _⟩ | ⟨x', l', c', m', n2, D', Pl', hx, _⟩
        · obtain rfl : c1 = .slice none 0 0 := by simpa using hx
          exact ⟨(⟨s, none, 0, 0⟩, ⟨s, []⟩), fun j hj => by rw [hat j hj]; rfl, rfl, okStamp_of hwf, Sl.nil_ W 3⟩
        · obtain rfl : c1 = .slice (some x') l' c' := by simpa using hx
          obtain ⟨ys, hys⟩ := openW (d := y1.1) (p := y1.2) ⟨n', t1'⟩
          exact ⟨(⟨s, some x', l', c'⟩, ⟨s, ys⟩), fun j hj => by rw [hat j hj]; rfl, rfl, okStamp_of hwf, hys⟩
    have hne : Inhabited (CmV × Cm) := ⟨(⟨0, none, 0, 0⟩, ⟨0, []⟩)⟩
    obtain ⟨f, hf'⟩ := choose_lt key
    refine ⟨(List.range len).map (fun i => (f i).2), (List.range len).map (fun i => (f i).1), ?_, by simp, fun k v y hv hy => ?_⟩
    · have := sl_of (w := W) (sz := 2) (by omega) hl hm (fun i => (f i).1.cells) (fun i _ => rfl) (fun i hi => (hf' i hi).1)
      show Sl W 2 (some x) len m (((List.range len).map (fun i => (f i).1)).flatMap CmV.cells)
      rw [List.flatMap_map]; exact this
    · rw [List.getElem?_map] at hv hy
      have hk : k < len := by
        rcases Nat.lt_or_ge k len with h | h
        · exact h
        · rw [List.getElem?_eq_none (by simpa using h)] at hv; cases hv
      rw [List.getElem?_range hk] at hv hy
      simp at hv hy
      subst hv; subst hy
      exact (hf' k hk).2
theorem openS {a : Option Addr} {len cap : Nat} {d : DataW H} {p : List MemPlace} (h : DataW.Trod enc Try.prog W 0 (fun _ => true) true 57 (.slice a len cap) d p) : ∃ xs : List ByteArray, SlS W a len cap xs ∧ ∀ s ∈ xs, s.size ≤ maxLen := by
  obtain ⟨fuel, hf⟩ := h
  rcases open_slice Try.underlying57 hf with ⟨hcs', _⟩ | ⟨x, l, c, m, n, D, Pl, hcs', _, hl, hm, hmm, _, hi⟩
  · simp [Value.cells] at hcs'
    obtain ⟨rfl, rfl, rfl⟩ := hcs'
    exact ⟨[], Sl.nil_ W 1, fun s hs => by simp at hs⟩
  · simp [Value.cells] at hcs'
    obtain ⟨rfl, rfl, rfl⟩ := hcs'
    have hmm : m = cap := by simpa using hmm
    subst hmm
    have hc : Try.prog.cellsOf 9 = 1 := by kernel_rfl
    have key : ∀ i, i < len → ∃ s : ByteArray, (∀ j, j < 1 → W.cell? ((x.add (i * 1)).add j) = [Value.string s][j]?) ∧ s.size ≤ maxLen := by
      intro i hi'
      obtain ⟨cs, hcell, ht⟩ := hi i (by omega)
      rw [hc] at hcell
      obtain ⟨_, hcl, hat⟩ := World.cells?_some hcell
      obtain ⟨s, e0, _, hsz⟩ := DataW.trod_string Try.underlying9 ht
      subst e0
      exact ⟨s, hat, hsz⟩
    have hne : Inhabited ByteArray := ⟨⟨#[]⟩⟩
    obtain ⟨f, hf'⟩ := choose_lt key
    refine ⟨(List.range len).map f, ?_, fun s hs => ?_⟩
    · have := sl_of (w := W) (sz := 1) (by omega) hl hm (fun i => [Value.string (f i)]) (fun i _ => rfl) (fun i hi => (hf' i hi).1)
      show Sl W 1 (some x) len m (((List.range len).map f).map Value.string)
      rw [List.map_map]
      have e : (List.range len).flatMap (fun i => [Value.string (f i)]) = (List.range len).map (Value.string ∘ f) := by
        generalize List.range len = rl
        induction rl with
        | nil => rfl
        | cons x l ih => rw [List.flatMap_cons, ih]; rfl
      rw [← e]; exact this
    · obtain ⟨i, hi, rfl⟩ := List.mem_map.1 hs
      exact (hf' i (by simpa using hi)).2
theorem openu2 {r : Reach} {b0 : Nat} {v : Value} {d : DataW H} {p : List MemPlace} (hv : Value.okWide Try.prog W r b0 68 v) (h : DataW.Trod enc Try.prog W 0 (fun _ => true) true 68 v d p) :
    ∃ z : Int × Int, v = .agg #[.int .u64 z.1, .int .u64 z.2] := by
  have hu := Try.underlying68
  have hag : ∃ cs, v = .agg cs ∧ cs.size = Try.prog.cellsOf 68 := by
    simp only [Value.okWide, hu] at hv
    obtain ⟨cs, h1, h2, _⟩ := hv
    exact ⟨cs, h1, h2⟩
  obtain ⟨cs, rfl, hsz⟩ := hag
  have hc2 : Try.prog.cellsOf 68 = 2 := by kernel_rfl
  obtain ⟨c0, c1, rfl⟩ := Joins.array2 (hsz.trans hc2)
  obtain ⟨fuel, hf⟩ := h
  obtain ⟨xs, m, _, _, hlen, hxl, hi⟩ := DataW.trod_array hu hf
  have hce : Try.prog.cellsOf 24 = 1 := by kernel_rfl
  match xs, hxl with
  | [y0, y1], _ =>
    have h0 := hi 0 (by omega)
    have h1 := hi 1 (by omega)
    rw [hce] at h0 h1
    have h0' : DataW.trod enc Try.prog W 0 (fun _ => true) true m 24 [c0] = some y0 := h0
    have h1' : DataW.trod enc Try.prog W 0 (fun _ => true) true m 24 [c1] = some y1 := h1
    obtain ⟨n0, e0, _⟩ := DataW.trod_int Try.underlying24 h0'
    obtain ⟨n1, e1, _⟩ := DataW.trod_int Try.underlying24 h1'
    obtain rfl : c0 = .int .u64 n0 := by simpa using e0
    obtain rfl : c1 = .int .u64 n1 := by simpa using e1
    exact ⟨(n0, n1), rfl⟩
end
end Go.Proofs.Ytincjomgcceldaa
