/- What came in, read: the general part. -/
import Derived.Test.YteaaeeidbjklbaaMem
import Derived.ProofKit
import Derived.OpenShut
import Derived.Deep.Slices
import Derived.Deep.Strs
import Derived.Lib.SmallJoins
namespace Go.Proofs.Yteaaeeidbjklbaa
open Go.RowKit Go.ChangeShapes Go.WideShapes Go.Deep

theorem own : ownKnob Try.prog.godebug = none := by kernel_rfl
theorem laidOut : laidOutB Try.prog = true := by kernel_rfl

theorem cell_lt {w : World} {p : Addr} {v : Value} (h : w.cell? p = some v) : p.block < w.heap.size ∧ p.spot = none := by
  unfold World.cell? at h
  split at h
  · rename_i c e f hh
    refine ⟨(Array.getElem?_eq_some_iff.1 hh).1, ?_⟩
    split at h
    · cases h
    · rename_i hs; simpa using hs
  · cases h

/-- from the cells of each element to the slice -/
theorem sl_of {w : World} {sz len cap : Nat} {a : Addr} (hsz : 0 < sz) (hl : len ≤ cap) (hm : cap ≤ maxLen) (f : Nat → List Value) (hf : ∀ i, i < len → (f i).length = sz)
    (hc : ∀ i, i < len → ∀ j, j < sz → w.cell? ((a.add (i * sz)).add j) = (f i)[j]?) : Sl w sz (some a) len cap ((List.range len).flatMap f) := by
  have hlen : ∀ n, n ≤ len → ((List.range n).flatMap f).length = n * sz := by
    intro n hn
    induction n with
    | zero => simp
    | succ n ih =>
      rw [List.range_succ, List.flatMap_append, List.length_append, ih (by omega)]
      simp only [List.flatMap_cons, List.flatMap_nil, List.append_nil]
      rw [hf n (by omega), Nat.succ_mul]
  have hget : ∀ n, n ≤ len → ∀ j u, ((List.range n).flatMap f)[j]? = some u → ∃ i k, i < n ∧ k < sz ∧ j = i * sz + k ∧ (f i)[k]? = some u := by
    intro n hn
    induction n with
    | zero => intro j u h; simp at h
    | succ n ih =>
      intro j u h
      rw [List.range_succ, List.flatMap_append] at h
      simp only [List.flatMap_cons, List.flatMap_nil, List.append_nil] at h
      rw [List.getElem?_append] at h
      split at h
      · obtain ⟨i, k, h1, h2, h3, h4⟩ := ih (by omega) j u h
        exact ⟨i, k, by omega, h2, h3, h4⟩
      · rename_i hj
        rw [hlen n (by omega)] at hj h
        have h5 := (List.getElem?_eq_some_iff.1 h).1
        rw [hf n (by omega)] at h5
        exact ⟨n, j - n * sz, by omega, h5, by omega, h⟩
  refine ⟨hlen len (Nat.le_refl _), hl, hm, fun h0 => ?_⟩
  obtain ⟨b, o, s⟩ := a
  have h00 := hc 0 h0 0 hsz
  rw [Nat.zero_mul, Addr.add_zero', Addr.add_zero', List.getElem?_eq_getElem (by rw [hf 0 h0]; exact hsz)] at h00
  obtain ⟨hb, hs⟩ := cell_lt h00
  have hs : s = none := hs
  subst hs
  refine ⟨b, o, rfl, hb, fun j u hu => ?_⟩
  obtain ⟨i, k, h1, h2, rfl, h4⟩ := hget len (Nat.le_refl _) j u hu
  have := hc i h1 k h2
  rw [Addr.add_lit, Addr.add_lit, h4] at this
  rw [← Nat.add_assoc]; exact this

section
variable {H : Type} {enc : TypeId × Value → H} {W : World}

theorem open_slP {T E TS : TypeId} {f0 f1 : Field} (hT : Try.prog.underlying T = some (.slice E)) (hE : Try.prog.underlying E = some (.struct #[f0, f1])) (hS : Try.prog.underlying TS = some .string)
    (h0 : f0.type = TS ∧ f0.offset = 0) (h1 : f1.type = TS ∧ f1.offset = 1) (hc : Try.prog.cellsOf E = 2) (hcs : Try.prog.cellsOf TS = 1)
    {a : Option Addr} {len cap : Nat} {d : DataW H} {p : List MemPlace} (h : DataW.Trod enc Try.prog W 0 (fun _ => true) true T (.slice a len cap) d p) : ∃ xs : List P2, SlP W a len cap xs := by
  obtain ⟨fuel, hf⟩ := h
  rcases open_slice hT hf with ⟨hcs', _⟩ | ⟨x, l, c, m, n, D, Pl, hcs', _, hl, hm, hmm, _, hi⟩
  · simp [Value.cells] at hcs'
    obtain ⟨rfl, rfl, rfl⟩ := hcs'
    exact ⟨[], Sl.nil_ W 2⟩
  · simp [Value.cells] at hcs'
    obtain ⟨rfl, rfl, rfl⟩ := hcs'
    have hmm : m = cap := by simpa using hmm
    subst hmm
    have key : ∀ i, i < len → ∃ x2 : P2, ∀ j, j < 2 → W.cell? ((x.add (i * 2)).add j) = x2.cells[j]? := by
      intro i hi'
      obtain ⟨cs, hcell, ht⟩ := hi i (by omega)
      rw [hc] at hcell
      obtain ⟨_, hcl, hat⟩ := World.cells?_some hcell
      obtain ⟨y0, y1, n', _, _, t0, t1⟩ := trod_struct2 hE ht
      rw [h0.1, h0.2, hcs] at t0
      rw [h1.1, h1.2, hcs] at t1
      obtain ⟨s, e0, _⟩ := DataW.trod_string hS t0
      obtain ⟨t, e1, _⟩ := DataW.trod_string hS t1
      match cs, hcl with
      | [c0, c1], _ =>
        simp at e0 e1
        subst e0; subst e1
        exact ⟨⟨s, t⟩, fun j hj => by rw [hat j hj]; rfl⟩
    have hne : Inhabited P2 := ⟨⟨⟨#[]⟩, ⟨#[]⟩⟩⟩
    obtain ⟨f, hf'⟩ := choose_lt key
    refine ⟨(List.range len).map f, ?_⟩
    have := sl_of (w := W) (sz := 2) (by omega) hl hm (fun i => (f i).cells) (fun i _ => rfl) hf'
    show Sl W 2 (some x) len m (((List.range len).map f).flatMap P2.cells)
    rw [List.flatMap_map]; exact this

theorem open_slW {T E TS TB : TypeId} {f0 f1 f2 : Field} (hT : Try.prog.underlying T = some (.slice E)) (hE : Try.prog.underlying E = some (.struct #[f0, f1, f2])) (hS : Try.prog.underlying TS = some .string) (hB : Try.prog.underlying TB = some .bool)
    (h0 : f0.type = TS ∧ f0.offset = 0) (h1 : f1.type = TS ∧ f1.offset = 1) (h2 : f2.type = TB ∧ f2.offset = 2) (hc : Try.prog.cellsOf E = 3) (hcs : Try.prog.cellsOf TS = 1) (hcb : Try.prog.cellsOf TB = 1)
    {a : Option Addr} {len cap : Nat} {d : DataW H} {p : List MemPlace} (h : DataW.Trod enc Try.prog W 0 (fun _ => true) true T (.slice a len cap) d p) : ∃ xs : List W3, SlW W a len cap xs := by
  obtain ⟨fuel, hf⟩ := h
  rcases open_slice hT hf with ⟨hcs', _⟩ | ⟨x, l, c, m, n, D, Pl, hcs', _, hl, hm, hmm, _, hi⟩
  · simp [Value.cells] at hcs'
    obtain ⟨rfl, rfl, rfl⟩ := hcs'
    exact ⟨[], Sl.nil_ W 3⟩
  · simp [Value.cells] at hcs'
    obtain ⟨rfl, rfl, rfl⟩ := hcs'
    have hmm : m = cap := by simpa using hmm
    subst hmm
    have key : ∀ i, i < len → ∃ x2 : W3, ∀ j, j < 3 → W.cell? ((x.add (i * 3)).add j) = x2.cells[j]? := by
      intro i hi'
      obtain ⟨cs, hcell, ht⟩ := hi i (by omega)
      rw [hc] at hcell
      obtain ⟨_, hcl, hat⟩ := World.cells?_some hcell
      obtain ⟨y0, y1, y2, n', _, _, t0, t1, t2⟩ := trod_struct3 hE ht
      rw [h0.1, h0.2, hcs] at t0
      rw [h1.1, h1.2, hcs] at t1
      rw [h2.1, h2.2, hcb] at t2
      obtain ⟨s, e0, _⟩ := DataW.trod_string hS t0
      obtain ⟨t, e1, _⟩ := DataW.trod_string hS t1
      obtain ⟨g, e2, _⟩ := DataW.trod_bool hB t2
      match cs, hcl with
      | [c0, c1, c2], _ =>
        simp at e0 e1 e2
        subst e0; subst e1; subst e2
        exact ⟨⟨s, t, g⟩, fun j hj => by rw [hat j hj]; rfl⟩
    have hne : Inhabited W3 := ⟨⟨⟨#[]⟩, ⟨#[]⟩, false⟩⟩
    obtain ⟨f, hf'⟩ := choose_lt key
    refine ⟨(List.range len).map f, ?_⟩
    have := sl_of (w := W) (sz := 3) (by omega) hl hm (fun i => (f i).cells) (fun i _ => rfl) hf'
    show Sl W 3 (some x) len m (((List.range len).map f).flatMap W3.cells)
    rw [List.flatMap_map]; exact this
end
end Go.Proofs.Yteaaeeidbjklbaa
