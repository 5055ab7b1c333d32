/- What came in, read: slices of pairs, slices of writes. -/
import Derived.Test.YteaaeeidbjklbaaOpenX
namespace Go.Proofs.Yteaaeeidbjklbaa
open Go.RowKit Go.ChangeShapes Go.WideShapes Go.Deep

section
variable {H : Type} {enc : TypeId × Value → H} {W : World}
set_option maxRecDepth 100000 in
theorem openW {a : Option Addr} {len cap : Nat} {d : DataW H} {p : List MemPlace} (h : DataW.Trod enc Try.prog W 0 (fun _ => true) true 32 (.slice a len cap) d p) : ∃ xs : List W3, SlW W a len cap xs :=
  open_slW Try.underlying32 Try.underlying38 Try.underlying9 Try.underlying4 ⟨rfl, rfl⟩ ⟨rfl, rfl⟩ ⟨rfl, rfl⟩ (by kernel_rfl) (by kernel_rfl) (by kernel_rfl) h
set_option maxRecDepth 100000 in
theorem openw {r : Reach} {b0 : Nat} {v : Value} {d : DataW H} {p : List MemPlace} (hv : Value.okWide Try.prog W r b0 38 v) (h : DataW.Trod enc Try.prog W 0 (fun _ => true) true 38 v d p) :
    ∃ x : W3, v = .agg #[.string x.key, .string x.text, .bool x.gone] := by
  obtain ⟨c0, c1, c2, y0, y1, y2, m, rfl, rfl, rfl, hy0, hy1, hy2⟩ := Joins.open_agg3 Try.underlying38 (by kernel_rfl) (by kernel_rfl) hv h
  obtain ⟨s, e0, _⟩ := DataW.trod_string Try.underlying9 hy0
  obtain ⟨t, e1, _⟩ := DataW.trod_string Try.underlying9 hy1
  obtain ⟨g, e2, _⟩ := DataW.trod_bool Try.underlying4 hy2
  simp at e0 e1 e2
  subst e0; subst e1; subst e2
  exact ⟨⟨s, t, g⟩, rfl⟩
end
end Go.Proofs.Yteaaeeidbjklbaa
