/- Scan and Read; counting keys in a map. -/
import Derived.Test.YtincjomgcceldaaStoreL
import Derived.Maps.OwnSet
import Derived.Deep.RegionLawGrows
namespace Go.Proofs.Ytincjomgcceldaa
open Go.RowKit Go.Maps

theorem scan_look {xs : List Cm} {at_ : Int} {k : ByteArray} (hr : ∀ c ∈ xs, Rise W3.key c.set) : look P2.key k (scanC xs at_) = match hist xs k at_ with | some w => w.left | none => none := by
  unfold scanC hist
  have key : ∀ (ys : List Cm) (l : List P2) (o : Option W3), (∀ c ∈ ys, Rise W3.key c.set) → Rise P2.key l → (look P2.key k l = match o with | some w => w.left | none => none) →
      look P2.key k ((ys.filter (fun c => decide (c.stamp ≤ at_))).foldl (fun l c => ov l c.set) l) = match ys.foldl (histS at_ k) o with | some w => w.left | none => none := by
    intro ys
    induction ys with
    | nil => intro l o _ _ h; exact h
    | cons y ys ih =>
      intro l o hy hl h
      by_cases hs : y.stamp ≤ at_
      · rw [List.filter_cons_of_pos (by simpa using hs), List.foldl_cons, List.foldl_cons]
        obtain ⟨h1, h2, _⟩ := ov_spec y.set l hl (hy y (by simp))
        refine ih _ _ (fun c hc => hy c (List.mem_cons_of_mem _ hc)) h1 ?_
        rw [h2]
        unfold seen histS
        rw [if_pos hs]
        cases look W3.key k y.set with
        | none => exact h
        | some w => rfl
      · rw [List.filter_cons_of_neg (by simpa using hs), List.foldl_cons]
        refine ih _ _ (fun c hc => hy c (List.mem_cons_of_mem _ hc)) hl ?_
        unfold histS; rw [if_neg hs]; exact h
  exact key xs [] none hr rise_nil rfl
theorem left_some {w : W3} {p : P2} (h : w.left = some p) : w.gone = false ∧ w.text = p.text := by
  unfold W3.left at h
  split at h
  · cases h
  · rename_i hg; injection h with h; subst h; exact ⟨by simpa using hg, rfl⟩
theorem read_there {xs : List Cm} {at_ : Int} {p : P2} (hr : ∀ c ∈ xs, Rise W3.key c.set) (hp : p ∈ scanC xs at_) : rdT (hist xs p.key at_) = p.text ∧ rdB (hist xs p.key at_) = true := by
  have h := scan_look (at_ := at_) (k := p.key) hr
  rw [look_mem (scan_rise hr) hp] at h
  cases hh : hist xs p.key at_ with
  | none => rw [hh] at h; cases h
  | some w =>
    rw [hh] at h
    obtain ⟨h1, h2⟩ := left_some h.symm
    exact ⟨by simp [rdT, h1, h2], by simp [rdB, h1]⟩
theorem read_is {xs : List Cm} {at_ : Int} {k : ByteArray} (hr : ∀ c ∈ xs, Rise W3.key c.set) : rdB (hist xs k at_) = (look P2.key k (scanC xs at_)).isSome := by
  rw [scan_look hr]
  cases hist xs k at_ with
  | none => rfl
  | some w =>
    show (!w.gone) = w.left.isSome
    unfold W3.left
    cases w.gone <;> simp

/-- the keys of the first k pairs are at one in the map, no other key is there -/
def Cnt (D : DataW Unit) (L : List P2) (k : Nat) : Prop := ∀ s : ByteArray, D.atKey (.string s.data.toList) (.lit (.int .i64 0)) = .lit (.int .i64 (if (look P2.key s (L.take k)).isSome then 1 else 0))
theorem cnt_start (L : List P2) : Cnt (.map []) L 0 := fun s => by simp [look_nil]; rfl
theorem data_inj {a b : ByteArray} (h : a.data.toList = b.data.toList) : a = b := by
  cases a; cases b; simp at h; simpa using h
theorem look_take {L : List P2} {k : Nat} {p : P2} (hx : L[k]? = some p) (s : ByteArray) : look P2.key s (L.take (k + 1)) = match look P2.key s (L.take k) with | some q => some q | none => if p.key = s then some p else none := by
  rw [take_at hx]
  unfold look
  rw [List.find?_append]
  cases (L.take k).find? (fun x => decide (x.key = s)) with
  | some q => rfl
  | none => by_cases h : p.key = s <;> simp [h]
theorem look_not {L : List P2} {k : Nat} {p : P2} (hr : Rise P2.key L) (hx : L[k]? = some p) : look P2.key p.key (L.take k) = none := by
  refine look_none fun q hq e => ?_
  obtain ⟨j, hj, rfl⟩ := List.mem_iff_getElem.1 hq
  rw [List.getElem_take] at e
  rw [List.length_take] at hj
  obtain ⟨hk, rfl⟩ := get_some hx
  have := List.pairwise_iff_getElem.1 hr j k (by omega) hk (by omega)
  rw [e, klt_irrefl] at this; cases this
theorem cnt_zero {D : DataW Unit} {L : List P2} {k : Nat} {p : P2} (h : Cnt D L k) (hr : Rise P2.key L) (hx : L[k]? = some p) {c : Int} (hat : D.atKey (.string p.key.data.toList) (.lit (.int .i64 0)) = .lit (.int .i64 c)) : c = 0 := by
  have := h p.key
  rw [look_not hr hx, hat] at this
  simpa using this
theorem cnt_step {D : DataW Unit} {L : List P2} {k : Nat} {p : P2} (h : Cnt D L k) (hD : IsMap D) (hr : Rise P2.key L) (hx : L[k]? = some p) : Cnt (D.put (.string p.key.data.toList) (.lit (.int .i64 1))) L (k + 1) := by
  intro s
  rw [look_take hx]
  by_cases hs : p.key = s
  · subst hs
    rw [atKey_put_same hD (show WideAt.IsKeyLit (.string _) from trivial), look_not hr hx]; simp
  · rw [atKey_put_other (fun e => hs (by injection e with e; exact (data_inj e).symm)), h s]
    cases look P2.key s (L.take k) with
    | some q => rfl
    | none => simp [hs]
theorem cnt_all {D : DataW Unit} {L : List P2} {k : Nat} (h : Cnt D L k) (hk : L.length = k) {s : ByteArray} {c : Int} (hat : D.atKey (.string s.data.toList) (.lit (.int .i64 0)) = .lit (.int .i64 c)) : c = if (look P2.key s L).isSome then 1 else 0 := by
  have := h s
  rw [List.take_of_length_le (by omega), hat] at this
  injection this with this; injection this

theorem ownsMap_below {H : Type} {P : Program} {k : TypeId} {R : Value → Option (DataW H × List MemPlace)} {b n : Nat} {D : DataW H} {w w' : World} (h : w.ownsMap P k R b n D) (hb : Below w.heap.size w w') : w'.ownsMap P k R b n D := by
  have hlt := h.lt
  obtain ⟨es, clock, hh, r⟩ := h
  exact ⟨es, clock, (hb.block b hlt).trans hh, r⟩
theorem zeroInt (w : World) : (zeroValue 3).run Try.prog w = .ok (.int .i64 0) w := by kernel_rfl
theorem strKey : Keyed Try.prog 9 := string_keyed Try.underlying9

/-- a slice of strings -/
def cS (xs : List ByteArray) : List Value := xs.map Value.string
abbrev SlS (w : World) (A : Option Addr) (n c : Nat) (xs : List ByteArray) : Prop := Sl w 1 A n c (cS xs)
theorem slS_len {w : World} {A : Option Addr} {n c : Nat} {xs : List ByteArray} (h : SlS w A n c xs) : xs.length = n := by
  have h1 := h.1; simpa [cS] using h1
theorem slS_get {w : World} {A : Option Addr} {n c : Nat} {xs : List ByteArray} (h : SlS w A n c xs) {k : Nat} (hk : k < n) : ∃ b o x, A = some ⟨b, o, none⟩ ∧ b < w.heap.size ∧ xs[k]? = some x ∧ w.cell? ⟨b, o + k, none⟩ = some (.string x) := by
  obtain ⟨b, o, e, hb, hc⟩ := h.2.2.2 (by omega)
  have hx : xs[k]? = some (xs[k]'(by rw [slS_len h]; exact hk)) := List.getElem?_eq_getElem _
  exact ⟨b, o, _, e, hb, hx, hc k _ (by simp [cS, hx])⟩
end Go.Proofs.Ytincjomgcceldaa
