/- The reference's way to lay one more: the loop's invariant (plain), the walk over pairs. -/
import Derived.Test.YtmoihamobojkfaaAppend
namespace Go.Proofs.Ytmoihamobojkfaa
open Go.RowKit

section
variable {α : Type} {f : α → ByteArray}
def PutInv (f : α → ByteArray) (l : List α) (p : α) (k : Nat) (done : Bool) (acc : List α) : Prop :=
  if done = true then acc ++ (l.drop k).filter (fun x => !decide (f x = f p)) = rput f l p else acc = l.take k ∧ Upto l k (fun x => klt (f x) (f p) = true)

theorem takeWhile_all {q : α → Bool} : ∀ {l : List α} {k : Nat}, Upto l k (fun x => q x = true) → l.takeWhile q = l.take k ++ (l.drop k).takeWhile q ∧ l.dropWhile q = (l.drop k).dropWhile q
  | l, 0, _ => by simp
  | [], k + 1, _ => by simp
  | x :: l, k + 1, h => by
    have hx := h 0 (by omega) x rfl
    obtain ⟨h1, h2⟩ := takeWhile_all (l := l) (k := k) (fun j hj y hy => h (j + 1) (by omega) y (by simpa using hy))
    rw [List.takeWhile_cons_of_pos hx, List.dropWhile_cons_of_pos hx, List.take_succ_cons, List.drop_succ_cons, h1, h2]
    exact ⟨rfl, rfl⟩
theorem drop_at {l : List α} {k : Nat} {x : α} (h : l[k]? = some x) : l.drop k = x :: l.drop (k + 1) := by
  obtain ⟨hk, rfl⟩ := get_some h
  exact List.drop_eq_getElem_cons hk
theorem take_at {l : List α} {k : Nat} {x : α} (h : l[k]? = some x) : l.take (k + 1) = l.take k ++ [x] := by
  obtain ⟨hk, rfl⟩ := get_some h
  exact List.take_succ_eq_append_getElem hk

variable {l : List α} {p x : α} {k : Nat} {acc : List α}
theorem PutInv.start (l : List α) (p : α) : PutInv f l p 0 false [] := ⟨rfl, .zero⟩
theorem PutInv.lt (h : PutInv f l p k false acc) (hx : l[k]? = some x) (hk : klt (f x) (f p) = true) : PutInv f l p (k + 1) false (acc ++ [x]) := by
  obtain ⟨h1, h2⟩ := h
  exact ⟨by rw [h1, take_at hx], h2.succ hx hk⟩
theorem PutInv.t_eq (h : PutInv f l p k true acc) (hx : l[k]? = some x) (hk : f x = f p) : PutInv f l p (k + 1) true acc := by
  have h' : acc ++ (l.drop k).filter _ = _ := h
  rw [drop_at hx, List.filter_cons_of_neg (by simp [hk])] at h'
  exact h'
theorem PutInv.t_ne (h : PutInv f l p k true acc) (hx : l[k]? = some x) (hk : f x ≠ f p) : PutInv f l p (k + 1) true (acc ++ [x]) := by
  have h' : acc ++ (l.drop k).filter _ = _ := h
  rw [drop_at hx, List.filter_cons_of_pos (by simp [hk])] at h'
  show acc ++ [x] ++ _ = _
  rw [List.append_assoc]; exact h'
theorem PutInv.turn (h : PutInv f l p k false acc) (hx : l[k]? = some x) (hk : klt (f x) (f p) = false) : PutInv f l p k true (acc ++ [p]) := by
  obtain ⟨h1, h2⟩ := h
  obtain ⟨e1, e2⟩ := takeWhile_all h2
  show acc ++ [p] ++ _ = rput f l p
  unfold rput
  rw [e1, e2, drop_at hx, List.takeWhile_cons_of_neg (by simp [hk]), List.dropWhile_cons_of_neg (by simp [hk]), h1]; simp
theorem PutInv.end_t {n : Nat} (hn : l.length = n) (h : PutInv f l p n true acc) : acc = rput f l p := by
  have h' : acc ++ (l.drop n).filter _ = _ := h
  rw [List.drop_of_length_le (by omega)] at h'
  simpa using h'
theorem PutInv.end_f {n : Nat} (hn : l.length = n) (h : PutInv f l p n false acc) : acc ++ [p] = rput f l p := by
  obtain ⟨h1, h2⟩ := h
  obtain ⟨e1, e2⟩ := takeWhile_all h2
  unfold rput
  rw [e1, e2, List.drop_of_length_le (by omega), h1]; simp
theorem rput_len (l : List α) (p : α) : (rput f l p).length ≤ l.length + 1 := by
  unfold rput
  rw [List.length_append, List.length_cons]
  have h1 := List.length_filter_le (fun x => !decide (f x = f p)) (l.dropWhile (fun x => klt (f x) (f p)))
  have h2 := congrArg List.length (List.takeWhile_append_dropWhile (p := fun x => klt (f x) (f p)) (l := l))
  rw [List.length_append] at h2
  omega
theorem PutInv.len {d : Bool} (h : PutInv f l p k d acc) (hk : k ≤ l.length) : acc.length ≤ l.length + 1 ∧ (d = false → acc.length ≤ l.length) := by
  cases d with
  | false => obtain ⟨h1, _⟩ := h; rw [h1, List.length_take]; omega
  | true =>
    have h' : acc ++ (l.drop k).filter _ = _ := h
    have := congrArg List.length h'
    rw [List.length_append] at this
    have h2 := rput_len (f := f) l p
    exact ⟨by omega, by simp⟩
end

theorem own_drew {w : World} {base e sz n : Nat} {v : Value} {cs : List Value} (h : w.ownsRow base e sz v n cs) (m : Nat) : (w.drewN m).ownsRow base e sz v n cs := h
theorem keq_t' {a b : ByteArray} (h : (!a.toList == b.toList) = false) : a = b := ba_toList_inj (by simpa using h)
theorem keq_f' {a b : ByteArray} (h : (!a.toList == b.toList) = true) : a ≠ b := by rintro rfl; simp at h
theorem keq_ne {a b : ByteArray} (h : a ≠ b) : (a.toList == b.toList) = false := by
  rw [beq_eq_false_iff_ne]; exact fun e => h (ba_toList_inj e)

/-- a box of two cells, that is read -/
theorem box2 {w wr : World} {a b : Value} {t : TypeId} (hb : Below (w.heap.size + 1) (w.alloc (.cells #[a, b] t)) wr) :
    w.heap.size < wr.heap.size ∧ wr.cell? ⟨w.heap.size, 0, none⟩ = some a ∧ wr.cell? ⟨w.heap.size, 1, none⟩ = some b := by
  have hb' : Below (w.alloc (.cells #[a, b] t)).heap.size (w.alloc (.cells #[a, b] t)) wr := by simpa using hb
  obtain ⟨h1, h2, _⟩ := kept hb'
  exact ⟨by omega, h2 0 a rfl, h2 1 b rfl⟩

theorem rputP_any {A : Option Addr} {n c : Nat} {xs : List P2} {w : World} (h : SlP w A n c xs) (p : P2) (hn : n ≤ 65535) :
    Calls Try.prog 26 #[.slice A n c, .agg #[.string p.key, .string p.text]] w fun e w' => ∃ v, e = .returned v ∧ w'.ownsRow w.heap.size 28 2 v (rput P2.key xs p).length (cP (rput P2.key xs p)) ∧ Below w.heap.size w w' := by
  have hm := sl_max h
  have hl := Lib.hid (slP_len h)
  obtain ⟨i0, hi, hz0, hz1, hz2⟩ := info_parts info_RP
  have HI := Lib.hid hi; have HZ0 := Lib.hid hz0; have HZ1 := Lib.hid hz1; have HZ2 := Lib.hid hz2; clear hi hz0 hz1 hz2
  have HS := Lib.hid h; clear h
  go_enter Try.func26, Try.ntmps26
  go_wp2
  go_loopw [5, 6, 7] (fun v d i wr => ∃ (k : Nat) (done : Bool) (acc : List P2), k ≤ n ∧ i = .int .i64 k ∧ d = .bool done ∧ PutInv P2.key xs p k done acc ∧ wr.ownsRow (w.heap.size + 1) 28 2 v acc.length (cP acc) ∧ Below (w.heap.size + 1) (w.alloc (.cells #[.string p.key, .string p.text] 28)) wr) (fun _ _ i _ => n - (intOf i).toNat)
  case atStart => exact ⟨0, false, [], Nat.zero_le _, rfl, rfl, PutInv.start _ _, World.ownsRow_nil _ _ _ _, Below.refl _ _⟩
  case round =>
    obtain ⟨k, done, acc, hk, rfl, rfl, hinv, hown, hb⟩ := hrel
    obtain ⟨hla, hlf⟩ := hinv.len (by rw [hl.out]; exact hk)
    rw [hl.out] at hla hlf
    obtain ⟨hbs, p0, p1⟩ := box2 hb
    have HB := Lib.hid hb; have HO := Lib.hid hown; have HV := Lib.hid hinv
    have hs := (HS.out.below ((Below.refl w.heap.size w).alloc (Nat.le_refl _) _)).below (by simpa using hb)
    clear hb hown hinv
    by_cases hlt : k < n
    · obtain ⟨b, o, x, rfl, hbw, hx, h0, h1⟩ := slP_get hs hlt
      have HX := Lib.hid hx; clear hx hs
      have hi1 : (0 : Int) ≤ (k : Int) := by omega
      have hi2 : (k : Int) < n := by omega
      cases done with
      | true =>
        go_wp2
        go_quiet (fail)
        go_wp2
        go_quiet (fail)
        go_wp2_with (at_builtin; refine wpList_append_own _ rfl (.tmp 38) (.tmp 43) 22 rfl (w.heap.size + 1) 28 i0 (.agg #[.string ⟨#[]⟩, .string ⟨#[]⟩]) 2 32 Try.underlying22 HI.out HZ0.out HZ1.out HZ2.out rfl (by decide) _ _ _ rfl ((own_drew HO.out _).alloc _) ⟨wr.heap.size, 0, none⟩ 1 1 [.string x.key, .string x.text] rfl rfl ?a1 ?a2 ?a3 ?a4 ?a5 ?_)
        case a1 => exact new2 _ _ _ _ rfl
        case a2 => exact one2 _ _
        case a3 => unfold maxLen; omega
        case a4 => omega
        case a5 => have := HB.out.size; simp at this ⊢; omega
        · intro v' w1 hown' hgrow _
          go_wp2
          go_roundw
          case rel => exact ⟨k + 1, true, acc ++ [x], by omega, by go_num, rfl, HV.out.t_ne HX.out (keq_f' (by assumption)), by rw [List.length_append, List.length_singleton, cP_append]; exact hown', ((below_drewN HB.out _).alloc (by have := HB.out.size; simp at this ⊢; omega) _).grown hgrow (by have := HB.out.size; simp at this ⊢; omega) (own_ge HO.out)⟩
          case measure => simp [intOf]; omega
        · go_roundw
          case rel => exact ⟨k + 1, true, acc, by omega, by go_num, rfl, HV.out.t_eq HX.out (keq_t' (by assumption)), HO.out, below_drewN HB.out _⟩
          case measure => simp [intOf]; omega
      | false =>
        have hlf := hlf rfl
        by_cases hkl : klt x.key p.key = true
        · have hkb : Op.bytesLess x.key.toList p.key.toList = true := hkl
          have hne : (x.key.toList == p.key.toList) = false := keq_ne (klt_ne hkl)
          go_wp2
          go_quiet (fail)
          go_wp2
          go_quiet (fail)
          go_wp2_with (at_builtin; refine wpList_append_own _ rfl (.tmp 38) (.tmp 43) 22 rfl (w.heap.size + 1) 28 i0 (.agg #[.string ⟨#[]⟩, .string ⟨#[]⟩]) 2 32 Try.underlying22 HI.out HZ0.out HZ1.out HZ2.out rfl (by decide) _ _ _ rfl ((own_drew HO.out _).alloc _) ⟨wr.heap.size, 0, none⟩ 1 1 [.string x.key, .string x.text] rfl rfl ?b1 ?b2 ?b3 ?b4 ?b5 ?_)
          case b1 => exact new2 _ _ _ _ rfl
          case b2 => exact one2 _ _
          case b3 => unfold maxLen; omega
          case b4 => omega
          case b5 => have := HB.out.size; simp at this ⊢; omega
          intro v' w1 hown' hgrow _
          go_wp2
          go_roundw
          case rel => exact ⟨k + 1, false, acc ++ [x], by omega, by go_num, rfl, HV.out.lt HX.out hkl, by rw [List.length_append, List.length_singleton, cP_append]; exact hown', ((below_drewN HB.out _).alloc (by have := HB.out.size; simp at this ⊢; omega) _).grown hgrow (by have := HB.out.size; simp at this ⊢; omega) (own_ge HO.out)⟩
          case measure => simp [intOf]; omega
        · have hkl := notT hkl
          have hkb : Op.bytesLess x.key.toList p.key.toList = false := hkl
          go_wp2
          go_quiet (fail)
          go_wp2_with (at_builtin; refine wpList_append_own _ rfl (.tmp 26) (.tmp 28) 22 rfl (w.heap.size + 1) 28 i0 (.agg #[.string ⟨#[]⟩, .string ⟨#[]⟩]) 2 32 Try.underlying22 HI.out HZ0.out HZ1.out HZ2.out rfl (by decide) _ _ _ rfl ((own_drew HO.out _).alloc _) ⟨wr.heap.size, 0, none⟩ 1 1 [.string p.key, .string p.text] rfl rfl ?c1 ?c2 ?c3 ?c4 ?c5 ?_)
          case c1 => exact new2 _ _ _ _ rfl
          case c2 => exact one2 _ _
          case c3 => unfold maxLen; omega
          case c4 => omega
          case c5 => have := HB.out.size; simp at this ⊢; omega
          intro v' w1 hown' hgrow _
          have hb1 := ((below_drewN HB.out _).alloc (by have := HB.out.size; simp at this ⊢; omega) _).grown hgrow (by have := HB.out.size; simp at this ⊢; omega) (own_ge HO.out)
          have HB1 := Lib.hid hb1; have HO1 := Lib.hid hown'
          obtain ⟨hbs', p0', p1'⟩ := box2 hb1
          obtain ⟨hbw', h0', h1'⟩ := slP_at ((HS.out.below ((Below.refl w.heap.size w).alloc (Nat.le_refl _) _)).below (by simpa using hb1)) HX.out
          clear hb1 hown' hgrow h0 h1 p0 p1
          by_cases he : x.key = p.key
          · have hne : (x.key.toList == p.key.toList) = true := by rw [he]; simp
            go_wp2
            go_quiet (fail)
            go_wp2
            go_roundw
            case rel => exact ⟨k + 1, true, acc ++ [p], by omega, by go_num, rfl, (HV.out.turn HX.out hkl).t_eq HX.out he, by rw [List.length_append, List.length_singleton, cP_append]; exact HO1.out, below_drewN HB1.out _⟩
            case measure => simp [intOf]; omega
          · have hne : (x.key.toList == p.key.toList) = false := keq_ne he
            go_wp2
            go_quiet (fail)
            go_wp2_with (at_builtin; refine wpList_append_own _ rfl (.tmp 38) (.tmp 43) 22 rfl (w.heap.size + 1) 28 i0 (.agg #[.string ⟨#[]⟩, .string ⟨#[]⟩]) 2 32 Try.underlying22 HI.out HZ0.out HZ1.out HZ2.out rfl (by decide) _ _ _ rfl ((own_drew HO1.out _).alloc _) ⟨w1.heap.size, 0, none⟩ 1 1 [.string x.key, .string x.text] rfl rfl ?d1 ?d2 ?d3 ?d4 ?d5 ?_)
            case d1 => exact new2 _ _ _ _ rfl
            case d2 => exact one2 _ _
            case d3 => unfold maxLen; omega
            case d4 => omega
            case d5 => have := HB1.out.size; simp at this ⊢; omega
            intro v2 w2 hown2 hgrow _
            go_wp2
            go_roundw
            case rel => exact ⟨k + 1, true, acc ++ [p] ++ [x], by omega, by go_num, rfl, (HV.out.turn HX.out hkl).t_ne HX.out he, by rw [List.length_append, List.length_append, List.length_singleton, List.length_singleton, cP_append, cP_append, List.append_assoc]; exact hown2, ((below_drewN HB1.out _).alloc (by have := HB1.out.size; simp at this ⊢; omega) _).grown hgrow (by have := HB1.out.size; simp at this ⊢; omega) (own_ge HO1.out)⟩
            case measure => simp [intOf]; omega
    · clear hs
      obtain rfl : k = n := by omega
      cases done with
      | true =>
        go_wp2
        go_ret
        have e := HV.out.end_t hl.out
        subst e
        exact ⟨_, rfl, ownsRow_base HO.out (by omega), ((Below.refl w.heap.size w).alloc (Nat.le_refl _) _).trans (HB.out.mono (by omega))⟩
      | false =>
        have hlf := hlf rfl
        go_wp2_with (at_builtin; refine wpList_append_own _ rfl (.tmp 47) (.tmp 49) 22 rfl (w.heap.size + 1) 28 i0 (.agg #[.string ⟨#[]⟩, .string ⟨#[]⟩]) 2 32 Try.underlying22 HI.out HZ0.out HZ1.out HZ2.out rfl (by decide) _ _ _ rfl (HO.out.alloc _) ⟨wr.heap.size, 0, none⟩ 1 1 [.string p.key, .string p.text] rfl rfl ?e1 ?e2 ?e3 ?e4 ?e5 ?_)
        case e2 => exact ⟨rfl, rfl⟩
        case e3 => unfold maxLen; omega
        case e4 => omega
        case e5 => have := HB.out.size; simp at this ⊢; omega
        intro v' w1 hown' hgrow _
        go_wp2
        go_ret
        have e := HV.out.end_f hl.out
        refine ⟨v', rfl, ?_, ((Below.refl w.heap.size w).alloc (Nat.le_refl _) _).trans (((HB.out.alloc (by have := HB.out.size; simp at this ⊢; omega) _).grown hgrow (by have := HB.out.size; simp at this ⊢; omega) (own_ge HO.out)).mono (by omega))⟩
        rw [← e, List.length_append, List.length_singleton, cP_append]
        exact ownsRow_base hown' (by omega)
end Go.Proofs.Ytmoihamobojkfaa
