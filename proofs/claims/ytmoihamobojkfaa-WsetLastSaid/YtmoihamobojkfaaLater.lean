/- A region that draws its order and holds a call that makes memory, but writes nothing that was there: one walk of the text's order serves every order. -/
import Derived.Test.YtmoihamobojkfaaROver
namespace Go.Proofs.Ytmoihamobojkfaa
open Go.RowKit

/-- a world behind w in which nothing that was there has turned -/
structure Later (w : World) where
  val : World
  le : Below w.heap.size w val
instance (w : World) : Nonempty (Later w) := ⟨⟨w, Below.refl _ _⟩⟩

theorem wp_region_later {P : Program} {id : Nat} {Q : Exit → Act → World → Prop} {a : Act} {w : World} {l : List Oper} (hm : P.follows .mixedOrders = true) (hB : Region.lexB .any l.toArray = true)
    (h : wpQuiet P l.toArray (fun w' => ∃ d : Later w, w' = d.val) (fun a' => ∀ d : Later w, Q .normal a' d.val) l a) : (Code.region id l.toArray true).wp P Q a w :=
  wp_region_quiet (C := fun w' => ∃ d : Later w, w' = d.val) hm hB ⟨⟨w.drew, (Below.refl _ _).drew⟩, rfl⟩ (by
    have : (fun a' => ∀ w', (∃ d : Later w, w' = d.val) → Q .normal a' w') = (fun a' => ∀ d : Later w, Q .normal a' d.val) := by
      funext a'; exact propext ⟨fun h d => h _ ⟨d, rfl⟩, fun h w' ⟨d, e⟩ => e ▸ h d⟩
    rw [this]; simpa using h)

theorem Later.calls {P : Program} {f : FuncId} {args : Array Value} {w : World} {d : Later w} {v : Value}
    (h : Calls P f args d.val fun e w' => e = .returned v ∧ Below d.val.heap.size d.val w') : Calls P f args d.val fun e w'' => e = .returned v ∧ ∃ d' : Later w, w'' = d'.val :=
  h.mono fun _ w' ⟨he, hb⟩ => ⟨he, ⟨w', bt d.le hb⟩, rfl⟩
theorem Later.cell {w : World} {p : Addr} {v : Value} (h : w.cell? p = some v) (hp : p.block < w.heap.size) (d : Later w) : d.val.cell? p = some v := (d.le.cell hp).trans h

/-- a block that is known whole -/
def Blk (w : World) (g : Nat) (t : TypeId) (cs : Array Value) : Prop := w.heap[g]? = some (.cells cs t (0, 0))
section
variable {w w' : World} {g : Nat} {t : TypeId} {cs : Array Value}
theorem Blk.lt (h : Blk w g t cs) : g < w.heap.size := (Array.getElem?_eq_some_iff.1 h).1
theorem Blk.cell (h : Blk w g t cs) {i : Nat} {v : Value} (hv : cs[i]? = some v) : w.cell? ⟨g, i, none⟩ = some v := (cell_of_row w g i cs t (0, 0) h).trans hv
theorem Blk.frozen (h : Blk w g t cs) (i : Nat) : w.frozen? ⟨g, i, none⟩ = false := frozen_of_row w g i cs t h
theorem Blk.new (w : World) (t : TypeId) (cs : Array Value) : Blk (w.alloc (.cells cs t)) w.heap.size t cs := heap_alloc_new w _
theorem Blk.alloc (h : Blk w g t cs) (o : Obj) : Blk (w.alloc o) g t cs := (Below.heap_alloc w o g h.lt).trans h
theorem Blk.later (h : Blk w g t cs) (hb : Below w.heap.size w w') : Blk w' g t cs := (hb.block g h.lt).trans h
theorem Blk.grown {row : Option Nat} (h : Blk w g t cs) (hb : w.grownBy w' row) (hg : row ≠ some g) : Blk w' g t cs := (hb.block g h.lt (fun e => hg e.symm)).trans h
theorem own_other {base n sz : Nat} {e : TypeId} {v : Value} {xs : List Value} (h : w.ownsRow base e sz v n xs) (hg : Blk w g t cs) (hne : e ≠ t) : v.ownBlock ≠ some g := by
  rcases h.2 with ⟨rfl, _⟩ | ⟨g', cap, cur, rfl, _, hh, _⟩
  · simp [Value.ownBlock]
  · intro he
    obtain rfl : g' = g := by simpa [Value.ownBlock] using he
    unfold Blk at hg
    rw [hh] at hg
    injection hg with hg
    injection hg with _ ht
    exact hne ht
end

theorem stands_val (s x k : ByteArray) (g : Bool) (w : World) {v : Int} (hv : cmpK s k = v) : Calls Try.prog 24 #[.agg #[.string s, .string x, .bool g], .string k] w fun e w' => e = .returned (.int .i64 v) ∧ Below w.heap.size w w' := by
  subst hv; exact stands_any s x k g w

set_option maxRecDepth 100000 in
set_option maxHeartbeats 2000000 in
theorem over_any {A B : Option Addr} {n c m d : Nat} {xs : List P2} {ys : List W3} {w : World} (h : SlP w A n c xs) (h' : SlW w B m d ys) (hn : n ≤ 16384) (hm : m ≤ 16384) :
    Calls Try.prog 14 #[.slice A n c, .slice B m d] w fun e w' => ∃ v, e = .returned v ∧ w'.ownsRow w.heap.size 55 2 v (ov xs ys).length (cP (ov xs ys)) ∧ Below w.heap.size w w' := by
  have hc := sl_max h
  have hd := sl_max h'
  have hl := Lib.hid (slP_len h)
  have hl' := Lib.hid (slW_len h')
  obtain ⟨i0, hi, hz0, hz1, hz2⟩ := info_parts info_P
  have HI := Lib.hid hi; have HZ0 := Lib.hid hz0; have HZ1 := Lib.hid hz1; have HZ2 := Lib.hid hz2; clear hi hz0 hz1 hz2
  have HS := Lib.hid h; have HS' := Lib.hid h'; clear h h'
  go_enter Try.func14, Try.ntmps14
  go_wp2
  go_loopw [5, 6, 11] (fun v i j wr => ∃ (p q : Nat) (acc : List P2), p ≤ n ∧ q ≤ m ∧ i = .int .i64 p ∧ j = .int .i64 q ∧ acc ++ ov (xs.drop p) (ys.drop q) = ov xs ys ∧ acc.length ≤ p + q ∧ wr.ownsRow w.heap.size 55 2 v acc.length (cP acc) ∧ Below w.heap.size w wr) (fun _ _ j _ => m - (intOf j).toNat)
  case atStart => exact ⟨0, 0, [], Nat.zero_le _, Nat.zero_le _, rfl, rfl, rfl, Nat.zero_le _, World.ownsRow_nil _ _ _ _, Below.refl _ _⟩
  case round =>
    obtain ⟨p, q, acc, hp, hq, rfl, rfl, hov, hal, hown, hb⟩ := hrel
    obtain ⟨wo, rfl⟩ : ∃ wo : World, wo = wr := ⟨_, rfl⟩
    have HV := Lib.hid hov; have HB := Lib.hid hb; have HO := Lib.hid hown; clear hov hb hown
    by_cases hlt : q < m
    · obtain ⟨b, o, x, rfl, hbw, hx, h0, h1, h2⟩ := slW_get (HS'.out.below HB.out) hlt
      have HX := Lib.hid hx; clear hx
      have HV := Lib.hid (show acc ++ ov (xs.drop p) (x :: ys.drop (q + 1)) = ov xs ys by rw [← drop_at HX.out]; exact HV.out)
      go_wp2
      go_loopw [5, 6] (fun v i w2 => ∃ (p' : Nat) (acc' : List P2), p' ≤ n ∧ i = .int .i64 p' ∧ acc' ++ ov (xs.drop p') (x :: ys.drop (q + 1)) = ov xs ys ∧ acc'.length ≤ p' + q ∧ w2.ownsRow w.heap.size 55 2 v acc'.length (cP acc') ∧ Below w.heap.size w w2 ∧ Blk w2 wo.heap.size 45 #[.string x.key, .string x.text, .bool x.gone]) (fun _ i _ => n - (intOf i).toNat)
      case atStart => exact ⟨p, acc, hp, rfl, HV.out, hal, HO.out.alloc _, HB.out.alloc HB.out.size _, Blk.new _ _ _⟩
      case round =>
        obtain ⟨p', acc', hp', rfl, hov', hal', hown', hb', hblk'⟩ := hrel
        have HV2 := Lib.hid hov'; have HB2 := Lib.hid hb'; have HO2 := Lib.hid hown'; have HK2 := Lib.hid hblk'
        clear HV HB HO h0 h1 h2 hov' hb' hown' hblk' hal
        by_cases hpn : p' < n
        · obtain ⟨b', o', y, rfl, hbw', hy, g0, g1⟩ := slP_get (HS.out.below HB2.out) hpn
          have HY := Lib.hid hy; clear hy
          have hi1 : (0 : Int) ≤ (p' : Int) := by omega
          have hi2 : (p' : Int) < n := by omega
          have k0 := fun d => Later.cell (HK2.out.cell (i := 0) (v := .string x.key) rfl) HK2.out.lt d
          have k1 := fun d => Later.cell (HK2.out.cell (i := 1) (v := .string x.text) rfl) HK2.out.lt d
          have k2 := fun d => Later.cell (HK2.out.cell (i := 2) (v := .bool x.gone) rfl) HK2.out.lt d
          have q0 := fun d => Later.cell g0 hbw' d
          clear g0 g1
          rcases (show klt y.key x.key = true ∨ y.key = x.key ∨ klt x.key y.key = true from by
            cases h1 : klt y.key x.key with
            | true => exact .inl rfl
            | false =>
              by_cases h2 : y.key = x.key
              · exact .inr (.inl h2)
              · exact .inr (.inr (klt_of_not h1 h2))) with hk | hk | hk
          · have HC := Lib.hid (cmpK_gt (a := x.key) (b := y.key) (klt_asymm hk) (klt_ne hk).symm)
            have HKL := Lib.hid hk; clear hk
            go_wp2
            refine wp_region_later (by kernel_rfl) (by kernel_rfl) ?_
            repeat (go_big_quiet_step ((go_at_call 24; exact Later.calls (stands_val _ _ _ _ _ HC.out))))
            refine wpQuiet_nil ?_
            rintro ⟨w3, hb3⟩
            clear k0 k1 k2 q0
            dsimp only
            have HB3 := Lib.hid (HB2.out.trans (hb3.mono HB2.out.size))
            have HO3 := Lib.hid (own_below HO2.out hb3)
            have HK3 := Lib.hid (HK2.out.later hb3)
            clear hb3
            obtain ⟨hbw3, g0, g1⟩ := slP_at (HS.out.below HB3.out) HY.out
            go_wp2_with (at_builtin; refine wpList_append_own _ rfl (.tmp 29) (.tmp 34) 30 rfl w.heap.size 55 i0 (.agg #[.string ⟨#[]⟩, .string ⟨#[]⟩]) 2 32 Try.underlying30 HI.out HZ0.out HZ1.out HZ2.out rfl (by decide) _ _ _ rfl (HO3.out.alloc _) ⟨w3.heap.size, 0, none⟩ 1 1 [.string y.key, .string y.text] rfl rfl ?a1 ?a2 ?a3 ?a4 ?a5 ?_)
            case a1 => exact new2 _ _ _ _ rfl
            case a2 => exact one2 _ _
            case a3 => unfold maxLen; omega
            case a4 => omega
            case a5 => have := HB3.out.size; simp at this ⊢; omega
            intro v4 w4 hown4 hg4 _
            have HK4 := Lib.hid ((HK3.out.alloc _).grown hg4 (own_other HO3.out HK3.out (by decide)))
            have HB4 := Lib.hid ((HB3.out.alloc HB3.out.size _).grown hg4 (by have := HB3.out.size; simp; omega) (own_ge HO3.out))
            clear hg4
            go_wp2
            go_roundw
            case rel => exact ⟨p' + 1, acc' ++ [y], by omega, by go_num, by rw [← HV2.out, drop_at HY.out, ov_lt _ _ _ _ HKL.out, List.append_assoc]; rfl, by rw [List.length_append, List.length_singleton]; omega, by rw [List.length_append, List.length_singleton, cP_append]; exact hown4, HB4.out, HK4.out⟩
            case measure => simp [intOf]; omega
          · have HC := Lib.hid (show cmpK x.key y.key = 0 by rw [hk]; exact cmpK_eq _)
            have HKL := Lib.hid hk; clear hk
            have HE := Lib.hid (show acc' ++ emit x (ov (xs.drop (p' + 1)) (ys.drop (q + 1))) = ov xs ys by rw [← HV2.out, drop_at HY.out, ov_eq _ _ _ _ HKL.out])
            go_wp2
            refine wp_region_later (by kernel_rfl) (by kernel_rfl) ?_
            repeat (go_big_quiet_step ((go_at_call 24; exact Later.calls (stands_val _ _ _ _ _ HC.out))))
            refine wpQuiet_nil ?_
            rintro ⟨w3, hb3⟩
            clear k0 k1 k2 q0
            dsimp only
            have HB3 := Lib.hid (HB2.out.trans (hb3.mono HB2.out.size))
            have HO3 := Lib.hid (own_below HO2.out hb3)
            have HK3 := Lib.hid (HK2.out.later hb3)
            clear hb3
            obtain ⟨hbw3, g0, g1⟩ := slP_at (HS.out.below HB3.out) HY.out
            have k0 := fun d => Later.cell (HK3.out.cell (i := 0) (v := .string x.key) rfl) HK3.out.lt d
            have k1 := fun d => Later.cell (HK3.out.cell (i := 1) (v := .string x.text) rfl) HK3.out.lt d
            have k2 := fun d => Later.cell (HK3.out.cell (i := 2) (v := .bool x.gone) rfl) HK3.out.lt d
            have q0 := fun d => Later.cell g0 hbw3 d
            clear g0 g1
            go_wp2
            refine wp_region_later (by kernel_rfl) (by kernel_rfl) ?_
            repeat (go_big_quiet_step ((go_at_call 24; exact Later.calls (stands_val _ _ _ _ _ HC.out))))
            refine wpQuiet_nil ?_
            rintro ⟨w4, hb4⟩
            clear k0 k1 k2 q0
            dsimp only
            have HB4 := Lib.hid (HB3.out.trans (hb4.mono HB3.out.size))
            have HO4 := Lib.hid (own_below HO3.out hb4)
            have HK4 := Lib.hid (HK3.out.later hb4)
            clear hb4
            have c0 := HK4.out.cell (i := 0) (v := .string x.key) rfl
            have c1 := HK4.out.cell (i := 1) (v := .string x.text) rfl
            have c2 := HK4.out.cell (i := 2) (v := .bool x.gone) rfl
            cases hg : x.gone with
            | true =>
              rw [hg] at c2
              go_wp2
              go_roundw
              case rel => exact ⟨p' + 1, q + 1, acc', by omega, by omega, by go_num, by go_num, by rw [← HE.out, emit, if_pos hg], by omega, HO4.out, HB4.out⟩
              case measure => simp [intOf]; omega
            | false =>
              rw [hg] at c2
              go_wp2_with (at_builtin; refine wpList_append_own _ rfl (.tmp 57) (.tmp 63) 30 rfl w.heap.size 55 i0 (.agg #[.string ⟨#[]⟩, .string ⟨#[]⟩]) 2 32 Try.underlying30 HI.out HZ0.out HZ1.out HZ2.out rfl (by decide) _ _ _ rfl (HO4.out.alloc _) ⟨w4.heap.size, 0, none⟩ 1 1 [.string x.key, .string x.text] rfl rfl ?b1 ?b2 ?b3 ?b4 ?b5 ?_)
              case b1 => exact new2 _ _ _ _ rfl
              case b2 => exact one2 _ _
              case b3 => unfold maxLen; omega
              case b4 => omega
              case b5 => have := HB4.out.size; simp at this ⊢; omega
              intro v5 w5 hown5 hg5 _
              have HB5 := Lib.hid ((HB4.out.alloc HB4.out.size _).grown hg5 (by have := HB4.out.size; simp; omega) (own_ge HO4.out))
              clear hg5
              go_wp2
              go_roundw
              case rel => exact ⟨p' + 1, q + 1, acc' ++ [x.pair], by omega, by omega, by go_num, by go_num, by rw [← HE.out, emit, if_neg (by rw [hg]; simp), List.append_assoc]; rfl, by rw [List.length_append, List.length_singleton]; omega, by rw [List.length_append, List.length_singleton, cP_append]; exact hown5, HB5.out⟩
              case measure => simp [intOf]; omega
          · have HC := Lib.hid (cmpK_lt hk)
            have HKL := Lib.hid hk; clear hk
            have HE := Lib.hid (show acc' ++ emit x (ov (xs.drop (p')) (ys.drop (q + 1))) = ov xs ys by rw [← HV2.out, drop_at HY.out, ov_gt _ _ _ _ (klt_asymm HKL.out) (klt_ne HKL.out).symm])
            go_wp2
            refine wp_region_later (by kernel_rfl) (by kernel_rfl) ?_
            repeat (go_big_quiet_step ((go_at_call 24; exact Later.calls (stands_val _ _ _ _ _ HC.out))))
            refine wpQuiet_nil ?_
            rintro ⟨w3, hb3⟩
            clear k0 k1 k2 q0
            dsimp only
            have HB3 := Lib.hid (HB2.out.trans (hb3.mono HB2.out.size))
            have HO3 := Lib.hid (own_below HO2.out hb3)
            have HK3 := Lib.hid (HK2.out.later hb3)
            clear hb3
            obtain ⟨hbw3, g0, g1⟩ := slP_at (HS.out.below HB3.out) HY.out
            have k0 := fun d => Later.cell (HK3.out.cell (i := 0) (v := .string x.key) rfl) HK3.out.lt d
            have k1 := fun d => Later.cell (HK3.out.cell (i := 1) (v := .string x.text) rfl) HK3.out.lt d
            have k2 := fun d => Later.cell (HK3.out.cell (i := 2) (v := .bool x.gone) rfl) HK3.out.lt d
            have q0 := fun d => Later.cell g0 hbw3 d
            clear g0 g1
            go_wp2
            refine wp_region_later (by kernel_rfl) (by kernel_rfl) ?_
            repeat (go_big_quiet_step ((go_at_call 24; exact Later.calls (stands_val _ _ _ _ _ HC.out))))
            refine wpQuiet_nil ?_
            rintro ⟨w4, hb4⟩
            clear k0 k1 k2 q0
            dsimp only
            have HB4 := Lib.hid (HB3.out.trans (hb4.mono HB3.out.size))
            have HO4 := Lib.hid (own_below HO3.out hb4)
            have HK4 := Lib.hid (HK3.out.later hb4)
            clear hb4
            have c0 := HK4.out.cell (i := 0) (v := .string x.key) rfl
            have c1 := HK4.out.cell (i := 1) (v := .string x.text) rfl
            have c2 := HK4.out.cell (i := 2) (v := .bool x.gone) rfl
            cases hg : x.gone with
            | true =>
              rw [hg] at c2
              go_wp2
              go_roundw
              case rel => exact ⟨p', q + 1, acc', by omega, by omega, by go_num, by go_num, by rw [← HE.out, emit, if_pos hg], by omega, HO4.out, HB4.out⟩
              case measure => simp [intOf]; omega
            | false =>
              rw [hg] at c2
              go_wp2_with (at_builtin; refine wpList_append_own _ rfl (.tmp 57) (.tmp 63) 30 rfl w.heap.size 55 i0 (.agg #[.string ⟨#[]⟩, .string ⟨#[]⟩]) 2 32 Try.underlying30 HI.out HZ0.out HZ1.out HZ2.out rfl (by decide) _ _ _ rfl (HO4.out.alloc _) ⟨w4.heap.size, 0, none⟩ 1 1 [.string x.key, .string x.text] rfl rfl ?c1 ?c2 ?c3 ?c4 ?c5 ?_)
              case c1 => exact new2 _ _ _ _ rfl
              case c2 => exact one2 _ _
              case c3 => unfold maxLen; omega
              case c4 => omega
              case c5 => have := HB4.out.size; simp at this ⊢; omega
              intro v5 w5 hown5 hg5 _
              have HB5 := Lib.hid ((HB4.out.alloc HB4.out.size _).grown hg5 (by have := HB4.out.size; simp; omega) (own_ge HO4.out))
              clear hg5
              go_wp2
              go_roundw
              case rel => exact ⟨p', q + 1, acc' ++ [x.pair], by omega, by omega, by go_num, by go_num, by rw [← HE.out, emit, if_neg (by rw [hg]; simp), List.append_assoc]; rfl, by rw [List.length_append, List.length_singleton]; omega, by rw [List.length_append, List.length_singleton, cP_append]; exact hown5, HB5.out⟩
              case measure => simp [intOf]; omega
        · obtain rfl : p' = n := by omega
          have hd0 : decide ((p' : Int) < (p' : Int)) = false := by simp
          have HE := Lib.hid (show acc' ++ emit x (ov [] (ys.drop (q + 1))) = ov xs ys by rw [← HV2.out, List.drop_of_length_le (l := xs) (by rw [hl.out]; exact Nat.le_refl _), ov_none])
          go_wp2
          refine wp_region_later (by kernel_rfl) (by kernel_rfl) ?_
          repeat (go_big_quiet_step ((fail)))
          refine wpQuiet_nil ?_
          rintro ⟨w3, hb3⟩
          dsimp only
          have HB3 := Lib.hid (HB2.out.trans (hb3.mono HB2.out.size))
          have HO3 := Lib.hid (own_below HO2.out hb3)
          have HK3 := Lib.hid (HK2.out.later hb3)
          clear hb3
          go_wp2
          refine wp_region_later (by kernel_rfl) (by kernel_rfl) ?_
          repeat (go_big_quiet_step ((fail)))
          refine wpQuiet_nil ?_
          rintro ⟨w4, hb4⟩
          clear hd0
          dsimp only
          have HB4 := Lib.hid (HB3.out.trans (hb4.mono HB3.out.size))
          have HO4 := Lib.hid (own_below HO3.out hb4)
          have HK4 := Lib.hid (HK3.out.later hb4)
          clear hb4
          have c0 := HK4.out.cell (i := 0) (v := .string x.key) rfl
          have c1 := HK4.out.cell (i := 1) (v := .string x.text) rfl
          have c2 := HK4.out.cell (i := 2) (v := .bool x.gone) rfl
          cases hg : x.gone with
          | true =>
            rw [hg] at c2
            go_wp2
            go_roundw
            case rel => exact ⟨p', q + 1, acc', by omega, by omega, by go_num, by go_num, by rw [List.drop_of_length_le (l := xs) (by rw [hl.out]; exact Nat.le_refl _), ← HE.out, emit, if_pos hg], by omega, HO4.out, HB4.out⟩
            case measure => simp [intOf]; omega
          | false =>
            rw [hg] at c2
            go_wp2_with (at_builtin; refine wpList_append_own _ rfl (.tmp 57) (.tmp 63) 30 rfl w.heap.size 55 i0 (.agg #[.string ⟨#[]⟩, .string ⟨#[]⟩]) 2 32 Try.underlying30 HI.out HZ0.out HZ1.out HZ2.out rfl (by decide) _ _ _ rfl (HO4.out.alloc _) ⟨w4.heap.size, 0, none⟩ 1 1 [.string x.key, .string x.text] rfl rfl ?e1 ?e2 ?e3 ?e4 ?e5 ?_)
            case e1 => exact new2 _ _ _ _ rfl
            case e2 => exact one2 _ _
            case e3 => unfold maxLen; omega
            case e4 => omega
            case e5 => have := HB4.out.size; simp at this ⊢; omega
            intro v5 w5 hown5 hg5 _
            have HB5 := Lib.hid ((HB4.out.alloc HB4.out.size _).grown hg5 (by have := HB4.out.size; simp; omega) (own_ge HO4.out))
            clear hg5
            go_wp2
            go_roundw
            case rel => exact ⟨p', q + 1, acc' ++ [x.pair], by omega, by omega, by go_num, by go_num, by rw [List.drop_of_length_le (l := xs) (by rw [hl.out]; exact Nat.le_refl _), ← HE.out, emit, if_neg (by rw [hg]; simp), List.append_assoc]; rfl, by rw [List.length_append, List.length_singleton]; omega, by rw [List.length_append, List.length_singleton, cP_append]; exact hown5, HB5.out⟩
            case measure => simp [intOf]; omega
    · obtain rfl : q = m := by omega
      have HE := Lib.hid (show acc ++ xs.drop p = ov xs ys by rw [← HV.out, List.drop_of_length_le (l := ys) (by rw [hl'.out]; exact Nat.le_refl _), ov_nil])
      have hD := (HS.out.below HB.out).drop hp
      rw [← cP_drop] at hD
      generalize hB : (if c = p then A else A.map (fun x => x.add (p * 2))) = B' at hD
      have HD := Lib.hid hD; clear hD
      have hpi : (0 : Int) ≤ (p : Int) := by omega
      have hpn : (p : Int) ≤ n := by omega
      go_wp2_with (at_builtin; refine wpList_append_sl _ rfl (.tmp 66) (.tmp 69) 30 rfl w.heap.size 55 i0 (.agg #[.string ⟨#[]⟩, .string ⟨#[]⟩]) 2 32 Try.underlying30 HI.out HZ0.out HZ1.out HZ2.out rfl (by decide) _ _ _ rfl HO.out _ _ _ (cP (xs.drop p)) rfl HD.out (one_cP _) ?e1 ?e2 ?e3 ?_)
      case e1 => unfold maxLen; omega
      case e2 => omega
      case e3 => exact HB.out.size
      intro v' w' hown hg
      have hb := HB.out.grown hg HB.out.size (own_ge HO.out)
      clear hB
      go_wp2
      go_ret
      refine ⟨v', rfl, ?_, hb⟩
      rw [← HE.out, cP_append, List.length_append, List.length_drop, hl.out]
      exact hown
end Go.Proofs.Ytmoihamobojkfaa
