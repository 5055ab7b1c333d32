/- The contracts as the laws take them: slices read as lists. -/
import Derived.Test.YtmoihamobojkfaaLater
namespace Go.Proofs.Ytmoihamobojkfaa
open Go.RowKit

theorem over_sl {A B : Option Addr} {n c m d : Nat} {xs : List P2} {ys : List W3} {w : World} (h : SlP w A n c xs) (h' : SlW w B m d ys) (hn : n ≤ 16384) (hm : m ≤ 16384) :
    Calls Try.prog 14 #[.slice A n c, .slice B m d] w fun e w' => ∃ A' n' c', e = .returned (.slice A' n' c') ∧ SlP w' A' n' c' (ov xs ys) ∧ Below w.heap.size w w' :=
  (over_any h h' hn hm).mono fun _ _ ⟨_, he, ho, hb⟩ => by
    obtain ⟨A', c', rfl, hs⟩ := Sl.of_own ho
    exact ⟨A', _, c', he, hs, hb⟩
theorem rover_sl {A B : Option Addr} {n c m d : Nat} {xs : List P2} {ys : List W3} {w : World} (h : SlP w A n c xs) (h' : SlW w B m d ys) (hn : n ≤ 16384) (hm : m ≤ 16384) :
    Calls Try.prog 18 #[.slice A n c, .slice B m d] w fun e w' => ∃ A' n' c', e = .returned (.slice A' n' c') ∧ SlP w' A' n' c' (rov xs ys) ∧ Below w.heap.size w w' :=
  (rover_any h h' hn hm).mono fun _ _ ⟨_, he, ho, hb⟩ => by
    obtain ⟨A', c', rfl, hs⟩ := Sl.of_own ho
    exact ⟨A', _, c', he, hs, hb⟩

end Go.Proofs.Ytmoihamobojkfaa
