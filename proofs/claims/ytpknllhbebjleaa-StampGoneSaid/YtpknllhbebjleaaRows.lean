/-
  No cell of these rows narrows 'for every input' (looked for: loops, veiled, ifaces, maps, wideKeys, modest, calm, conditions, laid).
  DERIVED. THE GIVEN ROWS OF THIS SEAT. 5 by the template 'for every input the law returns true; each argument reads behind the call as it read before'; 0 by the template 'total and deterministic' (their statements: YtpknllhbebjleaaTotals.lean).
  GIVEN WITH THE SEED: the statements are not yours to turn. If you find one false, say at which input.
  Laid BY PROGRAM, IN A SANDBOX (cutbox-rows.mjs): the forced cells as the released guide's own fill.sh prints them over the translation fc82702119ad31b9… (all of the seat's roots in one cut). By AI agents, Wed Nov 11 2026. No macro, syntax, notation, axiom, sorry.
-/
import Derived.Test.YtpknllhbebjleaaChecked
import GoSem.Claim
import GoSem.ClaimJoined
import GoSem.ClaimMapViews
import Derived.JoinedTies
import Derived.KernelRfl
namespace Go.Proofs.Ytpknllhbebjleaa
/- THE CELL 'sum', in the pinned program and in every row, IS THE sha256 OF THE DUMP (.gsa) THAT YtpknllhbebjleaaProg.lean LOADS. Nothing in Lean hashes anything: it is a label: what it is worth is what the hold of that sum in a sandbox is worth. -/
noncomputable def Try.pinned : Pinned := { name := "ytpknllhbebjleaa", sum := "fc82702119ad31b9ccf15a9d3a9c762740e4f56c7a8e662a5758112215454e3d", checked := Try.checked }
namespace Rows
def none {H : Type} : Left H := { results := [], args := [] }

/-- 'stillroomlaw14.StampActs': WHATEVER THE INPUT: true; the input reads as it did. -/
def stampActsSpec : ChangeSpec := { name := "stampActs", fn := fun _ => fun
  | [d1, d2] => { results := [.lit (.bool true)], args := [d1, d2] }
  | _ => none }
def stampActsRow : OpenClaim := { program := "ytpknllhbebjleaa", sum := "fc82702119ad31b9ccf15a9d3a9c762740e4f56c7a8e662a5758112215454e3d", func := "stillroom/stillroomlaw14.StampActs", spec := "stampActs", unfollowed := true, recurses := true, apart := false }
def StampActsSaid : Prop := stampActsRow.holds Try.pinned (OpenSpec.ofChange stampActsSpec)

/-- ITS FALSE NEIGHBOUR: 'it returns false'. Refute it at one input. -/
def stampActsWrong : ChangeSpec := { name := "stampActs", fn := fun _ => fun
  | [d1, d2] => { results := [.lit (.bool false)], args := [d1, d2] }
  | _ => none }
def StampActsWrongFalsely : Prop := stampActsRow.holds Try.pinned (OpenSpec.ofChange stampActsWrong)

/-- 'stillroomlaw14.StampLeast': WHATEVER THE INPUT: true; the input reads as it did. -/
def stampLeastSpec : ChangeSpec := { name := "stampLeast", fn := fun _ => fun
  | [d] => { results := [.lit (.bool true)], args := [d] }
  | _ => none }
def stampLeastRow : OpenClaim := { program := "ytpknllhbebjleaa", sum := "fc82702119ad31b9ccf15a9d3a9c762740e4f56c7a8e662a5758112215454e3d", func := "stillroom/stillroomlaw14.StampLeast", spec := "stampLeast", unfollowed := true, recurses := true, apart := false }
def StampLeastSaid : Prop := stampLeastRow.holds Try.pinned (OpenSpec.ofChange stampLeastSpec)

/-- ITS FALSE NEIGHBOUR: 'it returns false'. Refute it at one input. -/
def stampLeastWrong : ChangeSpec := { name := "stampLeast", fn := fun _ => fun
  | [d] => { results := [.lit (.bool false)], args := [d] }
  | _ => none }
def StampLeastWrongFalsely : Prop := stampLeastRow.holds Try.pinned (OpenSpec.ofChange stampLeastWrong)

/-- 'stillroomlaw14.StampNobody': WHATEVER THE INPUT: true; the input reads as it did. -/
def stampNobodySpec : ChangeSpec := { name := "stampNobody", fn := fun _ => fun
  | [d1, d2] => { results := [.lit (.bool true)], args := [d1, d2] }
  | _ => none }
def stampNobodyRow : OpenClaim := { program := "ytpknllhbebjleaa", sum := "fc82702119ad31b9ccf15a9d3a9c762740e4f56c7a8e662a5758112215454e3d", func := "stillroom/stillroomlaw14.StampNobody", spec := "stampNobody", unfollowed := true, recurses := true, apart := false }
def StampNobodySaid : Prop := stampNobodyRow.holds Try.pinned (OpenSpec.ofChange stampNobodySpec)

/-- ITS FALSE NEIGHBOUR: 'it returns false'. Refute it at one input. -/
def stampNobodyWrong : ChangeSpec := { name := "stampNobody", fn := fun _ => fun
  | [d1, d2] => { results := [.lit (.bool false)], args := [d1, d2] }
  | _ => none }
def StampNobodyWrongFalsely : Prop := stampNobodyRow.holds Try.pinned (OpenSpec.ofChange stampNobodyWrong)

/-- 'stillroomlaw14.StampNumbers': WHATEVER THE INPUT: true; the input reads as it did. -/
def stampNumbersSpec : ChangeSpec := { name := "stampNumbers", fn := fun _ => fun
  | [d] => { results := [.lit (.bool true)], args := [d] }
  | _ => none }
def stampNumbersRow : OpenClaim := { program := "ytpknllhbebjleaa", sum := "fc82702119ad31b9ccf15a9d3a9c762740e4f56c7a8e662a5758112215454e3d", func := "stillroom/stillroomlaw14.StampNumbers", spec := "stampNumbers", unfollowed := true, recurses := true, apart := false }
def StampNumbersSaid : Prop := stampNumbersRow.holds Try.pinned (OpenSpec.ofChange stampNumbersSpec)

/-- ITS FALSE NEIGHBOUR: 'it returns false'. Refute it at one input. -/
def stampNumbersWrong : ChangeSpec := { name := "stampNumbers", fn := fun _ => fun
  | [d] => { results := [.lit (.bool false)], args := [d] }
  | _ => none }
def StampNumbersWrongFalsely : Prop := stampNumbersRow.holds Try.pinned (OpenSpec.ofChange stampNumbersWrong)

/-- 'stillroomlaw14.StampGone': WHATEVER THE INPUT: true; the input reads as it did. -/
def stampGoneSpec : ChangeSpec := { name := "stampGone", fn := fun _ => fun
  | [d1, d2, d3] => { results := [.lit (.bool true)], args := [d1, d2, d3] }
  | _ => none }
def stampGoneRow : OpenClaim := { program := "ytpknllhbebjleaa", sum := "fc82702119ad31b9ccf15a9d3a9c762740e4f56c7a8e662a5758112215454e3d", func := "stillroom/stillroomlaw14.StampGone", spec := "stampGone", unfollowed := true, recurses := true, apart := false }
def StampGoneSaid : Prop := stampGoneRow.holds Try.pinned (OpenSpec.ofChange stampGoneSpec)

/-- ITS FALSE NEIGHBOUR: 'it returns false'. Refute it at one input. -/
def stampGoneWrong : ChangeSpec := { name := "stampGone", fn := fun _ => fun
  | [d1, d2, d3] => { results := [.lit (.bool false)], args := [d1, d2, d3] }
  | _ => none }
def StampGoneWrongFalsely : Prop := stampGoneRow.holds Try.pinned (OpenSpec.ofChange stampGoneWrong)

/- THE SECOND FORM. 'bulk': how many values and letters a reading holds, each counted each time it is reached (what is shared counts as often as it is met; a slice's spare places count too). A statement '..UptoSaid' is the law's where the arguments, and the package variables that the reading takes, are together of bulk at most 1048576: NARROWER than '..Said'. Prove '..Said' where nothing that the law and all that it calls make is longer than what came in: it says more and counts as full. Else prove '..UptoSaid'. A law counts once. -/
mutual
def uptoBulk {H : Type} : DataW H → Nat
  | .lit (.string bytes) => bytes.length + 1
  | .lit _ => 1
  | .nil => 1
  | .ptr d => uptoBulk d + 1
  | .slice elems spare => uptoBulkAll elems + uptoBulkAll spare + 1
  | .agg parts => uptoBulkAll parts + 1
  | .iface _ d => uptoBulk d + 1
  | .map entries => uptoBulkEntries entries + 1
  | .held _ => 1
def uptoBulkAll {H : Type} : List (DataW H) → Nat
  | [] => 0
  | d :: r => uptoBulk d + uptoBulkAll r
def uptoBulkEntries {H : Type} : List (Lit × DataW H) → Nat
  | [] => 0
  | x :: r => uptoBulkEntry x + uptoBulkEntries r
def uptoBulkEntry {H : Type} : Lit × DataW H → Nat
  | (.string bytes, d) => bytes.length + uptoBulk d + 1
  | (_, d) => uptoBulk d + 1
 end
def uptoSmall : (H : Type) → List (DataW H) → Bool := fun _ ds => decide (uptoBulkAll ds ≤ 1048576)
def OpenSpec.upto (s : _root_.Go.ChangeSpec) : _root_.Go.OpenSpec := { _root_.Go.OpenSpec.ofChange s with cond := some uptoSmall }

/-- 'stillroomlaw14.StampActs', WHERE WHAT IT READS IS OF BULK AT MOST 1048576: true; the input reads as it did. -/
def stampActsUptoRow : OpenClaim := { program := "ytpknllhbebjleaa", sum := "fc82702119ad31b9ccf15a9d3a9c762740e4f56c7a8e662a5758112215454e3d", func := "stillroom/stillroomlaw14.StampActs", spec := "stampActs", unfollowed := true, recurses := true, apart := false, narrowed := true }
def StampActsUptoSaid : Prop := stampActsUptoRow.holds Try.pinned (OpenSpec.upto stampActsSpec)

/-- 'stillroomlaw14.StampLeast', WHERE WHAT IT READS IS OF BULK AT MOST 1048576: true; the input reads as it did. -/
def stampLeastUptoRow : OpenClaim := { program := "ytpknllhbebjleaa", sum := "fc82702119ad31b9ccf15a9d3a9c762740e4f56c7a8e662a5758112215454e3d", func := "stillroom/stillroomlaw14.StampLeast", spec := "stampLeast", unfollowed := true, recurses := true, apart := false, narrowed := true }
def StampLeastUptoSaid : Prop := stampLeastUptoRow.holds Try.pinned (OpenSpec.upto stampLeastSpec)

/-- 'stillroomlaw14.StampNobody', WHERE WHAT IT READS IS OF BULK AT MOST 1048576: true; the input reads as it did. -/
def stampNobodyUptoRow : OpenClaim := { program := "ytpknllhbebjleaa", sum := "fc82702119ad31b9ccf15a9d3a9c762740e4f56c7a8e662a5758112215454e3d", func := "stillroom/stillroomlaw14.StampNobody", spec := "stampNobody", unfollowed := true, recurses := true, apart := false, narrowed := true }
def StampNobodyUptoSaid : Prop := stampNobodyUptoRow.holds Try.pinned (OpenSpec.upto stampNobodySpec)

/-- 'stillroomlaw14.StampNumbers', WHERE WHAT IT READS IS OF BULK AT MOST 1048576: true; the input reads as it did. -/
def stampNumbersUptoRow : OpenClaim := { program := "ytpknllhbebjleaa", sum := "fc82702119ad31b9ccf15a9d3a9c762740e4f56c7a8e662a5758112215454e3d", func := "stillroom/stillroomlaw14.StampNumbers", spec := "stampNumbers", unfollowed := true, recurses := true, apart := false, narrowed := true }
def StampNumbersUptoSaid : Prop := stampNumbersUptoRow.holds Try.pinned (OpenSpec.upto stampNumbersSpec)

/-- 'stillroomlaw14.StampGone', WHERE WHAT IT READS IS OF BULK AT MOST 1048576: true; the input reads as it did. -/
def stampGoneUptoRow : OpenClaim := { program := "ytpknllhbebjleaa", sum := "fc82702119ad31b9ccf15a9d3a9c762740e4f56c7a8e662a5758112215454e3d", func := "stillroom/stillroomlaw14.StampGone", spec := "stampGone", unfollowed := true, recurses := true, apart := false, narrowed := true }
def StampGoneUptoSaid : Prop := stampGoneUptoRow.holds Try.pinned (OpenSpec.upto stampGoneSpec)

end Rows
end Go.Proofs.Ytpknllhbebjleaa
