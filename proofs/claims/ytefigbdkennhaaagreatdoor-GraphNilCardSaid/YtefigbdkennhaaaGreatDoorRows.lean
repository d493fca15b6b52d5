/-
  NARROWER THAN 'FOR EVERY INPUT', by the rows' own cells (each row's printed sentence says how): OrderTrees: laid · GraphNoRing: laid · GraphPlays: laid · GraphNil: laid.
  DERIVED. THE GIVEN ROWS OF THIS SEAT. 4 by the template 'for every input the law returns true; each argument reads behind the call as it read before'; 0 by the template 'total and deterministic' (their statements: YtefigbdkennhaaaGreatDoorTotals.lean).
  GIVEN WITH THE SEED: the statements are not yours to turn. If you find one false, say at which input.
  Laid BY PROGRAM, IN A SANDBOX (cutbox-rows.mjs): the forced cells as the released guide's own fill.sh prints them over the translation a70c35ded6b7bd64… (all of the seat's roots in one cut). By AI agents, Wed Nov 11 2026. No macro, syntax, notation, axiom, sorry.
-/
import Derived.Test.YtefigbdkennhaaaGreatDoorChecked
import GoSem.Claim
import GoSem.ClaimJoined
import GoSem.ClaimMapViews
import Derived.JoinedTies
import Derived.KernelRfl
namespace Go.Proofs.YtefigbdkennhaaaGreatDoor
/- THE CELL 'sum', in the pinned program and in every row, IS THE sha256 OF THE DUMP (.gsa) THAT YtefigbdkennhaaaGreatDoorProg.lean LOADS. Nothing in Lean hashes anything: it is a label: what it is worth is what the hold of that sum in a sandbox is worth. -/
noncomputable def Tryz.pinned : Pinned := { name := "ytefigbdkennhaaagreatdoor", sum := "a70c35ded6b7bd64091f5b742d5e5c8996f242ded2b8d092e2a22437772c3d4c", checked := Tryz.checked }
namespace Rows
def none {H : Type} : Left H := { results := [], args := [] }

/- WHAT THE LISTED PACKAGE-LEVEL VARIABLES READ AS WHEN THE CALL BEGINS. Each datum BY PROGRAM (the guide's laid-datum.mjs) off the statement by which the dump's own 'gosem.cut.vars' lays the variable. In a bare row this is a premise. The card (YtefigbdkennhaaaGreatDoorCards.lean) ties it to the program's text. -/
def laid_diorama_op_root {H : Type} : DataW H := .agg [.lit (.int .i64 0), .lit (.int .i64 0)]
def laid_diorama_op_trash {H : Type} : DataW H := .agg [.lit (.int .i64 0), .lit (.int .i64 1)]

/-- 'dioramalaw11.OrderTrees': WHATEVER THE INPUT: true; the input reads as it did. -/
def orderTreesSpec : ChangeSpec := { name := "orderTrees", fn := fun _ => fun
  | [d1, d2] => { results := [.lit (.bool true)], args := [d1, d2] }
  | _ => none }
def orderTreesRow : OpenClaim := { program := "ytefigbdkennhaaagreatdoor", sum := "a70c35ded6b7bd64091f5b742d5e5c8996f242ded2b8d092e2a22437772c3d4c", func := "diorama/dioramalaw11.OrderTrees", spec := "orderTrees", inPlace := ["internal/bytealg.abigen_runtime_cmpstring"], unfollowed := true, recurses := true, named := ["diorama/op.root", "diorama/op.trash"], plainKeys := false, apart := false, laid := [("diorama/op.root", laid_diorama_op_root), ("diorama/op.trash", laid_diorama_op_trash)] }
def OrderTreesSaid : Prop := orderTreesRow.holds Tryz.pinned (OpenSpec.ofChange orderTreesSpec)

/-- ITS FALSE NEIGHBOUR: 'it returns false'. Refute it at one input. -/
def orderTreesWrong : ChangeSpec := { name := "orderTrees", fn := fun _ => fun
  | [d1, d2] => { results := [.lit (.bool false)], args := [d1, d2] }
  | _ => none }
def OrderTreesWrongFalsely : Prop := orderTreesRow.holds Tryz.pinned (OpenSpec.ofChange orderTreesWrong)

/-- 'dioramalaw13.GraphNoRing': WHATEVER THE INPUT: true; the input reads as it did. -/
def graphNoRingSpec : ChangeSpec := { name := "graphNoRing", fn := fun _ => fun
  | [d] => { results := [.lit (.bool true)], args := [d] }
  | _ => none }
def graphNoRingRow : OpenClaim := { program := "ytefigbdkennhaaagreatdoor", sum := "a70c35ded6b7bd64091f5b742d5e5c8996f242ded2b8d092e2a22437772c3d4c", func := "diorama/dioramalaw13.GraphNoRing", spec := "graphNoRing", inPlace := ["slices.overlaps[diorama/graph.entry]", "internal/bytealg.abigen_runtime_cmpstring"], unfollowed := true, recurses := true, named := ["diorama/op.root", "diorama/op.trash"], plainKeys := false, apart := false, laid := [("diorama/op.root", laid_diorama_op_root), ("diorama/op.trash", laid_diorama_op_trash)] }
def GraphNoRingSaid : Prop := graphNoRingRow.holds Tryz.pinned (OpenSpec.ofChange graphNoRingSpec)

/-- ITS FALSE NEIGHBOUR: 'it returns false'. Refute it at one input. -/
def graphNoRingWrong : ChangeSpec := { name := "graphNoRing", fn := fun _ => fun
  | [d] => { results := [.lit (.bool false)], args := [d] }
  | _ => none }
def GraphNoRingWrongFalsely : Prop := graphNoRingRow.holds Tryz.pinned (OpenSpec.ofChange graphNoRingWrong)

/-- 'dioramalaw13.GraphPlays': WHATEVER THE INPUT: true; the input reads as it did. -/
def graphPlaysSpec : ChangeSpec := { name := "graphPlays", fn := fun _ => fun
  | [d1, d2] => { results := [.lit (.bool true)], args := [d1, d2] }
  | _ => none }
def graphPlaysRow : OpenClaim := { program := "ytefigbdkennhaaagreatdoor", sum := "a70c35ded6b7bd64091f5b742d5e5c8996f242ded2b8d092e2a22437772c3d4c", func := "diorama/dioramalaw13.GraphPlays", spec := "graphPlays", inPlace := ["slices.overlaps[diorama/graph.entry]", "maps.clone", "internal/bytealg.abigen_runtime_cmpstring"], unfollowed := true, recurses := true, named := ["diorama/op.root", "diorama/op.trash"], plainKeys := false, apart := false, laid := [("diorama/op.root", laid_diorama_op_root), ("diorama/op.trash", laid_diorama_op_trash)] }
def GraphPlaysSaid : Prop := graphPlaysRow.holds Tryz.pinned (OpenSpec.ofChange graphPlaysSpec)

/-- ITS FALSE NEIGHBOUR: 'it returns false'. Refute it at one input. -/
def graphPlaysWrong : ChangeSpec := { name := "graphPlays", fn := fun _ => fun
  | [d1, d2] => { results := [.lit (.bool false)], args := [d1, d2] }
  | _ => none }
def GraphPlaysWrongFalsely : Prop := graphPlaysRow.holds Tryz.pinned (OpenSpec.ofChange graphPlaysWrong)

/-- 'dioramalaw13.GraphNil': WHATEVER THE INPUT: true; the input reads as it did. -/
def graphNilSpec : ChangeSpec := { name := "graphNil", fn := fun _ => fun
  | [d] => { results := [.lit (.bool true)], args := [d] }
  | _ => none }
def graphNilRow : OpenClaim := { program := "ytefigbdkennhaaagreatdoor", sum := "a70c35ded6b7bd64091f5b742d5e5c8996f242ded2b8d092e2a22437772c3d4c", func := "diorama/dioramalaw13.GraphNil", spec := "graphNil", inPlace := ["slices.overlaps[diorama/graph.entry]", "internal/bytealg.abigen_runtime_cmpstring", "maps.clone"], unfollowed := true, recurses := true, named := ["diorama/op.root", "diorama/op.trash"], plainKeys := false, apart := false, laid := [("diorama/op.root", laid_diorama_op_root), ("diorama/op.trash", laid_diorama_op_trash)] }
def GraphNilSaid : Prop := graphNilRow.holds Tryz.pinned (OpenSpec.ofChange graphNilSpec)

/-- ITS FALSE NEIGHBOUR: 'it returns false'. Refute it at one input. -/
def graphNilWrong : ChangeSpec := { name := "graphNil", fn := fun _ => fun
  | [d] => { results := [.lit (.bool false)], args := [d] }
  | _ => none }
def GraphNilWrongFalsely : Prop := graphNilRow.holds Tryz.pinned (OpenSpec.ofChange graphNilWrong)

/- THE SECOND FORM. 'bulk': how many values and letters a reading holds, each counted each time it is reached (what is shared counts as often as it is met; a slice's spare places count too). A statement '..UptoSaid' is the law's where the arguments, and the package variables that the reading takes, are together of bulk at most 1048576: NARROWER than '..Said'. Prove '..Said' where nothing that the law and all that it calls make is longer than what came in: it says more and counts as full. Else prove '..UptoSaid'. A law counts once. -/
mutual
def uptoBulk {H : Type} : DataW H → Nat
  | .lit (.string bytes) => bytes.length + 1
  | .lit _ => 1
  | .nil => 1
  | .ptr d => uptoBulk d + 1
  | .slice elems spare => uptoBulkAll elems + uptoBulkAll spare + 1
  | .agg parts => uptoBulkAll parts + 1
  | .iface _ d => uptoBulk d + 1
  | .map entries => uptoBulkEntries entries + 1
  | .held _ => 1
def uptoBulkAll {H : Type} : List (DataW H) → Nat
  | [] => 0
  | d :: r => uptoBulk d + uptoBulkAll r
def uptoBulkEntries {H : Type} : List (Lit × DataW H) → Nat
  | [] => 0
  | x :: r => uptoBulkEntry x + uptoBulkEntries r
def uptoBulkEntry {H : Type} : Lit × DataW H → Nat
  | (.string bytes, d) => bytes.length + uptoBulk d + 1
  | (_, d) => uptoBulk d + 1
 end
def uptoSmall : (H : Type) → List (DataW H) → Bool := fun _ ds => decide (uptoBulkAll ds ≤ 1048576)
def OpenSpec.upto (s : _root_.Go.ChangeSpec) : _root_.Go.OpenSpec := { _root_.Go.OpenSpec.ofChange s with cond := some uptoSmall }

/-- 'dioramalaw11.OrderTrees', WHERE WHAT IT READS IS OF BULK AT MOST 1048576: true; the input reads as it did. -/
def orderTreesUptoRow : OpenClaim := { program := "ytefigbdkennhaaagreatdoor", sum := "a70c35ded6b7bd64091f5b742d5e5c8996f242ded2b8d092e2a22437772c3d4c", func := "diorama/dioramalaw11.OrderTrees", spec := "orderTrees", inPlace := ["internal/bytealg.abigen_runtime_cmpstring"], unfollowed := true, recurses := true, named := ["diorama/op.root", "diorama/op.trash"], plainKeys := false, apart := false, laid := [("diorama/op.root", laid_diorama_op_root), ("diorama/op.trash", laid_diorama_op_trash)], narrowed := true }
def OrderTreesUptoSaid : Prop := orderTreesUptoRow.holds Tryz.pinned (OpenSpec.upto orderTreesSpec)

/-- 'dioramalaw13.GraphNoRing', WHERE WHAT IT READS IS OF BULK AT MOST 1048576: true; the input reads as it did. -/
def graphNoRingUptoRow : OpenClaim := { program := "ytefigbdkennhaaagreatdoor", sum := "a70c35ded6b7bd64091f5b742d5e5c8996f242ded2b8d092e2a22437772c3d4c", func := "diorama/dioramalaw13.GraphNoRing", spec := "graphNoRing", inPlace := ["slices.overlaps[diorama/graph.entry]", "internal/bytealg.abigen_runtime_cmpstring"], unfollowed := true, recurses := true, named := ["diorama/op.root", "diorama/op.trash"], plainKeys := false, apart := false, laid := [("diorama/op.root", laid_diorama_op_root), ("diorama/op.trash", laid_diorama_op_trash)], narrowed := true }
def GraphNoRingUptoSaid : Prop := graphNoRingUptoRow.holds Tryz.pinned (OpenSpec.upto graphNoRingSpec)

/-- 'dioramalaw13.GraphPlays', WHERE WHAT IT READS IS OF BULK AT MOST 1048576: true; the input reads as it did. -/
def graphPlaysUptoRow : OpenClaim := { program := "ytefigbdkennhaaagreatdoor", sum := "a70c35ded6b7bd64091f5b742d5e5c8996f242ded2b8d092e2a22437772c3d4c", func := "diorama/dioramalaw13.GraphPlays", spec := "graphPlays", inPlace := ["slices.overlaps[diorama/graph.entry]", "maps.clone", "internal/bytealg.abigen_runtime_cmpstring"], unfollowed := true, recurses := true, named := ["diorama/op.root", "diorama/op.trash"], plainKeys := false, apart := false, laid := [("diorama/op.root", laid_diorama_op_root), ("diorama/op.trash", laid_diorama_op_trash)], narrowed := true }
def GraphPlaysUptoSaid : Prop := graphPlaysUptoRow.holds Tryz.pinned (OpenSpec.upto graphPlaysSpec)

/-- 'dioramalaw13.GraphNil', WHERE WHAT IT READS IS OF BULK AT MOST 1048576: true; the input reads as it did. -/
def graphNilUptoRow : OpenClaim := { program := "ytefigbdkennhaaagreatdoor", sum := "a70c35ded6b7bd64091f5b742d5e5c8996f242ded2b8d092e2a22437772c3d4c", func := "diorama/dioramalaw13.GraphNil", spec := "graphNil", inPlace := ["slices.overlaps[diorama/graph.entry]", "internal/bytealg.abigen_runtime_cmpstring", "maps.clone"], unfollowed := true, recurses := true, named := ["diorama/op.root", "diorama/op.trash"], plainKeys := false, apart := false, laid := [("diorama/op.root", laid_diorama_op_root), ("diorama/op.trash", laid_diorama_op_trash)], narrowed := true }
def GraphNilUptoSaid : Prop := graphNilUptoRow.holds Tryz.pinned (OpenSpec.upto graphNilSpec)

end Rows
end Go.Proofs.YtefigbdkennhaaaGreatDoor
