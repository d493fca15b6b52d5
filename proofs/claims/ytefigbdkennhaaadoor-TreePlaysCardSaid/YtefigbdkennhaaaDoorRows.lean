/-
  NARROWER THAN 'FOR EVERY INPUT', by the rows' own cells (each row's printed sentence says how): TreeReaches: laid · TreeBelow: laid · TreeBack: laid · TreePlays: laid · TreeNil: laid · GraphAnyOrder: laid · GraphPassed: laid.
  DERIVED. THE GIVEN ROWS OF THIS SEAT. 7 by the template 'for every input the law returns true; each argument reads behind the call as it read before'; 0 by the template 'total and deterministic' (their statements: YtefigbdkennhaaaDoorTotals.lean).
  GIVEN WITH THE SEED: the statements are not yours to turn. If you find one false, say at which input.
  Laid BY PROGRAM, IN A SANDBOX (cutbox-rows.mjs): the forced cells as the released guide's own fill.sh prints them over the translation 41b98be657fe9fbb… (all of the seat's roots in one cut). By AI agents, Wed Nov 11 2026. No macro, syntax, notation, axiom, sorry.
-/
import Derived.Test.YtefigbdkennhaaaDoorChecked
import GoSem.Claim
import GoSem.ClaimJoined
import GoSem.ClaimMapViews
import Derived.JoinedTies
import Derived.KernelRfl
namespace Go.Proofs.YtefigbdkennhaaaDoor
/- THE CELL 'sum', in the pinned program and in every row, IS THE sha256 OF THE DUMP (.gsa) THAT YtefigbdkennhaaaDoorProg.lean LOADS. Nothing in Lean hashes anything: it is a label: what it is worth is what the hold of that sum in a sandbox is worth. -/
noncomputable def Tryd.pinned : Pinned := { name := "ytefigbdkennhaaadoor", sum := "41b98be657fe9fbb1f271100746cf42212fc71016aa7086d17c324db04e3df62", checked := Tryd.checked }
namespace Rows
def none {H : Type} : Left H := { results := [], args := [] }

/- WHAT THE LISTED PACKAGE-LEVEL VARIABLES READ AS WHEN THE CALL BEGINS. Each datum BY PROGRAM (the guide's laid-datum.mjs) off the statement by which the dump's own 'gosem.cut.vars' lays the variable. In a bare row this is a premise. The card (YtefigbdkennhaaaDoorCards.lean) ties it to the program's text. -/
def laid_diorama_op_root {H : Type} : DataW H := .agg [.lit (.int .i64 0), .lit (.int .i64 0)]
def laid_diorama_op_trash {H : Type} : DataW H := .agg [.lit (.int .i64 0), .lit (.int .i64 1)]

/-- 'dioramalaw10.TreeReaches': WHATEVER THE INPUT: true; the input reads as it did. -/
def treeReachesSpec : ChangeSpec := { name := "treeReaches", fn := fun _ => fun
  | [d] => { results := [.lit (.bool true)], args := [d] }
  | _ => none }
def treeReachesRow : OpenClaim := { program := "ytefigbdkennhaaadoor", sum := "41b98be657fe9fbb1f271100746cf42212fc71016aa7086d17c324db04e3df62", func := "diorama/dioramalaw10.TreeReaches", spec := "treeReaches", unfollowed := true, recurses := true, named := ["diorama/op.root", "diorama/op.trash"], plainKeys := false, apart := false, laid := [("diorama/op.root", laid_diorama_op_root), ("diorama/op.trash", laid_diorama_op_trash)] }
def TreeReachesSaid : Prop := treeReachesRow.holds Tryd.pinned (OpenSpec.ofChange treeReachesSpec)

/-- ITS FALSE NEIGHBOUR: 'it returns false'. Refute it at one input. -/
def treeReachesWrong : ChangeSpec := { name := "treeReaches", fn := fun _ => fun
  | [d] => { results := [.lit (.bool false)], args := [d] }
  | _ => none }
def TreeReachesWrongFalsely : Prop := treeReachesRow.holds Tryd.pinned (OpenSpec.ofChange treeReachesWrong)

/-- 'dioramalaw10.TreeBelow': WHATEVER THE INPUT: true; the input reads as it did. -/
def treeBelowSpec : ChangeSpec := { name := "treeBelow", fn := fun _ => fun
  | [d] => { results := [.lit (.bool true)], args := [d] }
  | _ => none }
def treeBelowRow : OpenClaim := { program := "ytefigbdkennhaaadoor", sum := "41b98be657fe9fbb1f271100746cf42212fc71016aa7086d17c324db04e3df62", func := "diorama/dioramalaw10.TreeBelow", spec := "treeBelow", unfollowed := true, recurses := true, named := ["diorama/op.root", "diorama/op.trash"], plainKeys := false, apart := false, laid := [("diorama/op.root", laid_diorama_op_root), ("diorama/op.trash", laid_diorama_op_trash)] }
def TreeBelowSaid : Prop := treeBelowRow.holds Tryd.pinned (OpenSpec.ofChange treeBelowSpec)

/-- ITS FALSE NEIGHBOUR: 'it returns false'. Refute it at one input. -/
def treeBelowWrong : ChangeSpec := { name := "treeBelow", fn := fun _ => fun
  | [d] => { results := [.lit (.bool false)], args := [d] }
  | _ => none }
def TreeBelowWrongFalsely : Prop := treeBelowRow.holds Tryd.pinned (OpenSpec.ofChange treeBelowWrong)

/-- 'dioramalaw10.TreeBack': WHATEVER THE INPUT: true; the input reads as it did. -/
def treeBackSpec : ChangeSpec := { name := "treeBack", fn := fun _ => fun
  | [d1, d2] => { results := [.lit (.bool true)], args := [d1, d2] }
  | _ => none }
def treeBackRow : OpenClaim := { program := "ytefigbdkennhaaadoor", sum := "41b98be657fe9fbb1f271100746cf42212fc71016aa7086d17c324db04e3df62", func := "diorama/dioramalaw10.TreeBack", spec := "treeBack", inPlace := ["maps.clone"], unfollowed := true, recurses := true, named := ["diorama/op.root", "diorama/op.trash"], plainKeys := false, apart := false, laid := [("diorama/op.root", laid_diorama_op_root), ("diorama/op.trash", laid_diorama_op_trash)] }
def TreeBackSaid : Prop := treeBackRow.holds Tryd.pinned (OpenSpec.ofChange treeBackSpec)

/-- ITS FALSE NEIGHBOUR: 'it returns false'. Refute it at one input. -/
def treeBackWrong : ChangeSpec := { name := "treeBack", fn := fun _ => fun
  | [d1, d2] => { results := [.lit (.bool false)], args := [d1, d2] }
  | _ => none }
def TreeBackWrongFalsely : Prop := treeBackRow.holds Tryd.pinned (OpenSpec.ofChange treeBackWrong)

/-- 'dioramalaw10.TreePlays': WHATEVER THE INPUT: true; the input reads as it did. -/
def treePlaysSpec : ChangeSpec := { name := "treePlays", fn := fun _ => fun
  | [d1, d2] => { results := [.lit (.bool true)], args := [d1, d2] }
  | _ => none }
def treePlaysRow : OpenClaim := { program := "ytefigbdkennhaaadoor", sum := "41b98be657fe9fbb1f271100746cf42212fc71016aa7086d17c324db04e3df62", func := "diorama/dioramalaw10.TreePlays", spec := "treePlays", inPlace := ["maps.clone"], unfollowed := true, recurses := true, named := ["diorama/op.root", "diorama/op.trash"], plainKeys := false, apart := false, laid := [("diorama/op.root", laid_diorama_op_root), ("diorama/op.trash", laid_diorama_op_trash)] }
def TreePlaysSaid : Prop := treePlaysRow.holds Tryd.pinned (OpenSpec.ofChange treePlaysSpec)

/-- ITS FALSE NEIGHBOUR: 'it returns false'. Refute it at one input. -/
def treePlaysWrong : ChangeSpec := { name := "treePlays", fn := fun _ => fun
  | [d1, d2] => { results := [.lit (.bool false)], args := [d1, d2] }
  | _ => none }
def TreePlaysWrongFalsely : Prop := treePlaysRow.holds Tryd.pinned (OpenSpec.ofChange treePlaysWrong)

/-- 'dioramalaw10.TreeNil': WHATEVER THE INPUT: true; the input reads as it did. -/
def treeNilSpec : ChangeSpec := { name := "treeNil", fn := fun _ => fun
  | [d] => { results := [.lit (.bool true)], args := [d] }
  | _ => none }
def treeNilRow : OpenClaim := { program := "ytefigbdkennhaaadoor", sum := "41b98be657fe9fbb1f271100746cf42212fc71016aa7086d17c324db04e3df62", func := "diorama/dioramalaw10.TreeNil", spec := "treeNil", inPlace := ["maps.clone"], unfollowed := true, recurses := true, named := ["diorama/op.root", "diorama/op.trash"], plainKeys := false, apart := false, laid := [("diorama/op.root", laid_diorama_op_root), ("diorama/op.trash", laid_diorama_op_trash)] }
def TreeNilSaid : Prop := treeNilRow.holds Tryd.pinned (OpenSpec.ofChange treeNilSpec)

/-- ITS FALSE NEIGHBOUR: 'it returns false'. Refute it at one input. -/
def treeNilWrong : ChangeSpec := { name := "treeNil", fn := fun _ => fun
  | [d] => { results := [.lit (.bool false)], args := [d] }
  | _ => none }
def TreeNilWrongFalsely : Prop := treeNilRow.holds Tryd.pinned (OpenSpec.ofChange treeNilWrong)

/-- 'dioramalaw13.GraphAnyOrder': WHATEVER THE INPUT: true; the input reads as it did. -/
def graphAnyOrderSpec : ChangeSpec := { name := "graphAnyOrder", fn := fun _ => fun
  | [d1, d2] => { results := [.lit (.bool true)], args := [d1, d2] }
  | _ => none }
def graphAnyOrderRow : OpenClaim := { program := "ytefigbdkennhaaadoor", sum := "41b98be657fe9fbb1f271100746cf42212fc71016aa7086d17c324db04e3df62", func := "diorama/dioramalaw13.GraphAnyOrder", spec := "graphAnyOrder", inPlace := ["slices.overlaps[diorama/graph.entry]"], unfollowed := true, recurses := true, named := ["diorama/op.root", "diorama/op.trash"], plainKeys := false, apart := false, laid := [("diorama/op.root", laid_diorama_op_root), ("diorama/op.trash", laid_diorama_op_trash)] }
def GraphAnyOrderSaid : Prop := graphAnyOrderRow.holds Tryd.pinned (OpenSpec.ofChange graphAnyOrderSpec)

/-- ITS FALSE NEIGHBOUR: 'it returns false'. Refute it at one input. -/
def graphAnyOrderWrong : ChangeSpec := { name := "graphAnyOrder", fn := fun _ => fun
  | [d1, d2] => { results := [.lit (.bool false)], args := [d1, d2] }
  | _ => none }
def GraphAnyOrderWrongFalsely : Prop := graphAnyOrderRow.holds Tryd.pinned (OpenSpec.ofChange graphAnyOrderWrong)

/-- 'dioramalaw13.GraphPassed': WHATEVER THE INPUT: true; the input reads as it did. -/
def graphPassedSpec : ChangeSpec := { name := "graphPassed", fn := fun _ => fun
  | [d1, d2] => { results := [.lit (.bool true)], args := [d1, d2] }
  | _ => none }
def graphPassedRow : OpenClaim := { program := "ytefigbdkennhaaadoor", sum := "41b98be657fe9fbb1f271100746cf42212fc71016aa7086d17c324db04e3df62", func := "diorama/dioramalaw13.GraphPassed", spec := "graphPassed", inPlace := ["slices.overlaps[diorama/graph.entry]", "maps.clone"], unfollowed := true, recurses := true, named := ["diorama/op.root", "diorama/op.trash"], plainKeys := false, apart := false, laid := [("diorama/op.root", laid_diorama_op_root), ("diorama/op.trash", laid_diorama_op_trash)] }
def GraphPassedSaid : Prop := graphPassedRow.holds Tryd.pinned (OpenSpec.ofChange graphPassedSpec)

/-- ITS FALSE NEIGHBOUR: 'it returns false'. Refute it at one input. -/
def graphPassedWrong : ChangeSpec := { name := "graphPassed", fn := fun _ => fun
  | [d1, d2] => { results := [.lit (.bool false)], args := [d1, d2] }
  | _ => none }
def GraphPassedWrongFalsely : Prop := graphPassedRow.holds Tryd.pinned (OpenSpec.ofChange graphPassedWrong)

/- THE SECOND FORM. 'bulk': how many values and letters a reading holds, each counted each time it is reached (what is shared counts as often as it is met; a slice's spare places count too). A statement '..UptoSaid' is the law's where the arguments, and the package variables that the reading takes, are together of bulk at most 1048576: NARROWER than '..Said'. Prove '..Said' where nothing that the law and all that it calls make is longer than what came in: it says more and counts as full. Else prove '..UptoSaid'. A law counts once. -/
mutual
def uptoBulk {H : Type} : DataW H → Nat
  | .lit (.string bytes) => bytes.length + 1
  | .lit _ => 1
  | .nil => 1
  | .ptr d => uptoBulk d + 1
  | .slice elems spare => uptoBulkAll elems + uptoBulkAll spare + 1
  | .agg parts => uptoBulkAll parts + 1
  | .iface _ d => uptoBulk d + 1
  | .map entries => uptoBulkEntries entries + 1
  | .held _ => 1
def uptoBulkAll {H : Type} : List (DataW H) → Nat
  | [] => 0
  | d :: r => uptoBulk d + uptoBulkAll r
def uptoBulkEntries {H : Type} : List (Lit × DataW H) → Nat
  | [] => 0
  | x :: r => uptoBulkEntry x + uptoBulkEntries r
def uptoBulkEntry {H : Type} : Lit × DataW H → Nat
  | (.string bytes, d) => bytes.length + uptoBulk d + 1
  | (_, d) => uptoBulk d + 1
 end
def uptoSmall : (H : Type) → List (DataW H) → Bool := fun _ ds => decide (uptoBulkAll ds ≤ 1048576)
def OpenSpec.upto (s : _root_.Go.ChangeSpec) : _root_.Go.OpenSpec := { _root_.Go.OpenSpec.ofChange s with cond := some uptoSmall }

/-- 'dioramalaw10.TreeReaches', WHERE WHAT IT READS IS OF BULK AT MOST 1048576: true; the input reads as it did. -/
def treeReachesUptoRow : OpenClaim := { program := "ytefigbdkennhaaadoor", sum := "41b98be657fe9fbb1f271100746cf42212fc71016aa7086d17c324db04e3df62", func := "diorama/dioramalaw10.TreeReaches", spec := "treeReaches", unfollowed := true, recurses := true, named := ["diorama/op.root", "diorama/op.trash"], plainKeys := false, apart := false, laid := [("diorama/op.root", laid_diorama_op_root), ("diorama/op.trash", laid_diorama_op_trash)], narrowed := true }
def TreeReachesUptoSaid : Prop := treeReachesUptoRow.holds Tryd.pinned (OpenSpec.upto treeReachesSpec)

/-- 'dioramalaw10.TreeBelow', WHERE WHAT IT READS IS OF BULK AT MOST 1048576: true; the input reads as it did. -/
def treeBelowUptoRow : OpenClaim := { program := "ytefigbdkennhaaadoor", sum := "41b98be657fe9fbb1f271100746cf42212fc71016aa7086d17c324db04e3df62", func := "diorama/dioramalaw10.TreeBelow", spec := "treeBelow", unfollowed := true, recurses := true, named := ["diorama/op.root", "diorama/op.trash"], plainKeys := false, apart := false, laid := [("diorama/op.root", laid_diorama_op_root), ("diorama/op.trash", laid_diorama_op_trash)], narrowed := true }
def TreeBelowUptoSaid : Prop := treeBelowUptoRow.holds Tryd.pinned (OpenSpec.upto treeBelowSpec)

/-- 'dioramalaw10.TreeBack', WHERE WHAT IT READS IS OF BULK AT MOST 1048576: true; the input reads as it did. -/
def treeBackUptoRow : OpenClaim := { program := "ytefigbdkennhaaadoor", sum := "41b98be657fe9fbb1f271100746cf42212fc71016aa7086d17c324db04e3df62", func := "diorama/dioramalaw10.TreeBack", spec := "treeBack", inPlace := ["maps.clone"], unfollowed := true, recurses := true, named := ["diorama/op.root", "diorama/op.trash"], plainKeys := false, apart := false, laid := [("diorama/op.root", laid_diorama_op_root), ("diorama/op.trash", laid_diorama_op_trash)], narrowed := true }
def TreeBackUptoSaid : Prop := treeBackUptoRow.holds Tryd.pinned (OpenSpec.upto treeBackSpec)

/-- 'dioramalaw10.TreePlays', WHERE WHAT IT READS IS OF BULK AT MOST 1048576: true; the input reads as it did. -/
def treePlaysUptoRow : OpenClaim := { program := "ytefigbdkennhaaadoor", sum := "41b98be657fe9fbb1f271100746cf42212fc71016aa7086d17c324db04e3df62", func := "diorama/dioramalaw10.TreePlays", spec := "treePlays", inPlace := ["maps.clone"], unfollowed := true, recurses := true, named := ["diorama/op.root", "diorama/op.trash"], plainKeys := false, apart := false, laid := [("diorama/op.root", laid_diorama_op_root), ("diorama/op.trash", laid_diorama_op_trash)], narrowed := true }
def TreePlaysUptoSaid : Prop := treePlaysUptoRow.holds Tryd.pinned (OpenSpec.upto treePlaysSpec)

/-- 'dioramalaw10.TreeNil', WHERE WHAT IT READS IS OF BULK AT MOST 1048576: true; the input reads as it did. -/
def treeNilUptoRow : OpenClaim := { program := "ytefigbdkennhaaadoor", sum := "41b98be657fe9fbb1f271100746cf42212fc71016aa7086d17c324db04e3df62", func := "diorama/dioramalaw10.TreeNil", spec := "treeNil", inPlace := ["maps.clone"], unfollowed := true, recurses := true, named := ["diorama/op.root", "diorama/op.trash"], plainKeys := false, apart := false, laid := [("diorama/op.root", laid_diorama_op_root), ("diorama/op.trash", laid_diorama_op_trash)], narrowed := true }
def TreeNilUptoSaid : Prop := treeNilUptoRow.holds Tryd.pinned (OpenSpec.upto treeNilSpec)

/-- 'dioramalaw13.GraphAnyOrder', WHERE WHAT IT READS IS OF BULK AT MOST 1048576: true; the input reads as it did. -/
def graphAnyOrderUptoRow : OpenClaim := { program := "ytefigbdkennhaaadoor", sum := "41b98be657fe9fbb1f271100746cf42212fc71016aa7086d17c324db04e3df62", func := "diorama/dioramalaw13.GraphAnyOrder", spec := "graphAnyOrder", inPlace := ["slices.overlaps[diorama/graph.entry]"], unfollowed := true, recurses := true, named := ["diorama/op.root", "diorama/op.trash"], plainKeys := false, apart := false, laid := [("diorama/op.root", laid_diorama_op_root), ("diorama/op.trash", laid_diorama_op_trash)], narrowed := true }
def GraphAnyOrderUptoSaid : Prop := graphAnyOrderUptoRow.holds Tryd.pinned (OpenSpec.upto graphAnyOrderSpec)

/-- 'dioramalaw13.GraphPassed', WHERE WHAT IT READS IS OF BULK AT MOST 1048576: true; the input reads as it did. -/
def graphPassedUptoRow : OpenClaim := { program := "ytefigbdkennhaaadoor", sum := "41b98be657fe9fbb1f271100746cf42212fc71016aa7086d17c324db04e3df62", func := "diorama/dioramalaw13.GraphPassed", spec := "graphPassed", inPlace := ["slices.overlaps[diorama/graph.entry]", "maps.clone"], unfollowed := true, recurses := true, named := ["diorama/op.root", "diorama/op.trash"], plainKeys := false, apart := false, laid := [("diorama/op.root", laid_diorama_op_root), ("diorama/op.trash", laid_diorama_op_trash)], narrowed := true }
def GraphPassedUptoSaid : Prop := graphPassedUptoRow.holds Tryd.pinned (OpenSpec.upto graphPassedSpec)

end Rows
end Go.Proofs.YtefigbdkennhaaaDoor
