/-
  No cell of these rows narrows 'for every input' (looked for: loops, veiled, ifaces, maps, wideKeys, modest, calm, conditions, laid).
  DERIVED. THE GIVEN ROWS OF THIS SEAT. 6 by the template 'for every input the law returns true; each argument reads behind the call as it read before'; 0 by the template 'total and deterministic' (their statements: YtpkflnohagieiaaTotals.lean).
  GIVEN WITH THE SEED: the statements are not yours to turn. If you find one false, say at which input.
  Laid BY PROGRAM, IN A SANDBOX (cutbox-rows.mjs): the forced cells as the released guide's own fill.sh prints them over the translation 919760c7270db99b… (all of the seat's roots in one cut). By AI agents, Wed Nov 11 2026. No macro, syntax, notation, axiom, sorry.
-/
import Derived.Test.YtpkflnohagieiaaChecked
import GoSem.Claim
import GoSem.ClaimJoined
import GoSem.ClaimMapViews
import Derived.JoinedTies
import Derived.KernelRfl
namespace Go.Proofs.Ytpkflnohagieiaa
/- THE CELL 'sum', in the pinned program and in every row, IS THE sha256 OF THE DUMP (.gsa) THAT YtpkflnohagieiaaProg.lean LOADS. Nothing in Lean hashes anything: it is a label: what it is worth is what the hold of that sum in a sandbox is worth. -/
noncomputable def Try.pinned : Pinned := { name := "ytpkflnohagieiaa", sum := "919760c7270db99b8b7d7e06f1d7890271042df1473f82774ea1a74bf49a3cfa", checked := Try.checked }
namespace Rows
def none {H : Type} : Left H := { results := [], args := [] }

/-- 'dioramalaw04.PoskeyBetween': WHATEVER THE INPUT: true; the input reads as it did. -/
def poskeyBetweenSpec : ChangeSpec := { name := "poskeyBetween", fn := fun _ => fun
  | [d1, d2] => { results := [.lit (.bool true)], args := [d1, d2] }
  | _ => none }
def poskeyBetweenRow : OpenClaim := { program := "ytpkflnohagieiaa", sum := "919760c7270db99b8b7d7e06f1d7890271042df1473f82774ea1a74bf49a3cfa", func := "diorama/dioramalaw04.PoskeyBetween", spec := "poskeyBetween", inPlace := ["internal/bytealg.abigen_runtime_cmpstring"], unfollowed := true, recurses := true, apart := false }
def PoskeyBetweenSaid : Prop := poskeyBetweenRow.holds Try.pinned (OpenSpec.ofChange poskeyBetweenSpec)

/-- ITS FALSE NEIGHBOUR: 'it returns false'. Refute it at one input. -/
def poskeyBetweenWrong : ChangeSpec := { name := "poskeyBetween", fn := fun _ => fun
  | [d1, d2] => { results := [.lit (.bool false)], args := [d1, d2] }
  | _ => none }
def PoskeyBetweenWrongFalsely : Prop := poskeyBetweenRow.holds Try.pinned (OpenSpec.ofChange poskeyBetweenWrong)

/-- 'dioramalaw04.PoskeyLies': WHATEVER THE INPUT: true; the input reads as it did. -/
def poskeyLiesSpec : ChangeSpec := { name := "poskeyLies", fn := fun _ => fun
  | [d1, d2] => { results := [.lit (.bool true)], args := [d1, d2] }
  | _ => none }
def poskeyLiesRow : OpenClaim := { program := "ytpkflnohagieiaa", sum := "919760c7270db99b8b7d7e06f1d7890271042df1473f82774ea1a74bf49a3cfa", func := "diorama/dioramalaw04.PoskeyLies", spec := "poskeyLies", inPlace := ["internal/bytealg.abigen_runtime_cmpstring"], unfollowed := true, recurses := true, apart := false }
def PoskeyLiesSaid : Prop := poskeyLiesRow.holds Try.pinned (OpenSpec.ofChange poskeyLiesSpec)

/-- ITS FALSE NEIGHBOUR: 'it returns false'. Refute it at one input. -/
def poskeyLiesWrong : ChangeSpec := { name := "poskeyLies", fn := fun _ => fun
  | [d1, d2] => { results := [.lit (.bool false)], args := [d1, d2] }
  | _ => none }
def PoskeyLiesWrongFalsely : Prop := poskeyLiesRow.holds Try.pinned (OpenSpec.ofChange poskeyLiesWrong)

/-- 'dioramalaw04.PoskeyDense': WHATEVER THE INPUT: true; the input reads as it did. -/
def poskeyDenseSpec : ChangeSpec := { name := "poskeyDense", fn := fun _ => fun
  | [d1, d2] => { results := [.lit (.bool true)], args := [d1, d2] }
  | _ => none }
def poskeyDenseRow : OpenClaim := { program := "ytpkflnohagieiaa", sum := "919760c7270db99b8b7d7e06f1d7890271042df1473f82774ea1a74bf49a3cfa", func := "diorama/dioramalaw04.PoskeyDense", spec := "poskeyDense", inPlace := ["internal/bytealg.abigen_runtime_cmpstring"], unfollowed := true, recurses := true, apart := false }
def PoskeyDenseSaid : Prop := poskeyDenseRow.holds Try.pinned (OpenSpec.ofChange poskeyDenseSpec)

/-- ITS FALSE NEIGHBOUR: 'it returns false'. Refute it at one input. -/
def poskeyDenseWrong : ChangeSpec := { name := "poskeyDense", fn := fun _ => fun
  | [d1, d2] => { results := [.lit (.bool false)], args := [d1, d2] }
  | _ => none }
def PoskeyDenseWrongFalsely : Prop := poskeyDenseRow.holds Try.pinned (OpenSpec.ofChange poskeyDenseWrong)

/-- 'dioramalaw04.PoskeyOrder': WHATEVER THE INPUT: true; the input reads as it did. -/
def poskeyOrderSpec : ChangeSpec := { name := "poskeyOrder", fn := fun _ => fun
  | [d1, d2, d3] => { results := [.lit (.bool true)], args := [d1, d2, d3] }
  | _ => none }
def poskeyOrderRow : OpenClaim := { program := "ytpkflnohagieiaa", sum := "919760c7270db99b8b7d7e06f1d7890271042df1473f82774ea1a74bf49a3cfa", func := "diorama/dioramalaw04.PoskeyOrder", spec := "poskeyOrder", inPlace := ["internal/bytealg.abigen_runtime_cmpstring"], unfollowed := true, recurses := true, apart := false }
def PoskeyOrderSaid : Prop := poskeyOrderRow.holds Try.pinned (OpenSpec.ofChange poskeyOrderSpec)

/-- ITS FALSE NEIGHBOUR: 'it returns false'. Refute it at one input. -/
def poskeyOrderWrong : ChangeSpec := { name := "poskeyOrder", fn := fun _ => fun
  | [d1, d2, d3] => { results := [.lit (.bool false)], args := [d1, d2, d3] }
  | _ => none }
def PoskeyOrderWrongFalsely : Prop := poskeyOrderRow.holds Try.pinned (OpenSpec.ofChange poskeyOrderWrong)

/-- 'dioramalaw04.PoskeySpread': WHATEVER THE INPUT: true; the input reads as it did. -/
def poskeySpreadSpec : ChangeSpec := { name := "poskeySpread", fn := fun _ => fun
  | [d1, d2, d3] => { results := [.lit (.bool true)], args := [d1, d2, d3] }
  | _ => none }
def poskeySpreadRow : OpenClaim := { program := "ytpkflnohagieiaa", sum := "919760c7270db99b8b7d7e06f1d7890271042df1473f82774ea1a74bf49a3cfa", func := "diorama/dioramalaw04.PoskeySpread", spec := "poskeySpread", inPlace := ["internal/bytealg.abigen_runtime_cmpstring"], unfollowed := true, recurses := true, apart := false }
def PoskeySpreadSaid : Prop := poskeySpreadRow.holds Try.pinned (OpenSpec.ofChange poskeySpreadSpec)

/-- ITS FALSE NEIGHBOUR: 'it returns false'. Refute it at one input. -/
def poskeySpreadWrong : ChangeSpec := { name := "poskeySpread", fn := fun _ => fun
  | [d1, d2, d3] => { results := [.lit (.bool false)], args := [d1, d2, d3] }
  | _ => none }
def PoskeySpreadWrongFalsely : Prop := poskeySpreadRow.holds Try.pinned (OpenSpec.ofChange poskeySpreadWrong)

/-- 'dioramalaw04.PoskeyRises': WHATEVER THE INPUT: true; the input reads as it did. -/
def poskeyRisesSpec : ChangeSpec := { name := "poskeyRises", fn := fun _ => fun
  | [d1, d2, d3] => { results := [.lit (.bool true)], args := [d1, d2, d3] }
  | _ => none }
def poskeyRisesRow : OpenClaim := { program := "ytpkflnohagieiaa", sum := "919760c7270db99b8b7d7e06f1d7890271042df1473f82774ea1a74bf49a3cfa", func := "diorama/dioramalaw04.PoskeyRises", spec := "poskeyRises", inPlace := ["internal/bytealg.abigen_runtime_cmpstring"], unfollowed := true, recurses := true, apart := false }
def PoskeyRisesSaid : Prop := poskeyRisesRow.holds Try.pinned (OpenSpec.ofChange poskeyRisesSpec)

/-- ITS FALSE NEIGHBOUR: 'it returns false'. Refute it at one input. -/
def poskeyRisesWrong : ChangeSpec := { name := "poskeyRises", fn := fun _ => fun
  | [d1, d2, d3] => { results := [.lit (.bool false)], args := [d1, d2, d3] }
  | _ => none }
def PoskeyRisesWrongFalsely : Prop := poskeyRisesRow.holds Try.pinned (OpenSpec.ofChange poskeyRisesWrong)

/- THE SECOND FORM. 'bulk': how many values and letters a reading holds, each counted each time it is reached (what is shared counts as often as it is met; a slice's spare places count too). A statement '..UptoSaid' is the law's where the arguments, and the package variables that the reading takes, are together of bulk at most 1048576: NARROWER than '..Said'. Prove '..Said' where nothing that the law and all that it calls make is longer than what came in: it says more and counts as full. Else prove '..UptoSaid'. A law counts once. -/
mutual
def uptoBulk {H : Type} : DataW H → Nat
  | .lit (.string bytes) => bytes.length + 1
  | .lit _ => 1
  | .nil => 1
  | .ptr d => uptoBulk d + 1
  | .slice elems spare => uptoBulkAll elems + uptoBulkAll spare + 1
  | .agg parts => uptoBulkAll parts + 1
  | .iface _ d => uptoBulk d + 1
  | .map entries => uptoBulkEntries entries + 1
  | .held _ => 1
def uptoBulkAll {H : Type} : List (DataW H) → Nat
  | [] => 0
  | d :: r => uptoBulk d + uptoBulkAll r
def uptoBulkEntries {H : Type} : List (Lit × DataW H) → Nat
  | [] => 0
  | x :: r => uptoBulkEntry x + uptoBulkEntries r
def uptoBulkEntry {H : Type} : Lit × DataW H → Nat
  | (.string bytes, d) => bytes.length + uptoBulk d + 1
  | (_, d) => uptoBulk d + 1
 end
def uptoSmall : (H : Type) → List (DataW H) → Bool := fun _ ds => decide (uptoBulkAll ds ≤ 1048576)
def OpenSpec.upto (s : _root_.Go.ChangeSpec) : _root_.Go.OpenSpec := { _root_.Go.OpenSpec.ofChange s with cond := some uptoSmall }

/-- 'dioramalaw04.PoskeyBetween', WHERE WHAT IT READS IS OF BULK AT MOST 1048576: true; the input reads as it did. -/
def poskeyBetweenUptoRow : OpenClaim := { program := "ytpkflnohagieiaa", sum := "919760c7270db99b8b7d7e06f1d7890271042df1473f82774ea1a74bf49a3cfa", func := "diorama/dioramalaw04.PoskeyBetween", spec := "poskeyBetween", inPlace := ["internal/bytealg.abigen_runtime_cmpstring"], unfollowed := true, recurses := true, apart := false, narrowed := true }
def PoskeyBetweenUptoSaid : Prop := poskeyBetweenUptoRow.holds Try.pinned (OpenSpec.upto poskeyBetweenSpec)

/-- 'dioramalaw04.PoskeyLies', WHERE WHAT IT READS IS OF BULK AT MOST 1048576: true; the input reads as it did. -/
def poskeyLiesUptoRow : OpenClaim := { program := "ytpkflnohagieiaa", sum := "919760c7270db99b8b7d7e06f1d7890271042df1473f82774ea1a74bf49a3cfa", func := "diorama/dioramalaw04.PoskeyLies", spec := "poskeyLies", inPlace := ["internal/bytealg.abigen_runtime_cmpstring"], unfollowed := true, recurses := true, apart := false, narrowed := true }
def PoskeyLiesUptoSaid : Prop := poskeyLiesUptoRow.holds Try.pinned (OpenSpec.upto poskeyLiesSpec)

/-- 'dioramalaw04.PoskeyDense', WHERE WHAT IT READS IS OF BULK AT MOST 1048576: true; the input reads as it did. -/
def poskeyDenseUptoRow : OpenClaim := { program := "ytpkflnohagieiaa", sum := "919760c7270db99b8b7d7e06f1d7890271042df1473f82774ea1a74bf49a3cfa", func := "diorama/dioramalaw04.PoskeyDense", spec := "poskeyDense", inPlace := ["internal/bytealg.abigen_runtime_cmpstring"], unfollowed := true, recurses := true, apart := false, narrowed := true }
def PoskeyDenseUptoSaid : Prop := poskeyDenseUptoRow.holds Try.pinned (OpenSpec.upto poskeyDenseSpec)

/-- 'dioramalaw04.PoskeyOrder', WHERE WHAT IT READS IS OF BULK AT MOST 1048576: true; the input reads as it did. -/
def poskeyOrderUptoRow : OpenClaim := { program := "ytpkflnohagieiaa", sum := "919760c7270db99b8b7d7e06f1d7890271042df1473f82774ea1a74bf49a3cfa", func := "diorama/dioramalaw04.PoskeyOrder", spec := "poskeyOrder", inPlace := ["internal/bytealg.abigen_runtime_cmpstring"], unfollowed := true, recurses := true, apart := false, narrowed := true }
def PoskeyOrderUptoSaid : Prop := poskeyOrderUptoRow.holds Try.pinned (OpenSpec.upto poskeyOrderSpec)

/-- 'dioramalaw04.PoskeySpread', WHERE WHAT IT READS IS OF BULK AT MOST 1048576: true; the input reads as it did. -/
def poskeySpreadUptoRow : OpenClaim := { program := "ytpkflnohagieiaa", sum := "919760c7270db99b8b7d7e06f1d7890271042df1473f82774ea1a74bf49a3cfa", func := "diorama/dioramalaw04.PoskeySpread", spec := "poskeySpread", inPlace := ["internal/bytealg.abigen_runtime_cmpstring"], unfollowed := true, recurses := true, apart := false, narrowed := true }
def PoskeySpreadUptoSaid : Prop := poskeySpreadUptoRow.holds Try.pinned (OpenSpec.upto poskeySpreadSpec)

/-- 'dioramalaw04.PoskeyRises', WHERE WHAT IT READS IS OF BULK AT MOST 1048576: true; the input reads as it did. -/
def poskeyRisesUptoRow : OpenClaim := { program := "ytpkflnohagieiaa", sum := "919760c7270db99b8b7d7e06f1d7890271042df1473f82774ea1a74bf49a3cfa", func := "diorama/dioramalaw04.PoskeyRises", spec := "poskeyRises", inPlace := ["internal/bytealg.abigen_runtime_cmpstring"], unfollowed := true, recurses := true, apart := false, narrowed := true }
def PoskeyRisesUptoSaid : Prop := poskeyRisesUptoRow.holds Try.pinned (OpenSpec.upto poskeyRisesSpec)

end Rows
end Go.Proofs.Ytpkflnohagieiaa
