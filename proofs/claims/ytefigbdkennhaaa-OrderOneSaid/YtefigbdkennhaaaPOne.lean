/- 'OrderOne' answers true and leaves its arguments as they were, whatever they are: the machine's run of it, carried over into the program's own. -/
import Derived.Test.YtefigbdkennhaaaJ5
import Derived.Test.YtefigbdkennhaaaRows
import Derived.WalkKit
import Derived.ProofKit
import Derived.OpenShut
import Derived.Below
set_option linter.unusedSimpArgs false
set_option linter.unusedVariables false
set_option linter.unusedSectionVars false
set_option linter.unusedSimpArgs false
set_option linter.unusedVariables false
namespace Go.Proofs.Ytefigbdkennhaaa.orderOne
open Go.ChangeShapes Go.WideShapes Go.ChangeAt Go.RowKit

theorem own : ownKnob Try.prog.godebug = none := by kernel_rfl

theorem sb_of {cs : List Value} (h : Go.Am.Fits [.str, .int .i64, .int .i64] cs) : ∃ x : Go.Am.Try.Sb, Go.Am.VRs Go.Am.emb0 (Go.Am.Try.sbC x) cs := by
  obtain ⟨v0, r0, e0, h0, h⟩ := h.cons_of
  obtain ⟨v1, r1, e1, h1, h⟩ := h.cons_of
  obtain ⟨v2, r2, e2, h2, h⟩ := h.cons_of
  have e3 := h.nil_of
  obtain ⟨s, e4, _⟩ := h0
  obtain ⟨n, e5, _⟩ := h1
  obtain ⟨m, e6, _⟩ := h2
  rw [e0, e1, e2, e3, e4, e5, e6]
  exact ⟨(s.data.toList, n, m), .cons (.str s) (.cons (.int .i64 n) (.cons (.int .i64 m) .nil))⟩

theorem shape38 : Go.Am.shape Try.prog 4 38 = some [.str, .int .i64, .int .i64] := by kernel_rfl

theorem walk (a0 a1 a2 : Array Value) (w0 : Go.Am.Fits [.str, .int .i64, .int .i64] a0.toList) (w1 : Go.Am.Fits [.str, .int .i64, .int .i64] a1.toList) (w2 : Go.Am.Fits [.str, .int .i64, .int .i64] a2.toList) (w : World) :
    Calls Try.prog 4 #[.agg a0, .agg a1, .agg a2] w fun e w' => e = .returned (.bool true) ∧ Below w.heap.size w w' := by
  obtain ⟨x0, h0⟩ := sb_of w0
  obtain ⟨x1, h1⟩ := sb_of w1
  obtain ⟨x2, h2⟩ := sb_of w2
  exact Go.Am.law_flat Go.Am.Try.dok2 Go.Am.Try.gl0_none (.cons (.agg h0) (.cons (.agg h1) (.cons (.agg h2) .nil))) (Go.Am.Try.order_one_runs x0 x1 x2 _)

theorem under38 : ∃ fs, Try.prog.underlying 38 = some (.struct fs) := ⟨_, Try.underlying38⟩

set_option maxRecDepth 100000 in
theorem lifted (os : Os) (started : os.Started) (H : Type) (enc : TypeId × Value → H) :
    ReturnsInHanded {} Try.checked os 4 .any (Rows.orderOneSpec.pre6 enc Try.prog Try.f4 Rows.orderOneRow.domain false) (Rows.orderOneSpec.post enc Try.prog Try.f4 false true false false) := by
  refine returnsInHanded_of_change (C := Try.checked) own started (by kernel_rfl) Try.func4
    (ChangeSpec.witness6 (enc := enc) (C := Try.checked) false ⟨#[], #[.agg #[.string ByteArray.empty, .int .i64 0, .int .i64 0], .agg #[.string ByteArray.empty, .int .i64 0, .int .i64 0], .agg #[.string ByteArray.empty, .int .i64 0, .int .i64 0]], []⟩ 8 (by kernel_rfl) (by kernel_rfl) (by kernel_rfl) (by kernel_rfl)) ?_
  intro W base args ds gs before hval0 hW hcnd _
  have hval : ∀ (j : Nat) t v, Try.f4.params[j]? = some t → args[j]? = some v → Value.okWide Try.prog W .any base t v := hval0
  have hW' := hW
  obtain ⟨p, q, hA0, hV, rfl, hfz, hnd⟩ := hW
  have hA : DataW.TrodAll enc Try.prog W 0 (fun _ => true) true Try.f4.params.toList args.toList ds p := hA0
  rw [Try.params4] at hA hval
  obtain ⟨v0, vs0, d0, ds0, p0, q0, hargs, rfl, rfl, h0, r0⟩ := trodAll_cons hA
  obtain ⟨v1, vs1, d1, ds1, p1, q1, rfl, rfl, rfl, h1, r1⟩ := trodAll_cons r0
  obtain ⟨v2, vs2, d2, ds2, p2, q2, rfl, rfl, rfl, h2, r2⟩ := trodAll_cons r1
  obtain ⟨rfl, rfl, rfl⟩ := trodAll_nil r2
  obtain rfl : args = #[v0, v1, v2] := by cases args; simp_all
  obtain ⟨rfl, rfl⟩ := trodVars_none hV
  obtain ⟨fs, hs⟩ := under38
  obtain ⟨a0, rfl, w0, rfl, k0⟩ := Go.Am.open_flat hs shape38 (hval 0 38 v0 rfl rfl) h0
  obtain ⟨a1, rfl, w1, rfl, k1⟩ := Go.Am.open_flat hs shape38 (hval 1 38 v1 rfl rfl) h1
  obtain ⟨a2, rfl, w2, rfl, k2⟩ := Go.Am.open_flat hs shape38 (hval 2 38 v2 rfl rfl) h2
  clear hA0 hval0
  refine (walk a0 a1 a2 w0 w1 w2 W).mono fun e W' ⟨he, bel⟩ => ?_
  subst he
  exact ⟨_, rfl, _, _, _, [], _, [], hW', trodAll_mk1 (shut_bool Try.underlying4 _), (trodAll_cons_mk (k0 _ _ _) (trodAll_cons_mk (k1 _ _ _) (trodAll_cons_mk (k2 _ _ _) trodAll_mk0))), rfl, bel.frame _, fun h => by cases h⟩

theorem over : Rows.orderOneRow.holds Try.pinned (OpenSpec.ofChange Rows.orderOneSpec) :=
  OpenClaim.holds_of_wide 4 Try.f4 rfl rfl rfl rfl rfl rfl rfl ⟨rfl, rfl, rfl, rfl, rfl⟩ rfl rfl rfl rfl rfl (by kernel_rfl) Try.func4 (by kernel_rfl)
    (of_decide_eq_true (by kernel_rfl)) (by unfold Func.isWrapper; first | (rw [if_pos (by decide +kernel)]; kernel_rfl) | (rw [if_neg (by decide +kernel)]; exact ⟨rfl, rfl⟩))
    (fun os started H enc _ => lifted os started H enc)

/-- The statement. -/
theorem proved : Rows.OrderOneSaid :=
  over
#print axioms proved
end Go.Proofs.Ytefigbdkennhaaa.orderOne
