/- 'OrderRows' answers true and leaves its arguments as they were, whatever they are: the machine's run of it, carried over into the program's own. -/
import Derived.Test.YtefigbdkennhaaaJ6
import Derived.Test.YtefigbdkennhaaaRows
import Derived.WalkKit
import Derived.ProofKit
import Derived.OpenShut
import Derived.Below
set_option linter.unusedSimpArgs false
set_option linter.unusedVariables false
set_option linter.unusedSectionVars false
set_option linter.unusedSimpArgs false
set_option linter.unusedVariables false
namespace Go.Proofs.Ytefigbdkennhaaa.orderRows
open Go.ChangeShapes Go.WideShapes Go.ChangeAt Go.RowKit

theorem own : ownKnob Try.prog.godebug = none := by kernel_rfl

abbrev sbK : List Go.Am.CK := [.str, .int .i64, .int .i64]
theorem sb_fit (cs : List Value) (h : Go.Am.Fits sbK cs) : ∃ x : Go.Am.Try.Sb, Go.Am.Try.elSb.enc x = cs := by
  obtain ⟨v0, r0, e0, h0, h⟩ := h.cons_of
  obtain ⟨v1, r1, e1, h1, h⟩ := h.cons_of
  obtain ⟨v2, r2, e2, h2, h⟩ := h.cons_of
  have e3 := h.nil_of
  obtain ⟨s, e4, _⟩ := h0
  obtain ⟨n, e5, _⟩ := h1
  obtain ⟨m, e6, _⟩ := h2
  rw [e0, e1, e2, e3, e4, e5, e6]
  exact ⟨(s.data.toList, n, m), rfl⟩
theorem sb_key (x : Go.Am.Try.Sb) (h : Go.Am.Fits sbK (Go.Am.Try.elSb.enc x)) : x.1.length < 2 ^ 63 := by
  obtain ⟨s, e, hs⟩ := h.1
  have e' := Value.string.inj e
  rw [← e'] at hs
  have : maxLen = 2 ^ 63 - 1 := rfl
  have h2 : ByteArray.size ⟨x.1.toArray⟩ = x.1.length := by simp [ByteArray.size]
  omega
theorem st_of {cs : List Value} (h : Go.Am.Fits [.int .i64, .int .i64] cs) : ∃ x : Go.Am.Try.St, ∀ E, Go.Am.VRs E (Go.Am.Try.stC x) cs := by
  obtain ⟨v1, r1, e1, h1, h⟩ := h.cons_of
  obtain ⟨v2, r2, e2, h2, h⟩ := h.cons_of
  have e3 := h.nil_of
  obtain ⟨n, e5, _⟩ := h1
  obtain ⟨m, e6, _⟩ := h2
  rw [e1, e2, e3, e5, e6]
  exact ⟨(n, m), fun E => .cons (.int .i64 n) (.cons (.int .i64 m) .nil)⟩

theorem shape38 : Go.Am.shape Try.prog 4 38 = some sbK := by kernel_rfl
theorem shape24 : Go.Am.shape Try.prog 4 24 = some [.int .i64, .int .i64] := by kernel_rfl
theorem cells38 : Try.prog.cellsOf 38 = Go.Am.Try.elSb.k := by kernel_rfl
theorem under22 : Try.prog.underlying 22 = some (.slice 38) := Try.underlying22
theorem under24 : ∃ fs, Try.prog.underlying 24 = some (.struct fs) := ⟨_, Try.underlying24⟩

set_option maxRecDepth 100000 in
theorem lifted (os : Os) (started : os.Started) (H : Type) (enc : TypeId × Value → H) :
    ReturnsInHanded {} Try.checked os 5 .any (Rows.orderRowsSpec.pre6 enc Try.prog Try.f5 Rows.orderRowsRow.domain false) (Rows.orderRowsSpec.post enc Try.prog Try.f5 false true false false) := by
  refine returnsInHanded_of_change (C := Try.checked) own started (by kernel_rfl) Try.func5
    (ChangeSpec.witness6 (enc := enc) (C := Try.checked) false ⟨#[], #[.slice none 0 0, .int .i64 0, .int .i64 0, .agg #[.int .i64 0, .int .i64 0]], []⟩ 8 (by kernel_rfl) (by kernel_rfl) (by kernel_rfl) (by kernel_rfl)) ?_
  intro W base args ds gs before hval0 hW hcnd _
  have hval : ∀ (j : Nat) t v, Try.f5.params[j]? = some t → args[j]? = some v → Value.okWide Try.prog W .any base t v := hval0
  have hW' := hW
  obtain ⟨p, q, hA0, hV, rfl, hfz, hnd⟩ := hW
  have hA : DataW.TrodAll enc Try.prog W 0 (fun _ => true) true Try.f5.params.toList args.toList ds p := hA0
  rw [Try.params5] at hA hval
  obtain ⟨v0, vs0, d0, ds0, p0, q0, hargs, rfl, rfl, h0, r0⟩ := trodAll_cons hA
  obtain ⟨v1, vs1, d1, ds1, p1, q1, rfl, rfl, rfl, h1, r1⟩ := trodAll_cons r0
  obtain ⟨v2, vs2, d2, ds2, p2, q2, rfl, rfl, rfl, h2, r2⟩ := trodAll_cons r1
  obtain ⟨v3, vs3, d3, ds3, p3, q3, rfl, rfl, rfl, h3, r3⟩ := trodAll_cons r2
  obtain ⟨rfl, rfl, rfl⟩ := trodAll_nil r3
  obtain rfl : args = #[v0, v1, v2, v3] := by cases args; simp_all
  obtain ⟨rfl, rfl⟩ := trodVars_none hV
  obtain ⟨fs, hs⟩ := under24
  obtain ⟨k0, w0⟩ := Go.Am.open_rows Go.Am.Try.elSb under22 shape38 cells38 sb_fit (hval 0 22 v0 rfl rfl) h0
  obtain ⟨a1, rfl, rfl, rfl, w1⟩ := open_int Try.underlying3 (hval 1 3 v1 rfl rfl) h1
  obtain ⟨a2, rfl, rfl, rfl, w2⟩ := open_int Try.underlying3 (hval 2 3 v2 rfl rfl) h2
  obtain ⟨a3, rfl, w3, rfl, k3⟩ := Go.Am.open_flat hs shape24 (hval 3 24 v3 rfl rfl) h3
  obtain ⟨st, hst⟩ := st_of w3
  have walk : Calls Try.prog 5 #[v0, .int .i64 a1, .int .i64 a2, .agg a3] W fun e w' => e = .returned (.bool true) ∧ Below W.heap.size W w' := by
    rcases w0 with rfl | ⟨a, len, cap, xs, c, o, k, rfl, hlc, hcm, hxl, hfit, henv, hvr⟩
    · exact Go.Am.law_env (l := []) Go.Am.Try.dok2 Go.Am.Try.gl0_none (fun x hx => absurd hx (by simp)) (.cons .sliceNil (.cons (.int .i64 a1) (.cons (.int .i64 a2) (.cons (.agg (hst _)) .nil))))
        (Go.Am.Try.order_rows_runs _ [] a1 a2 st (fun x hx => absurd hx (by simp)) _ ⟨none, .exact 0, rfl, .inl rfl⟩ (fun b hb => by cases hb))
    · refine Go.Am.law_env (l := [(Go.Am.Try.elSb.all xs, c, o, k)]) Go.Am.Try.dok2 Go.Am.Try.gl0_none henv (.cons (hvr _ 0 rfl) (.cons (.int .i64 a1) (.cons (.int .i64 a2) (.cons (.agg (hst _)) .nil))))
        (Go.Am.Try.order_rows_runs _ (xs.take len) a1 a2 st (fun x hx => sb_key x (hfit x (List.mem_of_mem_take hx))) _ ?_ ?_)
      · refine ⟨some (0, 0), .exact cap, by rw [List.length_take, hxl, Nat.min_eq_left hlc], .inr ⟨0, 0, Go.Am.Try.elSb.all xs, true, rfl, by rw [Go.Am.Env.get_mem]; rfl, fun i hi => ?_⟩⟩
        rw [Nat.zero_add, List.getElem_take]
        exact Go.Am.Try.elSb.rd xs i (by rw [List.length_take] at hi; omega)
      · intro b hb
        simp only [Go.Am.V.blk, Option.some.injEq] at hb
        rw [Go.Am.Env.next_mem]
        subst hb
        exact Nat.zero_lt_one
  clear hA0 hval0
  refine walk.mono fun e W' ⟨he, bel⟩ => ?_
  subst he
  exact ⟨_, rfl, _, _, _, [], _, [], hW', trodAll_mk1 (shut_bool Try.underlying4 _), (trodAll_cons_mk (k0 _ bel) (trodAll_cons_mk (shut_int Try.underlying3 w1) (trodAll_cons_mk (shut_int Try.underlying3 w2) (trodAll_cons_mk (k3 _ _ _) trodAll_mk0)))), rfl, bel.frame _, fun h => by cases h⟩

theorem over : Rows.orderRowsRow.holds Try.pinned (OpenSpec.ofChange Rows.orderRowsSpec) :=
  OpenClaim.holds_of_wide 5 Try.f5 rfl rfl rfl rfl rfl rfl rfl ⟨rfl, rfl, rfl, rfl, rfl⟩ rfl rfl rfl rfl rfl (by kernel_rfl) Try.func5 (by kernel_rfl)
    (of_decide_eq_true (by kernel_rfl)) (by unfold Func.isWrapper; first | (rw [if_pos (by decide +kernel)]; kernel_rfl) | (rw [if_neg (by decide +kernel)]; exact ⟨rfl, rfl⟩))
    (fun os started H enc _ => lifted os started H enc)

/-- The statement. -/
theorem proved : Rows.OrderRowsSaid :=
  over
#print axioms proved
end Go.Proofs.Ytefigbdkennhaaa.orderRows
