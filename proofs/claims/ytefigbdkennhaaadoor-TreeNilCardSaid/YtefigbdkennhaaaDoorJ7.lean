/- The machine and what is proved of its runs, part 7: what each part says stands at its head. -/
import Derived.Test.YtefigbdkennhaaaDoorJ6
import Derived.Test.YtefigbdkennhaaaDoorRows
import Derived.WalkKit
import Derived.ProofKit
import Derived.OpenShut
import Derived.Below
import Derived.LaidMore
import Derived.Stop.Joined
import Derived.SevenTiedAt
set_option linter.unusedSimpArgs false
set_option linter.unusedVariables false
set_option linter.unusedSectionVars false
/- What the condition on the program's two listed variables gives; slices of acts handed in. -/
set_option linter.unusedSimpArgs false
set_option linter.unusedVariables false
namespace Go.Proofs.YtefigbdkennhaaaDoor.laid
open Go.ChangeShapes Go.WideShapes Go.ChangeAt Go.RowKit

theorem own : ownKnob Tryd.prog.godebug = none := by kernel_rfl
theorem gRoot : Tryd.prog.globalNamed "diorama/op.root" = some 0 := by kernel_rfl
theorem gTrash : Tryd.prog.globalNamed "diorama/op.trash" = some 1 := by kernel_rfl
theorem tRoot : (Tryd.prog.globals[0]?).map (·.type) = some 29 := by kernel_rfl
theorem tTrash : (Tryd.prog.globals[1]?).map (·.type) = some 29 := by kernel_rfl
abbrev two : List (String × DataW Unit) := [("diorama/op.root", Rows.laid_diorama_op_root), ("diorama/op.trash", Rows.laid_diorama_op_trash)]

/-- The door's own heap meets the condition. -/
theorem door_met (os : Os) (args : Array Value) : laidMetH Tryd.prog two ((World.doorLaid Tryd.prog 400 os).forCall (fun _ _ => 0) ⟨#[], args, []⟩).memory :=
  laidMetH_of_parts3 (fuel := 8) (laidMet_of_run' 8 (by kernel_rfl) (by kernel_rfl)) (by kernel_rfl) (by kernel_rfl)

theorem stamp_read {W : World} {fuel : Nat} {cs : List Value} {p : List MemPlace} {a b : Int} (h : DataW.trod (fun _ => ()) Tryd.prog W 0 (fun _ => true) false fuel 29 cs = some (.agg [.lit (.int .i64 a), .lit (.int .i64 b)], p)) :
    cs = [.int .i64 a, .int .i64 b] := by
  obtain ⟨y0, y1, n, hx, hl, h0, h1⟩ := trod_struct2 Tryd.underlying29 h
  have c29 : Tryd.prog.cellsOf 29 = 2 := by kernel_rfl
  have c3 : Tryd.prog.cellsOf 3 = 1 := by kernel_rfl
  rw [c29] at hl
  simp only [c3] at h0 h1
  obtain ⟨k0, e0, f0, _⟩ := DataW.trod_int Tryd.underlying3 h0
  obtain ⟨k1, e1, f1, _⟩ := DataW.trod_int Tryd.underlying3 h1
  match cs, hl with
  | [c, d], _ =>
    simp at e0 e1
    subst e0 e1 f0 f1
    simp only [Prod.mk.injEq, DataW.agg.injEq, List.cons.injEq, DataW.lit.injEq, Lit.int.injEq, true_and, and_true] at hx
    obtain ⟨⟨rfl, rfl⟩, _⟩ := hx
    rfl
/-- What the condition gives: the two variables' rows. -/
theorem of_laid {W : World} (h : laidMetH Tryd.prog two W) : ∃ k0 k1, Go.Am.Env.ok [(Go.Am.Tryd.stC (0, 0), 0, 0, k0), (Go.Am.Tryd.stC (0, 1), 1, 0, k1)] W := by
  rw [MakeChecks.laidMetH_plain _ _ _ (by kernel_rfl)] at h
  obtain ⟨ps, ⟨g0, t0, cs0, f0, p0, q0, hg0, ht0, hv0, hd0, ⟨g1, t1, cs1, f1, p1, q1, hg1, ht1, hv1, hd1, _, _⟩, _⟩, _, _⟩ := h
  obtain rfl := Option.some.inj (gRoot.symm.trans hg0)
  obtain rfl := Option.some.inj (gTrash.symm.trans hg1)
  obtain rfl := Option.some.inj (tRoot.symm.trans ht0)
  obtain rfl := Option.some.inj (tTrash.symm.trans ht1)
  have r0 := stamp_read hd0
  have r1 := stamp_read hd1
  have key : ∀ (n : String) (g : Nat) (cs : Array Value) (x : Go.Am.Tryd.St), Tryd.prog.globalNamed n = some g → W.var? Tryd.prog n = some cs → cs.toList = [.int .i64 x.1, .int .i64 x.2] →
      ∃ arr elem fz, W.heap[g]? = some (.cells arr elem fz) ∧ (∀ E, Go.Am.CR E (Go.Am.Tryd.stC x) arr 0) ∧ 0 + arr.size = arr.size ∧ arr.size = 2 := by
    intro n g cs x hg hv hl
    simp only [World.var?, hg, Option.bind_some] at hv
    split at hv
    · rename_i arr elem fz hh
      cases hv
      refine ⟨_, elem, fz, hh, fun E i v hi => ?_, Nat.zero_add _, by rw [← Array.length_toList, hl]; rfl⟩
      have e : ∀ j, cs[j]? = ([Value.int .i64 x.1, Value.int .i64 x.2] : List Value)[j]? := fun j => by rw [← hl, Array.getElem?_toList]
      rw [Nat.zero_add, e]
      match i, hi with
      | 0, hi => cases hi; exact ⟨_, rfl, .int _ _⟩
      | 1, hi => cases hi; exact ⟨_, rfl, .int _ _⟩
    · cases hv
  obtain ⟨a0, el0, fz0, h1, h2, h3, s0⟩ := key _ 0 cs0 (0, 0) gRoot hv0 r0
  obtain ⟨a1, el1, fz1, i1, i2, i3, s1⟩ := key _ 1 cs1 (0, 1) gTrash hv1 r1
  refine ⟨a0.size, a1.size, fun x hx => ?_⟩
  simp only [List.mem_cons, List.not_mem_nil, or_false] at hx
  rcases hx with rfl | rfl
  · exact ⟨a0, el0, fz0, h1, h2, h3⟩
  · exact ⟨a1, el1, fz1, i1, i2, i3⟩
theorem env_cons {l l' : Go.Am.Env} {W : World} (h : Go.Am.Env.ok l W) (h' : Go.Am.Env.ok l' W) : Go.Am.Env.ok (l ++ l') W := fun x hx => by
  rcases List.mem_append.mp hx with hx | hx
  · exact h x hx
  · exact h' x hx

abbrev actK : List Go.Am.CK := [.int .i64, .int .i64, .int .i64, .int .i64, .int .i64, .str]
theorem act_fit (cs : List Value) (h : Go.Am.Fits actK cs) : ∃ x : Go.Am.Tryd.Act, Go.Am.Tryd.elAct.enc x = cs := by
  obtain ⟨v0, r0, e0, h0, h⟩ := h.cons_of
  obtain ⟨v1, r1, e1, h1, h⟩ := h.cons_of
  obtain ⟨v2, r2, e2, h2, h⟩ := h.cons_of
  obtain ⟨v3, r3, e3, h3, h⟩ := h.cons_of
  obtain ⟨v4, r4, e4, h4, h⟩ := h.cons_of
  obtain ⟨v5, r5, e5, h5, h⟩ := h.cons_of
  have e6 := h.nil_of
  obtain ⟨n0, g0, _⟩ := h0
  obtain ⟨n1, g1, _⟩ := h1
  obtain ⟨n2, g2, _⟩ := h2
  obtain ⟨n3, g3, _⟩ := h3
  obtain ⟨n4, g4, _⟩ := h4
  obtain ⟨s, g5, _⟩ := h5
  rw [e0, e1, e2, e3, e4, e5, e6, g0, g1, g2, g3, g4, g5]
  exact ⟨(n0, (n1, n2), ((n3, n4), s.data.toList)), rfl⟩
theorem act_key (x : Go.Am.Tryd.Act) (h : Go.Am.Fits actK (Go.Am.Tryd.elAct.enc x)) : x.2.2.2.length < 2 ^ 63 := by
  obtain ⟨s, e, hs⟩ := h.2.2.2.2.2.1
  have e' := Value.string.inj e
  rw [← e'] at hs
  have : maxLen = 2 ^ 63 - 1 := rfl
  have h2 : ByteArray.size ⟨x.2.2.2.toArray⟩ = x.2.2.2.length := by simp [ByteArray.size]
  omega
theorem shape33 : Go.Am.shape Tryd.prog 6 33 = some actK := by kernel_rfl
theorem cells33 : Tryd.prog.cellsOf 33 = Go.Am.Tryd.elAct.k := by kernel_rfl
theorem under22 : Tryd.prog.underlying 22 = some (.slice 33) := Tryd.underlying22
theorem glob_at {k0 k1 : Nat} {l : Go.Am.Env} : ∀ x, Go.Am.Tryd.gl0 x = true → ∃ k, Go.Am.Env.emb ((Go.Am.Tryd.stC (0, 0), 0, 0, k0) :: (Go.Am.Tryd.stC (0, 1), 1, 0, k1) :: l) x = some (x, 0, k) := fun x hx => by
  rcases Go.Am.Tryd.gl_two hx with rfl | rfl
  · exact ⟨k0, rfl⟩
  · exact ⟨k1, rfl⟩
theorem glob_is {k0 k1 : Nat} {l : Go.Am.Env} : Go.Am.Tryd.isG (Go.Am.Env.mem ((Go.Am.Tryd.stC (0, 0), 0, 0, k0) :: (Go.Am.Tryd.stC (0, 1), 1, 0, k1) :: l)) = true :=
  Go.Am.Tryd.isG_mk (by rw [Go.Am.Env.get_mem]; rfl) (by rw [Go.Am.Env.get_mem]; rfl)
/-- A slice of acts in memory behind the two variables. -/
theorem acts_at {k0 k1 c o k cap len : Nat} {xs : List Go.Am.Tryd.Act} {l : Go.Am.Env} (hlc : len ≤ cap) (hxl : xs.length = cap) :
    Go.Am.SlR Go.Am.Tryd.elAct (Go.Am.Env.mem ((Go.Am.Tryd.stC (0, 0), 0, 0, k0) :: (Go.Am.Tryd.stC (0, 1), 1, 0, k1) :: (Go.Am.Tryd.elAct.all xs, c, o, k) :: l)) (.slice (some (2, 0)) len (.exact cap)) (xs.take len) := by
  refine ⟨some (2, 0), .exact cap, by rw [List.length_take, hxl, Nat.min_eq_left hlc], .inr ⟨2, 0, Go.Am.Tryd.elAct.all xs, true, rfl, by rw [Go.Am.Env.get_mem]; rfl, fun i hi => ?_⟩⟩
  rw [Nat.zero_add, List.getElem_take]
  exact Go.Am.Tryd.elAct.rd xs i (by rw [List.length_take] at hi; omega)
end Go.Proofs.YtefigbdkennhaaaDoor.laid

