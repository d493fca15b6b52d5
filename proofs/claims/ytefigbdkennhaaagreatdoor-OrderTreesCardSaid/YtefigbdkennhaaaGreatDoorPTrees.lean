/- 'OrderTrees' answers true and leaves its arguments as they were, whatever they are, where the program's two listed variables read as its text lays them; and the card that ties them to that text. -/
import Derived.Test.YtefigbdkennhaaaGreatDoorJ7
import Derived.Test.YtefigbdkennhaaaGreatDoorTie
import Derived.Test.YtefigbdkennhaaaGreatDoorCards
import Derived.SevenTiedAt
set_option linter.unusedSimpArgs false
set_option linter.unusedVariables false
set_option linter.unusedSectionVars false
set_option linter.unusedSimpArgs false
set_option linter.unusedVariables false
namespace Go.Proofs.YtefigbdkennhaaaGreatDoor.orderTrees
open Go.ChangeShapes Go.WideShapes Go.ChangeAt Go.RowKit
open Go.Proofs.YtefigbdkennhaaaGreatDoor.laid

theorem shape24 : Go.Am.shape Tryz.prog 6 24 = some [.int .i64, .int .i64] := by kernel_rfl
theorem st_fit (cs : List Value) (h : Go.Am.Fits [.int .i64, .int .i64] cs) : ∃ x : Go.Am.Tryz.St, Go.Am.Tryz.elSt.enc x = cs := by
  obtain ⟨v0, r0, e0, h0, h⟩ := h.cons_of
  obtain ⟨v1, r1, e1, h1, h⟩ := h.cons_of
  have e2 := h.nil_of
  obtain ⟨n0, g0, _⟩ := h0
  obtain ⟨n1, g1, _⟩ := h1
  rw [e0, e1, e2, g0, g1]
  exact ⟨(n0, n1), rfl⟩
theorem under24 : ∃ fs, Tryz.prog.underlying 24 = some (.struct fs) := ⟨_, Tryz.underlying24⟩
set_option maxRecDepth 100000 in
theorem lifted (os : Os) (started : os.Started) (H : Type) (enc : TypeId × Value → H) :
    ReturnsInHanded {} Tryz.checked os 3 .any (fun w args => (Rows.orderTreesSpec.pre enc Tryz.prog Tryz.f3 [] false w args ∧ laidMetH Tryz.prog two w) ∧ sizedMet enc Tryz.prog Tryz.f3 (OpenSpec.ofChange Rows.orderTreesSpec) false w args)
      (Rows.orderTreesSpec.post enc Tryz.prog Tryz.f3 false true false false) := by
  refine returnsInHanded_of_change_and (C := Tryz.checked) (X := fun w _ => laidMetH Tryz.prog two w) (fun _ _ _ hh h => h.of_heap hh) own started (by kernel_rfl) Tryz.func3
    (ChangeSpec.witness_shaped (enc := enc) (C := Tryz.checked) (os := os) (X := fun w _ => laidMetH Tryz.prog two w) false (World.doorLaid Tryz.prog 400 os) #[.slice none 0 0, .agg #[.int .i64 0, .int .i64 0]] 8 rfl (World.shaped_of_RefB (by kernel_rfl) (by kernel_rfl)) (by kernel_rfl) (by kernel_rfl) (by kernel_rfl) (door_met os _)) ?_
  intro W base args ds gs before hval0 hW _ _ hL _
  have hval : ∀ (j : Nat) t v, Tryz.f3.params[j]? = some t → args[j]? = some v → Value.okWide Tryz.prog W .any base t v := hval0
  have hW' := hW
  obtain ⟨p, q, hA0, hV, rfl, hfz, hnd⟩ := hW
  have hA : DataW.TrodAll enc Tryz.prog W 0 (fun _ => true) true Tryz.f3.params.toList args.toList ds p := hA0
  rw [Tryz.params3] at hA hval
  obtain ⟨v0, v1, d0, d1, p0, p1, rfl, rfl, rfl, h0, h1⟩ := trodAll_two hA
  obtain ⟨rfl, rfl⟩ := trodVars_none hV
  obtain ⟨k0, w0⟩ := Go.Am.open_rows Go.Am.Tryz.elAct under22 shape36 cells36 act_fit (hval 0 22 v0 rfl rfl) h0
  obtain ⟨a1, rfl, w1, rfl, k1⟩ := Go.Am.open_flat under24.choose_spec shape24 (hval 1 24 v1 rfl rfl) h1
  obtain ⟨x, hx⟩ := st_fit _ w1
  obtain ⟨g0, g1, hG⟩ := of_laid hL
  have hxr : ∀ E, Go.Am.VR E (.agg (Go.Am.Tryz.stC x)) (.agg a1) := fun E => .agg (by rw [← hx]; exact Go.Am.Tryz.elSt.rel _ x)
  have walk : Calls Tryz.prog 3 #[v0, .agg a1] W fun e w' => e = .returned (.bool true) ∧ Below W.heap.size W w' := by
    rcases w0 with rfl | ⟨a, len, cap, xs, c, o, k, rfl, hlc, hcm, hxl, hfit, henv, hvr⟩
    · exact Go.Am.law_glob (l := [(Go.Am.Tryz.stC (0, 0), 0, 0, g0), (Go.Am.Tryz.stC (0, 1), 1, 0, g1)]) Go.Am.Tryz.O.dok2 glob_at hG (.cons .sliceNil (.cons (hxr _) .nil))
        (Go.Am.Tryz.O.order_trees_runs _ [] x _ ⟨none, .exact 0, rfl, .inl rfl⟩ (fun x hx => absurd hx (by simp)) (fun b hb => by cases hb) glob_is (by rw [Go.Am.Env.next_mem]; exact Nat.le_refl _) (fun b hb => by cases hb))
    · refine Go.Am.law_glob (l := [(Go.Am.Tryz.stC (0, 0), 0, 0, g0), (Go.Am.Tryz.stC (0, 1), 1, 0, g1), (Go.Am.Tryz.elAct.all xs, c, o, k)]) Go.Am.Tryz.O.dok2 glob_at (env_cons hG henv) (.cons (hvr _ 2 rfl) (.cons (hxr _) .nil))
        (Go.Am.Tryz.O.order_trees_runs _ (xs.take len) x _ (acts_at hlc hxl) (fun x hx => act_key x (hfit x (List.mem_of_mem_take hx))) (fun b hb _ => ?_) glob_is (by rw [Go.Am.Env.next_mem]; exact Nat.le_succ 2) (fun b hb => ?_))
      all_goals simp only [Go.Am.V.blk, Option.some.injEq] at hb
      all_goals rw [Go.Am.Env.next_mem]
      all_goals subst hb
      all_goals exact Nat.lt_succ_self 2
  clear hA0 hval0
  simp only [List.append_nil] at hW'
  refine walk.mono fun e W' ⟨he, bel⟩ => ?_
  subst he
  exact ⟨_, rfl, _, _, _, [], _, [], hW', trodAll_mk1 (shut_bool Tryz.underlying4 _), trodAll_mk2 (k0 _ bel) (k1 _ _ _), rfl, bel.frame _, fun h => by cases h⟩

theorem over : Rows.OrderTreesSaid :=
  OpenClaim.holds_of_wide 3 Tryz.f3 rfl rfl rfl rfl rfl rfl rfl ⟨rfl, rfl, rfl, rfl, rfl⟩ rfl rfl rfl rfl rfl (by kernel_rfl) Tryz.func3 (by kernel_rfl)
    (of_decide_eq_true (by kernel_rfl)) (by unfold Func.isWrapper; first | (rw [if_pos (by decide +kernel)]; kernel_rfl) | (rw [if_neg (by decide +kernel)]; exact ⟨rfl, rfl⟩))
    (fun os started H enc _ => lifted os started H enc)

/-- The statement. -/
theorem proved : Rows.OrderTreesCardSaid :=
  Claim7.holds_tied_plain_at .later [] [.data, .data] true (true, "1e88b8d68dacf68471c41fd2267ea12d438f390d5559ecef75f8b7a9b156129e") true
    over (fun _ h => by cases h) (by kernel_rfl) (fun _ h => by cases h) orderTrees_row_tie rfl ⟨rfl, rfl⟩ (by kernel_rfl) rfl
    (fun f fn hf hfn => by
      obtain rfl : f = 3 := Option.some.inj ((show Tryz.prog.funcNamed "diorama/dioramalaw11.OrderTrees" = some 3 by kernel_rfl).symm.trans hf) |>.symm
      obtain rfl : fn = Tryz.f3 := (Option.some.inj (Tryz.func3.symm.trans hfn)).symm
      exact ⟨by kernel_rfl, fun j t ht => by
        rw [Tryz.params3] at ht
        have hm : t ∈ [22, 24] := by simpa using Array.mem_of_getElem? ht
        have hall : ([22, 24].all fun u => !Tryz.prog.wantsStandIn u) = true := by kernel_rfl
        exact (show Tryz.prog.wantsStandIn t = false by simpa using List.all_eq_true.1 hall t hm)⟩)
    (by kernel_rfl)
#print axioms proved
end Go.Proofs.YtefigbdkennhaaaGreatDoor.orderTrees

