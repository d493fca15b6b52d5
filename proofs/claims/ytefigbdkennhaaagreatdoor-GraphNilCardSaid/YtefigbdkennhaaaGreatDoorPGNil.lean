/- 'GraphNil' answers true and leaves its argument as it was, whatever it is, where the program's two listed variables read as its text lays them; and the card that ties them to that text. -/
import Derived.Test.YtefigbdkennhaaaGreatDoorJ7
import Derived.Test.YtefigbdkennhaaaGreatDoorTie
import Derived.Test.YtefigbdkennhaaaGreatDoorCards
import Derived.SevenTiedAt
set_option linter.unusedSimpArgs false
set_option linter.unusedVariables false
set_option linter.unusedSectionVars false
set_option linter.unusedSimpArgs false
set_option linter.unusedVariables false
namespace Go.Proofs.YtefigbdkennhaaaGreatDoor.graphNil
open Go.ChangeShapes Go.WideShapes Go.ChangeAt Go.RowKit
open Go.Proofs.YtefigbdkennhaaaGreatDoor.laid

theorem under64 : ∃ fs, Tryz.prog.underlying 64 = some (.struct fs) := ⟨_, Tryz.underlying64⟩
theorem shape64 : Go.Am.shapeD Tryz.prog 8 64 = some Go.Am.Tryz.G.wrK := by kernel_rfl
set_option maxRecDepth 100000 in
theorem lifted (os : Os) (started : os.Started) (H : Type) (enc : TypeId × Value → H) :
    ReturnsInHanded {} Tryz.checked os 6 .any (fun w args => (Rows.graphNilSpec.pre enc Tryz.prog Tryz.f6 [] false w args ∧ laidMetH Tryz.prog two w) ∧ sizedMet enc Tryz.prog Tryz.f6 (OpenSpec.ofChange Rows.graphNilSpec) false w args)
      (Rows.graphNilSpec.post enc Tryz.prog Tryz.f6 false true false false) := by
  refine returnsInHanded_of_change_and (C := Tryz.checked) (X := fun w _ => laidMetH Tryz.prog two w) (fun _ _ _ hh h => h.of_heap hh) own started (by kernel_rfl) Tryz.func6
    (ChangeSpec.witness_shaped (enc := enc) (C := Tryz.checked) (os := os) (X := fun w _ => laidMetH Tryz.prog two w) false (World.doorLaid Tryz.prog 400 os) #[.agg #[.int .i64 0, .int .i64 0, .int .i64 0, .int .i64 0, .int .i64 0, .int .i64 0, .int .i64 0, .string ⟨#[]⟩, .slice none 0 0, .int .i64 0, .int .i64 0, .int .i64 0, .string ⟨#[]⟩, .bool false]] 8 rfl (World.shaped_of_RefB (by kernel_rfl) (by kernel_rfl)) (by kernel_rfl) (by kernel_rfl) (by kernel_rfl) (door_met os _)) ?_
  intro W base args ds gs before hval0 hW _ _ hL _
  have hval : ∀ (j : Nat) t v, Tryz.f6.params[j]? = some t → args[j]? = some v → Value.okWide Tryz.prog W .any base t v := hval0
  have hW' := hW
  obtain ⟨p, q, hA0, hV, rfl, hfz, hnd⟩ := hW
  have hA : DataW.TrodAll enc Tryz.prog W 0 (fun _ => true) true Tryz.f6.params.toList args.toList ds p := hA0
  rw [Tryz.params6] at hA hval
  obtain ⟨v0, d0, rfl, rfl, h0⟩ := trodAll_one hA
  obtain ⟨rfl, rfl⟩ := trodVars_none hV
  obtain ⟨a0, rfl, o0, k0⟩ := Go.Am.open_struct under64.choose_spec shape64 (hval 0 64 v0 rfl rfl) h0
  obtain ⟨g0, g1, hG⟩ := of_laid hL
  obtain ⟨l', vs, e1, e2, e3⟩ := o0 _ (Go.Am.EnvOk.flat hG) (by simp)
  obtain ⟨w, rfl, ⟨path, hp⟩, hk⟩ := Go.Am.Tryz.G.wr_of e3
  have walk : Calls Tryz.prog 6 #[.agg a0] W fun e w' => e = .returned (.bool true) ∧ Below W.heap.size W w' :=
    Go.Am.law_deep Go.Am.Tryz.G.dok2 glob_at e1 (.cons (.agg e2) .nil) (Go.Am.Tryz.G.graph_nil_runs w path _ hp hk glob_is (by rw [Go.Am.Env.next_mem]; simp))
  clear hA0 hval0
  simp only [List.append_nil] at hW'
  refine walk.mono fun e W' ⟨he, bel⟩ => ?_
  subst he
  exact ⟨_, rfl, _, _, _, [], _, [], hW', trodAll_mk1 (shut_bool Tryz.underlying4 _), trodAll_mk1 (k0 _ bel), rfl, bel.frame _, fun h => by cases h⟩

theorem over : Rows.GraphNilSaid :=
  OpenClaim.holds_of_wide 6 Tryz.f6 rfl rfl rfl rfl rfl rfl rfl ⟨rfl, rfl, rfl, rfl, rfl⟩ rfl rfl rfl rfl rfl (by kernel_rfl) Tryz.func6 (by kernel_rfl)
    (of_decide_eq_true (by kernel_rfl)) (by unfold Func.isWrapper; first | (rw [if_pos (by decide +kernel)]; kernel_rfl) | (rw [if_neg (by decide +kernel)]; exact ⟨rfl, rfl⟩))
    (fun os started H enc _ => lifted os started H enc)

/-- The statement. -/
theorem proved : Rows.GraphNilCardSaid :=
  Claim7.holds_tied_plain_at .later [] [.data, .data] true (true, "1e88b8d68dacf68471c41fd2267ea12d438f390d5559ecef75f8b7a9b156129e") true
    over (fun _ h => by cases h) (by kernel_rfl) (fun _ h => by cases h) graphNil_row_tie rfl ⟨rfl, rfl⟩ (by kernel_rfl) rfl
    (fun f fn hf hfn => by
      obtain rfl : f = 6 := Option.some.inj ((show Tryz.prog.funcNamed "diorama/dioramalaw13.GraphNil" = some 6 by kernel_rfl).symm.trans hf) |>.symm
      obtain rfl : fn = Tryz.f6 := (Option.some.inj (Tryz.func6.symm.trans hfn)).symm
      exact ⟨by kernel_rfl, fun j t ht => by
        rw [Tryz.params6] at ht
        have hm : t ∈ [64] := by simpa using Array.mem_of_getElem? ht
        have hall : ([64].all fun u => !Tryz.prog.wantsStandIn u) = true := by kernel_rfl
        exact (show Tryz.prog.wantsStandIn t = false by simpa using List.all_eq_true.1 hall t hm)⟩)
    (by kernel_rfl)
#print axioms proved
end Go.Proofs.YtefigbdkennhaaaGreatDoor.graphNil

