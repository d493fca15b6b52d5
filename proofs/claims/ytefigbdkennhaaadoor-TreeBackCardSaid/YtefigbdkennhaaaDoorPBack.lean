/- 'TreeBack' answers true and leaves its arguments as they were, whatever they are, where the program's two listed variables read as its text lays them; and the card that ties them to that text. -/
import Derived.Test.YtefigbdkennhaaaDoorJ7
import Derived.Test.YtefigbdkennhaaaDoorTie
import Derived.Test.YtefigbdkennhaaaDoorCards
import Derived.SevenTiedAt
set_option linter.unusedSimpArgs false
set_option linter.unusedVariables false
set_option linter.unusedSectionVars false
set_option linter.unusedSimpArgs false
set_option linter.unusedVariables false
namespace Go.Proofs.YtefigbdkennhaaaDoor.treeBack
open Go.ChangeShapes Go.WideShapes Go.ChangeAt Go.RowKit
open Go.Proofs.YtefigbdkennhaaaDoor.laid

theorem under33 : ∃ fs, Tryd.prog.underlying 33 = some (.struct fs) := ⟨_, Tryd.underlying33⟩
set_option maxRecDepth 100000 in
theorem lifted (os : Os) (started : os.Started) (H : Type) (enc : TypeId × Value → H) :
    ReturnsInHanded {} Tryd.checked os 5 .any (fun w args => (Rows.treeBackSpec.pre enc Tryd.prog Tryd.f5 [] false w args ∧ laidMetH Tryd.prog two w) ∧ sizedMet enc Tryd.prog Tryd.f5 (OpenSpec.ofChange Rows.treeBackSpec) false w args)
      (Rows.treeBackSpec.post enc Tryd.prog Tryd.f5 false true false false) := by
  refine returnsInHanded_of_change_and (C := Tryd.checked) (X := fun w _ => laidMetH Tryd.prog two w) (fun _ _ _ hh h => h.of_heap hh) own started (by kernel_rfl) Tryd.func5
    (ChangeSpec.witness_shaped (enc := enc) (C := Tryd.checked) (os := os) (X := fun w _ => laidMetH Tryd.prog two w) false (World.doorLaid Tryd.prog 400 os) #[.slice none 0 0, .agg #[.int .i64 0, .int .i64 0, .int .i64 0, .int .i64 0, .int .i64 0, .string ⟨#[]⟩]] 8 rfl (World.shaped_of_RefB (by kernel_rfl) (by kernel_rfl)) (by kernel_rfl) (by kernel_rfl) (by kernel_rfl) (door_met os _)) ?_
  intro W base args ds gs before hval0 hW _ _ hL _
  have hval : ∀ (j : Nat) t v, Tryd.f5.params[j]? = some t → args[j]? = some v → Value.okWide Tryd.prog W .any base t v := hval0
  have hW' := hW
  obtain ⟨p, q, hA0, hV, rfl, hfz, hnd⟩ := hW
  have hA : DataW.TrodAll enc Tryd.prog W 0 (fun _ => true) true Tryd.f5.params.toList args.toList ds p := hA0
  rw [Tryd.params5] at hA hval
  obtain ⟨v0, v1, d0, d1, p0, p1, rfl, rfl, rfl, h0, h1⟩ := trodAll_two hA
  obtain ⟨rfl, rfl⟩ := trodVars_none hV
  obtain ⟨k0, w0⟩ := Go.Am.open_rows Go.Am.Tryd.elAct under22 shape33 cells33 act_fit (hval 0 22 v0 rfl rfl) h0
  obtain ⟨a1, rfl, w1, rfl, k1⟩ := Go.Am.open_flat under33.choose_spec shape33 (hval 1 33 v1 rfl rfl) h1
  obtain ⟨x, hx⟩ := act_fit _ w1
  obtain ⟨g0, g1, hG⟩ := of_laid hL
  have hxk := act_key x (by rw [hx]; exact w1)
  have hxr : ∀ E, Go.Am.VR E (.agg (Go.Am.Tryd.actC x)) (.agg a1) := fun E => .agg (by rw [← hx]; exact Go.Am.Tryd.elAct.rel _ x)
  have walk : Calls Tryd.prog 5 #[v0, .agg a1] W fun e w' => e = .returned (.bool true) ∧ Below W.heap.size W w' := by
    rcases w0 with rfl | ⟨a, len, cap, xs, c, o, k, rfl, hlc, hcm, hxl, hfit, henv, hvr⟩
    · exact Go.Am.law_glob (l := [(Go.Am.Tryd.stC (0, 0), 0, 0, g0), (Go.Am.Tryd.stC (0, 1), 1, 0, g1)]) Go.Am.Tryd.dok3 glob_at hG (.cons .sliceNil (.cons (hxr _) .nil))
        (Go.Am.Tryd.tree_back_runs _ [] x _ ⟨none, .exact 0, rfl, .inl rfl⟩ (fun x hx => absurd hx (by simp)) hxk (fun b hb => by cases hb) glob_is (by rw [Go.Am.Env.next_mem]; exact Nat.le_refl _))
    · refine Go.Am.law_glob (l := [(Go.Am.Tryd.stC (0, 0), 0, 0, g0), (Go.Am.Tryd.stC (0, 1), 1, 0, g1), (Go.Am.Tryd.elAct.all xs, c, o, k)]) Go.Am.Tryd.dok3 glob_at (env_cons hG henv) (.cons (hvr _ 2 rfl) (.cons (hxr _) .nil))
        (Go.Am.Tryd.tree_back_runs _ (xs.take len) x _ (acts_at hlc hxl) (fun x hx => act_key x (hfit x (List.mem_of_mem_take hx))) hxk (fun b hb _ => ?_) glob_is (by rw [Go.Am.Env.next_mem]; exact Nat.le_succ 2))
      simp only [Go.Am.V.blk, Option.some.injEq] at hb
      rw [Go.Am.Env.next_mem]
      subst hb
      exact Nat.lt_succ_self 2
  clear hA0 hval0
  simp only [List.append_nil] at hW'
  refine walk.mono fun e W' ⟨he, bel⟩ => ?_
  subst he
  exact ⟨_, rfl, _, _, _, [], _, [], hW', trodAll_mk1 (shut_bool Tryd.underlying4 _), trodAll_mk2 (k0 _ bel) (k1 _ _ _), rfl, bel.frame _, fun h => by cases h⟩

theorem over : Rows.TreeBackSaid :=
  OpenClaim.holds_of_wide 5 Tryd.f5 rfl rfl rfl rfl rfl rfl rfl ⟨rfl, rfl, rfl, rfl, rfl⟩ rfl rfl rfl rfl rfl (by kernel_rfl) Tryd.func5 (by kernel_rfl)
    (of_decide_eq_true (by kernel_rfl)) (by unfold Func.isWrapper; first | (rw [if_pos (by decide +kernel)]; kernel_rfl) | (rw [if_neg (by decide +kernel)]; exact ⟨rfl, rfl⟩))
    (fun os started H enc _ => lifted os started H enc)

/-- The statement. -/
theorem proved : Rows.TreeBackCardSaid :=
  Claim7.holds_tied_plain_at .later [] [.data, .data] true (true, "221633c728177fe8c77168c3d273c9ba813fec1b7694204edcb74433bdf3efc6") true
    over (fun _ h => by cases h) (by kernel_rfl) (fun _ h => by cases h) treeBack_row_tie rfl ⟨rfl, rfl⟩ (by kernel_rfl) rfl
    (fun f fn hf hfn => by
      obtain rfl : f = 5 := Option.some.inj ((show Tryd.prog.funcNamed "diorama/dioramalaw10.TreeBack" = some 5 by kernel_rfl).symm.trans hf) |>.symm
      obtain rfl : fn = Tryd.f5 := (Option.some.inj (Tryd.func5.symm.trans hfn)).symm
      exact ⟨by kernel_rfl, fun j t ht => by
        rw [Tryd.params5] at ht
        have hm : t ∈ [22, 33] := by simpa using Array.mem_of_getElem? ht
        have hall : ([22, 33].all fun u => !Tryd.prog.wantsStandIn u) = true := by kernel_rfl
        exact (show Tryd.prog.wantsStandIn t = false by simpa using List.all_eq_true.1 hall t hm)⟩)
    (by kernel_rfl)
#print axioms proved
end Go.Proofs.YtefigbdkennhaaaDoor.treeBack
