/- 'TreePlays' answers true and leaves its arguments as they were, whatever they are, where the program's two listed variables read as its text lays them; and the card that ties them to that text. -/
import Derived.Test.YtefigbdkennhaaaDoorJ7
import Derived.Test.YtefigbdkennhaaaDoorTie
import Derived.Test.YtefigbdkennhaaaDoorCards
import Derived.SevenTiedAt
set_option linter.unusedSimpArgs false
set_option linter.unusedVariables false
set_option linter.unusedSectionVars false
set_option linter.unusedSimpArgs false
set_option linter.unusedVariables false
namespace Go.Proofs.YtefigbdkennhaaaDoor.treePlays
open Go.ChangeShapes Go.WideShapes Go.ChangeAt Go.RowKit
open Go.Proofs.YtefigbdkennhaaaDoor.laid

/-- A second slice of acts. -/
theorem acts_at3 {k0 k1 c o k cap len : Nat} {xs : List Go.Am.Tryd.Act} {y : List Go.Am.V × Nat × Nat × Nat} {l : Go.Am.Env} (hlc : len ≤ cap) (hxl : xs.length = cap) :
    Go.Am.SlR Go.Am.Tryd.elAct (Go.Am.Env.mem ((Go.Am.Tryd.stC (0, 0), 0, 0, k0) :: (Go.Am.Tryd.stC (0, 1), 1, 0, k1) :: y :: (Go.Am.Tryd.elAct.all xs, c, o, k) :: l)) (.slice (some (3, 0)) len (.exact cap)) (xs.take len) := by
  refine ⟨some (3, 0), .exact cap, by rw [List.length_take, hxl, Nat.min_eq_left hlc], .inr ⟨3, 0, Go.Am.Tryd.elAct.all xs, true, rfl, by rw [Go.Am.Env.get_mem]; rfl, fun i hi => ?_⟩⟩
  rw [Nat.zero_add, List.getElem_take]
  exact Go.Am.Tryd.elAct.rd xs i (by rw [List.length_take] at hi; omega)
theorem blk_lt {i n m : Nat} {l : Go.Am.Env} {c : Go.Am.Cap} {xs : List Go.Am.Tryd.Act} (h : i < l.length) : ∀ b, (Go.Am.V.slice (some (i, 0)) n c).blk = some b → xs ≠ [] → b < (Go.Am.Env.mem l).next := fun b hb _ => by
  simp only [Go.Am.V.blk, Option.some.injEq] at hb
  rw [Go.Am.Env.next_mem]
  subst hb
  exact h

set_option maxRecDepth 100000 in
theorem lifted (os : Os) (started : os.Started) (H : Type) (enc : TypeId × Value → H) :
    ReturnsInHanded {} Tryd.checked os 6 .any (fun w args => (Rows.treePlaysSpec.pre enc Tryd.prog Tryd.f6 [] false w args ∧ laidMetH Tryd.prog two w) ∧ sizedMet enc Tryd.prog Tryd.f6 (OpenSpec.ofChange Rows.treePlaysSpec) false w args)
      (Rows.treePlaysSpec.post enc Tryd.prog Tryd.f6 false true false false) := by
  refine returnsInHanded_of_change_and (C := Tryd.checked) (X := fun w _ => laidMetH Tryd.prog two w) (fun _ _ _ hh h => h.of_heap hh) own started (by kernel_rfl) Tryd.func6
    (ChangeSpec.witness_shaped (enc := enc) (C := Tryd.checked) (os := os) (X := fun w _ => laidMetH Tryd.prog two w) false (World.doorLaid Tryd.prog 400 os) #[.slice none 0 0, .slice none 0 0] 8 rfl (World.shaped_of_RefB (by kernel_rfl) (by kernel_rfl)) (by kernel_rfl) (by kernel_rfl) (by kernel_rfl) (door_met os _)) ?_
  intro W base args ds gs before hval0 hW _ _ hL _
  have hval : ∀ (j : Nat) t v, Tryd.f6.params[j]? = some t → args[j]? = some v → Value.okWide Tryd.prog W .any base t v := hval0
  have hW' := hW
  obtain ⟨p, q, hA0, hV, rfl, hfz, hnd⟩ := hW
  have hA : DataW.TrodAll enc Tryd.prog W 0 (fun _ => true) true Tryd.f6.params.toList args.toList ds p := hA0
  rw [Tryd.params6] at hA hval
  obtain ⟨v0, v1, d0, d1, p0, p1, rfl, rfl, rfl, h0, h1⟩ := trodAll_two hA
  obtain ⟨rfl, rfl⟩ := trodVars_none hV
  obtain ⟨k0, w0⟩ := Go.Am.open_rows Go.Am.Tryd.elAct under22 shape33 cells33 act_fit (hval 0 22 v0 rfl rfl) h0
  obtain ⟨k1, w1⟩ := Go.Am.open_rows Go.Am.Tryd.elAct under22 shape33 cells33 act_fit (hval 1 22 v1 rfl rfl) h1
  obtain ⟨g0, g1, hG⟩ := of_laid hL
  have walk : Calls Tryd.prog 6 #[v0, v1] W fun e w' => e = .returned (.bool true) ∧ Below W.heap.size W w' := by
    have hnil : ∀ M, Go.Am.SlR Go.Am.Tryd.elAct M (.slice none 0 (.exact 0)) [] := fun M => ⟨none, .exact 0, rfl, .inl rfl⟩
    have hkn : ∀ x ∈ ([] : List Go.Am.Tryd.Act), x.2.2.2.length < 2 ^ 63 := fun x hx => absurd hx (by simp)
    rcases w0 with rfl | ⟨a, len, cap, xs, c, o, k, rfl, hlc, hcm, hxl, hfit, henv, hvr⟩
    · rcases w1 with rfl | ⟨a', len', cap', xs', c', o', k', rfl, hlc', hcm', hxl', hfit', henv', hvr'⟩
      · exact Go.Am.law_glob (l := [(Go.Am.Tryd.stC (0, 0), 0, 0, g0), (Go.Am.Tryd.stC (0, 1), 1, 0, g1)]) Go.Am.Tryd.dok3 glob_at hG (.cons .sliceNil (.cons .sliceNil .nil))
          (Go.Am.Tryd.tree_plays_runs _ _ [] [] _ (hnil _) (hnil _) hkn hkn (fun b hb => by cases hb) (fun b hb => by cases hb) glob_is (by rw [Go.Am.Env.next_mem]; exact Nat.le_refl _))
      · exact Go.Am.law_glob (l := [(Go.Am.Tryd.stC (0, 0), 0, 0, g0), (Go.Am.Tryd.stC (0, 1), 1, 0, g1), (Go.Am.Tryd.elAct.all xs', c', o', k')]) Go.Am.Tryd.dok3 glob_at (env_cons hG henv') (.cons .sliceNil (.cons (hvr' _ 2 rfl) .nil))
          (Go.Am.Tryd.tree_plays_runs _ _ [] (xs'.take len') _ (hnil _) (acts_at hlc' hxl') hkn (fun x hx => act_key x (hfit' x (List.mem_of_mem_take hx))) (fun b hb => by cases hb) (blk_lt (m := 0) (Nat.lt_succ_self 2)) glob_is (by rw [Go.Am.Env.next_mem]; exact Nat.le_succ 2))
    · rcases w1 with rfl | ⟨a', len', cap', xs', c', o', k', rfl, hlc', hcm', hxl', hfit', henv', hvr'⟩
      · exact Go.Am.law_glob (l := [(Go.Am.Tryd.stC (0, 0), 0, 0, g0), (Go.Am.Tryd.stC (0, 1), 1, 0, g1), (Go.Am.Tryd.elAct.all xs, c, o, k)]) Go.Am.Tryd.dok3 glob_at (env_cons hG henv) (.cons (hvr _ 2 rfl) (.cons .sliceNil .nil))
          (Go.Am.Tryd.tree_plays_runs _ _ (xs.take len) [] _ (acts_at hlc hxl) (hnil _) (fun x hx => act_key x (hfit x (List.mem_of_mem_take hx))) hkn (blk_lt (m := 0) (Nat.lt_succ_self 2)) (fun b hb => by cases hb) glob_is (by rw [Go.Am.Env.next_mem]; exact Nat.le_succ 2))
      · exact Go.Am.law_glob (l := [(Go.Am.Tryd.stC (0, 0), 0, 0, g0), (Go.Am.Tryd.stC (0, 1), 1, 0, g1), (Go.Am.Tryd.elAct.all xs, c, o, k), (Go.Am.Tryd.elAct.all xs', c', o', k')]) Go.Am.Tryd.dok3 glob_at (env_cons (env_cons hG henv) henv') (.cons (hvr _ 2 rfl) (.cons (hvr' _ 3 rfl) .nil))
          (Go.Am.Tryd.tree_plays_runs _ _ (xs.take len) (xs'.take len') _ (acts_at hlc hxl) (acts_at3 hlc' hxl') (fun x hx => act_key x (hfit x (List.mem_of_mem_take hx))) (fun x hx => act_key x (hfit' x (List.mem_of_mem_take hx))) (blk_lt (m := 0) (by decide : 2 < 4)) (blk_lt (m := 0) (Nat.lt_succ_self 3)) glob_is (by rw [Go.Am.Env.next_mem]; exact (show 2 ≤ 4 by decide)))
  clear hA0 hval0
  simp only [List.append_nil] at hW'
  refine walk.mono fun e W' ⟨he, bel⟩ => ?_
  subst he
  exact ⟨_, rfl, _, _, _, [], _, [], hW', trodAll_mk1 (shut_bool Tryd.underlying4 _), trodAll_mk2 (k0 _ bel) (k1 _ bel), rfl, bel.frame _, fun h => by cases h⟩

theorem over : Rows.TreePlaysSaid :=
  OpenClaim.holds_of_wide 6 Tryd.f6 rfl rfl rfl rfl rfl rfl rfl ⟨rfl, rfl, rfl, rfl, rfl⟩ rfl rfl rfl rfl rfl (by kernel_rfl) Tryd.func6 (by kernel_rfl)
    (of_decide_eq_true (by kernel_rfl)) (by unfold Func.isWrapper; first | (rw [if_pos (by decide +kernel)]; kernel_rfl) | (rw [if_neg (by decide +kernel)]; exact ⟨rfl, rfl⟩))
    (fun os started H enc _ => lifted os started H enc)

/-- The statement. -/
theorem proved : Rows.TreePlaysCardSaid :=
  Claim7.holds_tied_plain_at .later [] [.data, .data] true (true, "221633c728177fe8c77168c3d273c9ba813fec1b7694204edcb74433bdf3efc6") true
    over (fun _ h => by cases h) (by kernel_rfl) (fun _ h => by cases h) treePlays_row_tie rfl ⟨rfl, rfl⟩ (by kernel_rfl) rfl
    (fun f fn hf hfn => by
      obtain rfl : f = 6 := Option.some.inj ((show Tryd.prog.funcNamed "diorama/dioramalaw10.TreePlays" = some 6 by kernel_rfl).symm.trans hf) |>.symm
      obtain rfl : fn = Tryd.f6 := (Option.some.inj (Tryd.func6.symm.trans hfn)).symm
      exact ⟨by kernel_rfl, fun j t ht => by
        rw [Tryd.params6] at ht
        have hm : t ∈ [22, 22] := by simpa using Array.mem_of_getElem? ht
        have hall : ([22, 22].all fun u => !Tryd.prog.wantsStandIn u) = true := by kernel_rfl
        exact (show Tryd.prog.wantsStandIn t = false by simpa using List.all_eq_true.1 hall t hm)⟩)
    (by kernel_rfl)
#print axioms proved
end Go.Proofs.YtefigbdkennhaaaDoor.treePlays

