/- The machine's functions against the program's own. -/
import Derived.Test.YtpkflnohagieiaaAmSnd19
set_option linter.unusedSimpArgs false
set_option linter.unusedVariables false
namespace Go.Am
open Go Go.RowKit

section
variable {P : Program} {gl : Nat → Bool} {call : CallF} {n : Nat}

def exOf : AExit → Exit
  | .normal => .normal
  | .exit id => .exit id
  | .ret => .ret

/-- What code of the machine's is worth. -/
def CodeOK (P : Program) (gl : Nat → Bool) (call : CallF) (n fuel : Nat) (c : Code) : Prop :=
  ∀ (E : Emb) (M M' : Mem) (w : World) (fr fr' : Fr) (a : Act) (e : AExit), Rel E M w → GOK gl E → FrR E n fr a → exec call n fuel (cCode P gl c) fr M = some (e, fr', M') →
    ∀ (Q : Exit → Act → World → Prop), (∀ E' a' w', FrR E' n fr' a' → Rel E' M' w' → Ext E M w E' M' w' → a'.defers = a.defers → Q (exOf e) a' w') → c.wp P Q a w

theorem loop_sound {fuel : Nat} {b : Code} (hb : CodeOK P gl call n fuel b) : ∀ (k : Nat) (E : Emb) (M M' : Mem) (w : World) (fr fr' : Fr) (a : Act) (e : AExit), Rel E M w → GOK gl E → FrR E n fr a →
    loopN (exec call n fuel (cCode P gl b)) k fr M = some (e, fr', M') → ∀ (Q : Exit → Act → World → Prop), (∀ E' a' w', FrR E' n fr' a' → Rel E' M' w' → Ext E M w E' M' w' → a'.defers = a.defers → Q (exOf e) a' w') → Code.rounds P b Q k a w
  | 0, _, _, _, _, _, _, _, _, _, _, _, h, _, _ => by cases h
  | k + 1, E, M, M', w, fr, fr', a, e, hR, hG, hF, h, Q, hQ => by
    rw [rounds_succ]
    simp only [loopN] at h
    cases hs : exec call n fuel (cCode P gl b) fr M with
    | none => rw [hs] at h; cases h
    | some r =>
      obtain ⟨e1, fr1, M1⟩ := r
      rw [hs] at h
      refine hb E M M1 w fr fr1 a e1 hR hG hF hs _ fun E1 a1 w1 h1 h2 h3 h4 => ?_
      cases e1 with
      | normal =>
        simp only at h
        exact loop_sound hb k E1 M1 M' w1 fr1 fr' a1 e h2 (hG.mono h3.le) h1 h Q fun E2 a2 w2 k1 k2 k3 k4 => hQ E2 a2 w2 k1 k2 (h3.trans k3) (k4.trans h4)
      | exit id =>
        simp only [Option.some.injEq, Prod.mk.injEq] at h
        obtain ⟨rfl, rfl, rfl⟩ := h
        exact hQ E1 a1 w1 h1 h2 h3 h4
      | ret =>
        simp only [Option.some.injEq, Prod.mk.injEq] at h
        obtain ⟨rfl, rfl, rfl⟩ := h
        exact hQ E1 a1 w1 h1 h2 h3 h4

theorem exec_sound (hcall : CallOK P gl call) (hm : P.follows .mixedOrders = true) (fuel : Nat) : ∀ (c : Code), CodeOK P gl call n fuel c := by
  intro c
  induction c with
  | skip =>
    intro E M M' w fr fr' a e hR hG hF h Q hQ
    simp only [cCode, exec, Option.some.injEq, Prod.mk.injEq] at h
    obtain ⟨rfl, rfl, rfl⟩ := h
    exact wp_skip (hQ E a w hF hR (Ext.refl E _ w) rfl)
  | label l =>
    intro E M M' w fr fr' a e hR hG hF h Q hQ
    simp only [cCode, exec, Option.some.injEq, Prod.mk.injEq] at h
    obtain ⟨rfl, rfl, rfl⟩ := h
    exact wp_label (hQ E a w hF hR (Ext.refl E _ w) rfl)
  | region id ops draw =>
    intro E M M' w fr fr' a e hR hG hF h Q hQ
    simp only [cCode] at h
    cases hc : cRegion P gl ops draw with
    | none => rw [hc] at h; cases h
    | some l =>
      rw [hc] at h
      simp only [exec, Option.map_eq_some_iff] at h
      obtain ⟨⟨fr1, M1⟩, he, h⟩ := h
      cases h
      exact region_run hcall hm hc hR hG hF he hQ
  | seq x y ihx ihy =>
    intro E M M' w fr fr' a e hR hG hF h Q hQ
    simp only [cCode, exec] at h
    cases hs : exec call n fuel (cCode P gl x) fr M with
    | none => rw [hs] at h; cases h
    | some r =>
      obtain ⟨e1, fr1, M1⟩ := r
      rw [hs] at h
      refine wp_seq (ihx E M M1 w fr fr1 a e1 hR hG hF hs _ fun E1 a1 w1 h1 h2 h3 h4 => ?_)
      cases e1 with
      | normal =>
        simp only at h
        exact ihy E1 M1 M' w1 fr1 fr' a1 e h2 (hG.mono h3.le) h1 h Q fun E2 a2 w2 k1 k2 k3 k4 => hQ E2 a2 w2 k1 k2 (h3.trans k3) (k4.trans h4)
      | exit id =>
        simp only [Option.some.injEq, Prod.mk.injEq] at h
        obtain ⟨rfl, rfl, rfl⟩ := h
        exact hQ E1 a1 w1 h1 h2 h3 h4
      | ret =>
        simp only [Option.some.injEq, Prod.mk.injEq] at h
        obtain ⟨rfl, rfl, rfl⟩ := h
        exact hQ E1 a1 w1 h1 h2 h3 h4
  | cond c x y ihx ihy =>
    intro E M M' w fr fr' a e hR hG hF h Q hQ
    simp only [cCode] at h
    cases hc : cOpd gl c with
    | none => rw [hc] at h; cases h
    | some d =>
      rw [hc] at h
      simp only [exec] at h
      have hv := (hF.rok hG).1 c d hc
      cases hd : fr.ev d <;> rw [hd] at h hv <;> simp only [reduceCtorEq] at h
      rename_i t
      have : a.eval c = .bool t := by
        generalize a.eval c = u at hv
        cases hv; rfl
      refine wp_cond this ?_
      cases t with
      | true => exact ihx E M M' w fr fr' a e hR hG hF h Q hQ
      | false => exact ihy E M M' w fr fr' a e hR hG hF h Q hQ
  | block id b ih =>
    intro E M M' w fr fr' a e hR hG hF h Q hQ
    simp only [cCode, exec] at h
    cases hs : exec call n fuel (cCode P gl b) fr M with
    | none => rw [hs] at h; cases h
    | some r =>
      obtain ⟨e1, fr1, M1⟩ := r
      rw [hs] at h
      refine wp_block (ih E M M1 w fr fr1 a e1 hR hG hF hs _ fun E1 a1 w1 h1 h2 h3 h4 => ?_)
      cases e1 with
      | normal =>
        simp only [Option.some.injEq, Prod.mk.injEq] at h
        obtain ⟨rfl, rfl, rfl⟩ := h
        exact hQ E1 a1 w1 h1 h2 h3 h4
      | exit j =>
        simp only [exOf, Exit.inBlock]
        simp only at h
        cases hj : Nat.beq j id with
        | true =>
          rw [hj] at h
          simp only [cond_true, Option.some.injEq, Prod.mk.injEq] at h
          obtain ⟨rfl, rfl, rfl⟩ := h
          rw [if_pos (Nat.eq_of_beq_eq_true hj)]
          exact hQ E1 a1 w1 h1 h2 h3 h4
        | false =>
          rw [hj] at h
          simp only [cond_false, Option.some.injEq, Prod.mk.injEq] at h
          obtain ⟨rfl, rfl, rfl⟩ := h
          rw [if_neg (Nat.ne_of_beq_eq_false hj)]
          exact hQ E1 a1 w1 h1 h2 h3 h4
      | ret =>
        simp only [Option.some.injEq, Prod.mk.injEq] at h
        obtain ⟨rfl, rfl, rfl⟩ := h
        exact hQ E1 a1 w1 h1 h2 h3 h4
  | loop b ih =>
    intro E M M' w fr fr' a e hR hG hF h Q hQ
    simp only [cCode, exec] at h
    exact wp_loop_rounds fuel (loop_sound ih fuel E M M' w fr fr' a e hR hG hF h Q hQ)
  | scope b ih =>
    intro E M M' w fr fr' a e hR hG hF h Q hQ
    simp only [cCode, exec] at h
    refine wp_scope_straight (ih E M M' w fr fr' a e hR hG hF h _ fun E1 a1 w1 h1 h2 h3 h4 => ?_)
    have := hQ E1 a1 w1 h1 h2 h3 h4
    cases e <;> exact this
  | exit id =>
    intro E M M' w fr fr' a e hR hG hF h Q hQ
    simp only [cCode, exec, Option.some.injEq, Prod.mk.injEq] at h
    obtain ⟨rfl, rfl, rfl⟩ := h
    exact wp_exit (hQ E a w hF hR (Ext.refl E _ w) rfl)
  | ret =>
    intro E M M' w fr fr' a e hR hG hF h Q hQ
    simp only [cCode, exec, Option.some.injEq, Prod.mk.injEq] at h
    obtain ⟨rfl, rfl, rfl⟩ := h
    exact wp_ret (hQ E a w hF hR (Ext.refl E _ w) rfl)
  | _ =>
    intro E M M' w fr fr' a e hR hG hF h
    simp only [cCode, exec, reduceCtorEq] at h

theorem rd_frameOf : ∀ (i : Nat) (vs : List V) (fr : Fr) (t : Nat), (frameOf i vs fr).rd t = if i ≤ t ∧ t < i + vs.length then vs.getD (t - i) .undef else fr.rd t
  | i, [], fr, t => by rw [if_neg (by rintro ⟨h1, h2⟩; simp at h2; omega)]; rfl
  | i, v :: vs, fr, t => by
    rw [frameOf, rd_frameOf (i + 1) vs, rd_set]
    simp only [List.length_cons]
    by_cases h1 : t = i
    · subst h1
      rw [if_neg (by omega), if_pos rfl, if_pos (by omega)]
      simp
    · by_cases h2 : i + 1 ≤ t ∧ t < i + 1 + vs.length
      · rw [if_pos h2, if_pos (by omega)]
        rw [show t - i = (t - (i + 1)) + 1 from by omega, List.getD_cons_succ]
      · rw [if_neg h2, if_neg h1, if_neg (by omega)]

theorem frame_rel {E : Emb} {vs : List V} {us : Array Value} (h : VRs E vs us.toList) (hn : vs.length ≤ n) : FrR E n (frameOf 0 vs .nil) { tmps := us ++ Array.replicate (n - us.size) Go.undef, defers := [] } := by
  have hl : us.size = vs.length := by have := h.length; simpa using this.symm
  refine ⟨by simp; omega, fun t => ?_⟩
  rw [rd_frameOf]
  simp only [Nat.zero_le, true_and, Nat.zero_add, Nat.sub_zero]
  simp only [Array.getD_eq_getD_getElem?]
  by_cases ht : t < vs.length
  · rw [if_pos ht, Array.getElem?_append_left (by omega)]
    have : vs[t]? = some vs[t] := List.getElem?_eq_getElem ht
    obtain ⟨u, hu, hv⟩ := h.get t _ this
    rw [List.getD_eq_getElem?_getD, this]
    have hu' : us[t]? = some u := by simpa using hu
    rw [hu']
    exact hv
  · rw [if_neg ht, Array.getElem?_append_right (by omega), Array.getElem?_replicate]
    have : (Fr.rd (.nil : Fr) t) = .undef := rfl
    rw [this]
    split <;> exact VR.undef E

/-- A result of a function. -/
def resF (tmps : Array Value) : ResultVar → Sem Value
  | .tmp t => pure (tmps.getD t Go.undef)
  | .cell x t => do loadVar t (← asAddr (tmps.getD x Go.undef))
theorem results_eq (fn : Func) (tmps : Array Value) : results fn tmps = (do let vs ← fn.results.mapM (resF tmps); pure (if h : vs.size = 1 then vs[0] else .tuple vs)) := by
  unfold results
  congr 1

theorem result_rel {E : Emb} {M : Mem} {w : World} {fr : Fr} {a : Act} (hR : Rel E M w) (hF : FrR E n fr a) : ∀ {rs : List ResultVar} {ars : List ARes} {vs : List V}, cRes P rs = some ars → resultsOf fr M ars = some vs →
    ∃ us : List Value, (rs.mapM (resF a.tmps)).run P w = .ok us w ∧ VRs E vs us
  | [], _, _, hc, h => by
    cases hc; cases h
    exact ⟨[], by rw [List.mapM_nil]; rfl, .nil⟩
  | .tmp t :: rs, _, _, hc, h => by
    simp only [cRes, Option.map_eq_some_iff] at hc
    obtain ⟨ars, hc, rfl⟩ := hc
    simp only [resultsOf, resultOf, Option.bind_some, Option.map_eq_some_iff] at h
    obtain ⟨vs, h, rfl⟩ := h
    obtain ⟨us, hu, hr⟩ := result_rel hR hF hc h
    refine ⟨a.tmps.getD t Go.undef :: us, ?_, .cons (hF.rd t) hr⟩
    simp only [List.mapM_cons, resF, Sem.run_bind, Sem.run_pure, Result.andThen_ok, hu]
  | .cell x t :: rs, _, _, hc, h => by
    simp only [cRes, Option.bind_eq_some_iff, Option.map_eq_some_iff] at hc
    obtain ⟨m, hm, ars, hc, rfl⟩ := hc
    simp only [resultsOf, resultOf, Option.bind_eq_some_iff, Option.map_eq_some_iff] at h
    obtain ⟨v, hv, vs, h, rfl⟩ := h
    obtain ⟨us, hu, hr⟩ := result_rel hR hF hc h
    obtain ⟨u, hu1, hl⟩ := load_rel hR hm (hF.rd x) hv
    refine ⟨u :: us, ?_, .cons hu1 hr⟩
    have hp : ∃ ad, a.tmps.getD x Go.undef = .pointer (some ad) := by
      have := hF.rd x
      unfold vload at hv
      split at hv
      · rename_i he
        rw [he] at this
        generalize a.tmps.getD x Go.undef = y at this
        cases this
        exact ⟨_, rfl⟩
      · cases hv
    obtain ⟨ad, hp⟩ := hp
    rw [hp] at hl
    simp only [Instr.loadAt, Instr.sureAddr, Sem.run_bind, Sem.run_pure, Result.andThen_ok] at hl
    simp only [List.mapM_cons, resF, Sem.run_bind, Sem.run_pure, Result.andThen_ok, hp, asAddr, hl, hu]

theorem results_rel {E : Emb} {M : Mem} {w : World} {fr : Fr} {a : Act} (hR : Rel E M w) (hF : FrR E n fr a) {fn : Func} {ars : List ARes} {vs : List V} (hc : cRes P fn.results.toList = some ars) (h : resultsOf fr M ars = some vs) :
    ∃ v', (results fn a.tmps).run P w = .ok v' w ∧ VR E (oneOf vs) v' := by
  obtain ⟨us, hu, hr⟩ := result_rel hR hF hc h
  refine ⟨(if h : us.toArray.size = 1 then us.toArray[0] else .tuple us.toArray), ?_, ?_⟩
  · rw [results_eq, Array.mapM_eq_mapM_toList]
    simp only [Sem.run_bind, Sem.run_map, hu, Result.andThen_ok, Sem.run_pure]
  · cases hr with
    | nil => exact VR.tup (cs' := #[]) .nil
    | cons h0 ht =>
      cases ht with
      | nil => exact h0
      | cons h1 h2 =>
        simp only [oneOf]
        exact VR.tup (cs' := (_ :: _ :: _).toArray) (.cons h0 (.cons h1 h2))

/-- A machine whose code is the program's, whose own parts are sound. -/
structure DOK (P : Program) (gl : Nat → Bool) (D : Decls) : Prop where
  mixed : P.follows .mixedOrders = true
  code : ∀ f F, D.code.get f = some F → ∃ fn, P.funcs[f]? = some fn ∧ (fn.name == "runtime.NumGoroutine") = false ∧ cFunc P gl fn = some F
  prim : ∀ f g, D.prim f = some g → CallOK P gl fun f' args M => if f' = f then g args M else none

theorem callN_sound {D : Decls} (hD : DOK P gl D) : ∀ (k : Nat), CallOK P gl (callN D k)
  | 0 => fun _ _ _ _ _ h => by cases h
  | k + 1 => by
    intro f args M v M' h
    simp only [callN] at h
    cases hp : D.prim f with
    | some g =>
      rw [hp] at h
      exact hD.prim f g hp f args M v M' (by simp only [if_true]; exact h)
    | none =>
      rw [hp] at h
      simp only at h
      cases hg : D.code.get f with
      | none => rw [hg] at h; cases h
      | some F =>
        rw [hg] at h
        simp only [Bool.cond_eq_ite] at h
        split at h
        · rename_i hle
          have hle : args.length ≤ F.ntmps := Nat.le_of_ble_eq_true hle
          obtain ⟨fn, hf, hnm, hc⟩ := hD.code f F hg
          unfold cFunc at hc
          simp only [Option.bind_eq_some_iff, Option.map_eq_some_iff] at hc
          obtain ⟨b, hb, rs, hrs, rfl⟩ := hc
          refine ⟨⟨fn, hf, by rw [hb]; rfl, hnm⟩, fun E w args' hR hG ha => ?_⟩
          refine calls_of_wp hf hb ?_
          simp only at h hle
          have hF := frame_rel (n := fn.ntmps) ha hle
          cases he : exec (callN D k) fn.ntmps k (cCode P gl b) (frameOf 0 args .nil) M with
          | none => rw [he] at h; cases h
          | some r =>
            obtain ⟨e, fr1, M1⟩ := r
            rw [he] at h
            refine exec_sound (callN_sound hD k) hD.mixed k b E M M1 w _ fr1 _ e hR hG hF he _ fun E1 a1 w1 h1 h2 h3 h4 => ?_
            cases e with
            | exit id => cases h
            | normal =>
              simp only [Option.map_eq_some_iff] at h
              obtain ⟨vs, hvs, h⟩ := h
              cases h
              obtain ⟨v', hv', hr⟩ := results_rel h2 h1 hrs hvs
              exact ⟨h4, v', hv', E1, v', rfl, hr, h2, h3⟩
            | ret =>
              simp only [Option.map_eq_some_iff] at h
              obtain ⟨vs, hvs, h⟩ := h
              cases h
              obtain ⟨v', hv', hr⟩ := results_rel h2 h1 hrs hvs
              exact ⟨h4, v', hv', E1, v', rfl, hr, h2, h3⟩
        · cases h
end
end Go.Am
