/- An operation of the machine against the program's own: all that write, put together; calls. -/
import Derived.Test.YtpkflnohagieiaaAmSnd12
set_option linter.unusedSimpArgs false
set_option linter.unusedVariables false
namespace Go.Am
open Go Go.RowKit

section
variable {P : Program} {E : Emb} {M : Mem} {w : World} {gl : Nat → Bool} {ρ : Opd → V} {ρ' : Operand → Value}

theorem AppOk.ok {o : Oper} {s : Sem Value} {v : V} {M' : Mem} (h : AppOk P E M w s v M') (he : execOp ρ' o = (do pure (.value (← s)))) : Ok P E M w (execOp ρ' o) v M' := by
  obtain ⟨E', v', w', hr, hv, h1, h2⟩ := h
  exact .of he hr hv h1 h2
theorem AppOk.okB {o : Oper} {b : Builtin} {args : Array Operand} {ts : Array TypeId} {s : Sem Value} {v : V} {M' : Mem} (h : AppOk P E M w s v M') (ho : o.op = .call ⟨.builtin b, args, ts⟩)
    (hb : ∀ c, builtin b ts o.type c (args.map ρ') = (do pure (.value (← s)))) : Ok P E M w (execOp ρ' o) v M' := by
  obtain ⟨E', v', w', hr, hv, h1, h2⟩ := h
  refine ⟨E', v', w', .inl ?_, hv, h1, h2⟩
  simp only [execOp, ho, resolve, Sem.run_bind, Sem.run_pure, Result.andThen_ok, invoke, hb, hr]

def opWrites : Op → Bool
  | .store _ _ _ => true
  | .mapUpdate _ _ _ _ => true
  | .insert _ _ _ _ => true
  | .makeMap _ _ => true
  | .makeSlice _ _ _ => true
  | .convert _ _ _ => true
  | .range _ _ => true
  | .next _ _ => true
  | .call _ => true
  | _ => false
theorem cOp_notW {o : Oper} (hn : opWrites o.op = false) : NotC Cls.isW (cOp P gl o) := by
  cases hop : o.op <;> simp only [cOp, hop, cBin, cBuiltin] <;> (first | (rw [hop] at hn; cases hn; done) | skip) <;>
    repeat' (first | contradiction | exact NotC.none | exact NotC.some rfl | (refine NotC.bind fun _ => ?_) | exact NotC.map fun _ => rfl | refine NotC.cond ?_ ?_ | split)

theorem two_args {args : Array Operand} {u v : Value} (h : args.toList.map ρ' = [u, v]) : args.map ρ' = #[u, v] := by
  apply Array.ext'
  simpa using h

theorem w_sound (h : Rel E M w) (hρ : ROK gl E ρ ρ') {o : Oper} {ao : AOp} (hc : cOp P gl o = some ao) (hcl : (clsOf ao).isW = true) {v : V} {M' : Mem} (hv : aop ao ρ M = some (.val v M')) : Ok P E M w (execOp ρ' o) v M' := by
  have hW : opWrites o.op = true := by
    cases hq : opWrites o.op with
    | true => rfl
    | false => rw [cOp_notW (P := P) (gl := gl) hq ao hc] at hcl; cases hcl
  cases hop : o.op <;> (first | (rw [hop] at hW; cases hW; done) | skip) <;> simp only [cOp, hop] at hc
  case store t a x =>
    simp only [Option.bind_eq_some_iff, Option.map_eq_some_iff] at hc
    obtain ⟨n, hn, y, hy, z, hz, rfl⟩ := hc
    simp only [aop, Option.map_eq_some_iff, Res.val.injEq] at hv
    obtain ⟨M1, hM1, rfl, rfl⟩ := hv
    obtain ⟨w', hr, h1, h2⟩ := store_rel (P := P) h hn (hρ.1 _ _ hy) (hρ.1 _ _ hz) hM1
    exact .ofUnit (s := Instr.storeAt t (ρ' a) (ρ' x)) (by simp [execOp, hop]) hr h1 h2
  case convert s d x =>
    simp only [Option.bind_eq_some_iff] at hc
    obtain ⟨y, hy, hc⟩ := hc
    have hx := hρ.1 _ _ hy
    split at hc
    · cases hc; simp [clsOf, Cls.isW] at hcl
    · cases hc; simp [clsOf, Cls.isW] at hcl
    · rename_i e hs hd
      split at hc
      · rename_i he
        cases hc
        simp only [aop] at hv
        split at hv
        · rename_i st hn
          simp only [Option.some.injEq, Res.val.injEq] at hv
          obtain ⟨rfl, rfl⟩ := hv
          rw [hn] at hx
          generalize hu : ρ' x = u at hx
          obtain ⟨s1, rfl, rfl⟩ := hx.str_inv rfl
          exact (strBytes_rel (P := P) h hs hd he s1).ok (by simp [execOp, hop, hu])
        · cases hv
      · cases hc
    · split at hc
      · cases hc; simp [clsOf, Cls.isW] at hcl
      · cases hc
    · cases hc
  case makeMap t r =>
    cases r <;> simp only [] at hc
    · cases hc
      simp only [aop, Option.some.injEq, Res.val.injEq] at hv
      obtain ⟨rfl, rfl⟩ := hv
      exact (makeMap_rel (P := P) (t := t) h).ok (by simp [execOp, hop])
    · cases hc
  case makeSlice t l c =>
    split at hc
    · rename_i e hu
      simp only [Option.bind_eq_some_iff] at hc
      obtain ⟨n, hn, m, hm, z, hz, l', hl, c', hcc, hc⟩ := hc
      rw [Bool.cond_eq_ite] at hc
      split at hc
      · cases hc
      · rename_i h0
        obtain ⟨hzl, hc⟩ := cond_some hc
        cases hc
        have hzl := Nat.eq_of_beq_eq_true hzl
        have h0 : n ≠ 0 := by rintro rfl; exact h0 rfl
        simp only [aop] at hv
        split at hv
        · rename_i k1 ln k2 cn hln hcn
          obtain ⟨q1, hv⟩ := cond_some hv
          obtain ⟨q2, hv⟩ := cond_some hv
          obtain ⟨q3, hv⟩ := cond_some hv
          rw [ble_iff] at q1 q2 q3
          simp only [Option.some.injEq, Res.val.injEq] at hv
          obtain ⟨rfl, rfl⟩ := hv
          have r1 := hρ.1 _ _ hl
          have r2 := hρ.1 _ _ hcc
          rw [hln] at r1
          rw [hcn] at r2
          generalize hu1 : ρ' l = u1 at r1
          generalize hu2 : ρ' c = u2 at r2
          cases r1; cases r2
          exact (makeSlice_rel (P := P) h hu hn hm hz h0 hzl (of_decide_eq_true q1) (of_decide_eq_true q2) (of_decide_eq_true q3)).ok (by simp only [execOp, hop, hu1, hu2]; rfl)
        · cases hv
    · cases hc
  case mapUpdate t m k x =>
    simp only [Option.bind_eq_some_iff] at hc
    obtain ⟨m', hm, k', hk, x', hx, hc⟩ := hc
    split at hc
    · rename_i kt e hu
      simp only [Option.map_eq_some_iff] at hc
      obtain ⟨sh, hs, rfl⟩ := hc
      simp only [aop, Option.map_eq_some_iff, Res.val.injEq] at hv
      obtain ⟨M1, hM1, rfl, rfl⟩ := hv
      obtain ⟨w', hr, h1, h2⟩ := mapUpdate_rel (P := P) h hu hs (hρ.1 _ _ hm) (hρ.1 _ _ hk) (hρ.1 _ _ hx) hM1
      exact .ofUnit (s := Instr.mapUpdate t (ρ' m) (ρ' k) (ρ' x)) (by simp [execOp, hop]) hr h1 h2
    · cases hc
  case insert t m k x =>
    simp only [Option.bind_eq_some_iff] at hc
    obtain ⟨m', hm, k', hk, x', hx, hc⟩ := hc
    split at hc
    · rename_i kt e hu
      simp only [Option.map_eq_some_iff] at hc
      obtain ⟨sh, hs, rfl⟩ := hc
      simp only [aop, Option.map_eq_some_iff, Res.val.injEq] at hv
      obtain ⟨M1, hM1, rfl, rfl⟩ := hv
      obtain ⟨w', hr, h1, h2⟩ := mapUpdate_rel (P := P) h hu hs (hρ.1 _ _ hm) (hρ.1 _ _ hk) (hρ.1 _ _ hx) hM1
      exact .ofUnit (s := Instr.mapUpdate t (ρ' m) (ρ' k) (ρ' x)) (by simp [execOp, hop]) hr h1 h2
    · cases hc
  case range t x =>
    simp only [Option.bind_eq_some_iff] at hc
    obtain ⟨y, hy, hc⟩ := hc
    split at hc
    · rename_i hu
      cases hc
      simp only [aop] at hv
      split at hv
      · rename_i s hs
        simp only [Option.some.injEq, Res.val.injEq] at hv
        obtain ⟨rfl, rfl⟩ := hv
        have hx := hρ.1 _ _ hy
        rw [hs] at hx
        generalize hux : ρ' x = u at hx
        obtain ⟨s1, rfl, rfl⟩ := hx.str_inv rfl
        exact (rangeStr_rel (P := P) h hu s1).ok (by simp [execOp, hop, hux])
      · cases hv
    · cases hc
  case next x st =>
    cases st <;> simp only [] at hc
    · cases hc
    · simp only [Option.map_eq_some_iff] at hc
      obtain ⟨y, hy, rfl⟩ := hc
      simp only [aop, Option.map_eq_some_iff, Res.val.injEq] at hv
      obtain ⟨r, hr, rfl, rfl⟩ := hv
      exact (nextStr_rel (P := P) (t := o.type) h (hρ.1 _ _ hy) hr).ok (by simp [execOp, hop])
  case call c =>
    simp only [Option.bind_eq_some_iff] at hc
    obtain ⟨xs, hxs, hc⟩ := hc
    have hxr := cOpds_rel hρ hxs
    obtain ⟨callee, args, ts⟩ := c
    split at hc
    · simp only [Option.map_eq_some_iff] at hc
      obtain ⟨f, _, rfl⟩ := hc
      simp only [aop] at hv
      split at hv
      · cases hv
      · cases hv
    · rename_i b hcal
      simp only at hcal
      subst hcal
      simp only at hc hxr
      unfold cBuiltin at hc
      split at hc
      · split at hc <;> first | (cases hc; done) | (cases hc; simp [clsOf, Cls.isW] at hcl)
      · rename_i t u x y hts
        have hts' : ts = #[t, u] := by apply Array.ext'; simpa using hts
        subst hts'
        split at hc
        · rename_i e hu
          split at hc
          · cases hc
          · rename_i d2 hni hu2
            simp only [Option.bind_eq_some_iff] at hc
            obtain ⟨s, hs, n, hn, z, hz, hc⟩ := hc
            rw [Bool.cond_eq_ite] at hc
            split at hc
            · cases hc
            · rename_i h0
              rw [Bool.cond_eq_ite] at hc
              split at hc
              · cases hc
              · rename_i h1
                obtain ⟨hzl, hc⟩ := cond_some hc
                cases hc
                simp only [List.map_cons, List.map_nil] at hxr
                generalize hal : args.toList.map ρ' = al at hxr
                cases hxr with | cons hx0 htl =>
                cases htl with | cons hy0 ht2 =>
                cases ht2
                simp only [aop, Option.map_eq_some_iff, Res.val.injEq] at hv
                obtain ⟨r, hr, rfl, rfl⟩ := hv
                refine (append_rel (P := P) (ty := o.type) h hu hu2 (fun k e => hni k e) hs hn hz (by rintro rfl; exact h0 rfl) (by rintro rfl; exact h1 rfl) (Nat.eq_of_beq_eq_true hzl) hx0 hy0 hr).okB hop ?_
                intro c
                rw [two_args hal]
                rfl
          · cases hc
        · cases hc
      · rename_i t u x y hts
        have hts' : ts = #[t, u] := by apply Array.ext'; simpa using hts
        subst hts'
        split at hc
        · rename_i e hu
          simp only [Option.bind_eq_some_iff] at hc
          obtain ⟨s, hs, hc⟩ := hc
          rw [Bool.cond_eq_ite] at hc
          split at hc
          · cases hc
          · cases hc
            simp only [List.map_cons, List.map_nil] at hxr
            generalize hal : args.toList.map ρ' = al at hxr
            cases hxr with | cons hx0 htl =>
            cases htl with | cons hy0 ht2 =>
            cases ht2
            simp only [aop, Option.map_eq_some_iff, Res.val.injEq] at hv
            obtain ⟨r, hr, rfl, rfl⟩ := hv
            refine (copy_rel (P := P) (ty := o.type) (tb := u) h hu hs hx0 hy0 hr).okB hop ?_
            intro c
            rw [two_args hal]
            rfl
        · cases hc
      · rename_i t u m k hts
        have hts' : ts = #[t, u] := by apply Array.ext'; simpa using hts
        subst hts'
        split at hc
        · rename_i kt e hu
          simp only [Option.map_eq_some_iff] at hc
          obtain ⟨sh, hs, rfl⟩ := hc
          simp only [List.map_cons, List.map_nil] at hxr
          generalize hal : args.toList.map ρ' = al at hxr
          cases hxr with | cons hx0 htl =>
          cases htl with | cons hy0 ht2 =>
          cases ht2
          simp only [aop, Option.map_eq_some_iff, Res.val.injEq] at hv
          obtain ⟨M1, hM1, rfl, rfl⟩ := hv
          obtain ⟨w', hr, h1, h2⟩ := delete_rel (P := P) (ty := o.type) (tb := u) h hu hs hx0 hy0 hM1
          have hap : AppOk P E M w (Builtin.delete_ #[t, u] o.type #[_, _]) .undef M1 := ⟨E, _, w', hr, VR.undef E, h1, h2⟩
          refine hap.okB hop ?_
          intro c
          rw [two_args hal]
          rfl
        · cases hc
      · cases hc; simp [clsOf, Cls.isW] at hcl
      · cases hc; simp [clsOf, Cls.isW] at hcl
      · cases hc
    · cases hc

/-- May a function be called by its number? -/
def Callable (P : Program) (f : FuncId) : Prop := ∃ fn, P.funcs[f]? = some fn ∧ fn.body.isSome = true ∧ (fn.name == "runtime.NumGoroutine") = false

theorem run_callFunc {f : FuncId} (hf : Callable P f) (args : Array Value) (w : World) : (callFunc f args).run P w = .ok (.enter f args) w := by
  obtain ⟨fn, h1, h2, h3⟩ := hf
  have h2' : fn.body.isNone = false := by cases hb : fn.body <;> simp_all
  simp only [callFunc, Sem.run_bind, run_program, Result.andThen_ok, h1, h3, Bool.false_eq_true, if_false, h2', Sem.run_pure]

def isCallA : AOp → Bool
  | .call _ _ => true
  | _ => false
/-- No call. -/
def NoCall (x : Option Res) : Prop := ∀ f a, x ≠ some (.call f a)
theorem NoCall.none : NoCall none := fun _ _ h => by cases h
theorem NoCall.val (v : V) (M : Mem) : NoCall (some (.val v M)) := fun _ _ h => by cases h
theorem NoCall.vof (x : Option V) (M : Mem) : NoCall (vof x M) := fun f a h => by
  simp only [Am.vof, Option.map_eq_some_iff] at h
  obtain ⟨_, _, h⟩ := h
  cases h
theorem NoCall.map {α : Type} {x : Option α} {g : α → Res} (hg : ∀ y f a, g y ≠ .call f a) : NoCall (x.map g) := fun f a h => by
  simp only [Option.map_eq_some_iff] at h
  obtain ⟨y, _, h⟩ := h
  exact hg y f a h
theorem NoCall.bind {α : Type} {x : Option α} {g : α → Option Res} (hg : ∀ y, NoCall (g y)) : NoCall (x.bind g) := fun f a h => by
  obtain ⟨y, _, h⟩ := Option.bind_eq_some_iff.1 h
  exact hg y f a h
theorem NoCall.cond {c : Bool} {x y : Option Res} (hx : NoCall x) (hy : NoCall y) : NoCall (cond c x y) := by cases c <;> assumption
theorem aop_noCall {ao : AOp} (hn : isCallA ao = false) : NoCall (aop ao ρ M) := by
  cases ao <;> simp only [aop] <;> (first | (cases hn; done) | skip) <;>
    repeat' (first | exact NoCall.none | exact NoCall.val _ _ | exact NoCall.vof _ _ | (refine NoCall.map ?_; intro _ _ _ h; cases h; done) | (refine NoCall.bind fun _ => ?_) | refine NoCall.cond ?_ ?_ | split)

def NotK (x : Option AOp) : Prop := ∀ a, x = some a → isCallA a = false
theorem NotK.none : NotK none := fun _ h => by cases h
theorem NotK.some {a : AOp} (h : isCallA a = false) : NotK (some a) := fun _ e => by cases e; exact h
theorem NotK.bind {α : Type} {x : Option α} {f : α → Option AOp} (h : ∀ y, NotK (f y)) : NotK (x.bind f) := fun a e => by
  obtain ⟨y, _, hy⟩ := Option.bind_eq_some_iff.1 e
  exact h y a hy
theorem NotK.map {α : Type} {x : Option α} {f : α → AOp} (h : ∀ y, isCallA (f y) = false) : NotK (x.map f) := fun a e => by
  obtain ⟨y, _, hy⟩ := Option.map_eq_some_iff.1 e
  rw [← hy]; exact h y
theorem NotK.cond {c : Bool} {x y : Option AOp} (hx : NotK x) (hy : NotK y) : NotK (cond c x y) := by cases c <;> assumption
theorem cBuiltin_notK (b : Builtin) (ts : List TypeId) (xs : List Opd) : NotK (cBuiltin P b ts xs) := by
  unfold cBuiltin
  repeat' (first | contradiction | exact NotK.none | exact NotK.some rfl | (refine NotK.bind fun _ => ?_) | exact NotK.map fun _ => rfl | refine NotK.cond ?_ ?_ | split)
def opIsCall : Op → Bool
  | .call _ => true
  | _ => false
theorem cOp_notK {o : Oper} (hn : opIsCall o.op = false) : NotK (cOp P gl o) := by
  cases hop : o.op <;> simp only [cOp, hop, cBin] <;> (first | (rw [hop] at hn; cases hn; done) | skip) <;>
    repeat' (first | contradiction | exact NotK.none | exact NotK.some rfl | (refine NotK.bind fun _ => ?_) | exact NotK.map fun _ => rfl | refine NotK.cond ?_ ?_ | split)

theorem cOp_call {o : Oper} {fo : Opd} {xs : List Opd} (hc : cOp P gl o = some (.call fo xs)) : ∃ f args ts, o.op = .call ⟨.value f, args, ts⟩ ∧ cOpd gl f = some fo ∧ cOpds gl args.toList = some xs := by
  have hK : opIsCall o.op = true := by
    cases hq : opIsCall o.op with
    | true => rfl
    | false => have := cOp_notK (P := P) (gl := gl) hq _ hc; cases this
  cases hop : o.op <;> (first | (rw [hop] at hK; cases hK; done) | skip)
  rename_i c
  simp only [cOp, hop] at hc
  obtain ⟨callee, args, ts⟩ := c
  simp only [Option.bind_eq_some_iff] at hc
  obtain ⟨ys, hys, hc⟩ := hc
  cases callee with
  | value f =>
    simp only [Option.map_eq_some_iff] at hc
    obtain ⟨f2, hf2, hc⟩ := hc
    cases hc
    exact ⟨f, args, ts, rfl, hf2, hys⟩
  | builtin b =>
    have := cBuiltin_notK (P := P) b ts.toList ys _ hc
    cases this
  | invoke r m => cases hc

theorem call_sound (hρ : ROK gl E ρ ρ') {o : Oper} {ao : AOp} (hc : cOp P gl o = some ao) {f : FuncId} {args : List V} (hv : aop ao ρ M = some (.call f args)) (hf : Callable P f) :
    ∃ args' : Array Value, (∀ w, (execOp ρ' o).run P w = .ok (.enter f args') w) ∧ VRs E args args'.toList := by
  cases hq : isCallA ao with
  | false => exact absurd hv (aop_noCall hq f args)
  | true =>
    cases ao <;> simp only [isCallA] at hq <;> (first | (cases hq; done) | skip)
    rename_i fo xs
    obtain ⟨fo', cargs, ts, hop, hfo, hxs⟩ := cOp_call hc
    simp only [aop] at hv
    split at hv
    · rename_i f1 first captured hfn
      simp only [Option.some.injEq, Res.call.injEq] at hv
      obtain ⟨rfl, rfl⟩ := hv
      have hyr := cOpds_rel hρ hxs
      have hfr := hρ.1 _ _ hfo
      rw [hfn] at hfr
      generalize huf : ρ' fo' = uf at hfr
      cases hfr
      rename_i a' b' ha hb
      refine ⟨a' ++ cargs.map ρ' ++ b', fun w => ?_, ?_⟩
      · simp only [execOp, hop, resolve, huf, Deferred.ofValue, Sem.run_bind, Sem.run_pure, Result.andThen_ok, invoke]
        exact run_callFunc hf _ w
      · simpa using (ha.app hyr).app hb
    · cases hv
end
end Go.Am
