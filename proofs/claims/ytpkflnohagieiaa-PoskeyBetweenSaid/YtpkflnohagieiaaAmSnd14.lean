/- A statement of the machine against the program's own: one operation behind the other. -/
import Derived.Test.YtpkflnohagieiaaAmSnd13
import Derived.Orders
set_option linter.unusedSimpArgs false
set_option linter.unusedVariables false
namespace Go.Am
open Go Go.RowKit

section
variable {P : Program} {E : Emb} {M : Mem} {w : World} {gl : Nat → Bool} {n : Nat} {fr : Fr} {a : Act}

/-- The machine's slots against the program's. -/
structure FrR (E : Emb) (n : Nat) (fr : Fr) (a : Act) : Prop where
  size : a.tmps.size = n
  rd : ∀ t, VR E (fr.rd t) (a.tmps.getD t Go.undef)

theorem FrR.mono {E E' : Emb} (h : FrR E n fr a) (hE : Emb.le E E') : FrR E' n fr a := ⟨h.size, fun t => (h.rd t).mono hE⟩

theorem FrR.rok (h : FrR E n fr a) (hG : GOK gl E) : ROK gl E fr.ev a.eval := by
  refine ⟨fun x y hc => ?_, fun v => rfl⟩
  cases x with
  | tmp t => simp only [cOpd, Option.some.injEq] at hc; subst hc; exact h.rd t
  | const v =>
    simp only [cOpd, Option.map_eq_some_iff] at hc
    obtain ⟨u, hu, rfl⟩ := hc
    exact vOf_rel hu
  | func f => simp only [cOpd, Option.some.injEq] at hc; subst hc; exact .fn .nil .nil
  | global g =>
    simp only [cOpd] at hc
    obtain ⟨hg, hc⟩ := cond_some hc
    cases hc
    obtain ⟨k, hk⟩ := hG g hg
    exact .ptr (o := 0) (d := 0) hk

theorem rd_set (fr : Fr) (d t : Nat) (v : V) : Fr.rd (T.set fr d v) t = if t = d then v else fr.rd t := by
  unfold Fr.rd
  rw [T.get_set]
  split <;> rfl
theorem rd_put (fr : Fr) (dst : Option Nat) (t : Nat) (v : V) : (fr.put n dst v).rd t = if dst = some t ∧ t < n then v else fr.rd t := by
  unfold Fr.put
  cases dst with
  | none => simp
  | some d =>
    simp only [ble_iff]
    by_cases hd : d + 1 ≤ n
    · simp only [hd, decide_true, cond_true, rd_set]
      by_cases e : t = d
      · subst e; rw [if_pos rfl, if_pos ⟨rfl, by omega⟩]
      · rw [if_neg e, if_neg (by rintro ⟨h, _⟩; cases h; exact e rfl)]
    · simp only [hd, decide_false, cond_false]
      rw [if_neg (by rintro ⟨h, h2⟩; cases h; omega)]

theorem getD_put (a : Act) (dst : Option Tmp) (t : Nat) (u : Value) : (a.put dst u).tmps.getD t Go.undef = if dst = some t ∧ t < a.tmps.size then u else a.tmps.getD t Go.undef := by
  unfold Act.put
  cases dst with
  | none => simp
  | some d =>
    simp only [Array.getD_eq_getD_getElem?]
    by_cases e : d = t
    · subst e
      by_cases hd : d < a.tmps.size
      · rw [Array.getElem?_setIfInBounds_self_of_lt hd, if_pos ⟨rfl, hd⟩]; rfl
      · rw [if_neg (fun h => hd h.2), Array.getElem?_eq_none (i := d) (by rw [Array.size_setIfInBounds]; exact Nat.le_of_not_lt hd), Array.getElem?_eq_none (i := d) (Nat.le_of_not_lt hd)]
    · rw [Array.getElem?_setIfInBounds_ne e, if_neg (by rintro ⟨h, _⟩; cases h; exact e rfl)]
theorem size_put (a : Act) (dst : Option Tmp) (u : Value) : (a.put dst u).tmps.size = a.tmps.size := by cases dst <;> simp [Act.put]
theorem defers_put (a : Act) (dst : Option Tmp) (u : Value) : (a.put dst u).defers = a.defers := by cases dst <;> rfl

theorem FrR.put (h : FrR E n fr a) {v : V} {u : Value} (hv : VR E v u) (dst : Option Nat) : FrR E n (fr.put n dst v) (a.put dst u) := by
  refine ⟨by rw [size_put]; exact h.size, fun t => ?_⟩
  rw [rd_put, getD_put, h.size]
  split
  · exact hv
  · exact h.rd t

/-- A guard. -/
theorem wanted_rel (h : FrR E n fr a) {ops : Array Oper} {o : Oper} {ao : AOper} (hc : cOper P gl ops o = some ao) : Region.wanted o (yielded ops a.tmps) = wantedA fr ao.guard := by
  unfold cOper at hc
  unfold Region.wanted
  cases hg : o.guard with
  | none =>
    simp only [hg] at hc
    cases hc
    rfl
  | some g =>
    obtain ⟨j, b⟩ := g
    simp only [hg] at hc
    cases hd : (ops[j]?).bind (·.dst) with
    | none => rw [hd] at hc; cases hc
    | some t =>
      rw [hd] at hc
      cases hc
      simp only [wantedA, yielded, hd]
      have hr := h.rd t
      have hget : a.tmps.getD t Go.undef = (a.tmps[t]?).getD Go.undef := by rw [Array.getD_eq_getD_getElem?]
      rw [hget] at hr
      cases ht : a.tmps[t]? with
      | none =>
        rw [ht] at hr
        generalize fr.rd t = x at hr
        have : ∀ {y : V} {u : Value}, VR E y u → u = Go.undef → (∃ l, y = .tup l) := by
          intro y u hyu e
          cases hyu <;> first | (cases e; done) | exact ⟨_, rfl⟩
        obtain ⟨l, rfl⟩ := this hr rfl
        simp only [Option.bind_some, ht]
        cases b <;> rfl
      | some u =>
        rw [ht] at hr
        simp only [Option.getD_some] at hr
        simp only [Option.bind_some, ht]
        generalize fr.rd t = x at hr
        cases hr
        case bool x => cases x <;> cases b <;> rfl
        all_goals simp

theorem cOper_dst {ops : Array Oper} {o : Oper} {ao : AOper} (hc : cOper P gl ops o = some ao) : ao.dst = o.dst ∧ ao.op = (cOp P gl o).getD .fail := by
  unfold cOper at hc
  cases hg : o.guard with
  | none => simp only [hg] at hc; cases hc; exact ⟨rfl, rfl⟩
  | some g =>
    obtain ⟨j, b⟩ := g
    simp only [hg] at hc
    split at hc
    · cases hc; exact ⟨rfl, rfl⟩
    · cases hc

theorem cOp_of {o : Oper} {ρ : Opd → V} {r : Res} (h : aop ((cOp P gl o).getD .fail) ρ M = some r) : cOp P gl o = some ((cOp P gl o).getD .fail) := by
  cases hc : cOp P gl o with
  | none => rw [hc] at h; cases h
  | some a => rfl

/-- What a call of the machine's is worth. -/
def CallOK (P : Program) (gl : Nat → Bool) (call : CallF) : Prop :=
  ∀ (f : FuncId) (args : List V) (M : Mem) (v : V) (M' : Mem), call f args M = some (v, M') → Callable P f ∧
    ∀ (E : Emb) (w : World) (args' : Array Value), Rel E M w → GOK gl E → VRs E args args'.toList →
      Calls P f args' w fun e w' => ∃ E' v', e = .returned v' ∧ VR E' v v' ∧ Rel E' M' w' ∧ Ext E M w E' M' w'

/-- One operation, of whatever class, carried out where it stands. -/
theorem op_run {call : CallF} (hcall : CallOK P gl call) (hR : Rel E M w) (hG : GOK gl E) (hF : FrR E n fr a) {o : Oper} {ao : AOp} (hc : cOp P gl o = some ao) {v : V} {M' : Mem}
    (hv : aop ao fr.ev M = some (.val v M') ∨ ∃ f args, aop ao fr.ev M = some (.call f args) ∧ call f args M = some (v, M')) {K : Act → World → Prop} {Q : Exit → Act → World → Prop}
    (hK : ∀ E' v' w', VR E' v v' → Rel E' M' w' → Ext E M w E' M' w' → K (a.put o.dst v') w') : o.wp P a w K Q := by
  have hρ := hF.rok hG
  unfold Oper.wp
  rcases hv with hv | ⟨f, args, hv, hcl⟩
  · have hok : Ok P E M w (execOp a.eval o) v M' := by
      cases hcls : clsOf ao with
      | p =>
        obtain ⟨rfl, v', hv', hr⟩ := pr_sound hR hρ hc (by rw [hcls]; rfl) hv
        exact ⟨E, v', w, .inl hr, hv', hR, Ext.refl E M' w⟩
      | r =>
        obtain ⟨rfl, v', hv', hr⟩ := pr_sound hR hρ hc (by rw [hcls]; rfl) hv
        exact ⟨E, v', w, .inl hr, hv', hR, Ext.refl E M' w⟩
      | a =>
        obtain ⟨s, cs, arr, elem, rfl, rfl, hcs, hr⟩ := a_sound hρ hc (by rw [hcls]; rfl) hv
        obtain ⟨h1, h2⟩ := grow_rel hR hcs #[] elem
        simp only [Array.size_empty, Nat.add_zero, Array.append_empty, Array.toArray_toList] at h1 h2
        exact ⟨_, _, _, .inl (hr w), mk_rel (Emb.more_same _ _ _), h1, h2⟩
      | w => exact w_sound hR hρ hc (by rw [hcls]; rfl) hv
    obtain ⟨E', v', w', hr, hv', h1, h2⟩ := hok
    rcases hr with hr | ⟨hr, rfl⟩
    · rw [hr]; exact hK E' v' w' hv' h1 h2
    · rw [hr]; exact hK E' _ w' hv' h1 h2
  · obtain ⟨hf, hcs⟩ := hcall f args M v M' hcl
    obtain ⟨args', hr, hargs⟩ := call_sound (P := P) hρ hc hv hf
    rw [hr w, Oper.upon_enter]
    refine (hcs E w args' hR hG hargs).mono fun e w' he => ?_
    obtain ⟨E', v', rfl, hv', h1, h2⟩ := he
    exact hK E' v' w' hv' h1 h2

/-- One item of a statement whose order is the text's. -/
theorem item_run {call : CallF} (hcall : CallOK P gl call) (hR : Rel E M w) (hG : GOK gl E) (hF : FrR E n fr a) {ops : Array Oper} {o : Oper} {ao : AOper} (hc : cOper P gl ops o = some ao) {fr' : Fr} {M' : Mem} {l : List AOper}
    (he : execItem call n ⟨ao, l⟩ fr M = some (fr', M')) {K : Act → World → Prop} {Q : Exit → Act → World → Prop}
    (hK : ∀ E' a' w', FrR E' n fr' a' → Rel E' M' w' → Ext E M w E' M' w' → a'.defers = a.defers → K a' w') :
    (if Region.wanted o (yielded ops a.tmps) then o.wp P a w K Q ∨ (o.asks P a w ∧ LetsOut Q) else K (a.put o.dst Go.undef) w) := by
  obtain ⟨hd, hop⟩ := cOper_dst hc
  rw [wanted_rel hF hc]
  unfold execItem at he
  cases hw : wantedA fr ao.guard with
  | false =>
    simp only [hw, cond_false, Option.some.injEq, Prod.mk.injEq] at he
    obtain ⟨rfl, rfl⟩ := he
    simp only [Bool.false_eq_true, if_false]
    refine hK E _ w ?_ hR (Ext.refl E M w) (defers_put ..)
    rw [← hd]
    exact hF.put (VR.undef E) _
  | true =>
    simp only [hw, cond_true] at he
    simp only [if_true]
    left
    have fin : ∀ {v : V}, fr' = fr.put n ao.dst v → (aop ao.op fr.ev M = some (.val v M') ∨ ∃ f args, aop ao.op fr.ev M = some (.call f args) ∧ call f args M = some (v, M')) → o.wp P a w K Q := by
      intro v hfr hv
      rw [hop] at hv
      have hco : cOp P gl o = some ((cOp P gl o).getD .fail) := by
        rcases hv with hv | ⟨_, _, hv, _⟩ <;> exact cOp_of hv
      refine op_run hcall hR hG hF hco hv fun E' v' w' hv' h1 h2 => hK E' _ w' ?_ h1 h2 (defers_put ..)
      rw [hfr, hd]
      exact (hF.mono h2.le).put hv' _
    split at he
    · rename_i v M1 hv
      obtain ⟨_, he⟩ := cond_some he
      simp only [Option.some.injEq, Prod.mk.injEq] at he
      obtain ⟨rfl, rfl⟩ := he
      exact fin rfl (.inl hv)
    · rename_i f args hv
      split at he
      · rename_i v M1 hcl
        obtain ⟨_, he⟩ := cond_some he
        simp only [Option.some.injEq, Prod.mk.injEq] at he
        obtain ⟨rfl, rfl⟩ := he
        exact fin rfl (.inr ⟨f, args, hv, hcl⟩)
      · cases he
    · cases he

theorem cOpers_get {ops : Array Oper} : ∀ {os : List Oper} {as : List AOper}, cOpers P gl ops os = some as → as.length = os.length ∧ ∀ (i : Nat) (o : Oper), os[i]? = some o → ∃ ao, as[i]? = some ao ∧ cOper P gl ops o = some ao
  | [], as, h => by simp only [cOpers, Option.some.injEq] at h; subst h; exact ⟨rfl, fun i o hi => by simp at hi⟩
  | o :: os, as, h => by
    simp only [cOpers, Option.bind_eq_some_iff, Option.map_eq_some_iff] at h
    obtain ⟨a1, h1, as', h2, rfl⟩ := h
    obtain ⟨hl, hg⟩ := cOpers_get h2
    refine ⟨by simp [hl], fun i o' hi => ?_⟩
    cases i with
    | zero => simp at hi; subst hi; exact ⟨a1, rfl, h1⟩
    | succ i => simpa using hg i o' (by simpa using hi)

/-- A statement whose order is the text's. -/
theorem ops_run {call : CallF} (hcall : CallOK P gl call) {ops : Array Oper} {Q : Exit → Act → World → Prop} : ∀ {os : List Oper} {as : List AOper} {i : Nat}, (∀ (j : Nat) (o : Oper), os[j]? = some o → ops[i + j]? = some o) → cOpers P gl ops os = some as →
    ∀ {E : Emb} {M : Mem} {w : World} {fr : Fr} {a : Act} {fr' : Fr} {M' : Mem}, Rel E M w → GOK gl E → FrR E n fr a → execItems call n (as.map fun o => ⟨o, []⟩) fr M = some (fr', M') →
    (∀ E' a' w', FrR E' n fr' a' → Rel E' M' w' → Ext E M w E' M' w' → a'.defers = a.defers → Q .normal a' w') → wpOps P ops Q (List.range' i os.length) a w
  | [], as, i, _, hc, E, M, w, fr, a, fr', M', hR, hG, hF, he, hQ => by
    simp only [cOpers, Option.some.injEq] at hc
    subst hc
    simp only [List.map_nil, execItems, Option.some.injEq, Prod.mk.injEq] at he
    obtain ⟨rfl, rfl⟩ := he
    exact hQ E a w hF hR (Ext.refl E M w) rfl
  | o :: os, as, i, hpos, hc, E, M, w, fr, a, fr', M', hR, hG, hF, he, hQ => by
    simp only [cOpers, Option.bind_eq_some_iff, Option.map_eq_some_iff] at hc
    obtain ⟨a1, h1, as', h2, rfl⟩ := hc
    simp only [List.map_cons, execItems] at he
    split at he
    · rename_i fr1 M1 he1
      have ho : ops[i]? = some o := hpos 0 o rfl
      simp only [List.length_cons, List.range'_succ]
      rw [wpOps_cons]
      unfold wpOp
      simp only [ho]
      refine item_run hcall hR hG hF h1 he1 fun E1 a1 w1 hF1 hR1 hX1 hd1 => ?_
      refine ops_run hcall (fun j o' hj => ?_) h2 hR1 (hG.mono hX1.le) hF1 he fun E2 a2 w2 hF2 hR2 hX2 hd2 => hQ E2 a2 w2 hF2 hR2 (hX1.trans hX2) (hd2.trans hd1)
      have := hpos (j + 1) o' (by simpa using hj)
      rw [← this]
      congr 1
      omega
    · cases he
end
end Go.Am
