/- The machine and what is proved of its runs, part 3: what each part says stands at its head. -/
import Derived.Test.YtefigbdkennhaaaGreatDoorJ2
import Derived.RangeFuncLeaves
import Derived.RangeFuncRecord
import Derived.Sort.Grow
import Derived.Deep.Draws
import Derived.IntWalk
import Derived.ChangeSame
import Derived.OpenShut
set_option linter.unusedSimpArgs false
set_option linter.unusedVariables false
set_option linter.unusedSectionVars false
/- The code of such a run: what it is worth, and that this holds of the program's own. -/
namespace Go.Am
open Go Go.RowKit

inductive XCode where
  | skip
  | ops (l : List XItem)
  | dops (l : List Item)
  | seq (a b : XCode)
  | cond (c : Opd) (a b : XCode)
  | block (id : Nat) (body : XCode)
  | loop (body : XCode)
  | exit (id : Nat)
  | ret
  | range (g : Opd) (ps : List Nat) (assign body : XCode)
  | fail

abbrev XQ := AExit → Fr → Mem → Prop
def roundsX (step : Fr → Mem → XQ → Prop) : Nat → Fr → Mem → XQ → Prop
  | 0, _, _, _ => False
  | k + 1, fr, M, Q => step fr M (nextQ (fun fr M => roundsX step k fr M Q) Q)
def putAll' (n : Nat) (fr : Fr) (l : List (Nat × V)) : Fr := l.foldl (fun fr p => fr.put n (some p.1) p.2) fr

section
variable (P : Program) (gl : Nat → Bool) (n : Nat)
def bodyX (b : Nat) (lp : LoopState → Option Code → O) (R : V → Mem → Prop) : XQ := fun e _ M =>
  M.get b = some (lp .busy none) ∧ match e with
    | .normal => R (.bool true) (M.set b (lp .ready none))
    | .ret => R (.bool false) (M.set b (lp .done (some .ret)))
    | .exit id => R (.bool false) (M.set b (lp .done (some (.exit id))))
def leaveX (b : Nat) (lp : LoopState → Option Code → O) (fr : Fr) (Q : XQ) : V → Mem → Prop := fun _ M =>
  (M.get b = some (lp .ready none) ∧ Q .normal fr (M.set b (lp .exhausted none))) ∨
  (M.get b = some (lp .done (some .ret)) ∧ Q .ret fr (M.set b (lp .exhausted (some .ret)))) ∨
  ∃ id, M.get b = some (lp .done (some (.exit id))) ∧ Q (.exit id) fr (M.set b (lp .exhausted (some (.exit id))))
def WX : XCode → Bool → Fr → Mem → XQ → Prop
  | .skip, _, fr, M, Q => Q .normal fr M
  | .ops l, _, fr, M, Q => XI P gl n l fr M (Q .normal)
  | .dops l, rd, fr, M, Q => rd = false ∧ ∃ call fr' M', CallOK P gl call ∧ execItems call n l fr M = some (fr', M') ∧ Q .normal fr' M'
  | .seq a b, rd, fr, M, Q => WX a rd fr M (nextQ (fun fr M => WX b rd fr M Q) Q)
  | .cond c a b, rd, fr, M, Q => match fr.ev c with
    | .bool true => WX a rd fr M Q
    | .bool false => WX b rd fr M Q
    | _ => False
  | .block id b, rd, fr, M, Q => WX b rd fr M (blockQ id Q)
  | .loop b, rd, fr, M, Q => ∃ k, roundsX (WX b rd) k fr M Q
  | .exit id, _, fr, M, Q => Q (.exit id) fr M
  | .ret, _, fr, M, Q => Q .ret fr M
  | .range g ps xa xb, rd, fr, M, Q => rd = false ∧ match fr.ev g with
    | .fn f first captured => ∀ lp : LoopState → Option Code → O, (∀ st p b s k l, lp st p ≠ .mapIter b s k l) → (∀ (args : List V) (M1 : Mem) (R : V → Mem → Prop), M1.get M.next = some (lp .ready none) → args.length = ps.length →
        WX xa true (putAll' n fr (ps.zip args)) M1 (fun e fr2 M2 => e = .normal ∧ M2.get M.next = some (lp .ready none) ∧ WX xb true fr2 (M2.set M.next (lp .busy none)) (bodyX M.next lp R)) → XYield P gl M.next args M1 R) →
      XRuns P gl f (first ++ [.yld M.next] ++ captured) (M.push (lp .ready none)) (leaveX M.next lp fr Q)
    | _ => False
  | .fail, _, _, _, _ => False

def cX : Code → XCode
  | .skip => .skip
  | .label _ => .skip
  | .region _ ops false => match cXOpers P gl ops ops.toList with
    | some l => .ops l
    | none => .fail
  | .region _ ops true => match cRegion P gl ops true with
    | some l => .dops l
    | none => .fail
  | .seq a b => .seq (cX a) (cX b)
  | .cond c a b => match cOpd gl c with
    | some c => .cond c (cX a) (cX b)
    | none => .fail
  | .block id b => .block id (cX b)
  | .loop b => .loop (cX b)
  | .exit id => .exit id
  | .ret => .ret
  | .rangeFunc g ps a b => match cOpd gl g with
    | some g => .range g ps.toList (cX a) (cX b)
    | none => .fail
  | _ => .fail
end

/-- The marks that loops over functions have left among the deferred calls. -/
def Marked (E : Emb) (w0 w : World) (ds0 ds : List Deferred) : Prop :=
  ∃ Ds : List Nat, ds = Ds.map (fun D => ({ target := .collected D, args := #[] } : Deferred)) ++ ds0 ∧ Ds.Nodup ∧ ∀ D ∈ Ds, w0.heap.size ≤ D ∧ w.heap[D]? = some (.deferred (some [])) ∧ ∀ b x y, E b ≠ some (D, x, y)

section
variable {P : Program} {gl : Nat → Bool} {n : Nat}
theorem Marked.refl (E : Emb) (w : World) (ds : List Deferred) : Marked E w w ds ds := ⟨[], rfl, List.nodup_nil, fun _ h => by cases h⟩
theorem Ext.foreign {E E' : Emb} {M M' : Mem} {w w' : World} (hX : Ext E M w E' M' w') {D : Nat} (hD : D < w.heap.size) (h : ∀ b x y, E b ≠ some (D, x, y)) : w'.heap[D]? = w.heap[D]? ∧ ∀ b x y, E' b ≠ some (D, x, y) := by
  refine ⟨hX.keep D hD fun b x y hb => absurd hb (h b x y), fun b x y hb => ?_⟩
  cases he : E b with
  | some z =>
    have := hX.le b z he
    rw [hb] at this
    cases this
    exact h b x y he
  | none =>
    rcases (hX.new b D x y he hb).2 with h1 | ⟨b0, d0, k0, h1, _⟩
    · omega
    · exact h b0 d0 k0 h1
theorem Marked.trans {E E' : Emb} {M M' : Mem} {w0 w w' : World} {ds0 ds ds' : List Deferred} (h : Marked E w0 w ds0 ds) (hX : Ext E M w E' M' w') (hs : w0.heap.size ≤ w.heap.size) (h' : Marked E' w w' ds ds') : Marked E' w0 w' ds0 ds' := by
  obtain ⟨D1, rfl, n1, h1⟩ := h
  obtain ⟨D2, rfl, n2, h2⟩ := h'
  have hlt : ∀ D ∈ D1, D < w.heap.size := fun D hD => (Array.getElem?_eq_some_iff.1 (h1 D hD).2.1).1
  refine ⟨D2 ++ D1, by simp, ?_, fun D hD => ?_⟩
  · rw [List.nodup_append]
    refine ⟨n2, n1, fun a ha b hb e => ?_⟩
    have := (h2 a ha).1
    have := hlt b hb
    omega
  · rcases List.mem_append.1 hD with hD | hD
    · obtain ⟨a, b, c⟩ := h2 D hD
      exact ⟨Nat.le_trans hs a, b, c⟩
    · obtain ⟨a, b, c⟩ := h1 D hD
      obtain ⟨p, q⟩ := hX.foreign (hlt D hD) c
      exact ⟨a, p.trans b, q⟩

/-- What is said behind code. -/
def XPost (n : Nat) (E : Emb) (M : Mem) (w : World) (a : Act) (Q : XQ) : Exit → Act → World → Prop := fun x a' w' =>
  ∃ e fr' M' E', x = exOf e ∧ FrR E' n fr' a' ∧ Rel E' M' w' ∧ Ext E M w E' M' w' ∧ Marked E' w w' a.defers a'.defers ∧ Q e fr' M'
theorem XPost.mono {E : Emb} {M : Mem} {w : World} {a : Act} {Q Q' : XQ} (h : ∀ e fr M, Q e fr M → Q' e fr M) {x : Exit} {a' : Act} {w' : World} (hp : XPost n E M w a Q x a' w') : XPost n E M w a Q' x a' w' := by
  obtain ⟨e, fr', M', E', h1, h2, h3, h4, h5, h6⟩ := hp
  exact ⟨e, fr', M', E', h1, h2, h3, h4, h5, h _ _ _ h6⟩
theorem XPost.trans {E E1 : Emb} {M M1 : Mem} {w w1 : World} {a a1 : Act} {Q : XQ} (hX : Ext E M w E1 M1 w1) (hm : Marked E1 w w1 a.defers a1.defers) {x : Exit} {a' : Act} {w' : World} (hp : XPost n E1 M1 w1 a1 Q x a' w') : XPost n E M w a Q x a' w' := by
  obtain ⟨e, fr', M', E', h1, h2, h3, h4, h5, h6⟩ := hp
  exact ⟨e, fr', M', E', h1, h2, h3, hX.trans h4, hm.trans h4 hX.size h5, h6⟩

/-- What code of the machine's is worth. -/
def XCodeOK (P : Program) (gl : Nat → Bool) (n : Nat) (c : Code) : Prop :=
  ∀ (rd : Option Nat) (m : Nat) (E : Emb) (M : Mem) (w : World) (fr : Fr) (a : Act) (Q : XQ), Rel E M w → GOK gl E → FrR E n fr a → WX P gl n (cX P gl c) rd.isSome fr M Q → c.wpIn (FX rd) m P (XPost n E M w a Q) a w

end
end Go.Am


/- The code of such a run against the program's own: all but the loop over a function. -/
namespace Go.Am
open Go Go.RowKit

section
variable {P : Program} {gl : Nat → Bool} {n : Nat}

theorem FX_none : FX none = Fence.wide := rfl

theorem post_of (E : Emb) (M : Mem) (w : World) (a : Act) {Q : XQ} {e : AExit} {fr : Fr} (hQ : Q e fr M) (hR : Rel E M w) (hF : FrR E n fr a) : XPost n E M w a Q (exOf e) a w :=
  ⟨e, fr, M, E, rfl, hF, hR, Ext.refl E M w, Marked.refl E w _, hQ⟩

theorem rounds_x {rd : Option Nat} {m : Nat} {b : Code} (hb : XCodeOK P gl n b) : ∀ (k : Nat) (E : Emb) (M : Mem) (w : World) (fr : Fr) (a : Act) (Q : XQ), Rel E M w → GOK gl E → FrR E n fr a → roundsX (WX P gl n (cX P gl b) rd.isSome) k fr M Q →
    ∀ (Q' : Exit → Act → World → Prop), (∀ x a' w', XPost n E M w a Q x a' w' → Q' x a' w') → Code.roundsIn (FX rd) m P b Q' k a w
  | 0, _, _, _, _, _, _, _, _, _, h, _, _ => h.elim
  | k + 1, E, M, w, fr, a, Q, hR, hG, hF, h, Q', hQ' => by
    rw [roundsIn_succ]
    refine wpIn_mono (hb rd m E M w fr a _ hR hG hF h) ?_
    rintro x a1 w1 ⟨e, fr1, M1, E1, rfl, h1, h2, h3, h4, h5⟩
    cases e with
    | normal =>
      exact rounds_x hb k E1 M1 w1 fr1 a1 Q h2 (hG.mono h3.le) h1 h5 Q' fun x a' w' hp => hQ' x a' w' (hp.trans h3 h4)
    | exit id => exact hQ' _ _ _ ⟨_, fr1, M1, E1, rfl, h1, h2, h3, h4, h5⟩
    | ret => exact hQ' _ _ _ ⟨_, fr1, M1, E1, rfl, h1, h2, h3, h4, h5⟩

theorem x_seq {x y : Code} (hx : XCodeOK P gl n x) (hy : XCodeOK P gl n y) : XCodeOK P gl n (.seq x y) := by
  intro rd m E M w fr a Q hR hG hF h
  refine wpIn_seq (wpIn_mono (hx rd m E M w fr a _ hR hG hF h) ?_)
  rintro e a1 w1 ⟨e, fr1, M1, E1, rfl, h1, h2, h3, h4, h5⟩
  cases e with
  | normal =>
    refine wpIn_mono (hy rd m E1 M1 w1 fr1 a1 Q h2 (hG.mono h3.le) h1 h5) ?_
    intro x a' w' hp
    exact hp.trans h3 h4
  | exit id => exact ⟨_, fr1, M1, E1, rfl, h1, h2, h3, h4, h5⟩
  | ret => exact ⟨_, fr1, M1, E1, rfl, h1, h2, h3, h4, h5⟩

theorem x_block {id : Nat} {b : Code} (hb : XCodeOK P gl n b) : XCodeOK P gl n (.block id b) := by
  intro rd m E M w fr a Q hR hG hF h
  refine wpIn_block (wpIn_mono (hb rd m E M w fr a _ hR hG hF h) ?_)
  rintro x a1 w1 ⟨e, fr1, M1, E1, rfl, h1, h2, h3, h4, h5⟩
  cases e with
  | normal => exact ⟨_, fr1, M1, E1, rfl, h1, h2, h3, h4, h5⟩
  | ret => exact ⟨_, fr1, M1, E1, rfl, h1, h2, h3, h4, h5⟩
  | exit j =>
    simp only [exOf, Exit.inBlock]
    simp only [blockQ] at h5
    cases hj : Nat.beq j id with
    | true =>
      rw [hj] at h5
      rw [if_pos (Nat.eq_of_beq_eq_true hj)]
      exact ⟨.normal, fr1, M1, E1, rfl, h1, h2, h3, h4, h5⟩
    | false =>
      rw [hj] at h5
      rw [if_neg (Nat.ne_of_beq_eq_false hj)]
      exact ⟨.exit j, fr1, M1, E1, rfl, h1, h2, h3, h4, h5⟩

theorem x_region (hm : P.follows .mixedOrders = true) (id : Nat) (ops : Array Oper) (draw : Bool) : XCodeOK P gl n (.region id ops draw) := by
  intro rd m E M w fr a Q hR hG hF h
  cases draw with
  | false =>
    simp only [cX] at h
    cases hc : cXOpers P gl ops ops.toList with
    | none => rw [hc] at h; exact h.elim
    | some l =>
      rw [hc] at h
      simp only [WX] at h
      refine wpIn_region ?_
      rw [List.range_eq_range']
      have := xitems_run (P := P) (gl := gl) (n := n) rd m (ops := ops) (Q := XPost n E M w a Q) (os := ops.toList) (as := l) (i := 0) (fun j o hj => by simpa using hj) hc hR hG hF h
        (fun E' fr' M' a' w' hQ hF' hR' hX' hd => ⟨.normal, fr', M', E', rfl, hF', hR', hX', by rw [hd]; exact ⟨[], rfl, List.nodup_nil, fun _ h => by cases h⟩, hQ⟩)
      simpa using this
  | true =>
    simp only [cX] at h
    cases hc : cRegion P gl ops true with
    | none => rw [hc] at h; exact h.elim
    | some l =>
      rw [hc] at h
      obtain ⟨hrd, call, fr', M', hcall, he, hQ⟩ := h
      have : rd = none := by cases rd with | none => rfl | some _ => cases hrd
      subst this
      rw [FX_none]
      refine wpIn_wide.2 (region_run hcall hm hc hR hG hF he ?_)
      intro E' a' w' hF' hR' hX' hd
      exact ⟨.normal, fr', M', E', rfl, hF', hR', hX', by rw [hd]; exact ⟨[], rfl, List.nodup_nil, fun _ h => by cases h⟩, hQ⟩
end
end Go.Am


/- The loop over a function, of such a run, against the program's own. -/
namespace Go.Am
open Go Go.RowKit

section
variable {P : Program} {gl : Nat → Bool} {n : Nat} {E : Emb} {M : Mem} {w : World}

/-- A block that the machine knows nothing of is laid. -/
theorem Rel.foreign (h : Rel E M w) (x : Obj) : Rel E M (w.alloc x) ∧ Ext E M w E M (w.alloc x) := by
  refine ⟨⟨fun b c d k hb => ?_, fun b c d k hb => ?_, h.inj, h.wf⟩, ⟨Emb.le_refl E, rfl, rfl, rfl, by simp, Nat.le_refl _, fun c hc _ => ?_, fun b c d k h1 h2 => by (rw [h1] at h2; cases h2), fun _ _ => rfl, Nat.le_refl _⟩⟩
  · obtain ⟨o, ho, hr⟩ := h.at_ b c d k hb
    have := h.lt b c d k hb
    exact ⟨o, ho, by rw [heap_alloc, if_neg (by omega)]; exact hr⟩
  · have := h.lt b c d k hb
    simp
    omega
  · rw [heap_alloc, if_neg (by omega)]
/-- A block that the machine knows nothing of turns. -/
theorem Rel.foreignPut (h : Rel E M w) {D : Nat} (hD : ∀ b x y, E b ≠ some (D, x, y)) (o : Obj) : Rel E M (w.putObj D o) := by
  refine ⟨fun b c d k hb => ?_, fun b c d k hb => ?_, h.inj, h.wf⟩
  · obtain ⟨o', ho, hr⟩ := h.at_ b c d k hb
    have hne : c ≠ D := fun e => hD b d k (by rw [← e]; exact hb)
    exact ⟨o', ho, by rw [World.putObj_heap_other hne]; exact hr⟩
  · rw [World.putObj_size]; exact h.lt b c d k hb
theorem Ext.foreignPut {E0 : Emb} {M0 : Mem} {w0 : World} (h : Ext E0 M0 w0 E M w) {D : Nat} (hD : w0.heap.size ≤ D) (o : Obj) : Ext E0 M0 w0 E M (w.putObj D o) :=
  ⟨h.le, h.os, h.tape, h.output, by rw [World.putObj_size]; exact h.size, h.next, fun c hc hr => by rw [World.putObj_heap_other (by omega)]; exact h.keep c hc hr, h.new, h.ro, h.drawn⟩

theorem putAll_rel : ∀ {l : List (Nat × V)} {l' : List (Nat × Value)} {fr : Fr} {a : Act}, FrR E n fr a → l.map (·.1) = l'.map (·.1) → VRs E (l.map (·.2)) (l'.map (·.2)) → FrR E n (putAll' n fr l) { a with tmps := l'.foldl (fun tmps p => tmps.setIfInBounds p.1 p.2) a.tmps }
  | [], [], fr, a, hF, _, _ => hF
  | [], _ :: _, _, _, _, h, _ => by simp at h
  | _ :: _, [], _, _, _, h, _ => by simp at h
  | (t, v) :: l, (t', v') :: l', fr, a, hF, h, hv => by
    simp only [List.map_cons, List.cons.injEq] at h hv
    obtain ⟨rfl, h⟩ := h
    cases hv with
    | cons h1 h2 =>
      have := putAll_rel (hF.put h1 (some t)) h h2
      exact this

/-- The record of a loop. -/
def lpOf (fr : Fr) (n : Nat) (ps : Array Tmp) (assign body : Code) (fn : FuncId) (D : Nat) : LoopState → Option Code → O := fun st pend => .loop fr n ps assign body fn D st pend

theorem loop_at {b l d k : Nat} {fr : Fr} {ps : Array Tmp} {assign body : Code} {fn : FuncId} {D : Nat} {st : LoopState} {pend : Option Code} (hR : Rel E M w) (hE : E b = some (l, d, k)) (hM : M.get b = some (lpOf fr n ps assign body fn D st pend)) :
    ∃ tmps : Array Value, w.heap[l]? = some (.loop { state := st, pending := pend, fn, tmps, params := ps, assign, body, defers := D }) ∧ tmps.size = n ∧ ∀ t, VR E ((T.get fr t).getD .undef) (tmps.getD t Go.undef) := by
  obtain ⟨o, ho, hr⟩ := hR.at_ b l d k hE
  rw [hM] at ho
  cases ho
  exact hr
theorem loop_set {b l d k : Nat} {fr : Fr} {ps : Array Tmp} {assign body : Code} {fn : FuncId} {D : Nat} {st : LoopState} {pend : Option Code} (hR : Rel E M w) (hE : E b = some (l, d, k)) (hM : M.get b = some (lpOf fr n ps assign body fn D st pend)) (st' : LoopState) (pend' : Option Code)
    {tmps : Array Value} (hw : w.heap[l]? = some (.loop { state := st, pending := pend, fn, tmps, params := ps, assign, body, defers := D })) (h1 : tmps.size = n) (h2 : ∀ t, VR E ((T.get fr t).getD .undef) (tmps.getD t Go.undef)) :
    Rel E (M.set b (lpOf fr n ps assign body fn D st' pend')) (w.putObj l (.loop { state := st', pending := pend', fn, tmps, params := ps, assign, body, defers := D })) ∧ Ext E M w E (M.set b (lpOf fr n ps assign body fn D st' pend')) (w.putObj l (.loop { state := st', pending := pend', fn, tmps, params := ps, assign, body, defers := D })) := by
  have hown : own M b := by unfold own; rw [hM]; trivial
  exact hR.setBlock (o' := lpOf fr n ps assign body fn D st' pend') hE hown trivial rfl rfl rfl (Nat.le_refl _) World.putObj_size (World.putObj_heap_same (hR.lt b l d k hE)) (fun q hq => World.putObj_heap_other hq) ⟨tmps, rfl, h1, h2⟩

/-- A round of the loop, from what its code is worth. -/
theorem yield_of {ps : Array Tmp} {assign body : Code} {fn : FuncId} {D b : Nat} {fr : Fr} (ha : XCodeOK P gl n assign) (hb : XCodeOK P gl n body) {args : List V} {M1 : Mem} {R : V → Mem → Prop} (hM : M1.get b = some (lpOf fr n ps assign body fn D .ready none)) (hlen : args.length = ps.toList.length)
    (h : WX P gl n (cX P gl assign) true (putAll' n fr (ps.toList.zip args)) M1 (fun e fr2 M2 => e = .normal ∧ M2.get b = some (lpOf fr n ps assign body fn D .ready none) ∧ WX P gl n (cX P gl body) true fr2 (M2.set b (lpOf fr n ps assign body fn D .busy none)) (bodyX b (lpOf fr n ps assign body fn D) R))) :
    XYield P gl b args M1 R := by
  intro E w args' l d k m hR hG hA hE
  obtain ⟨tmps, hw, hts, htr⟩ := loop_at hR hE hM
  have hal := hA.length
  simp only [Array.length_toList] at hal hlen
  refine ⟨fn, _, assign, body, run_yield hw (by simp only; omega), ?_⟩
  refine roundIn_of_wpIn trivial ?_
  have hF0 : FrR E n fr { tmps := tmps, defers := [] } := ⟨hts, htr⟩
  have hF := putAll_rel (l := ps.toList.zip args) (l' := ps.toList.zip args'.toList) hF0 (by
    rw [List.map_fst_zip (by simp; omega), List.map_fst_zip (by simp; omega)]) (by
    rw [List.map_snd_zip (by simp; omega), List.map_snd_zip (by simp; omega)]; exact hA)
  have hfold : (ps.zip args').foldl (fun tmps (x : Tmp × Value) => tmps.setIfInBounds x.1 x.2) tmps = (ps.toList.zip args'.toList).foldl (fun tmps p => tmps.setIfInBounds p.1 p.2) tmps := by
    rw [← Array.foldl_toList, Array.toList_zip]
  rw [show (fun tmps (x : Tmp × Value) => match x with | (t, a) => tmps.setIfInBounds t a) = (fun (tmps : Array Value) (x : Tmp × Value) => tmps.setIfInBounds x.1 x.2) from rfl, hfold]
  refine wpIn_mono (ha (some l) m E M1 w _ _ _ hR hG hF h) ?_
  rintro x a1 w1 ⟨e, fr1, M2, E1, rfl, f1, r1, x1, _, he, hM2, hbody⟩
  subst he
  have hE1 := x1.le _ _ hE
  obtain ⟨tmps1, hw1, hts1, htr1⟩ := loop_at r1 hE1 hM2
  refine ⟨_, run_beginRound hw1 rfl, ?_⟩
  obtain ⟨r2, x2⟩ := loop_set r1 hE1 hM2 .busy none hw1 hts1 htr1
  refine wpIn_mono (hb (some l) m E1 _ _ fr1 a1 _ r2 ((hG.mono x1.le).mono x2.le) f1 hbody) ?_
  rintro x a2 w2 ⟨e, fr3, M3, E3, rfl, f3, r3, x3, _, hM3, hR3⟩
  have hE3 := x3.le _ _ hE1
  obtain ⟨tmps3, hw3, hts3, htr3⟩ := loop_at r3 hE3 hM3
  have hXX : ∀ (st : LoopState) (pend : Option Code), Ext E M1 w E3 _ _ := fun st pend => ((x1.trans x2).trans x3).trans (loop_set r3 hE3 hM3 st pend hw3 hts3 htr3).2
  cases e with
  | normal => exact ⟨_, _, run_endRound none hw3, E3, .bool true, _, _, rfl, .bool _, (loop_set r3 hE3 hM3 .ready none hw3 hts3 htr3).1, hXX .ready none, hR3⟩
  | ret => exact ⟨_, _, run_endRound (some .ret) hw3, E3, .bool false, _, _, rfl, .bool _, (loop_set r3 hE3 hM3 .done (some .ret) hw3 hts3 htr3).1, hXX .done (some .ret), hR3⟩
  | exit id => exact ⟨_, _, run_endRound (some (.exit id)) hw3, E3, .bool false, _, _, rfl, .bool _, (loop_set r3 hE3 hM3 .done (some (.exit id)) hw3 hts3 htr3).1, hXX .done (some (.exit id)), hR3⟩

theorem x_range {g : Operand} {ps : Array Tmp} {assign body : Code} (ha : XCodeOK P gl n assign) (hb : XCodeOK P gl n body) : XCodeOK P gl n (.rangeFunc g ps assign body) := by
  intro rd m E M w fr a Q hR hG hF h
  simp only [cX] at h
  cases hg : cOpd gl g with
  | none => rw [hg] at h; exact h.elim
  | some g' =>
    rw [hg] at h
    simp only [WX] at h
    obtain ⟨hrd, h⟩ := h
    have : rd = none := by cases rd with | none => rfl | some _ => cases hrd
    subst this
    rw [FX_none]
    split at h
    · rename_i f first captured hfv
      have hgr := (hF.rok hG).1 g g' hg
      rw [hfv] at hgr
      generalize hgv : a.eval g = gv at hgr
      cases hgr
      rename_i first' captured' hfirst hcap
      refine wpIn_rangeFunc ?_
      intro fn _
      obtain ⟨rf, xf⟩ := hR.foreign (.deferred (some []))
      have hsz : (w.alloc (.deferred (some []))).heap.size = w.heap.size + 1 := by simp
      have hne : ∀ b x y, E b ≠ some (w.heap.size, x, y) := fun b x y hb => absurd (hR.lt b _ _ _ hb) (Nat.lt_irrefl _)
      have hall := rf.alloc (o := lpOf fr n ps assign body fn w.heap.size .ready none) (x := .loop { state := .ready, pending := none, fn, tmps := a.tmps, params := ps, assign, body, defers := w.heap.size }) (k := 0)
        ⟨a.tmps, rfl, hF.size, fun t => (hF.rd t).mono (Emb.more_le (rf.fresh (Nat.le_refl _)))⟩
      rw [hsz] at hall
      obtain ⟨r1, x1⟩ := hall
      have hX1 := xf.trans x1
      have hE1 : (E.more M.next (w.heap.size + 1, 0, 0)) M.next = some (w.heap.size + 1, 0, 0) := Emb.more_same _ _ _
      have hrun := h (lpOf fr n ps assign body fn w.heap.size) (fun _ _ _ _ _ _ h => by cases h) (fun args M1 R hM1 hlen hw => yield_of ha hb hM1 hlen hw)
      have hf := hrun.1
      refine ⟨w.heap.size + 1, [{ target := .collected w.heap.size, args := #[] }], _, { target := .fn (.func f) captured', args := first' ++ #[.func (.yield (w.heap.size + 1)) #[] #[]] }, (w.alloc (.deferred (some []))).alloc (.loop { state := .ready, pending := none, fn, tmps := a.tmps, params := ps, assign, body, defers := w.heap.size }), f, first' ++ #[.func (.yield (w.heap.size + 1)) #[] #[]] ++ captured', (w.alloc (.deferred (some []))).alloc (.loop { state := .ready, pending := none, fn, tmps := a.tmps, params := ps, assign, body, defers := w.heap.size }), run_enterLoop_outer fn a.tmps ps assign body, ?_, fun _ _ => trivial, ?_, fun h => (by cases h), ?_⟩
      · simp only [resolve, rangeCall, hgv, Deferred.ofValue, Sem.run_pure]
        simp [Act.eval]
      · simp only [invoke]
        exact run_callFunc hf _ _
      · have hargs : VRs (E.more M.next (w.heap.size + 1, 0, 0)) (first ++ [.yld M.next] ++ captured) (first' ++ #[(.func (.yield (w.heap.size + 1)) #[] #[] : Value)] ++ captured').toList := by
          have h1 := hfirst.mono hX1.le
          have h2 := hcap.mono hX1.le
          have := (h1.app (VRs.cons (VR.yld hE1) VRs.nil)).app h2
          simpa using this
        refine CallsIn.mono (callsIn_wide.2 (hrun.2 _ _ _ r1 (hG.mono hX1.le) hargs)) ?_
        rintro e w3 ⟨E3, v, v', M3, rfl, _, r3, x3, hl⟩
        have hE3 := x3.le _ _ hE1
        -- the block for the deferred calls
        have hD1 : ((w.alloc (.deferred (some []))).alloc (.loop { state := .ready, pending := none, fn, tmps := a.tmps, params := ps, assign, body, defers := w.heap.size })).heap[w.heap.size]? = some (.deferred (some [])) := by
          rw [heap_alloc, if_neg (by simp), heap_alloc, if_pos rfl]
        have hne1 : ∀ b x y, (E.more M.next (w.heap.size + 1, 0, 0)) b ≠ some (w.heap.size, x, y) := by
          intro b x y
          by_cases e : b = M.next
          · subst e; rw [Emb.more_same]; intro h; simp only [Option.some.injEq, Prod.mk.injEq] at h; omega
          · rw [Emb.more_ne _ _ e]; exact hne b x y
        obtain ⟨hD3, hne3⟩ := x3.foreign (D := w.heap.size) (by simp; omega) hne1
        have fin : ∀ (st : LoopState) (pend : Option Code), st ≠ .busy → M3.get M.next = some (lpOf fr n ps assign body fn w.heap.size st pend) → ∃ w4, (Instr.endLoop (w.heap.size + 1)).run P w3 = .ok pend w4 ∧
            Rel E3 (M3.set M.next (lpOf fr n ps assign body fn w.heap.size .exhausted pend)) w4 ∧ Ext E M w E3 (M3.set M.next (lpOf fr n ps assign body fn w.heap.size .exhausted pend)) w4 ∧
            Marked E3 w w4 a.defers ([{ target := .collected w.heap.size, args := #[] }] ++ a.defers) := by
          intro st pend hst hM3
          obtain ⟨tmps3, hw3, hts3, htr3⟩ := loop_at r3 hE3 hM3
          obtain ⟨r4, x4⟩ := loop_set r3 hE3 hM3 .exhausted pend hw3 hts3 htr3
          refine ⟨_, run_endLoop hw3 hst, r4, (hX1.trans x3).trans x4, [w.heap.size], rfl, by simp, ?_⟩
          intro D hD
          simp only [List.mem_cons, List.not_mem_nil, or_false] at hD
          subst hD
          refine ⟨Nat.le_refl _, ?_, hne3⟩
          rw [World.putObj_heap_other (by omega), hD3]
          exact hD1
        rcases hl with ⟨hM3, hQ⟩ | ⟨hM3, hQ⟩ | ⟨id, hM3, hQ⟩
        · obtain ⟨w4, h1, h2, h3, h4⟩ := fin .ready none (by intro h; cases h) hM3
          exact ⟨none, w4, h1, .normal, fr, _, E3, rfl, ⟨hF.size, fun t => (hF.rd t).mono h3.le⟩, h2, h3, h4, hQ⟩
        · obtain ⟨w4, h1, h2, h3, h4⟩ := fin .done (some .ret) (by intro h; cases h) hM3
          exact ⟨some .ret, w4, h1, wpIn_ret ⟨.ret, fr, _, E3, rfl, ⟨hF.size, fun t => (hF.rd t).mono h3.le⟩, h2, h3, h4, hQ⟩⟩
        · obtain ⟨w4, h1, h2, h3, h4⟩ := fin .done (some (.exit id)) (by intro h; cases h) hM3
          exact ⟨some (.exit id), w4, h1, wpIn_exit ⟨.exit id, fr, _, E3, rfl, ⟨hF.size, fun t => (hF.rd t).mono h3.le⟩, h2, h3, h4, hQ⟩⟩
    · exact h.elim
end
end Go.Am


/- Functions of such runs; and what is kept of them: a part of the machine. -/
namespace Go.Am
open Go Go.RowKit

section
variable {P : Program} {gl : Nat → Bool} {n : Nat} {E : Emb} {M : Mem} {w : World}

theorem xcode_sound (hm : P.follows .mixedOrders = true) : ∀ (c : Code), XCodeOK P gl n c := by
  intro c
  induction c with
  | skip =>
    intro rd m E M w fr a Q hR hG hF h
    exact wpIn_skip (post_of E M w a h hR hF)
  | label l =>
    intro rd m E M w fr a Q hR hG hF h
    exact wpIn_label (post_of E M w a h hR hF)
  | region id ops draw => exact x_region hm id ops draw
  | seq x y ihx ihy => exact x_seq ihx ihy
  | cond c x y ihx ihy =>
    intro rd m E M w fr a Q hR hG hF h
    simp only [cX] at h
    cases hc : cOpd gl c with
    | none => rw [hc] at h; exact h.elim
    | some d =>
      rw [hc] at h
      simp only [WX] at h
      have hv := (hF.rok hG).1 c d hc
      split at h
      · rename_i hd
        rw [hd] at hv
        have : a.eval c = .bool true := by
          generalize a.eval c = u at hv
          cases hv; rfl
        exact wpIn_cond this (ihx rd m E M w fr a Q hR hG hF h)
      · rename_i hd
        rw [hd] at hv
        have : a.eval c = .bool false := by
          generalize a.eval c = u at hv
          cases hv; rfl
        exact wpIn_cond this (ihy rd m E M w fr a Q hR hG hF h)
      · exact h.elim
  | block id b ih => exact x_block ih
  | loop b ih =>
    intro rd m E M w fr a Q hR hG hF h
    obtain ⟨k, h⟩ := h
    exact wpIn_loop_rounds k (rounds_x ih k E M w fr a Q hR hG hF h _ fun _ _ _ hp => hp)
  | exit id =>
    intro rd m E M w fr a Q hR hG hF h
    exact wpIn_exit (post_of E M w a h hR hF)
  | ret =>
    intro rd m E M w fr a Q hR hG hF h
    exact wpIn_ret (post_of E M w a h hR hF)
  | rangeFunc g ps x y ihx ihy => exact x_range ihx ihy
  | _ =>
    intro rd m E M w fr a Q hR hG hF h
    exact h.elim

/-- The marks are come to at the function's end. -/
theorem leaves_x {fn : Func} {tmps : Array Value} {R : Ending → World → Prop} : ∀ (Ds : List Nat) {E : Emb} {M : Mem} {w w0 : World} {E0 : Emb} {M0 : Mem}, Ds.Nodup → Rel E M w → Ext E0 M0 w0 E M w →
    (∀ D ∈ Ds, w0.heap.size ≤ D ∧ w.heap[D]? = some (.deferred (some [])) ∧ ∀ b x y, E b ≠ some (D, x, y)) →
    (∀ w', Rel E M w' → Ext E0 M0 w0 E M w' → ∃ v, (results fn tmps).run P w' = .ok v w' ∧ R (.returned v) w') →
    ∀ m, LeavesInM Fence.wide m P fn tmps R (Ds.map fun D => ({ target := .collected D, args := #[] } : Deferred)) .returning w
  | [], E, M, w, w0, E0, M0, _, hR, hX, _, hres, m => hres w hR hX
  | D :: Ds, E, M, w, w0, E0, M0, hnd, hR, hX, hD, hres, m => by
    obtain ⟨h1, h2, h3⟩ := hD D (List.mem_cons_self ..)
    rw [List.nodup_cons] at hnd
    refine ⟨by simp, .inl ⟨D, _, rfl, run_takeDeferred h2, ?_⟩⟩
    refine leaves_x Ds hnd.2 (hR.foreignPut h3 _) (hX.foreignPut h1 _) (fun D' hD' => ?_) hres m
    obtain ⟨p, q, r⟩ := hD D' (List.mem_cons_of_mem _ hD')
    refine ⟨p, ?_, r⟩
    rw [World.putObj_heap_other (by rintro rfl; exact hnd.1 hD')]
    exact q

def endX (rs : List ARes) (R : V → Mem → Prop) : XQ
  | .exit _ => fun _ _ => False
  | _ => fun fr M => match resultsOf fr M rs with
    | some vs => R (oneOf vs) M
    | none => False

/-- A function's runs, from its code. -/
theorem XRuns.of_code (hm : P.follows .mixedOrders = true) {f : FuncId} {fn : Func} {c : Code} {x : XCode} {rs : List ARes} {args : List V} {R : V → Mem → Prop} (hf : P.funcs[f]? = some fn) (hb : fn.body = some c) (hn : (fn.name == "runtime.NumGoroutine") = false)
    (hx : cX P gl c = x) (hrs : cRes P fn.results.toList = some rs) (hl : Nat.ble args.length fn.ntmps = true) (h : WX P gl fn.ntmps x false (frameOf 0 args .nil) M (endX rs R)) : XRuns P gl f args M R := by
  subst hx
  refine ⟨⟨fn, hf, by rw [hb]; rfl, hn⟩, fun E w args' hR hG hA => ?_⟩
  refine (callsIn_wide (n := 0)).1 (callsIn_of_wp_marks hf hb trivial ?_ rfl)
  have hle : args.length ≤ fn.ntmps := Nat.le_of_ble_eq_true hl
  refine wpIn_mono (xcode_sound hm c none 0 E M w _ _ _ hR hG (frame_rel hA hle) h) ?_
  rintro e a1 w1 ⟨e, fr1, M1, E1, rfl, h1, h2, h3, ⟨Ds, hds, hnd, hD⟩, h4⟩
  simp only [List.append_nil] at hds
  have key : ∀ vs, resultsOf fr1 M1 rs = some vs → R (oneOf vs) M1 → LeavesInM Fence.wide 0 P fn a1.tmps (fun e w' => ∃ E' v v' M', e = .returned v' ∧ VR E' v v' ∧ Rel E' M' w' ∧ Ext E M w E' M' w' ∧ R v M') a1.defers .returning w1 := by
    intro vs hvs hR1
    rw [hds]
    refine leaves_x Ds hnd h2 h3 hD (fun w' hR' hX' => ?_) 0
    obtain ⟨v', hv', hr⟩ := results_rel hR' h1 hrs hvs
    exact ⟨v', hv', E1, oneOf vs, v', M1, rfl, hr, hR', hX', hR1⟩
  cases e with
  | exit id => exact h4.elim
  | normal =>
    simp only [endX] at h4
    split at h4
    · rename_i vs hvs
      exact key vs hvs h4
    · exact h4.elim
  | ret =>
    simp only [endX] at h4
    split at h4
    · rename_i vs hvs
      exact key vs hvs h4
    · exact h4.elim
end
end Go.Am


/- What is kept of such a run: the memory that was, and one new block at most. -/
namespace Go.Am
open Go Go.RowKit

mutual
theorem VR.down {E E' : Emb} (hE : Emb.le E E') : ∀ {v : V} {u0 u : Value}, VR E v u0 → VR E' v u → VR E v u
  | _, _, _, .bool b, h => by cases h; exact .bool b
  | _, _, _, .int k n, h => by cases h; exact .int k n
  | _, _, _, .str s, h => by generalize hv : V.str s.data.toList = v at h; cases h <;> first | (cases hv; done) | exact .str _
  | _, _, _, .ptrNil, h => by cases h; exact .ptrNil
  | _, _, _, .ptr hb, h => by cases h; rename_i hb'; have := hE _ _ hb; rw [hb'] at this; cases this; exact .ptr hb
  | _, _, _, .sliceNil, h => by cases h; exact .sliceNil
  | _, _, _, .slice hb _ _, h => by
    cases h with
    | slice hb' h1 h2 => have := hE _ _ hb; rw [hb'] at this; cases this; exact .slice hb h1 h2
    | sliceZero hb' h1 => have := hE _ _ hb; rw [hb'] at this; cases this; exact .sliceZero hb h1
  | _, _, _, .sliceZero hb _, h => by
    cases h with
    | slice hb' h1 h2 => have := hE _ _ hb; rw [hb'] at this; cases this; exact .slice hb h1 h2
    | sliceZero hb' h1 => have := hE _ _ hb; rw [hb'] at this; cases this; exact .sliceZero hb h1
  | _, _, _, .mapNil, h => by cases h; exact .mapNil
  | _, _, _, .map hb, h => by cases h; rename_i hb'; have := hE _ _ hb; rw [hb'] at this; cases this; exact .map hb
  | _, _, _, .fn ha hb, h => by cases h; rename_i ha' hb'; exact .fn (VRs.down hE ha ha') (VRs.down hE hb hb')
  | _, _, _, .nilFn, h => by cases h; exact .nilFn
  | _, _, _, .nilIface, h => by cases h; exact .nilIface
  | _, _, _, .iface hv, h => by cases h; rename_i hv'; exact .iface (VR.down hE hv hv')
  | _, _, _, .agg hv, h => by cases h; rename_i hv'; exact .agg (VRs.down hE hv hv')
  | _, _, _, .tup hv, h => by cases h; rename_i hv'; exact .tup (VRs.down hE hv hv')
  | _, _, _, .yld hb, h => by cases h; rename_i hb'; have := hE _ _ hb; rw [hb'] at this; cases this; exact .yld hb
theorem VRs.down {E E' : Emb} (hE : Emb.le E E') : ∀ {vs : List V} {us0 us : List Value}, VRs E vs us0 → VRs E' vs us → VRs E vs us
  | _, _, _, .nil, h => by cases h; exact .nil
  | _, _, _, .cons h1 h2, h => by cases h; rename_i h1' h2'; exact .cons (VR.down hE h1 h1') (VRs.down hE h2 h2')
end

/-- Some maps are only read for a while. -/
structure Frozen (bs : List Nat) (M Mz : Mem) : Prop where
  next : Mz.next = M.next
  other : ∀ b, b ∉ bs → Mz.get b = M.get b
  at_ : ∀ b ∈ bs, ∃ es ents clock, M.get b = some (.map es) ∧ Mz.get b = some (.rmap es ents clock) ∧ ents.length = es.length ∧ Born ents clock

theorem Rel.freeze {E : Emb} {M : Mem} {w : World} (h : Rel E M w) : ∀ {bs : List Nat}, (∀ b ∈ bs, (∃ es, M.get b = some (.map es)) ∧ ∃ x, E b = some x) → ∃ Mz, Frozen bs M Mz ∧ Rel E Mz w
  | [], _ => ⟨M, ⟨rfl, fun _ _ => rfl, fun _ h => by cases h⟩, h⟩
  | b :: bs, hb => by
    obtain ⟨Mz, hz, hr⟩ := h.freeze (bs := bs) fun b' h' => hb b' (List.mem_cons_of_mem _ h')
    by_cases hin : b ∈ bs
    · refine ⟨Mz, ⟨hz.next, fun c hc => hz.other c (fun h => hc (List.mem_cons_of_mem _ h)), fun c hc => ?_⟩, hr⟩
      rcases List.mem_cons.1 hc with rfl | hc
      · exact hz.at_ c hin
      · exact hz.at_ c hc
    · obtain ⟨⟨es, hM⟩, ⟨c, d, k⟩, hE⟩ := hb b (List.mem_cons_self ..)
      have hMz : Mz.get b = some (.map es) := (hz.other b hin).trans hM
      obtain ⟨o, ho, hor⟩ := hr.at_ b c d k hE
      rw [hMz] at ho
      cases ho
      obtain ⟨ents, clock, hx, hER, hborn⟩ := hor
      have hlen : ents.toList.length = es.length := by have := hER.1.length; simpa using this.symm
      refine ⟨Mz.set b (.rmap es ents.toList clock), ⟨hz.next, fun c' hc => ?_, fun c' hc => ?_⟩, ⟨fun b' c' d' k' hb' => ?_, hr.lt, fun b1 b2 c' d1 k1 d2 k2 h1 h2 h3 hne => ?_, fun b' hb' => ?_⟩⟩
      · have : c' ≠ b := fun e => hc (e ▸ List.mem_cons_self ..)
        rw [Mem.get_set_ne _ _ this]
        exact hz.other c' (fun h => hc (List.mem_cons_of_mem _ h))
      · by_cases e : c' = b
        · subst e
          exact ⟨es, ents.toList, clock, hM, Mem.get_set_same _ _ _, hlen, hborn⟩
        · rcases List.mem_cons.1 hc with h | h
          · exact absurd h e
          · obtain ⟨es', ents', clock', p, q, r⟩ := hz.at_ c' h
            exact ⟨es', ents', clock', p, by rw [Mem.get_set_ne _ _ e]; exact q, r⟩
      · by_cases e : b' = b
        · subst e
          rw [hE] at hb'
          cases hb'
          exact ⟨_, Mem.get_set_same _ _ _, by rw [hx], hER, hborn⟩
        · obtain ⟨o', ho', hr'⟩ := hr.at_ b' c' d' k' hb'
          exact ⟨o', by rw [Mem.get_set_ne _ _ e]; exact ho', hr'⟩
      · have e1 : b1 ≠ b := by
          rintro rfl
          unfold own at h3
          rw [Mem.get_set_same] at h3
          exact h3
        have h3' : own Mz b1 := by
          unfold own at h3 ⊢
          rwa [Mem.get_set_ne _ _ e1] at h3
        have hd := hr.inj b1 b2 c' d1 k1 d2 k2 h1 h2 h3' hne
        by_cases e2 : b2 = b
        · subst e2; rw [hMz] at hd; cases hd
        · rw [Mem.get_set_ne _ _ e2]; exact hd
      · have : b' ≠ b := by
          rintro rfl
          rw [hr.wf _ hb'] at hMz
          cases hMz
        rw [Mem.get_set_ne _ _ this]
        exact hr.wf b' hb'

theorem OR.down {E E' : Emb} (hE : Emb.le E E') {o o' : O} {x0 x : Option Obj} {d k : Nat} (h0 : OR E o x0 d k) (h : OR E' o' x d k) (ho : o' = o ∨ ∃ es ents clock, o = .map es ∧ o' = .rmap es ents clock) : OR E o x d k := by
  rcases ho with rfl | ⟨es, ents, clock, rfl, rfl⟩
  · cases o' with
    | cells cs ro =>
      obtain ⟨arr0, elem0, fz0, _, h02, _⟩ := h0
      obtain ⟨arr, elem, fz, h1, h2, h3⟩ := h
      refine ⟨arr, elem, fz, h1, fun i v hi => ?_, h3⟩
      obtain ⟨u, hu, hr⟩ := h2 i v hi
      obtain ⟨u0, _, hr0⟩ := h02 i v hi
      exact ⟨u, hu, hr0.down hE hr⟩
    | map es =>
      obtain ⟨ents0, clock0, _, ⟨h02, h03⟩, _⟩ := h0
      obtain ⟨ents, clock, h1, ⟨h2, h3⟩, h4⟩ := h
      exact ⟨ents, clock, h1, ⟨h02.down hE h2, h03.down hE h3⟩, h4⟩
    | rmap es ents clock => exact ⟨h.1, ⟨h0.2.1.1.down hE h.2.1.1, h0.2.1.2.down hE h.2.1.2⟩, h.2.2⟩
    | strIter s pos => exact h
    | mapIter b since seen last =>
      obtain ⟨_, mb0, h02, _⟩ := h0
      obtain ⟨h1, mb, h2, h3⟩ := h
      refine ⟨h1, mb, ?_, h3⟩
      cases b with
      | none => exact h2
      | some b =>
        obtain ⟨c0, d0, k0, e0, _⟩ := h02
        obtain ⟨c1, d1, k1, e1, e2⟩ := h2
        have := hE _ _ e0
        rw [e1] at this
        cases this
        exact ⟨_, _, _, e0, e2⟩
    | loop fr n ps assign body fn D st pend =>
      obtain ⟨tmps0, _, _, h03⟩ := h0
      obtain ⟨tmps, h1, h2, h3⟩ := h
      exact ⟨tmps, h1, h2, fun t => (h03 t).down hE (h3 t)⟩
    | dead => trivial
  · obtain ⟨ents0, clock0, _, ⟨h02, h03⟩, _⟩ := h0
    obtain ⟨h1, ⟨h2, h3⟩, h4⟩ := h
    exact ⟨ents.toArray, clock, h1, ⟨h02.down hE (by simpa using h2), h03.down hE (by simpa using h3)⟩, by simpa using h4⟩

section
variable {E E' : Emb} {M Mz M' : Mem} {w w' : World} {bs : List Nat}
theorem Frozen.or (hz : Frozen bs M Mz) {b : Nat} {o : O} (h : M.get b = some o) : ∃ o', Mz.get b = some o' ∧ (o' = o ∨ ∃ es ents clock, o = .map es ∧ o' = .rmap es ents clock) := by
  by_cases hb : b ∈ bs
  · obtain ⟨es, ents, clock, h1, h2, _⟩ := hz.at_ b hb
    rw [h1] at h
    cases h
    exact ⟨_, h2, .inr ⟨es, ents, clock, rfl, rfl⟩⟩
  · exact ⟨o, (hz.other b hb).trans h, .inl rfl⟩
theorem Frozen.ro (hz : Frozen bs M Mz) {b : Nat} (h : isRo M b) : isRo Mz b := by
  obtain ⟨o, h1, h2⟩ := h
  obtain ⟨o', h3, h4⟩ := hz.or h1
  rcases h4 with rfl | ⟨es, ents, clock, rfl, rfl⟩
  · exact ⟨o', h3, h2⟩
  · exact ⟨_, h3, rfl⟩

/-- All that was there is as it was. -/
theorem Rel.restrict (h : Rel E M w) (hz : Frozen bs M Mz) (h' : Rel E' M' w') (hX : Ext E Mz w E' M' w') (hs : ∀ b, b < M.next → M'.get b = Mz.get b) : Rel E M w' ∧ Ext E M w E M w' := by
  refine ⟨⟨fun b c d k hb => ?_, fun b c d k hb => Nat.lt_of_lt_of_le (h.lt b c d k hb) hX.size, h.inj, h.wf⟩, ⟨Emb.le_refl E, hX.os, hX.tape, hX.output, hX.size, Nat.le_refl _, fun c hc hr => hX.keep c hc fun b d k hb => hz.ro (hr b d k hb), fun b c d k h1 h2 => by (rw [h1] at h2; cases h2), fun _ _ => rfl, hX.drawn⟩⟩
  obtain ⟨o, ho, hr⟩ := h.at_ b c d k hb
  obtain ⟨o', ho', hoo⟩ := hz.or ho
  have hlt : b < M.next := by
    rcases Nat.lt_or_ge b M.next with h1 | h1
    · exact h1
    · rw [h.wf b h1] at ho; cases ho
  obtain ⟨o2, ho2, hr2⟩ := h'.at_ b c d k (hX.le _ _ hb)
  rw [hs b hlt, ho'] at ho2
  cases ho2
  exact ⟨o, ho, hr.down hX.le hr2 hoo⟩

/-- An object that hangs on no other. -/
def O.flat : O → Bool
  | .cells cs false => V.flats cs
  | .map es => V.flats (es.map (·.1)) && V.flats (es.map (·.2))
  | _ => false
theorem OR.flat {o : O} {x : Option Obj} {d k : Nat} (hf : o.flat = true) (h : OR E o x d k) (E2 : Emb) : OR E2 o x d k := by
  unfold O.flat at hf
  split at hf
  · rename_i cs
    obtain ⟨arr, elem, fz, h1, h2, h3⟩ := h
    refine ⟨arr, elem, fz, h1, fun i v hi => ?_, h3⟩
    obtain ⟨u, hu, hr⟩ := h2 i v hi
    refine ⟨u, hu, hr.flat ?_⟩
    exact flats_get cs i v hf hi
  · rename_i es
    simp only [Bool.and_eq_true] at hf
    obtain ⟨ents, clock, h1, ⟨h2, h3⟩, h4⟩ := h
    exact ⟨ents, clock, h1, ⟨h2.flat hf.1, h3.flat hf.2⟩, h4⟩
  · cases hf
where
  flats_get : ∀ (cs : List V) (i : Nat) (v : V), V.flats cs = true → cs[i]? = some v → v.flat = true
  | [], i, v, _, h => by simp at h
  | c :: cs, 0, v, hf, h => by simp only [V.flats, Bool.and_eq_true] at hf; simp at h; subst h; exact hf.1
  | c :: cs, i + 1, v, hf, h => by simp only [V.flats, Bool.and_eq_true] at hf; exact flats_get cs i v hf.2 (by simpa using h)

/-- All that was there is as it was, and there is one block more. -/
theorem Rel.keepNew (h : Rel E M w) (hz : Frozen bs M Mz) (h' : Rel E' M' w') (hX : Ext E Mz w E' M' w') (hs : ∀ b, b < M.next → M'.get b = Mz.get b) {b c d k : Nat} {o : O} (hb : M'.get b = some o) (hf : o.flat = true) (hE : E' b = some (c, d, k)) (hbn : M.next ≤ b) :
    Rel (E.more M.next (c, d, k)) (M.push o) w' ∧ Ext E M w (E.more M.next (c, d, k)) (M.push o) w' := by
  obtain ⟨hr, hx⟩ := h.restrict hz h' hX hs
  have hfr := h.fresh (Nat.le_refl M.next)
  have hown : own M' b := by
    unfold own
    rw [hb]
    unfold O.flat at hf
    split at hf <;> first | trivial | cases hf
  have hdead : ∀ b1 d1 k1, E b1 = some (c, d1, k1) → M.get b1 = some .dead := by
    intro b1 d1 k1 h1
    obtain ⟨o1, ho1, _⟩ := h.at_ b1 c d1 k1 h1
    have hlt : b1 < M.next := by
      rcases Nat.lt_or_ge b1 M.next with h2 | h2
      · exact h2
      · rw [h.wf b1 h2] at ho1; cases ho1
    have := h'.inj b b1 c d k d1 k1 hE (hX.le _ _ h1) hown (by omega)
    rw [hs b1 hlt] at this
    obtain ⟨o', ho', hoo⟩ := hz.or ho1
    rw [ho'] at this
    cases this
    rcases hoo with rfl | ⟨_, _, _, _, hq⟩
    · exact ho1
    · cases hq
  obtain ⟨o2, ho2, hor⟩ := h'.at_ b c d k hE
  rw [hb] at ho2
  cases ho2
  have hle : Emb.le E (E.more M.next (c, d, k)) := Emb.more_le hfr
  refine ⟨⟨?_, ?_, ?_, ?_⟩, ⟨hle, hx.os, hx.tape, hx.output, hx.size, by simp, hx.keep, ?_, ?_, hx.drawn⟩⟩
  · intro b1 c1 d1 k1 h1
    by_cases e : b1 = M.next
    · subst e
      rw [Emb.more_same] at h1
      cases h1
      exact ⟨o, Mem.get_push_same _ _, hor.flat hf _⟩
    · rw [Emb.more_ne _ _ e] at h1
      obtain ⟨o1, p, q⟩ := hr.at_ b1 c1 d1 k1 h1
      exact ⟨o1, by rw [Mem.get_push_ne _ _ e]; exact p, q.mono hle⟩
  · intro b1 c1 d1 k1 h1
    by_cases e : b1 = M.next
    · subst e
      rw [Emb.more_same] at h1
      cases h1
      exact h'.lt b c d k hE
    · rw [Emb.more_ne _ _ e] at h1
      exact hr.lt b1 c1 d1 k1 h1
  · intro b1 b2 c1 d1 k1 d2 k2 h1 h2 h3 hne
    by_cases e1 : b1 = M.next
    · subst e1
      rw [Emb.more_same] at h1
      cases h1
      rw [Emb.more_ne _ _ hne] at h2
      rw [Mem.get_push_ne _ _ hne]
      exact hdead b2 d2 k2 h2
    · rw [Emb.more_ne _ _ e1] at h1
      have h3' : own M b1 := by
        unfold own at h3 ⊢
        rwa [Mem.get_push_ne _ _ e1] at h3
      by_cases e2 : b2 = M.next
      · subst e2
        rw [Emb.more_same] at h2
        cases h2
        have := hdead b1 d1 k1 h1
        unfold own at h3'
        rw [this] at h3'
        exact h3'.elim
      · rw [Emb.more_ne _ _ e2] at h2
        rw [Mem.get_push_ne _ _ e2]
        exact hr.inj b1 b2 c1 d1 k1 d2 k2 h1 h2 h3' hne
  · intro b1 hb1
    simp only [Mem.next_push] at hb1
    rw [Mem.get_push_ne _ _ (by omega)]
    exact h.wf b1 (by omega)
  · intro b1 c1 d1 k1 h1 h2
    by_cases e : b1 = M.next
    · subst e
      rw [Emb.more_same] at h2
      cases h2
      refine ⟨Nat.le_refl _, ?_⟩
      have hEb : E b = none := h.fresh hbn
      rcases (hX.new b c d k hEb hE).2 with h3 | ⟨b0, d0, k0, h3, h4⟩
      · exact .inl h3
      · exact .inr ⟨b0, d0, k0, h3, fun h5 => h4 (hz.ro h5)⟩
    · rw [Emb.more_ne _ _ e, h1] at h2
      cases h2
  · intro b1 hb1
    have : b1 ≠ M.next := by
      rintro rfl
      obtain ⟨o1, h1, _⟩ := hb1
      rw [h.wf _ (Nat.le_refl _)] at h1
      cases h1
    exact Mem.get_push_ne _ _ this
end
end Go.Am


/- Such a function as a part of the machine: it leaves what was there, and lays one block at most. -/
namespace Go.Am
open Go Go.RowKit

/-- What such a function comes to: a value that hangs on nothing; or a new slice or map. -/
inductive KeepR where
  | flat (v : V)
  | row (n es : Nat) (cs : List V)
  | map (es : List (V × V))
def KeepR.res : KeepR → Mem → V × Mem
  | .flat v, M => (v, M)
  | .row n es cs, M => (.slice (some (M.next, 0)) n (.upto es), M.push (.cells cs false))
  | .map es, M => (.map (some M.next), M.push (.map es))
/-- What its run must show, from memory in which some maps are only read. -/
def KeepR.is (r : KeepR) (M Mz : Mem) (v : V) (M' : Mem) : Prop :=
  (∀ b, b < M.next → M'.get b = Mz.get b) ∧ match r with
    | .flat v0 => v0.flat = true ∧ v = v0
    | .row n es cs => V.flats cs = true ∧ ∃ b, M.next ≤ b ∧ v = .slice (some (b, 0)) n (.upto es) ∧ M'.get b = some (.cells cs false)
    | .map es => (V.flats (es.map (·.1)) && V.flats (es.map (·.2))) = true ∧ ∃ b, M.next ≤ b ∧ v = .map (some b) ∧ M'.get b = some (.map es)

section
variable {P : Program} {gl : Nat → Bool}
theorem callOK_keep {f : FuncId} {g : List V → Mem → Option KeepR} (hc : Callable P f)
    (h : ∀ (args : List V) (M : Mem) (r : KeepR), g args M = some r → (∀ b, M.next ≤ b → M.get b = none) → ∃ bs : List Nat,
      (∀ (E : Emb) (w : World) (us : List Value), Rel E M w → VRs E args us → ∀ b ∈ bs, (∃ es, M.get b = some (.map es)) ∧ ∃ x, E b = some x) ∧
      ∀ Mz, Frozen bs M Mz → XRuns P gl f args Mz (r.is M Mz)) :
    CallOK P gl fun f' args M => if f' = f then (g args M).map fun r => r.res M else none := by
  intro f' args M v M' he
  simp only at he
  split at he
  · rename_i e
    subst e
    simp only [Option.map_eq_some_iff] at he
    obtain ⟨r, hg, hres⟩ := he
    refine ⟨hc, fun E w args' hR hG hA => ?_⟩
    obtain ⟨bs, hbs, hrun⟩ := h args M r hg hR.wf
    obtain ⟨Mz, hz, hRz⟩ := hR.freeze (hbs E w _ hR hA)
    refine ((hrun Mz hz).2 E w args' hRz hG hA).mono ?_
    rintro e w' ⟨E', v1, v', M1, rfl, hv, hR', hX, hk, hr⟩
    have hn := hX.next
    rw [hz.next] at hn
    cases r with
    | flat v0 =>
      obtain ⟨hf, rfl⟩ := hr
      cases hres
      obtain ⟨a, b⟩ := hR.restrict hz hR' hX hk
      exact ⟨E, v', rfl, hv.flat hf, a, b⟩
    | row n es cs =>
      obtain ⟨hf, b, hb, rfl, hM⟩ := hr
      cases hres
      obtain ⟨c, d, k, hE, hval⟩ : ∃ c d k, E' b = some (c, d, k) ∧ ∀ E2 : Emb, E2 M.next = some (c, d, k) → VR E2 (.slice (some (M.next, 0)) n (.upto es)) v' := by
        cases hv with
        | slice hE h1 h2 => exact ⟨_, _, _, hE, fun E2 h => .slice h h1 h2⟩
        | sliceZero hE h1 => exact ⟨_, _, _, hE, fun E2 h => .sliceZero h h1⟩
      obtain ⟨p, q⟩ := hR.keepNew hz hR' hX hk hM (by simpa [O.flat] using hf) hE hb
      exact ⟨_, v', rfl, hval _ (Emb.more_same _ _ _), p, q⟩
    | map es =>
      obtain ⟨hf, b, hb, rfl, hM⟩ := hr
      cases hres
      cases hv
      rename_i c d k hE
      obtain ⟨p, q⟩ := hR.keepNew hz hR' hX hk hM (by simpa [O.flat] using hf) hE hb
      exact ⟨_, _, rfl, .map (Emb.more_same _ _ _), p, q⟩
  · cases he

/-- A part that looks at memory. -/
def Decls.addM (D : Decls) (f : FuncId) (g : List V → Mem → Option (V × Mem)) : Decls := { D with prim := fun f' => cond (Nat.beq f' f) (some g) (D.prim f') }
theorem DOK.addM {D : Decls} (hD : DOK P gl D) {f : FuncId} {g : List V → Mem → Option (V × Mem)} (h : CallOK P gl fun f' args M => if f' = f then g args M else none) : DOK P gl (D.addM f g) := by
  refine ⟨hD.mixed, hD.code, fun f' g' hp => ?_⟩
  simp only [Decls.addM] at hp
  cases hb : Nat.beq f' f with
  | true =>
    rw [hb] at hp
    simp only [cond_true, Option.some.injEq] at hp
    have : f' = f := Nat.eq_of_beq_eq_true hb
    subst this
    subst hp
    exact h
  | false =>
    rw [hb] at hp
    exact hD.prim f' g' hp
/-- What holds where no package variable is known holds where some are. -/
theorem CallOK.more {gl0 : Nat → Bool} (hg : ∀ x, gl0 x = false) {call : CallF} (h : CallOK P gl0 call) : CallOK P gl call := by
  intro f args M v M' he
  obtain ⟨a, b⟩ := h f args M v M' he
  exact ⟨a, fun E w args' hR _ hA => b E w args' hR (fun x hx => by rw [hg x] at hx; cases hx) hA⟩

/-- What a call leaves of a world in which the machine knows nothing: the world, grown. -/
theorem grown_of {M M' : Mem} {w w' : World} {E' : Emb} (hX : Ext emb0 M w E' M' w') : ∃ q os, w' = Go.Sort.grow (w.drewN q) os := by
  refine ⟨w'.drawn - w.drawn, w'.heap.extract w.heap.size w'.heap.size, ?_⟩
  have hh : w'.heap = w.heap ++ w'.heap.extract w.heap.size w'.heap.size := by
    apply Array.ext_getElem?
    intro i
    have hs := hX.size
    by_cases hi : i < w.heap.size
    · rw [Array.getElem?_append_left hi]
      exact hX.keep i hi fun _ _ _ hb => by cases hb
    · rw [Array.getElem?_append_right (by omega), Array.getElem?_extract]
      split
      · congr 1; omega
      · rw [Array.getElem?_eq_none (by omega)]
  have key : ∀ a b : World, a.heap = b.heap → a.tape = b.tape → a.drawn = b.drawn → a.os = b.os → a.output = b.output → a = b := by
    rintro ⟨⟩ ⟨⟩ h1 h2 h3 h4 h5
    simp only at h1 h2 h3 h4 h5
    subst h1 h2 h3 h4 h5
    rfl
  have hd := hX.drawn
  exact key _ _ hh hX.tape (show w'.drawn = w.drawn + (w'.drawn - w.drawn) by omega) hX.os hX.output

/-- All that was there is as it was but one row, which is no longer looked at; in its place a new one, of cells that were there. -/
theorem Rel.settle {E E' : Emb} {M M' : Mem} {w w' : World} (h : Rel E M w) (h' : Rel E' M' w') (hX : Ext E M w E' M' w') {b q c d k : Nat} {cs row : List V} (hb : M.get b = some (.cells cs false)) (hs : ∀ x, x < M.next → x ≠ b → M'.get x = M.get x)
    (hq : M'.get q = some (.cells row false)) (hE : E' q = some (c, d, k)) (hqb : q = b ∨ M.next ≤ q) (hrow : ∀ v ∈ row, ∃ u, VR E v u) :
    Rel (E.more M.next (c, d, k)) ((M.set b .dead).push (.cells row false)) w' ∧ Ext E M w (E.more M.next (c, d, k)) ((M.set b .dead).push (.cells row false)) w' := by
  have hfr := h.fresh (Nat.le_refl M.next)
  have hle : Emb.le E (E.more M.next (c, d, k)) := Emb.more_le hfr
  have hn : (M.set b .dead).next = M.next := rfl
  have hlt : ∀ x o, M.get x = some o → x < M.next := fun x o ho => by
    rcases Nat.lt_or_ge x M.next with h1 | h1
    · exact h1
    · rw [h.wf x h1] at ho; cases ho
  have hbl := hlt b _ hb
  have hob : own M b := by unfold own; rw [hb]; trivial
  have hoq : own M' q := by unfold own; rw [hq]; trivial
  have gN : ((M.set b .dead).push (.cells row false)).get M.next = some (.cells row false) := Mem.get_push_same (M.set b .dead) _
  have gO : ∀ x, x ≠ M.next → x ≠ b → ((M.set b .dead).push (.cells row false)).get x = M.get x := fun x h1 h2 => by
    rw [Mem.get_push_ne (M.set b .dead) _ h1, Mem.get_set_ne _ _ h2]
  have gB : ((M.set b .dead).push (.cells row false)).get b = some .dead := by
    rw [Mem.get_push_ne (M.set b .dead) _ (by rw [hn]; omega), Mem.get_set_same]
  -- whatever else stands at the new row's place is no longer looked at
  have hdead : ∀ b1 d1 k1, E b1 = some (c, d1, k1) → b1 ≠ b → M.get b1 = some .dead := by
    intro b1 d1 k1 h1 hne
    obtain ⟨o1, ho1, _⟩ := h.at_ b1 c d1 k1 h1
    have := h'.inj q b1 c d k d1 k1 hE (hX.le _ _ h1) hoq (by
      rcases hqb with e | e
      · rw [e]; exact hne
      · have := hlt b1 _ ho1; omega)
    rw [hs b1 (hlt b1 _ ho1) hne] at this
    exact this
  obtain ⟨o2, ho2, hor⟩ := h'.at_ q c d k hE
  rw [hq] at ho2
  cases ho2
  have hrowR : OR (E.more M.next (c, d, k)) (.cells row false) w'.heap[c]? d k := by
    obtain ⟨arr, elem, fz, a1, a2, a3⟩ := hor
    refine ⟨arr, elem, fz, a1, fun i v hi => ?_, a3⟩
    obtain ⟨u, hu, hr⟩ := a2 i v hi
    obtain ⟨u0, hr0⟩ := hrow v (List.mem_of_getElem? hi)
    exact ⟨u, hu, (hr0.down hX.le hr).mono hle⟩
  refine ⟨⟨?_, ?_, ?_, ?_⟩, ⟨hle, hX.os, hX.tape, hX.output, hX.size, by simp, ?_, ?_, ?_, hX.drawn⟩⟩
  · intro b1 c1 d1 k1 h1
    by_cases e : b1 = M.next
    · subst e
      rw [Emb.more_same] at h1
      cases h1
      exact ⟨_, gN, hrowR⟩
    · rw [Emb.more_ne _ _ e] at h1
      by_cases e2 : b1 = b
      · subst e2; exact ⟨_, gB, trivial⟩
      · obtain ⟨o1, p, r0⟩ := h.at_ b1 c1 d1 k1 h1
        obtain ⟨o1', p', r'⟩ := h'.at_ b1 c1 d1 k1 (hX.le _ _ h1)
        rw [hs b1 (hlt b1 _ p) e2, p] at p'
        cases p'
        exact ⟨o1, by rw [gO b1 e e2]; exact p, (r0.down hX.le r' (.inl rfl)).mono hle⟩
  · intro b1 c1 d1 k1 h1
    by_cases e : b1 = M.next
    · subst e
      rw [Emb.more_same] at h1
      cases h1
      exact h'.lt q c d k hE
    · rw [Emb.more_ne _ _ e] at h1
      exact Nat.lt_of_lt_of_le (h.lt b1 c1 d1 k1 h1) hX.size
  · intro b1 b2 c1 d1 k1 d2 k2 h1 h2 h3 hne
    by_cases e1 : b1 = M.next
    · subst e1
      rw [Emb.more_same] at h1
      cases h1
      rw [Emb.more_ne _ _ hne] at h2
      by_cases e2 : b2 = b
      · subst e2; exact gB
      · rw [gO b2 hne e2]; exact hdead b2 d2 k2 h2 e2
    · rw [Emb.more_ne _ _ e1] at h1
      by_cases e3 : b1 = b
      · subst e3
        unfold own at h3
        rw [gB] at h3
        exact h3.elim
      have h3' : own M b1 := by
        unfold own at h3 ⊢
        rwa [gO b1 e1 e3] at h3
      by_cases e2 : b2 = M.next
      · subst e2
        rw [Emb.more_same] at h2
        cases h2
        have := hdead b1 d1 k1 h1 e3
        unfold own at h3'
        rw [this] at h3'
        exact h3'.elim
      · rw [Emb.more_ne _ _ e2] at h2
        by_cases e4 : b2 = b
        · subst e4; exact gB
        · rw [gO b2 e2 e4]
          exact h.inj b1 b2 c1 d1 k1 d2 k2 h1 h2 h3' hne
  · intro b1 hb1
    simp only [Mem.next_push, hn] at hb1
    rw [gO b1 (by omega) (by omega)]
    exact h.wf b1 (by omega)
  · exact hX.keep
  · intro b1 c1 d1 k1 h1 h2
    by_cases e : b1 = M.next
    · subst e
      rw [Emb.more_same] at h2
      cases h2
      refine ⟨Nat.le_refl _, ?_⟩
      rcases hqb with e | e
      · subst e
        obtain ⟨c0, d0, k0, e0⟩ : ∃ c0 d0 k0, E q = some (c0, d0, k0) ∨ E q = none := by
          cases he : E q with
          | none => exact ⟨0, 0, 0, .inr rfl⟩
          | some x => exact ⟨x.1, x.2.1, x.2.2, .inl rfl⟩
        rcases e0 with e0 | e0
        · have := hX.le _ _ e0
          rw [hE] at this
          cases this
          exact .inr ⟨q, d, k, e0, fun r => own_not_ro hob r⟩
        · have := (hX.new q c d k e0 hE).1
          omega
      · exact (hX.new q c d k (h.fresh e) hE).2
    · rw [Emb.more_ne _ _ e, h1] at h2
      cases h2
  · intro b1 hb1
    have n1 : b1 ≠ M.next := by
      rintro rfl
      obtain ⟨o1, h1, _⟩ := hb1
      rw [h.wf _ (Nat.le_refl _)] at h1
      cases h1
    have n2 : b1 ≠ b := fun e => own_not_ro hob (e ▸ hb1)
    exact gO b1 n1 n2
end
end Go.Am


/- The laws by which a run of the machine is reckoned with values that are not known. -/
namespace Go.Am
open Go

section
variable {D : Decls} {n : Nat} {fr : Fr} {M : Mem}

@[go_sem] theorem beq_dec (a b : Nat) : Nat.beq a b = decide (a = b) := by
  cases h : Nat.beq a b with
  | true => rw [Nat.eq_of_beq_eq_true h]; simp
  | false => rw [decide_eq_false (Nat.ne_of_beq_eq_false h)]
attribute [go_sem] ble_iff intEq_dec intLe_iff
@[go_sem] theorem strEq_prop (a b : List UInt8) : strEq a b = decide (a = b) := by
  by_cases h : a = b
  · rw [strEq_iff.2 h]; simp [h]
  · rw [decide_eq_false h]; cases e : strEq a b
    · rfl
    · exact absurd (strEq_iff.1 e) h
@[go_sem] theorem rd_put_some (d t : Nat) (v : V) : (fr.put n (some d) v).rd t = if t = d then (if d < n then v else fr.rd t) else fr.rd t := by
  rw [show (if t = d then (if d < n then v else fr.rd t) else fr.rd t) = if t = d ∧ d < n then v else fr.rd t from by by_cases h : t = d <;> by_cases h2 : d < n <;> simp [h, h2]]
  unfold Fr.put
  simp only [ble_iff]
  by_cases hd : d + 1 ≤ n
  · simp only [hd, decide_true, cond_true]
    unfold Fr.rd
    rw [T.get_set]
    by_cases e : t = d
    · rw [if_pos e, if_pos ⟨e, by omega⟩]; rfl
    · rw [if_neg e, if_neg (fun h => e h.1)]
  · simp only [hd, decide_false, cond_false]
    rw [if_neg (fun h => hd h.2)]
@[go_sem] theorem put_none (v : V) : fr.put n none v = fr := rfl
@[go_sem] theorem rd_frame0 (t : Nat) : Fr.rd (frameOf 0 [] .nil) t = .undef := rfl
@[go_sem] theorem rd_frame1 (a : V) (t : Nat) : Fr.rd (frameOf 0 [a] .nil) t = if t = 0 then a else .undef := by
  rw [rd_frameOf]; simp only [List.length_cons, List.length_nil]
  by_cases h : t = 0
  · subst h; simp
  · rw [if_neg (by omega), if_neg h]; rfl
@[go_sem] theorem rd_frame2 (a b : V) (t : Nat) : Fr.rd (frameOf 0 [a, b] .nil) t = if t = 0 then a else if t = 1 then b else .undef := by
  rw [rd_frameOf]; simp only [List.length_cons, List.length_nil]
  by_cases h : t = 0
  · subst h; simp
  · by_cases h1 : t = 1
    · subst h1; simp
    · rw [if_neg (by omega), if_neg h, if_neg h1]; rfl
@[go_sem] theorem rd_frame3 (a b c : V) (t : Nat) : Fr.rd (frameOf 0 [a, b, c] .nil) t = if t = 0 then a else if t = 1 then b else if t = 2 then c else .undef := by
  rw [rd_frameOf]; simp only [List.length_cons, List.length_nil]
  by_cases h : t = 0
  · subst h; simp
  · by_cases h1 : t = 1
    · subst h1; simp
    · by_cases h2 : t = 2
      · subst h2; simp
      · rw [if_neg (by omega), if_neg h, if_neg h1, if_neg h2]; rfl


/-! ### operations -/
variable {K : Fr → Mem → Prop}
@[go_sem] theorem WI_nil : WI D n [] fr M K = K fr M := rfl
/-- One operation carried out; then the rest. -/
def stepI (D : Decls) (n : Nat) (r : Option Res) (dst : Option Nat) (fr : Fr) (M : Mem) (l : List Go.Am.Item) (K : Fr → Mem → Prop) : Prop :=
  match r with
  | some (.val v M') => WI D n l (fr.put n dst v) M' K
  | some (.call f args) => Runs D f args M fun v M' => WI D n l (fr.put n dst v) M' K
  | none => False
/-- A call; then the rest. -/
def callI (D : Decls) (n : Nat) (f : FuncId) (args : List V) (dst : Option Nat) (fr : Fr) (M : Mem) (l : List Go.Am.Item) (K : Fr → Mem → Prop) : Prop :=
  Runs D f args M fun v M' => WI D n l (fr.put n dst v) M' K
@[go_sem] theorem stepI_val (v : V) (M' : Mem) (dst : Option Nat) (l : List Go.Am.Item) : stepI D n (some (.val v M')) dst fr M l K = WI D n l (fr.put n dst v) M' K := rfl
@[go_sem] theorem stepI_call (f : FuncId) (args : List V) (dst : Option Nat) (l : List Go.Am.Item) : stepI D n (some (.call f args)) dst fr M l K = callI D n f args dst fr M l K := rfl
theorem callI_of {f : FuncId} {args : List V} {dst : Option Nat} {l : List Go.Am.Item} {R : V → Mem → Prop} (h : Runs D f args M R) (hk : ∀ v M', R v M' → WI D n l (fr.put n dst v) M' K) : callI D n f args dst fr M l K := h.mono hk
theorem callI_eq {f : FuncId} {args : List V} {dst : Option Nat} {l : List Go.Am.Item} {v : V} (h : Runs D f args M fun v' M' => v' = v ∧ M' = M) (hk : WI D n l (fr.put n dst v) M K) : callI D n f args dst fr M l K :=
  callI_of h fun v' M' h => by rw [h.1, h.2]; exact hk
@[go_sem] theorem WI_plain (dst : Option Nat) (op : AOp) (l : List Go.Am.Item) : WI D n (⟨⟨dst, op, none⟩, []⟩ :: l) fr M K = stepI D n (aop op fr.ev M) dst fr M l K := by
  show WItem D n _ fr M _ = _
  unfold WItem stepI
  cases aop op fr.ev M with
  | none => rfl
  | some r => cases r <;> simp [wantedA]
def guardB (v : V) (b : Bool) : Bool :=
  match v with
  | .bool x => cond b x (!x)
  | _ => false
@[go_sem] theorem guardB_true (x : Bool) : guardB (.bool x) true = x := rfl
@[go_sem] theorem guardB_false (x : Bool) : guardB (.bool x) false = !x := rfl
@[go_sem] theorem guardB_undef (b : Bool) : guardB .undef b = false := rfl
theorem wanted_guard (t : Nat) (b : Bool) : wantedA fr (some (t, b)) = guardB (fr.rd t) b := by
  simp only [wantedA, guardB]
  generalize fr.rd t = v
  cases v <;> rfl
/-- An operation behind a guard; then the rest. -/
def guardI (D : Decls) (n : Nat) (g : Bool) (dst : Option Nat) (op : AOp) (fr : Fr) (M : Mem) (l : List Go.Am.Item) (K : Fr → Mem → Prop) : Prop :=
  match g with
  | true => stepI D n (aop op fr.ev M) dst fr M l K
  | false => WI D n l (fr.put n dst .undef) M K
@[go_sem] theorem guardI_true (dst : Option Nat) (op : AOp) (l : List Go.Am.Item) : guardI D n true dst op fr M l K = stepI D n (aop op fr.ev M) dst fr M l K := rfl
@[go_sem] theorem guardI_false (dst : Option Nat) (op : AOp) (l : List Go.Am.Item) : guardI D n false dst op fr M l K = WI D n l (fr.put n dst .undef) M K := rfl
@[go_sem] theorem WI_guard (dst : Option Nat) (op : AOp) (t : Nat) (b : Bool) (l : List Go.Am.Item) : WI D n (⟨⟨dst, op, some (t, b)⟩, []⟩ :: l) fr M K = guardI D n (guardB (fr.rd t) b) dst op fr M l K := by
  show WItem D n _ fr M _ = _
  unfold WItem guardI stepI
  simp only [wanted_guard]
  cases guardB (fr.rd t) b
  · simp
  · cases aop op fr.ev M with
    | none => simp
    | some r => cases r <;> simp
/-- A call, behind which something is reckoned anew. -/
def callA (D : Decls) (n : Nat) (f : FuncId) (args : List V) (dst : Option Nat) (again : List AOper) (fr : Fr) (M : Mem) (l : List Go.Am.Item) (K : Fr → Mem → Prop) : Prop :=
  Runs D f args M fun v M' => again.all (againOk n fr M M') = true ∧ WI D n l (fr.put n dst v) M' K
theorem callA_of {f : FuncId} {args : List V} {dst : Option Nat} {again : List AOper} {l : List Go.Am.Item} {R : V → Mem → Prop} (h : Runs D f args M R) (hk : ∀ v M', R v M' → again.all (againOk n fr M M') = true ∧ WI D n l (fr.put n dst v) M' K) : callA D n f args dst again fr M l K := h.mono hk
def stepA (D : Decls) (n : Nat) (r : Option Res) (dst : Option Nat) (again : List AOper) (fr : Fr) (M : Mem) (l : List Go.Am.Item) (K : Fr → Mem → Prop) : Prop :=
  match r with
  | some (.val v M') => again.all (againOk n fr M M') = true ∧ WI D n l (fr.put n dst v) M' K
  | some (.call f args) => callA D n f args dst again fr M l K
  | none => False
@[go_sem] theorem stepA_val (v : V) (M' : Mem) (dst : Option Nat) (again : List AOper) (l : List Go.Am.Item) : stepA D n (some (.val v M')) dst again fr M l K = (again.all (againOk n fr M M') = true ∧ WI D n l (fr.put n dst v) M' K) := rfl
@[go_sem] theorem stepA_call (f : FuncId) (args : List V) (dst : Option Nat) (again : List AOper) (l : List Go.Am.Item) : stepA D n (some (.call f args)) dst again fr M l K = callA D n f args dst again fr M l K := rfl
@[go_sem] theorem WI_again (dst : Option Nat) (op : AOp) (x : AOper) (xs : List AOper) (l : List Go.Am.Item) : WI D n (⟨⟨dst, op, none⟩, x :: xs⟩ :: l) fr M K = stepA D n (aop op fr.ev M) dst (x :: xs) fr M l K := by
  show WItem D n _ fr M _ = _
  unfold WItem stepA
  cases aop op fr.ev M with
  | none => rfl
  | some r => cases r <;> simp [wantedA, callA]
@[go_sem] theorem ev_tmp (t : Nat) : fr.ev (.tmp t) = fr.rd t := rfl
@[go_sem] theorem ev_const (v : V) : fr.ev (.const v) = v := rfl
@[go_sem] theorem ev_func (f : FuncId) : fr.ev (.func f) = .fn f [] [] := rfl
@[go_sem] theorem vof_is (v : V) : vof (some v) M = some (.val v M) := rfl

section
variable (k : IntKind) (a b : Int) (x y : List UInt8)
@[go_sem] theorem vb_eql : vbin .eql (.int k a) (.int k b) = some (.bool (decide (a = b))) := by simp [vbin, arInt, cmpInt, isSh, intEq_dec]
@[go_sem] theorem vb_neq : vbin .neq (.int k a) (.int k b) = some (.bool (!decide (a = b))) := by simp [vbin, arInt, cmpInt, isSh, intEq_dec]
@[go_sem] theorem vb_lss : vbin .lss (.int k a) (.int k b) = some (.bool (decide (a < b))) := by
  simp only [vbin, arInt, cmpInt, isSh, cond_false, ikEq_self, cond_true, intLe_iff]
  by_cases h : a < b <;> simp [h] <;> omega
@[go_sem] theorem vb_leq : vbin .leq (.int k a) (.int k b) = some (.bool (decide (a ≤ b))) := by simp [vbin, arInt, cmpInt, isSh, intLe_iff]
@[go_sem] theorem vb_gtr : vbin .gtr (.int k a) (.int k b) = some (.bool (decide (b < a))) := by
  simp only [vbin, arInt, cmpInt, isSh, cond_false, ikEq_self, cond_true, intLe_iff]
  by_cases h : b < a <;> simp [h] <;> omega
@[go_sem] theorem vb_geq : vbin .geq (.int k a) (.int k b) = some (.bool (decide (b ≤ a))) := by simp [vbin, arInt, cmpInt, isSh, intLe_iff]
@[go_sem] theorem vb_add : vbin .add (.int k a) (.int k b) = some (.int k (k.wrap (a + b))) := by simp [vbin, arInt, isSh]
@[go_sem] theorem vb_sub : vbin .sub (.int k a) (.int k b) = some (.int k (k.wrap (a - b))) := by simp [vbin, arInt, isSh]
@[go_sem] theorem vb_mul : vbin .mul (.int k a) (.int k b) = some (.int k (k.wrap (a * b))) := by simp [vbin, arInt, isSh]
@[go_sem] theorem vb_quo (h : b ≠ 0) : vbin .quo (.int k a) (.int k b) = some (.int k (k.wrap (a.tdiv b))) := by simp [vbin, arInt, isSh, intEq_dec, h]
@[go_sem] theorem vb_rem (h : b ≠ 0) : vbin .rem (.int k a) (.int k b) = some (.int k (a.tmod b)) := by simp [vbin, arInt, isSh, intEq_dec, h]
@[go_sem] theorem vs_eql : vbin .eql (.str x) (.str y) = some (.bool (decide (x = y))) := by simp [vbin, binStr, strEq_prop]
@[go_sem] theorem vs_neq : vbin .neq (.str x) (.str y) = some (.bool (!decide (x = y))) := by simp [vbin, binStr, strEq_prop]
@[go_sem] theorem vs_lss : vbin .lss (.str x) (.str y) = some (.bool (strLess x y)) := rfl
@[go_sem] theorem vs_leq : vbin .leq (.str x) (.str y) = some (.bool (strLess x y || decide (x = y))) := by simp [vbin, binStr, strEq_prop]
@[go_sem] theorem vs_gtr : vbin .gtr (.str x) (.str y) = some (.bool (!(strLess x y || decide (x = y)))) := by simp [vbin, binStr, strEq_prop]
@[go_sem] theorem vs_geq : vbin .geq (.str x) (.str y) = some (.bool (!strLess x y)) := rfl
@[go_sem] theorem same_bool (s t : Bool) : vsame ⟨false, [.bool]⟩ (.bool s) (.bool t) = some (decide (s = t)) := by cases s <;> cases t <;> rfl
@[go_sem] theorem same_int : vsame ⟨false, [.int k]⟩ (.int k a) (.int k b) = some (decide (a = b)) := by simp [vsame, Sh.ok, fitAll, SK.fits, V.beq, intEq_dec]
@[go_sem] theorem same_str : vsame ⟨false, [.str]⟩ (.str x) (.str y) = some (decide (x = y)) := by simp [vsame, Sh.ok, fitAll, SK.fits, V.beq, strEq_prop]
@[go_sem] theorem vu_not (t : Bool) : vun .not (.bool t) = some (.bool (!t)) := rfl
@[go_sem] theorem vu_neg : vun .neg (.int k a) = some (.int k (k.wrap (0 - a))) := rfl
theorem as_nat (h : 0 ≤ a) : asNat (.int k a) = some a.toNat := by
  cases a with
  | ofNat n => rfl
  | negSucc n => omega
@[go_sem] theorem as_nat_cast (i : Nat) : asNat (.int k (i : Int)) = some i := rfl
end
@[go_sem ↓] theorem aop_makeSlice (ρ : Opd → V) (es bytes : Nat) (zero : List V) (l c : Opd) : aop (.makeSlice es bytes zero l c) ρ M = match asNat (ρ l), asNat (ρ c) with
    | some l, some c => cond (Nat.ble l c) (cond (Nat.ble (c * bytes) maxRoom) (cond (Nat.ble c maxRoom) (some (.val (.slice (some (M.next, 0)) l (.exact c)) (M.push (.cells (repl c zero) false)))) none) none) none
    | _, _ => none := by
  have e : aop (.makeSlice es bytes zero l c) ρ M = match ρ l, ρ c with
    | .int _ (.ofNat l), .int _ (.ofNat c) => cond (Nat.ble l c) (cond (Nat.ble (c * bytes) maxRoom) (cond (Nat.ble c maxRoom)
        (some (.val (.slice (some (M.next, 0)) l (.exact c)) (M.push (.cells (repl c zero) false)))) none) none) none
    | _, _ => none := rfl
  rw [e]
  generalize ρ l = u
  generalize ρ c = v
  cases u with
  | int k1 a => cases a with
    | ofNat a => cases v with
      | int k2 b => cases b <;> rfl
      | _ => rfl
    | negSucc a => cases v with
      | int k2 b => cases b <;> rfl
      | _ => rfl
  | _ => rfl
attribute [go_sem] aop endQ resultsOf resultOf oneOf nextQ blockQ
attribute [go_sem] List.nil_append List.append_nil eq_self decide_true decide_false Bool.not_true Bool.not_false Bool.not_not Int.neg_neg
attribute [go_sem] Option.bind_some Option.map_some Option.some.injEq List.map_cons List.map_nil cond_true cond_false if_true if_false decide_eq_true_eq Bool.not_eq_true

mutual
theorem V.beq_self : ∀ v : V, V.beq v v = true
  | .bool b => by cases b <;> rfl
  | .int k n => by simp only [V.beq, ikEq_self, cond_true]; exact intEq_iff.2 rfl
  | .str s => by simp only [V.beq]; exact strEq_iff.2 rfl
  | .ptr a => by simp only [V.beq]; exact addrEq_iff.2 rfl
  | .slice a n c => by simp only [V.beq, addrEq_iff.2 (rfl : a = a), Nat.beq_refl, Cap.beq_iff.2 (rfl : c = c), cond_true]
  | .map none => rfl
  | .map (some a) => by simp only [V.beq, Nat.beq_refl]
  | .fn f a b => by simp only [V.beq, Nat.beq_refl, V.beqs_self a, V.beqs_self b, cond_true]
  | .nilFn => rfl
  | .nilIface => rfl
  | .iface t v => by simp only [V.beq, Nat.beq_refl, V.beq_self v, cond_true]
  | .agg a => by simp only [V.beq, V.beqs_self a]
  | .tup a => by simp only [V.beq, V.beqs_self a]
  | .yld b => by simp only [V.beq, Nat.beq_refl]
theorem V.beqs_self : ∀ l : List V, V.beqs l l = true
  | [] => rfl
  | a :: l => by simp only [V.beqs, V.beq_self a, V.beqs_self l, cond_true]
end
attribute [go_sem] V.beq_self
@[go_sem] theorem vmax_int (k : IntKind) (a b : Int) : vmax2 (.int k a) (.int k b) = some (.int k (max a b)) := by
  simp only [vmax2, sbin, ikEq_self, cond_true, intLe_iff]
  by_cases h : b ≤ a
  · rw [decide_eq_true h, Int.max_eq_left h]; rfl
  · rw [decide_eq_false h, Int.max_eq_right (by omega)]; rfl
@[go_sem] theorem vmin_int (k : IntKind) (a b : Int) : vmin2 (.int k a) (.int k b) = some (.int k (min a b)) := by
  simp only [vmin2, sbin, ikEq_self, cond_true, intLe_iff]
  by_cases h : a ≤ b
  · rw [decide_eq_true h, Int.min_eq_left h]; rfl
  · rw [decide_eq_false h, Int.min_eq_right (by omega)]; rfl
attribute [go_sem] foldV

/-! ### memory -/
/-- One block is laid anew, all else stays. -/
structure Upd (M : Mem) (b : Nat) (o : O) (M' : Mem) : Prop where
  next : M'.next = M.next
  at_ : M'.get b = some o
  other : ∀ c, c ≠ b → M'.get c = M.get c
theorem Upd.set (M : Mem) (b : Nat) (o : O) : Upd M b o (M.set b o) := ⟨rfl, Mem.get_set_same M b o, fun _ h => Mem.get_set_ne M o h⟩
theorem Upd.same {M : Mem} {b : Nat} {o : O} (h : M.get b = some o) : Upd M b o M := ⟨rfl, h, fun _ _ => rfl⟩
theorem Upd.trans {M M' M'' : Mem} {b : Nat} {o o' : O} (h : Upd M b o M') (h' : Upd M' b o' M'') : Upd M b o' M'' :=
  ⟨h'.next.trans h.next, h'.at_, fun c hc => (h'.other c hc).trans (h.other c hc)⟩
/-- All that was there stays; there may be more. -/
structure Grew (M M' : Mem) : Prop where
  next : M.next ≤ M'.next
  old : ∀ c, c < M.next → M'.get c = M.get c
theorem Grew.refl (M : Mem) : Grew M M := ⟨Nat.le_refl _, fun _ _ => rfl⟩
theorem Grew.trans {M M' M'' : Mem} (h : Grew M M') (h' : Grew M' M'') : Grew M M'' := ⟨Nat.le_trans h.next h'.next, fun c hc => (h'.old c (Nat.lt_of_lt_of_le hc h.next)).trans (h.old c hc)⟩
theorem Grew.push (M : Mem) (o : O) : Grew M (M.push o) := ⟨Nat.le_succ _, fun c hc => Mem.get_push_ne M o (Nat.ne_of_lt hc)⟩
theorem Grew.upd {M M' M'' : Mem} {b : Nat} {o : O} (h : Grew M M') (hb : M.next ≤ b) (hu : Upd M' b o M'') : Grew M M'' :=
  ⟨by rw [hu.next]; exact h.next, fun c hc => (hu.other c (by omega)).trans (h.old c hc)⟩
theorem wr_one (v : V) : ∀ (cs : List V) (o : Nat), wrCells cs o [v] = cs.set o v
  | [], 0 => rfl
  | [], _ + 1 => rfl
  | _ :: cs, 0 => by cases cs <;> simp [wrCells]
  | _ :: cs, o + 1 => by simp only [wrCells, List.set_cons_succ, wr_one v cs o]
/-- A row's cells, from bytes. -/
def bytesC (l : List UInt8) : List V := l.map fun c => .int .u8 (c.toNat : Int)
@[go_sem] theorem bytesC_len (l : List UInt8) : (bytesC l).length = l.length := by simp [bytesC]
theorem read_all {M : Mem} {b : Nat} {cs : List V} {ro : Bool} (h : M.get b = some (.cells cs ro)) : M.read b 0 cs.length = some cs := by
  simp [Mem.read, h, rdCells, ble_iff]
theorem write_one {M : Mem} {b o : Nat} {v : V} {cs : List V} (h : M.get b = some (.cells cs false)) (ho : o < cs.length) (hv : v.one = true) : M.write b o [v] = some (M.set b (.cells (cs.set o v) false)) := by
  unfold Mem.write
  simp only [h, List.length_cons, List.length_nil, Nat.zero_add, ble_iff, decide_eq_true (show o + 1 ≤ cs.length from ho), cond_true, allOne, hv, wr_one]

/-- A test. -/
theorem WC.test {c : Opd} {a b : ACode} {t : Bool} {Q : AExit → Fr → Mem → Prop} (hc : fr.ev c = .bool t) (ht : t = true → WC D n a fr M Q) (hf : t = false → WC D n b fr M Q) : WC D n (.cond c a b) fr M Q := by
  cases t
  · exact WC.cond hc (hf rfl)
  · exact WC.cond hc (ht rfl)
end
end Go.Am


/- Walking on the machine by rewriting alone: each form of code is worth what its parts are worth; what comes later is left untouched till it is come to. -/
namespace Go.Am
open Go
universe u

section
variable {D : Decls} {n : Nat} {fr fr' : Fr} {M M' : Mem} {Q : AExit → Fr → Mem → Prop}
theorem item_back {k : Nat} {i : Item} {K : Fr → Mem → Prop} (h : execItem (callN D k) n i fr M = some (fr', M')) (hk : K fr' M') : WItem D n i fr M K := by
  unfold WItem
  unfold execItem at h
  cases hw : wantedA fr i.op.guard with
  | false => rw [hw] at h; cases h; exact hk
  | true =>
    rw [hw] at h
    simp only [cond_true] at h ⊢
    cases ha : aop i.op.op fr.ev M with
    | none => rw [ha] at h; cases h
    | some r =>
      rw [ha] at h
      cases r with
      | val v M1 =>
        simp only at h ⊢
        cases hg : i.again.all (againOk n fr M M1) with
        | false => rw [hg] at h; cases h
        | true => rw [hg] at h; cases h; exact ⟨rfl, hk⟩
      | call f args =>
        simp only at h ⊢
        cases hc : callN D k f args M with
        | none => rw [hc] at h; cases h
        | some q =>
          obtain ⟨v, M1⟩ := q
          rw [hc] at h
          simp only at h
          cases hg : i.again.all (againOk n fr M M1) with
          | false => rw [hg] at h; cases h
          | true => rw [hg] at h; cases h; exact ⟨k, v, M', hc, hg, hk⟩
theorem items_back {k : Nat} : ∀ {l : List Item} {fr fr' : Fr} {M M' : Mem} {K : Fr → Mem → Prop}, execItems (callN D k) n l fr M = some (fr', M') → K fr' M' → WI D n l fr M K
  | [], _, _, _, _, _, h, hk => by cases h; exact hk
  | i :: l, fr, fr', M, M', K, h, hk => by
    simp only [execItems] at h
    cases hi : execItem (callN D k) n i fr M with
    | none => rw [hi] at h; cases h
    | some q =>
      obtain ⟨fr1, M1⟩ := q
      rw [hi] at h
      exact item_back hi (items_back h hk)

theorem wc_skip : WC D n .skip fr M Q = Q .normal fr M := propext ⟨fun ⟨_, _, _, _, h, q⟩ => by cases h; exact q, WC.skip⟩
theorem wc_ret : WC D n .ret fr M Q = Q .ret fr M := propext ⟨fun ⟨_, _, _, _, h, q⟩ => by cases h; exact q, WC.ret⟩
theorem wc_exit (id : Nat) : WC D n (.exit id) fr M Q = Q (.exit id) fr M := propext ⟨fun ⟨_, _, _, _, h, q⟩ => by cases h; exact q, WC.exit⟩
theorem wc_ops (l : List Item) : WC D n (.ops l) fr M Q = WI D n l fr M (Q .normal) := propext ⟨fun ⟨k, e, fr', M', h, q⟩ => by
  simp only [Go.Am.exec, Option.map_eq_some_iff] at h
  obtain ⟨⟨fr1, M1⟩, h, h2⟩ := h
  cases h2
  exact items_back h q, WC.ops⟩
theorem wc_seq (a b : ACode) : WC D n (.seq a b) fr M Q = WC D n a fr M (nextQ (fun fr M => WC D n b fr M Q) Q) := propext ⟨fun ⟨k, e, fr', M', h, q⟩ => by
  simp only [Go.Am.exec] at h
  cases ha : Go.Am.exec (callN D k) n k a fr M with
  | none => rw [ha] at h; cases h
  | some r =>
    obtain ⟨e1, fr1, M1⟩ := r
    rw [ha] at h
    cases e1 with
    | normal => exact ⟨k, _, _, _, ha, ⟨k, _, _, _, h, q⟩⟩
    | exit id => cases h; exact ⟨k, _, _, _, ha, q⟩
    | ret => cases h; exact ⟨k, _, _, _, ha, q⟩, WC.seq⟩
theorem wc_block (id : Nat) (b : ACode) : WC D n (.block id b) fr M Q = WC D n b fr M (blockQ id Q) := propext ⟨fun ⟨k, e, fr', M', h, q⟩ => by
  simp only [Go.Am.exec] at h
  cases ha : Go.Am.exec (callN D k) n k b fr M with
  | none => rw [ha] at h; cases h
  | some r =>
    obtain ⟨e1, fr1, M1⟩ := r
    rw [ha] at h
    cases e1 with
    | normal => cases h; exact ⟨k, _, _, _, ha, q⟩
    | ret => cases h; exact ⟨k, _, _, _, ha, q⟩
    | exit j =>
      simp only at h
      cases hj : Nat.beq j id with
      | true => rw [hj] at h; cases h; exact ⟨k, _, _, _, ha, by simp only [blockQ, hj, cond_true]; exact q⟩
      | false => rw [hj] at h; cases h; exact ⟨k, _, _, _, ha, by simp only [blockQ, hj, cond_false]; exact q⟩, WC.block⟩
/-- A mark that bears what is not to be looked at. -/
structure Tg {α : Sort u} (a : α) : Type where
/-- Code, and what is to hold behind it. -/
def W (D : Decls) (n : Nat) (c : ACode) (fr : Fr) (M : Mem) {Q : AExit → Fr → Mem → Prop} (_ : Tg Q) : Prop := WC D n c fr M Q
/-- Operations, and what is to hold behind them. -/
def WT (D : Decls) (n : Nat) (l : List Item) (fr : Fr) (M : Mem) {K : Fr → Mem → Prop} (_ : Tg K) : Prop := WI D n l fr M K
def stepT (D : Decls) (n : Nat) (r : Option Res) (dst : Option Nat) (fr : Fr) (M : Mem) {l : List Item} (_ : Tg l) {K : Fr → Mem → Prop} (_ : Tg K) : Prop := stepI D n r dst fr M l K
def guardT (D : Decls) (n : Nat) (g : Bool) (dst : Option Nat) {op : AOp} (_ : Tg op) (fr : Fr) (M : Mem) {l : List Item} (_ : Tg l) {K : Fr → Mem → Prop} (_ : Tg K) : Prop := guardI D n g dst op fr M l K
def callT (D : Decls) (n : Nat) (f : FuncId) (args : List V) (dst : Option Nat) (fr : Fr) (M : Mem) {l : List Item} (_ : Tg l) {K : Fr → Mem → Prop} (_ : Tg K) : Prop := callI D n f args dst fr M l K
def stepAT (D : Decls) (n : Nat) (r : Option Res) (dst : Option Nat) {again : List AOper} (_ : Tg again) (fr : Fr) (M : Mem) {l : List Item} (_ : Tg l) {K : Fr → Mem → Prop} (_ : Tg K) : Prop := stepA D n r dst again fr M l K
def callAT (D : Decls) (n : Nat) (f : FuncId) (args : List V) (dst : Option Nat) {again : List AOper} (_ : Tg again) (fr : Fr) (M : Mem) {l : List Item} (_ : Tg l) {K : Fr → Mem → Prop} (_ : Tg K) : Prop := callA D n f args dst again fr M l K
/-- A test: by its value the one way or the other. -/
def condI (v : V) (p q : Prop) : Prop :=
  match v with
  | .bool true => p
  | .bool false => q
  | _ => False
def condT (v : V) {p : Prop} (_ : Tg p) {q : Prop} (_ : Tg q) : Prop := condI v p q
def endT (r : Option (List V)) (M : Mem) {R : V → Mem → Prop} (_ : Tg R) : Prop := match r with | some vs => R (oneOf vs) M | none => False

theorem W_of {c : ACode} (h : W D n c fr M (Q := Q) ⟨⟩) : WC D n c fr M Q := h
variable {K : Fr → Mem → Prop} {l : List Item} {dst : Option Nat} {R : V → Mem → Prop}
theorem w_skip (q : Tg Q) : W D n .skip fr M q = Q .normal fr M := wc_skip
theorem w_ret (q : Tg Q) : W D n .ret fr M q = Q .ret fr M := wc_ret
theorem w_exit (id : Nat) (q : Tg Q) : W D n (.exit id) fr M q = Q (.exit id) fr M := wc_exit id
theorem w_scope (b : ACode) (q : Tg Q) : W D n (.scope b) fr M q = W D n b fr M q := (rfl)
theorem w_ops (l : List Item) (q : Tg Q) : W D n (.ops l) fr M q = WT D n l fr M (K := Q .normal) ⟨⟩ := wc_ops l
theorem w_seq (a b : ACode) (q : Tg Q) : W D n (.seq a b) fr M q = W D n a fr M (Q := nextQ (fun fr M => W D n b fr M (Q := Q) ⟨⟩) Q) ⟨⟩ := wc_seq a b
theorem w_block (id : Nat) (b : ACode) (q : Tg Q) : W D n (.block id b) fr M q = W D n b fr M (Q := blockQ id Q) ⟨⟩ := wc_block id b
theorem wc_cond (c : Opd) (a b : ACode) : WC D n (.cond c a b) fr M Q = condI (fr.ev c) (WC D n a fr M Q) (WC D n b fr M Q) := propext ⟨fun ⟨k, e, fr', M', h, q⟩ => by
  simp only [Go.Am.exec] at h
  unfold condI
  cases hv : fr.ev c <;> rw [hv] at h <;> first | cases h | skip
  rename_i t
  cases t
  · exact ⟨k, _, _, _, h, q⟩
  · exact ⟨k, _, _, _, h, q⟩, fun h => by
  unfold condI at h
  split at h
  · rename_i hv; exact WC.cond hv h
  · rename_i hv; exact WC.cond hv h
  · exact h.elim⟩
theorem w_cond (c : Opd) (a b : ACode) (q : Tg Q) : W D n (.cond c a b) fr M q = condT (fr.ev c) (p := W D n a fr M (Q := Q) ⟨⟩) ⟨⟩ (q := W D n b fr M (Q := Q) ⟨⟩) ⟨⟩ := wc_cond c a b
theorem cond_true' {p q : Prop} (a : Tg p) (b : Tg q) : condT (.bool true) a b = p := (rfl)
theorem cond_false' {p q : Prop} (a : Tg p) (b : Tg q) : condT (.bool false) a b = q := (rfl)
@[go_sem] theorem rd_frame4 (a b c d : V) (vs : List V) (t : Nat) : Fr.rd (frameOf 0 (a :: b :: c :: d :: vs) .nil) t = if t = 0 then a else if t = 1 then b else if t = 2 then c else if t = 3 then d else vs.getD (t - 4) .undef := by
  rw [rd_frameOf]
  by_cases h0 : t = 0
  · subst h0; simp
  by_cases h1 : t = 1
  · subst h1; simp
  by_cases h2 : t = 2
  · subst h2; simp
  by_cases h3 : t = 3
  · subst h3; simp
  rw [if_neg h0, if_neg h1, if_neg h2, if_neg h3]
  obtain ⟨t, rfl⟩ : ∃ u, t = u + 4 := ⟨t - 4, by omega⟩
  simp only [Nat.add_sub_cancel, Nat.sub_zero, List.getD_eq_getElem?_getD, List.getElem?_cons_succ]
  split
  · rfl
  · rename_i h
    have : vs.length ≤ t := by simp at h; omega
    rw [List.getElem?_eq_none this]; rfl
@[go_sem] theorem getD_nil (t : Nat) : ([] : List V).getD t .undef = .undef := by simp
@[go_sem] theorem getD_cons (t : Nat) (a : V) (l : List V) : (a :: l).getD t .undef = if t = 0 then a else l.getD (t - 1) .undef := by
  cases t <;> simp
theorem t_nil (k : Tg K) : WT D n [] fr M k = K fr M := (rfl)
theorem t_plain (op : AOp) (l : List Item) (k : Tg K) : WT D n (⟨⟨dst, op, none⟩, []⟩ :: l) fr M k = stepT D n (aop op fr.ev M) dst fr M (l := l) ⟨⟩ k := WI_plain dst op l
theorem t_guard (op : AOp) (t : Nat) (b : Bool) (l : List Item) (k : Tg K) : WT D n (⟨⟨dst, op, some (t, b)⟩, []⟩ :: l) fr M k = guardT D n (guardB (fr.rd t) b) dst (op := op) ⟨⟩ fr M (l := l) ⟨⟩ k := WI_guard dst op t b l
theorem t_again (op : AOp) (x : AOper) (xs : List AOper) (l : List Item) (k : Tg K) : WT D n (⟨⟨dst, op, none⟩, x :: xs⟩ :: l) fr M k = stepAT D n (aop op fr.ev M) dst (again := x :: xs) ⟨⟩ fr M (l := l) ⟨⟩ k := WI_again dst op x xs l
theorem t_val (v : V) (M' : Mem) (l' : Tg l) (k : Tg K) : stepT D n (some (.val v M')) dst fr M l' k = WT D n l (fr.put n dst v) M' k := (rfl)
theorem t_call (f : FuncId) (args : List V) (l' : Tg l) (k : Tg K) : stepT D n (some (.call f args)) dst fr M l' k = callT D n f args dst fr M l' k := (rfl)
theorem g_true (op : AOp) (o' : Tg op) (l' : Tg l) (k : Tg K) : guardT D n true dst o' fr M l' k = stepT D n (aop op fr.ev M) dst fr M l' k := (rfl)
theorem g_false (op : AOp) (o' : Tg op) (l' : Tg l) (k : Tg K) : guardT D n false dst o' fr M l' k = WT D n l (fr.put n dst .undef) M k := (rfl)
theorem a_val (v : V) (M' : Mem) (ag : List AOper) (g' : Tg ag) (l' : Tg l) (k : Tg K) : stepAT D n (some (.val v M')) dst g' fr M l' k = (ag.all (againOk n fr M M') = true ∧ WT D n l (fr.put n dst v) M' k) := (rfl)
theorem a_call (f : FuncId) (args : List V) (ag : List AOper) (g' : Tg ag) (l' : Tg l) (k : Tg K) : stepAT D n (some (.call f args)) dst g' fr M l' k = callAT D n f args dst g' fr M l' k := (rfl)
def guardAT (D : Decls) (n : Nat) (g : Bool) (dst : Option Nat) {op : AOp} (_ : Tg op) {again : List AOper} (_ : Tg again) (fr : Fr) (M : Mem) {l : List Item} (_ : Tg l) {K : Fr → Mem → Prop} (_ : Tg K) : Prop :=
  match g with
  | true => stepA D n (aop op fr.ev M) dst again fr M l K
  | false => WI D n l (fr.put n dst .undef) M K
theorem t_gagain (op : AOp) (t : Nat) (b : Bool) (x : AOper) (xs : List AOper) (l : List Item) (k : Tg K) : WT D n (⟨⟨dst, op, some (t, b)⟩, x :: xs⟩ :: l) fr M k = guardAT D n (guardB (fr.rd t) b) dst (op := op) ⟨⟩ (again := x :: xs) ⟨⟩ fr M (l := l) ⟨⟩ k := by
  have e : WT D n (⟨⟨dst, op, some (t, b)⟩, x :: xs⟩ :: l) fr M k = WItem D n ⟨⟨dst, op, some (t, b)⟩, x :: xs⟩ fr M fun fr M => WI D n l fr M K := rfl
  rw [e]
  unfold WItem guardAT stepA
  simp only [wanted_guard]
  cases guardB (fr.rd t) b
  · simp
  · cases aop op fr.ev M with
    | none => simp
    | some r => cases r <;> simp [callA]
theorem ga_true (op : AOp) (o' : Tg op) (ag : List AOper) (g' : Tg ag) (l' : Tg l) (k : Tg K) : guardAT D n true dst o' g' fr M l' k = stepAT D n (aop op fr.ev M) dst g' fr M l' k := (rfl)
theorem ga_false (op : AOp) (o' : Tg op) (ag : List AOper) (g' : Tg ag) (l' : Tg l) (k : Tg K) : guardAT D n false dst o' g' fr M l' k = WT D n l (fr.put n dst .undef) M k := (rfl)
/-- A call, by what is known of it. -/
theorem call_of {f : FuncId} {args : List V} {l' : Tg l} {k : Tg K} {S : V → Mem → Prop} (h : Runs D f args M S) (hk : ∀ v M', S v M' → WT D n l (fr.put n dst v) M' k) : callT D n f args dst fr M l' k := callI_of h hk
theorem call_eq {f : FuncId} {args : List V} {l' : Tg l} {k : Tg K} {v : V} (h : Runs D f args M fun v' M' => v' = v ∧ M' = M) (hk : WT D n l (fr.put n dst v) M k) : callT D n f args dst fr M l' k := callI_eq h hk
theorem callA_by {f : FuncId} {args : List V} {ag : List AOper} {g' : Tg ag} {l' : Tg l} {k : Tg K} {S : V → Mem → Prop} (h : Runs D f args M S) (hk : ∀ v M', S v M' → ag.all (againOk n fr M M') = true ∧ WT D n l (fr.put n dst v) M' k) : callAT D n f args dst g' fr M l' k := callA_of h hk
theorem n_normal (x : Fr → Mem → Prop) : nextQ x Q .normal fr M = x fr M := (rfl)
theorem n_ret (x : Fr → Mem → Prop) : nextQ x Q .ret fr M = Q .ret fr M := (rfl)
theorem n_exit (x : Fr → Mem → Prop) (id : Nat) : nextQ x Q (.exit id) fr M = Q (.exit id) fr M := (rfl)
theorem b_normal (id : Nat) : blockQ id Q .normal fr M = Q .normal fr M := (rfl)
theorem b_ret (id : Nat) : blockQ id Q .ret fr M = Q .ret fr M := (rfl)
theorem b_exit (id j : Nat) : blockQ id Q (.exit j) fr M = condT (.bool (Nat.beq j id)) (p := Q .normal fr M) ⟨⟩ (q := Q (.exit j) fr M) ⟨⟩ := by
  simp only [blockQ, condT, condI]
  cases Nat.beq j id <;> rfl
theorem e_normal (rs : List ARes) : endQ rs R .normal fr M = endT (resultsOf fr M rs) M (R := R) ⟨⟩ := (rfl)
theorem e_ret (rs : List ARes) : endQ rs R .ret fr M = endT (resultsOf fr M rs) M (R := R) ⟨⟩ := (rfl)
theorem e_some (vs : List V) (r : Tg R) : endT (some vs) M r = R (oneOf vs) M := (rfl)
/-- A function is walked from its frame on. -/
theorem Runs.walk {f : FuncId} {F : AFunc} {args : List V} (hp : D.prim f = none) (hf : D.code.get f = some F) (hl : Nat.ble args.length F.ntmps = true) (h : W D F.ntmps F.body (frameOf 0 args .nil) M (Q := endQ F.results R) ⟨⟩) : Runs D f args M R := Runs.of hp hf hl h
end
end Go.Am


/- Slices that grow: what a slice holds, and what append makes of it. -/
namespace Go.Am
open Go

/-- A slice that is the machine's own and ends where its row ends: so many elements of es cells, these cells; nothing below M0 is its row. -/
inductive Hold (lo : Nat) (M : Mem) (es : Nat) : V → Nat → List V → Prop where
  | nil : Hold lo M es (.slice none 0 (.exact 0)) 0 []
  | row {b n : Nat} {cs : List V} (h : M.get b = some (.cells cs false)) (hl : cs.length = n * es) (hb : lo ≤ b) (hn : b < M.next) : Hold lo M es (.slice (some (b, 0)) n (.upto es)) n cs

/-- The block that a slice stands on. -/
def V.blk : V → Option Nat
  | .slice (some (b, _)) _ _ => some b
  | _ => none

theorem Hold.keep {lo es n : Nat} {M M' : Mem} {s : V} {cs : List V} (h : Hold lo M es s n cs) (hk : ∀ b, s.blk = some b → M'.get b = M.get b) (hn : M.next ≤ M'.next) : Hold lo M' es s n cs := by
  cases h with
  | nil => exact .nil
  | row h hl hb hlt => exact .row ((hk _ rfl).trans h) hl hb (Nat.lt_of_lt_of_le hlt hn)
theorem Hold.blk_le {lo es n : Nat} {M : Mem} {s : V} {cs : List V} (h : Hold lo M es s n cs) {b : Nat} (hb : s.blk = some b) : lo ≤ b ∧ b < M.next ∧ M.get b = some (.cells cs false) := by
  cases h with
  | nil => cases hb
  | row h hl h1 h2 => simp only [V.blk, Option.some.injEq] at hb; subst hb; exact ⟨h1, h2, h⟩
theorem Hold.len {lo es n : Nat} {M : Mem} {s : V} {cs : List V} (h : Hold lo M es s n cs) : cs.length = n * es := by
  cases h with
  | nil => simp
  | row h hl => exact hl

/-- What append does: a new row, the old one no longer looked at. -/
theorem Hold.append {lo es bytes n m : Nat} {M : Mem} {s x : V} {cs new : List V} (h : Hold lo M es s n cs) (hlo : lo ≤ M.next) (hx : srcLen x = some m) (hc : srcCells es M m x = some new) (hm : m ≠ 0) (hnew : new.length = m * es)
    (hroom : (n + m) * bytes ≤ maxRoom) (hone : allOne new = true) :
    ∃ M', vappend es bytes M s x = some (.slice (some (M.next, 0)) (n + m) (.upto es), M') ∧ Hold lo M' es (.slice (some (M.next, 0)) (n + m) (.upto es)) (n + m) (cs ++ new) ∧ M'.next = M.next + 1 ∧ (∀ c, c ≠ M.next → s.blk ≠ some c → M'.get c = M.get c) := by
  cases h with
  | nil =>
    refine ⟨M.push (.cells new false), ?_, .row (by rw [Mem.get_push_same]; simp) (by simp [hnew]) hlo (by simp), rfl, fun c hc _ => Mem.get_push_ne M _ hc⟩
    simp only [vappend, hx, hc, Option.bind_some, beq_dec, decide_eq_false hm, cond_false, ble_iff]
    rw [decide_eq_true (by simpa using hroom)]
    simp
  | row hM hl hb hn =>
    rename_i b
    have hne : b ≠ M.next := Nat.ne_of_lt hn
    refine ⟨(M.set b .dead).push (.cells (cs ++ new) false), ?_, .row ?_ ?_ hlo (by simp), rfl, ?_⟩
    · simp only [vappend, hx, hc, Option.bind_some, beq_dec, decide_eq_false hm, cond_false, hM, decide_true, cond_true, Nat.zero_add, hl, ble_iff, hone, List.drop_zero]
      rw [decide_eq_true hroom]
      simp
    · have : (M.set b .dead).next = M.next := rfl
      rw [← this, Mem.get_push_same]
    · rw [List.length_append, hl, hnew, Nat.add_mul]
    · intro c hc h2
      have : c ≠ b := fun e => h2 (by rw [e]; rfl)
      rw [Mem.get_push_ne (M.set b .dead) _ (show c ≠ (M.set b .dead).next from hc), Mem.get_set_ne _ _ this]

theorem Hold.lower {lo lo' es n : Nat} {M : Mem} {s : V} {cs : List V} (h : Hold lo M es s n cs) (hl : lo' ≤ lo) : Hold lo' M es s n cs := by
  cases h with
  | nil => exact .nil
  | row a b c d => exact .row a b (Nat.le_trans hl c) d
/-- Append, of however many. -/
theorem Hold.append_any {lo es bytes n m : Nat} {M : Mem} {s x : V} {cs new : List V} (h : Hold lo M es s n cs) (hlo : lo ≤ M.next) (hx : srcLen x = some m) (hc : srcCells es M m x = some new) (hnew : new.length = m * es)
    (hroom : (n + m) * bytes ≤ maxRoom) (hone : allOne new = true) :
    ∃ s' M', vappend es bytes M s x = some (s', M') ∧ Hold lo M' es s' (n + m) (cs ++ new) ∧ M.next ≤ M'.next ∧ (∀ c, c < M.next → s.blk ≠ some c → M'.get c = M.get c) ∧ (s'.blk = s.blk ∨ s'.blk = some M.next) := by
  by_cases hm : m = 0
  · subst hm
    have : new = [] := List.eq_nil_of_length_eq_zero (by simpa using hnew)
    subst this
    refine ⟨s, M, ?_, by simpa using h, Nat.le_refl _, fun _ _ _ => rfl, .inl rfl⟩
    cases h with
    | nil => simp only [vappend, hx, hc, Option.bind_some]; rfl
    | row => simp only [vappend, hx, hc, Option.bind_some, beq_dec, decide_true, cond_true]
  · obtain ⟨M', h1, h2, h3, h4⟩ := h.append (bytes := bytes) hlo hx hc hm hnew hroom hone
    exact ⟨_, M', h1, h2, by omega, fun c hc => h4 c (Nat.ne_of_lt hc), .inr rfl⟩

/-- What is read off such a slice. -/
theorem Hold.src {lo es n : Nat} {M : Mem} {s : V} {cs : List V} (h : Hold lo M es s n cs) : srcLen s = some n ∧ srcCells es M n s = some cs := by
  cases h with
  | nil => exact ⟨rfl, rfl⟩
  | row hM hl =>
    refine ⟨rfl, ?_⟩
    simp only [srcCells, beq_dec]
    by_cases hn : n = 0
    · subst hn
      have : cs = [] := List.eq_nil_of_length_eq_zero (by simpa using hl)
      simp [this]
    · simp only [decide_eq_false hn, cond_false]
      rw [← hl]
      exact read_all hM
theorem Hold.shape {lo es n : Nat} {M : Mem} {s : V} {cs : List V} (h : Hold lo M es s n cs) : ∃ a cap, s = .slice a n cap := by
  cases h with
  | nil => exact ⟨_, _, rfl⟩
  | row => exact ⟨_, _, rfl⟩
theorem wr_full : ∀ (cs vs : List V), vs.length = cs.length → wrCells cs 0 vs = vs
  | [], [], _ => rfl
  | [], _ :: _, h => by simp at h
  | _ :: _, [], h => by simp at h
  | _ :: cs, v :: vs, h => by simp only [wrCells, wr_full cs vs (by simpa using h)]
/-- A whole row laid anew. -/
theorem write_full {M : Mem} {b : Nat} {cs vs : List V} (h : M.get b = some (.cells cs false)) (hl : vs.length = cs.length) (h1 : allOne vs = true) : M.write b 0 vs = some (M.set b (.cells vs false)) := by
  unfold Mem.write
  simp only [h, Nat.zero_add, ble_iff, hl, Nat.le_refl, decide_true, cond_true, h1, wr_full cs vs hl]
end Go.Am


/- Walking code of runs that draw, by rewriting alone; the contract of a function that is ranged over. -/
namespace Go.Am
open Go

section
variable (P : Program) (gl : Nat → Bool) (n : Nat)
def xw (c : XCode) (rd : Bool) (fr : Fr) (M : Mem) {Q : XQ} (_ : Tg Q) : Prop := WX P gl n c rd fr M Q
def xi (l : List XItem) (fr : Fr) (M : Mem) {K : Fr → Mem → Prop} (_ : Tg K) : Prop := XI P gl n l fr M K
def yieldOf (op : AOp) (ρ : Opd → V) : Option (Nat × List V) :=
  match op with
  | .call f args => match ρ f with
    | .yld b => some (b, args.map ρ)
    | _ => none
  | _ => none
def xst (r : Option Res) (y : Option (Nat × List V)) (dst : Option Nat) (fr : Fr) (M : Mem) {l : List XItem} (_ : Tg l) {K : Fr → Mem → Prop} (_ : Tg K) : Prop :=
  match r with
  | some (.val v M') => XI P gl n l (fr.put n dst v) M' K
  | some (.call f args) => XCall P gl f args M fun v M' => XI P gl n l (fr.put n dst v) M' K
  | none => match y with
    | some (b, args) => XYield P gl b args M fun v M' => XI P gl n l (fr.put n dst v) M' K
    | none => False
def xcall (f : FuncId) (args : List V) (dst : Option Nat) (fr : Fr) (M : Mem) {l : List XItem} (_ : Tg l) {K : Fr → Mem → Prop} (_ : Tg K) : Prop := XCall P gl f args M fun v M' => XI P gl n l (fr.put n dst v) M' K
def xyield (b : Nat) (args : List V) (dst : Option Nat) (fr : Fr) (M : Mem) {l : List XItem} (_ : Tg l) {K : Fr → Mem → Prop} (_ : Tg K) : Prop := XYield P gl b args M fun v M' => XI P gl n l (fr.put n dst v) M' K
def xgd (g : Bool) (dst : Option Nat) {op : XOp} (_ : Tg op) (fr : Fr) (M : Mem) {l : List XItem} (_ : Tg l) {K : Fr → Mem → Prop} (_ : Tg K) : Prop :=
  cond g (XStep P gl fr op M fun v M' => XI P gl n l (fr.put n dst v) M' K) (XI P gl n l (fr.put n dst .undef) M K)
end

section
variable {P : Program} {gl : Nat → Bool} {n : Nat} {fr : Fr} {M : Mem} {Q : XQ} {K : Fr → Mem → Prop} {l : List XItem} {dst : Option Nat} {rd : Bool}
theorem xw_of {c : XCode} (h : xw P gl n c rd fr M (Q := Q) ⟨⟩) : WX P gl n c rd fr M Q := h
theorem x_skip (q : Tg Q) : xw P gl n .skip rd fr M q = Q .normal fr M := (rfl)
theorem x_ret (q : Tg Q) : xw P gl n .ret rd fr M q = Q .ret fr M := (rfl)
theorem x_exit (id : Nat) (q : Tg Q) : xw P gl n (.exit id) rd fr M q = Q (.exit id) fr M := (rfl)
theorem x_ops (l : List XItem) (q : Tg Q) : xw P gl n (.ops l) rd fr M q = xi P gl n l fr M (K := Q .normal) ⟨⟩ := (rfl)
theorem x_seq' (a b : XCode) (q : Tg Q) : xw P gl n (.seq a b) rd fr M q = xw P gl n a rd fr M (Q := nextQ (fun fr M => xw P gl n b rd fr M (Q := Q) ⟨⟩) Q) ⟨⟩ := (rfl)
theorem x_block' (id : Nat) (b : XCode) (q : Tg Q) : xw P gl n (.block id b) rd fr M q = xw P gl n b rd fr M (Q := blockQ id Q) ⟨⟩ := (rfl)
theorem x_cond' (c : Opd) (a b : XCode) (q : Tg Q) : xw P gl n (.cond c a b) rd fr M q = condT (fr.ev c) (p := xw P gl n a rd fr M (Q := Q) ⟨⟩) ⟨⟩ (q := xw P gl n b rd fr M (Q := Q) ⟨⟩) ⟨⟩ := (rfl)
/-- Behind a round's variables: its body. -/
def roundQ (P : Program) (gl : Nat → Bool) (n b : Nat) (lp : LoopState → Option Code → O) (xb : XCode) (R : V → Mem → Prop) : XQ := fun e fr2 M2 => e = .normal ∧ M2.get b = some (lp .ready none) ∧ xw P gl n xb true fr2 (M2.set b (lp .busy none)) (Q := bodyX b lp R) ⟨⟩
theorem x_range' (g : Opd) (ps : List Nat) (xa xb : XCode) (q : Tg Q) {f : FuncId} {first captured : List V} (hg : fr.ev g = .fn f first captured)
    (h : ∀ lp : LoopState → Option Code → O, (∀ st p b s k l, lp st p ≠ .mapIter b s k l) → (∀ (args : List V) (M1 : Mem) (R : V → Mem → Prop), M1.get M.next = some (lp .ready none) → args.length = ps.length →
        xw P gl n xa true (putAll' n fr (ps.zip args)) M1 (Q := roundQ P gl n M.next lp xb R) ⟨⟩ → XYield P gl M.next args M1 R) →
      XRuns P gl f (first ++ [.yld M.next] ++ captured) (M.push (lp .ready none)) (leaveX M.next lp fr Q)) : xw P gl n (.range g ps xa xb) false fr M q := by
  show WX P gl n (.range g ps xa xb) false fr M Q
  simp only [WX, hg]
  exact ⟨trivial, h⟩
theorem i_nil (k : Tg K) : xi P gl n [] fr M k = K fr M := (rfl)
theorem i_plain (op : AOp) (l : List XItem) (k : Tg K) : xi P gl n (⟨dst, .a op, none⟩ :: l) fr M k = xst P gl n (aop op fr.ev M) (yieldOf op fr.ev) dst fr M (l := l) ⟨⟩ k := by
  show XI P gl n _ fr M K = _
  simp only [XI, wantedA, cond_true, XStep, xst]
  cases aop op fr.ev M with
  | some r => cases r <;> rfl
  | none =>
    unfold yieldOf
    cases op <;> try rfl
    rename_i f args
    simp only
    cases fr.ev f <;> rfl
theorem i_guard (op : XOp) (t : Nat) (b : Bool) (l : List XItem) (k : Tg K) : xi P gl n (⟨dst, op, some (t, b)⟩ :: l) fr M k = xgd P gl n (guardB (fr.rd t) b) dst (op := op) ⟨⟩ fr M (l := l) ⟨⟩ k := by
  show XI P gl n _ fr M K = _
  simp only [XI, xgd, wanted_guard]
theorem xg_true (op : AOp) (o' : Tg (XOp.a op)) (l' : Tg l) (k : Tg K) : xgd P gl n true dst o' fr M l' k = xst P gl n (aop op fr.ev M) (yieldOf op fr.ev) dst fr M l' k := by
  have := i_plain (P := P) (gl := gl) (n := n) (fr := fr) (M := M) (dst := dst) op l k
  rw [← this]
  show _ = XI P gl n _ fr M K
  simp only [XI, wantedA, cond_true, xgd]
theorem xg_false (op : XOp) (o' : Tg op) (l' : Tg l) (k : Tg K) : xgd P gl n false dst o' fr M l' k = xi P gl n l (fr.put n dst .undef) M k := (rfl)
theorem xs_val (v : V) (M' : Mem) (y : Option (Nat × List V)) (l' : Tg l) (k : Tg K) : xst P gl n (some (.val v M')) y dst fr M l' k = xi P gl n l (fr.put n dst v) M' k := (rfl)
theorem xs_call (f : FuncId) (args : List V) (y : Option (Nat × List V)) (l' : Tg l) (k : Tg K) : xst P gl n (some (.call f args)) y dst fr M l' k = xcall P gl n f args dst fr M l' k := (rfl)
theorem xs_yield (b : Nat) (args : List V) (l' : Tg l) (k : Tg K) : xst P gl n none (some (b, args)) dst fr M l' k = xyield P gl n b args dst fr M l' k := (rfl)
/-- Over a map begun. -/
theorem i_range {x : Opd} {b clock : Nat} {es : List (V × V)} {ents : List MapEntry} {l' : Tg K} (hx : fr.ev x = .map (some b)) (hM : M.get b = some (.rmap es ents clock)) (h : xi P gl n l (fr.put n dst (.ptr (some (M.next, 0)))) (M.push (.mapIter (some b) clock #[] clock)) l') : xi P gl n (⟨dst, .rangeMap x, none⟩ :: l) fr M l' := by
  show XI P gl n _ fr M K
  simp only [XI, wantedA, cond_true, XStep, hx, hM]
  exact h
/-- The next entry, whichever. -/
theorem i_next {x : Opd} {it b clock : Nat} {seen : Array Nat} {es : List (V × V)} {ents : List MapEntry} {l' : Tg K} (hx : fr.ev x = .ptr (some (it, 0))) (hit : M.get it = some (.mapIter (some b) clock seen clock)) (hM : M.get b = some (.rmap es ents clock))
    (h1 : ents.filter (notSeen seen) = [] → xi P gl n l (fr.put n dst (.tup [.bool false])) M l')
    (h2 : ∀ (i : Nat) (e : MapEntry) (kv : V × V), ents[i]? = some e → notSeen seen e = true → es[i]? = some kv → xi P gl n l (fr.put n dst (.tup [.bool true, kv.1, kv.2])) (M.set it (.mapIter (some b) clock (seen.push e.born) clock)) l') : xi P gl n (⟨dst, .nextMap x, none⟩ :: l) fr M l' := by
  show XI P gl n _ fr M K
  simp only [XI, wantedA, cond_true, XStep, hx, hit, hM]
  exact ⟨trivial, trivial, h1, h2⟩
theorem i_entry {x : Opd} {it b since clock : Nat} {seen : Array Nat} {es : List (V × V)} {ents : List MapEntry} {l' : Tg K} (hx : fr.ev x = .ptr (some (it, 0))) (hit : M.get it = some (.mapIter (some b) since seen clock)) (hM : M.get b = some (.rmap es ents clock))
    (i : Nat) (e : MapEntry) (kv : V × V) (hi : ents[i]? = some e) (hs : seen.back? = some e.born) (hkv : es[i]? = some kv) (h : xi P gl n l (fr.put n dst (.tup [kv.1, kv.2])) M l') : xi P gl n (⟨dst, .entryMap x, none⟩ :: l) fr M l' := by
  show XI P gl n _ fr M K
  simp only [XI, wantedA, cond_true, XStep, hx, hit, hM]
  exact ⟨trivial, i, e, kv, hi, hs, hkv, h⟩
theorem xcall_of {f : FuncId} {args : List V} {l' : Tg l} {k : Tg K} {S : V → Mem → Prop} (h : XRuns P gl f args M S) (hk : ∀ v M', S v M' → xi P gl n l (fr.put n dst v) M' k) : xcall P gl n f args dst fr M l' k := .inl (h.mono hk)
theorem xcall_ext {f : FuncId} {args : List V} {l' : Tg l} {k : Tg K} {S : V → Mem → Prop} (h : XExt P gl f args M S) (hk : ∀ v M', S v M' → xi P gl n l (fr.put n dst v) M' k) : xcall P gl n f args dst fr M l' k := .inr (h.mono hk)
theorem xyield_of {b : Nat} {args : List V} {l' : Tg l} {k : Tg K} {S : V → Mem → Prop} (h : XYield P gl b args M S) (hk : ∀ v M', S v M' → xi P gl n l (fr.put n dst v) M' k) : xyield P gl n b args dst fr M l' k := h.mono hk
theorem xe_normal (rs : List ARes) (R : V → Mem → Prop) : endX rs R .normal fr M = endT (resultsOf fr M rs) M (R := R) ⟨⟩ := (rfl)
theorem xe_ret (rs : List ARes) (R : V → Mem → Prop) : endX rs R .ret fr M = endT (resultsOf fr M rs) M (R := R) ⟨⟩ := (rfl)
theorem XRuns.walk (hm : P.follows .mixedOrders = true) {f : FuncId} {fn : Func} {x : XCode} {rs : List ARes} {nt : Nat} {args : List V} {R : V → Mem → Prop} (hf : P.funcs[f]? = some fn) (hb : ∃ c, fn.body = some c ∧ cX P gl c = x) (hn : fn.ntmps = nt ∧ (fn.name == "runtime.NumGoroutine") = false)
    (hrs : cRes P fn.results.toList = some rs) (hl : Nat.ble args.length nt = true) (h : xw P gl nt x false (frameOf 0 args .nil) M (Q := endX rs R) ⟨⟩) : XRuns P gl f args M R := by
  obtain ⟨c, h1, h2⟩ := hb
  obtain ⟨rfl, hn⟩ := hn
  exact XRuns.of_code hm hf h1 hn h2 hrs hl h
theorem rounds_x_succ (step : Fr → Mem → XQ → Prop) (k : Nat) : roundsX step (k + 1) fr M Q = step fr M (nextQ (fun fr M => roundsX step k fr M Q) Q) := (rfl)
end

def isIter (M : Mem) (c : Nat) : Prop := ∃ b s n l, M.get c = some (.mapIter b s n l)

/-- A function that is ranged over: all come, one by one, or a round says that it is enough. -/
def SeqX (P : Program) (gl : Nat → Bool) {α : Type} (f : FuncId) (first captured : List V) (cv : α → V) (G : Mem → Prop) (S Sp : List α → Prop) (N : Nat) : Prop :=
  ∀ (b : Nat) (J Jx : List α → Mem → Prop) (M : Mem),
    (∀ pre M, J pre M → G M) →
    (∀ pre M o, J pre M → J pre (M.push o)) →
    (∀ pre M o o', J pre M → J pre ((M.push o).set M.next o')) →
    (∀ pre M' c b s n l, J pre M' → M.next ≤ c → isIter M' c → J pre (M'.set c (.mapIter b s n l))) →
    (∀ pre x M', J pre M' → pre.length < N → XYield P gl b [cv x] M' fun v M'' => (v = .bool true ∧ J (pre ++ [x]) M'' ∧ M'.next ≤ M''.next ∧ ∀ c, c < M'.next → isIter M' c → M''.get c = M'.get c) ∨ (v = .bool false ∧ Jx (pre ++ [x]) M'')) →
    J [] M →
    XRuns P gl f (first ++ [.yld b] ++ captured) M fun _ M' => (∃ xs, S xs ∧ J xs M') ∨ ∃ pre, Sp pre ∧ Jx pre M'

/-! ### '==' of small aggregates -/
theorem same_two (a b c d : Int) : vsame ⟨true, [.int .i64, .int .i64]⟩ (.agg [.int .i64 a, .int .i64 b]) (.agg [.int .i64 c, .int .i64 d]) = some (decide (a = c ∧ b = d)) := by
  simp only [vsame, Sh.ok, fitAll, SK.fits, ikEq_self, cond_true, V.beq, V.beqs, intEq_dec]
  by_cases h : a = c <;> by_cases h2 : b = d <;> simp [h, h2]
theorem same_sib (a b : List UInt8) (c d e f : Int) : vsame ⟨true, [.str, .int .i64, .int .i64]⟩ (.agg [.str a, .int .i64 c, .int .i64 d]) (.agg [.str b, .int .i64 e, .int .i64 f]) = some (decide (a = b ∧ c = e ∧ d = f)) := by
  simp only [vsame, Sh.ok, fitAll, SK.fits, ikEq_self, cond_true, V.beq, V.beqs, intEq_dec, strEq_prop]
  by_cases h : a = b <;> by_cases h2 : c = e <;> by_cases h3 : d = f <;> simp [h, h2, h3]
theorem same_spot (a b : List UInt8) (c d e f : Int) : vsame ⟨true, [.int .i64, .int .i64, .str]⟩ (.agg [.int .i64 c, .int .i64 d, .str a]) (.agg [.int .i64 e, .int .i64 f, .str b]) = some (decide (c = e ∧ d = f ∧ a = b)) := by
  simp only [vsame, Sh.ok, fitAll, SK.fits, ikEq_self, cond_true, V.beq, V.beqs, intEq_dec, strEq_prop]
  by_cases h : a = b <;> by_cases h2 : c = e <;> by_cases h3 : d = f <;> simp [h, h2, h3]
end Go.Am


/- The row: what is read of flat arguments, on both sides of the call. -/
namespace Go.Am
open Go Go.RowKit Go.ChangeShapes Go.WideShapes

/-- The kinds of cells of a flat value. -/
inductive CK where
  | bool
  | int (k : IntKind)
  | str

def CK.fits : CK → Value → Prop
  | .bool, v => ∃ b, v = .bool b
  | .int k, v => ∃ n, v = .int k n ∧ (Lit.int k n).wf = true
  | .str, v => ∃ s : ByteArray, v = .string s ∧ s.size ≤ maxLen

def Fits : List CK → List Value → Prop
  | [], [] => True
  | k :: ks, v :: vs => k.fits v ∧ Fits ks vs
  | _, _ => False

theorem Fits.app : ∀ {a : List CK} {x : List Value} {b : List CK} {y : List Value}, Fits a x → Fits b y → Fits (a ++ b) (x ++ y)
  | [], [], _, _, _, h => h
  | _ :: _, _ :: _, _, _, h, h' => ⟨h.1, Fits.app h.2 h'⟩
  | [], _ :: _, _, _, h, _ => h.elim
  | _ :: _, [], _, _, h, _ => h.elim

theorem Fits.cons_of {k : CK} {ks : List CK} {cs : List Value} (h : Fits (k :: ks) cs) : ∃ v vs, cs = v :: vs ∧ k.fits v ∧ Fits ks vs := by
  cases cs with
  | nil => exact h.elim
  | cons v vs => exact ⟨v, vs, rfl, h.1, h.2⟩
theorem Fits.nil_of {cs : List Value} (h : Fits [] cs) : cs = [] := by
  cases cs with
  | nil => rfl
  | cons v vs => exact h.elim

theorem Fits.length : ∀ {a : List CK} {x : List Value}, Fits a x → x.length = a.length
  | [], [], _ => rfl
  | _ :: _, _ :: _, h => by simp [Fits.length h.2]
  | [], _ :: _, h => h.elim
  | _ :: _, [], h => h.elim

def shapesW (g : TypeId → Option (List CK)) (c : TypeId → Nat) : List Field → Nat → Option (List CK)
  | [], _ => some []
  | f :: fs, off => if f.offset = off then
      match g f.type with
      | none => none
      | some ks => if ks.length = c f.type then (shapesW g c fs (off + ks.length)).map (ks ++ ·) else none
    else none

/-- What cells a flat type is made of. -/
def shape (P : Program) : Nat → TypeId → Option (List CK)
  | 0, _ => none
  | n + 1, t =>
    match P.underlying t with
    | some .bool => some [.bool]
    | some (.int k) => some [.int k]
    | some .string => some [.str]
    | some (.struct fs) =>
      match shapesW (shape P n) P.cellsOf fs.toList 0 with
      | some ks => if ks.length = P.cellsOf t then some ks else none
      | none => none
    | _ => none

section
variable {H : Type} {enc : TypeId × Value → H} {P : Program} {W : World} {base : Nat} {sp : Nat → Bool}

theorem fields_trod {m : Nat} {g : TypeId → Option (List CK)} {c : TypeId → Nat}
    (hrec : ∀ t ks, g t = some ks → ∀ cs x, DataW.trod enc P W base sp true m t cs = some x → Fits ks cs ∧ x.2 = [] ∧ ∀ W' b' s', DataW.trod enc P W' b' s' true m t cs = some x) :
    ∀ (fs : List Field) off ks, shapesW g c fs off = some ks → ∀ (cs : List Value) (xs : List (DataW H × List MemPlace)),
      fs.mapM (fun f => DataW.trod enc P W base sp true m f.type ((cs.drop f.offset).take (c f.type))) = some xs →
      Fits ks ((cs.drop off).take ks.length) ∧ xs.flatMap (·.2) = [] ∧ ∀ W' b' s', fs.mapM (fun f => DataW.trod enc P W' b' s' true m f.type ((cs.drop f.offset).take (c f.type))) = some xs
  | [], off, ks, h, cs, xs, hm => by
    simp only [shapesW, Option.some.injEq] at h
    subst h
    simp only [List.mapM_nil, Option.pure_def, Option.some.injEq] at hm
    subst hm
    refine ⟨?_, rfl, fun _ _ _ => rfl⟩
    simp [Fits]
  | f :: fs, off, ks, h, cs, xs, hm => by
    simp only [shapesW] at h
    split at h
    · rename_i ho
      split at h
      · cases h
      · rename_i k1 hk
        split at h
        · rename_i hl
          rw [Option.map_eq_some_iff] at h
          obtain ⟨k2, h2, rfl⟩ := h
          rw [List.mapM_cons] at hm
          simp only [Option.bind_eq_bind, Option.bind_eq_some_iff, Option.pure_def, Option.some.injEq] at hm
          obtain ⟨y, hy, ys, hys, rfl⟩ := hm
          obtain ⟨f1, p1, r1⟩ := hrec _ _ hk _ _ hy
          obtain ⟨f2, p2, r2⟩ := fields_trod hrec fs _ _ h2 cs ys hys
          refine ⟨?_, ?_, fun W' b' s' => ?_⟩
          · rw [List.length_append, List.take_add, List.drop_drop]
            rw [ho, ← hl] at f1
            exact f1.app f2
          · rw [List.flatMap_cons, p1, p2]; rfl
          · rw [List.mapM_cons, r1 W' b' s']
            simp only [Option.bind_eq_bind, Option.bind_some, r2 W' b' s', Option.pure_def]
        · cases h
    · cases h

theorem trod_struct_un {t : TypeId} {fs : Array Field} {m : Nat} {cs : List Value} {x : DataW H × List MemPlace} (hu : P.underlying t = some (.struct fs)) (hx : DataW.trod enc P W base sp true (m + 1) t cs = some x) :
    ∃ xs, cs.length = P.cellsOf t ∧ fs.toList.mapM (fun f => DataW.trod enc P W base sp true m f.type ((cs.drop f.offset).take (P.cellsOf f.type))) = some xs ∧ x = (.agg (xs.map (·.1)), xs.flatMap (·.2)) := by
  unfold DataW.trod at hx
  rw [hu] at hx
  split at hx <;> simp_all
  obtain ⟨hl, xs, hp, hd⟩ := hx
  exact ⟨xs, hp, hd.symm⟩

theorem flat_trod : ∀ (n : Nat) (t : TypeId) (ks : List CK), shape P n t = some ks → ∀ (fuel : Nat) (cs : List Value) (x : DataW H × List MemPlace), DataW.trod enc P W base sp true fuel t cs = some x →
    Fits ks cs ∧ x.2 = [] ∧ ∀ W' b' s', DataW.trod enc P W' b' s' true fuel t cs = some x
  | 0, _, _, h, _, _, _, _ => by simp [shape] at h
  | n + 1, t, ks, h, fuel, cs, x, hx => by
    cases fuel with
    | zero => simp [DataW.trod] at hx
    | succ m =>
      unfold shape at h
      split at h
      · rename_i hu
        cases h
        unfold DataW.trod at hx
        simp only [DataW.trod, hu]
        rw [hu] at hx
        split at hx <;> simp_all [Fits, CK.fits]
        subst hx; rfl
      · rename_i k hu
        cases h
        unfold DataW.trod at hx
        simp only [DataW.trod, hu]
        rw [hu] at hx
        split at hx <;> simp_all [Fits, CK.fits]
        rw [← hx.2]
      · rename_i hu
        cases h
        unfold DataW.trod at hx
        simp only [DataW.trod, hu]
        rw [hu] at hx
        split at hx <;> simp_all [Fits, CK.fits]
        rw [← hx.2]
      · rename_i fs hu
        split at h
        · rename_i kk hk
          split at h
          · rename_i hl
            cases h
            obtain ⟨xs, hlen, hmm, rfl⟩ := trod_struct_un hu hx
            obtain ⟨a, b, c⟩ := fields_trod (fun t ks hs cs x hx => flat_trod n t ks hs m cs x hx) fs.toList 0 ks hk cs xs hmm
            refine ⟨?_, b, fun W' b' s' => trod_struct_mk hu hlen (c W' b' s')⟩
            rw [List.drop_zero, hl, ← hlen, List.take_length] at a
            exact a
          · cases h
        · cases h
      · cases h

end
end Go.Am


/- Rows of elements of so many cells: what stands at a place; what is laid there. -/
namespace Go.Am
open Go

theorem wr_skip' : ∀ (a cs : List V) (o : Nat) (vs : List V), wrCells (a ++ cs) (a.length + o) vs = a ++ wrCells cs o vs
  | [], cs, o, vs => by simp
  | x :: a, cs, o, [] => by
    have h : ∀ (l : List V) (p : Nat), wrCells l p [] = l := fun l p => by cases l <;> cases p <;> rfl
    rw [h, h]
  | x :: a, cs, o, v :: vs => by
    have := wr_skip' a cs o (v :: vs)
    simp only [List.cons_append, List.length_cons]
    rw [show a.length + 1 + o = (a.length + o) + 1 from by omega]
    simp only [wrCells]
    rw [this]
theorem wr_over : ∀ (x y cs : List V), x.length = y.length → wrCells (x ++ cs) 0 y = y ++ cs
  | [], [], cs, _ => by cases cs <;> rfl
  | [], _ :: _, _, h => by simp at h
  | _ :: _, [], _, h => by simp at h
  | a :: x, b :: y, cs, h => by
    simp only [List.cons_append, wrCells]
    rw [wr_over x y cs (by simpa using h)]
theorem wr_at (a x y cs : List V) (h : x.length = y.length) : wrCells (a ++ (x ++ cs)) a.length y = a ++ (y ++ cs) := by
  have := wr_skip' a (x ++ cs) 0 y
  rw [Nat.add_zero] at this
  rw [this, wr_over x y cs h]
theorem rd_mid (a x cs : List V) : rdCells (a ++ (x ++ cs)) a.length x.length = some x := by
  unfold rdCells
  rw [ble_iff, decide_eq_true (by simp), cond_true]
  simp
theorem rd_skip (a cs : List V) (o n : Nat) : rdCells (a ++ cs) (a.length + o) n = rdCells cs o n := by
  unfold rdCells
  rw [ble_iff, ble_iff, List.length_append]
  by_cases h : o + n ≤ cs.length
  · rw [decide_eq_true h, decide_eq_true (by omega), cond_true, cond_true, List.drop_append]
    have : a.length + o - a.length = o := by omega
    rw [this, List.drop_eq_nil_of_le (by omega), List.nil_append]
  · rw [decide_eq_false h, decide_eq_false (by omega)]
    rfl

/-- Elements of so many cells. -/
def Rows (es : Nat) (xs : List (List V)) : Prop := ∀ x ∈ xs, x.length = es ∧ allOne x = true
theorem Rows.nil (es : Nat) : Rows es [] := fun _ h => by cases h
theorem Rows.app {es : Nat} {xs ys : List (List V)} (h : Rows es xs) (h' : Rows es ys) : Rows es (xs ++ ys) := fun x hx => (List.mem_append.1 hx).elim (h x) (h' x)
theorem Rows.left {es : Nat} {xs ys : List (List V)} (h : Rows es (xs ++ ys)) : Rows es xs := fun x hx => h x (List.mem_append_left _ hx)
theorem Rows.right {es : Nat} {xs ys : List (List V)} (h : Rows es (xs ++ ys)) : Rows es ys := fun x hx => h x (List.mem_append_right _ hx)
theorem Rows.one {es : Nat} {x : List V} (h : x.length = es) (h1 : allOne x = true) : Rows es [x] := fun y hy => by simp at hy; subst hy; exact ⟨h, h1⟩
theorem Rows.perm {es : Nat} {xs ys : List (List V)} (h : Rows es xs) (hs : ∀ y ∈ ys, y ∈ xs) : Rows es ys := fun y hy => h y (hs y hy)
theorem Rows.len {es : Nat} : ∀ {xs : List (List V)}, Rows es xs → xs.flatten.length = xs.length * es
  | [], _ => by simp
  | x :: xs, h => by
    have h1 := (h x (List.mem_cons_self ..)).1
    have h2 := Rows.len (xs := xs) fun y hy => h y (List.mem_cons_of_mem _ hy)
    rw [List.flatten_cons, List.length_append, h1, h2, List.length_cons, Nat.add_mul]; omega
theorem allOne_app : ∀ {x y : List V}, allOne (x ++ y) = (allOne x && allOne y)
  | [], y => by simp [allOne]
  | a :: x, y => by
    simp only [List.cons_append, allOne, allOne_app (x := x)]
    cases a.one <;> simp
theorem Rows.all {es : Nat} : ∀ {xs : List (List V)}, Rows es xs → allOne xs.flatten = true
  | [], _ => rfl
  | x :: xs, h => by
    rw [List.flatten_cons, allOne_app, (h x (List.mem_cons_self ..)).2, Rows.all (xs := xs) fun y hy => h y (List.mem_cons_of_mem _ hy)]
    rfl
/-- What stands in the midst of a row. -/
theorem rows_rd {es : Nat} {pre post : List V} {A W D : List (List V)} (hA : Rows es A) (hW : Rows es W) : rdCells (pre ++ ((A ++ (W ++ D)).flatten ++ post)) (pre.length + A.length * es) (W.length * es) = some W.flatten := by
  rw [rd_skip, List.flatten_append, List.flatten_append, List.append_assoc, List.append_assoc, ← hA.len, ← hW.len]
  exact rd_mid _ _ _
theorem rows_wr {es : Nat} {pre post : List V} {A W W' D : List (List V)} (hA : Rows es A) (hW : Rows es W) (hW' : Rows es W') (hl : W'.length = W.length) : wrCells (pre ++ ((A ++ (W ++ D)).flatten ++ post)) (pre.length + A.length * es) W'.flatten = pre ++ ((A ++ (W' ++ D)).flatten ++ post) := by
  rw [wr_skip', List.flatten_append, List.flatten_append, List.append_assoc, List.append_assoc, ← hA.len, wr_at _ _ _ _ (by rw [hW.len, hW'.len, hl])]
  simp
theorem rows_rd1 {es : Nat} {pre post x : List V} {A D : List (List V)} (hA : Rows es A) (hx : x.length = es) : rdCells (pre ++ ((A ++ (x :: D)).flatten ++ post)) (pre.length + A.length * es) es = some x := by
  rw [rd_skip, List.flatten_append, List.flatten_cons, List.append_assoc, List.append_assoc, ← hA.len, ← hx]
  exact rd_mid _ _ _
theorem rows_wr1 {es : Nat} {pre post x y : List V} {A D : List (List V)} (hA : Rows es A) (hx : x.length = es) (hy : y.length = es) : wrCells (pre ++ ((A ++ (x :: D)).flatten ++ post)) (pre.length + A.length * es) y = pre ++ ((A ++ (y :: D)).flatten ++ post) := by
  rw [wr_skip', List.flatten_append, List.flatten_cons, List.append_assoc, List.append_assoc, ← hA.len, wr_at _ _ _ _ (by omega)]
  simp
theorem write_rows {M : Mem} {b o : Nat} {cs vs : List V} (h : M.get b = some (.cells cs false)) (hl : o + vs.length ≤ cs.length) (h1 : allOne vs = true) : M.write b o vs = some (M.set b (.cells (wrCells cs o vs) false)) := by
  simp only [Mem.write, h, ble_iff, decide_eq_true hl, cond_true, h1]
end Go.Am

