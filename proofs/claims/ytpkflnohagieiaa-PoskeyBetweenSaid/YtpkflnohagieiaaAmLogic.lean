/- How the machine's runs are reasoned about: fuel, and what holds behind a run. -/
import Derived.Test.YtpkflnohagieiaaAmOps
set_option linter.unusedSimpArgs false
set_option linter.unusedVariables false
namespace Go.Am
open Go

/-! ### more fuel does no harm -/
def CallLe (c c' : CallF) : Prop := ∀ f args M r, c f args M = some r → c' f args M = some r
theorem CallLe.refl (c : CallF) : CallLe c c := fun _ _ _ _ h => h

section
variable {c c' : CallF} {n : Nat}
theorem execItem_mono (hc : CallLe c c') {i : Item} {fr : Fr} {M : Mem} {r : Fr × Mem} (h : execItem c n i fr M = some r) : execItem c' n i fr M = some r := by
  unfold execItem at h ⊢
  cases hw : wantedA fr i.op.guard with
  | false => rw [hw] at h; exact h
  | true =>
    rw [hw] at h
    simp only [cond_true] at h ⊢
    cases ha : aop i.op.op fr.ev M with
    | none => rw [ha] at h; cases h
    | some res =>
      rw [ha] at h
      cases res with
      | val v M' => exact h
      | call f args =>
        simp only at h ⊢
        cases hq : c f args M with
        | none => rw [hq] at h; cases h
        | some q =>
          rw [hq] at h
          rw [hc f args M q hq]
          exact h
theorem execItems_mono (hc : CallLe c c') : ∀ {l : List Item} {fr : Fr} {M : Mem} {r : Fr × Mem}, execItems c n l fr M = some r → execItems c' n l fr M = some r
  | [], _, _, _, h => h
  | i :: l, fr, M, r, h => by
    simp only [execItems] at h ⊢
    cases hi : execItem c n i fr M with
    | none => rw [hi] at h; cases h
    | some q =>
      rw [hi] at h
      rw [execItem_mono hc hi]
      exact execItems_mono hc h
theorem loopN_mono {s s' : Fr → Mem → Option (AExit × Fr × Mem)} (hs : ∀ fr M r, s fr M = some r → s' fr M = some r) : ∀ {k k' : Nat} {fr : Fr} {M : Mem} {r : AExit × Fr × Mem}, k ≤ k' → loopN s k fr M = some r → loopN s' k' fr M = some r
  | 0, _, _, _, _, _, h => by cases h
  | k + 1, 0, _, _, _, hk, _ => by omega
  | k + 1, k' + 1, fr, M, r, hk, h => by
    simp only [loopN] at h ⊢
    cases hq : s fr M with
    | none => rw [hq] at h; cases h
    | some q =>
      obtain ⟨e, fr1, M1⟩ := q
      rw [hq] at h
      rw [hs fr M _ hq]
      cases e with
      | normal => exact loopN_mono hs (by omega) h
      | exit id => exact h
      | ret => exact h
theorem exec_mono (hc : CallLe c c') {k k' : Nat} (hk : k ≤ k') : ∀ (x : ACode) {fr : Fr} {M : Mem} {r : AExit × Fr × Mem}, exec c n k x fr M = some r → exec c' n k' x fr M = some r := by
  intro x
  induction x with
  | skip => intro fr M r h; exact h
  | ops l =>
    intro fr M r h
    simp only [exec, Option.map_eq_some_iff] at h ⊢
    obtain ⟨q, hq, rfl⟩ := h
    exact ⟨q, execItems_mono hc hq, rfl⟩
  | seq a b iha ihb =>
    intro fr M r h
    simp only [exec] at h ⊢
    cases hq : exec c n k a fr M with
    | none => rw [hq] at h; cases h
    | some q =>
      obtain ⟨e, fr1, M1⟩ := q
      rw [hq] at h
      rw [iha hq]
      cases e with
      | normal => exact ihb h
      | exit id => exact h
      | ret => exact h
  | cond d a b iha ihb =>
    intro fr M r h
    simp only [exec] at h ⊢
    cases hd : fr.ev d <;> rw [hd] at h <;> simp only [reduceCtorEq] at h
    rename_i t
    cases t
    · exact ihb h
    · exact iha h
  | block id b ih =>
    intro fr M r h
    simp only [exec] at h ⊢
    cases hq : exec c n k b fr M with
    | none => rw [hq] at h; cases h
    | some q =>
      rw [hq] at h
      rw [ih hq]
      exact h
  | loop b ih =>
    intro fr M r h
    simp only [exec] at h ⊢
    exact loopN_mono (fun fr M r h => ih h) hk h
  | scope b ih => intro fr M r h; exact ih h
  | exit id => intro fr M r h; exact h
  | ret => intro fr M r h; exact h
  | fail => intro fr M r h; cases h
end

theorem callN_mono {D : Decls} : ∀ {k k' : Nat}, k ≤ k' → CallLe (callN D k) (callN D k')
  | 0, _, _ => fun _ _ _ _ h => by cases h
  | k + 1, 0, hk => by omega
  | k + 1, k' + 1, hk => fun f args M r h => by
    simp only [callN] at h ⊢
    cases hp : D.prim f with
    | some g => rw [hp] at h; exact h
    | none =>
      rw [hp] at h
      simp only at h ⊢
      cases hg : D.code.get f with
      | none => rw [hg] at h; cases h
      | some F =>
        rw [hg] at h
        simp only at h ⊢
        cases hb : Nat.ble args.length F.ntmps with
        | false => rw [hb] at h; cases h
        | true =>
          rw [hb] at h
          simp only [cond_true] at h ⊢
          cases hq : exec (callN D k) F.ntmps k F.body (frameOf 0 args .nil) M with
          | none => rw [hq] at h; cases h
          | some q =>
            rw [hq] at h
            rw [exec_mono (callN_mono (by omega)) (by omega) _ hq]
            exact h

/-! ### what holds behind a run -/
/-- A call of a function answers, and what then holds. -/
def Runs (D : Decls) (f : FuncId) (args : List V) (M : Mem) (R : V → Mem → Prop) : Prop := ∃ k v M', callN D k f args M = some (v, M') ∧ R v M'
/-- Code ends, and what then holds. -/
def WC (D : Decls) (n : Nat) (c : ACode) (fr : Fr) (M : Mem) (Q : AExit → Fr → Mem → Prop) : Prop := ∃ k e fr' M', exec (callN D k) n k c fr M = some (e, fr', M') ∧ Q e fr' M'

def WItem (D : Decls) (n : Nat) (i : Item) (fr : Fr) (M : Mem) (K : Fr → Mem → Prop) : Prop :=
  cond (wantedA fr i.op.guard)
    (match aop i.op.op fr.ev M with
     | some (.val v M') => i.again.all (againOk n fr M M') = true ∧ K (fr.put n i.op.dst v) M'
     | some (.call f args) => Runs D f args M fun v M' => i.again.all (againOk n fr M M') = true ∧ K (fr.put n i.op.dst v) M'
     | none => False)
    (K (fr.put n i.op.dst .undef) M)
def WI (D : Decls) (n : Nat) : List Item → Fr → Mem → (Fr → Mem → Prop) → Prop
  | [], fr, M, K => K fr M
  | i :: l, fr, M, K => WItem D n i fr M fun fr M => WI D n l fr M K

def nextQ (x : Fr → Mem → Prop) (Q : AExit → Fr → Mem → Prop) : AExit → Fr → Mem → Prop
  | .normal => x
  | e => Q e
def blockQ (id : Nat) (Q : AExit → Fr → Mem → Prop) : AExit → Fr → Mem → Prop
  | .exit j => fun fr M => cond (Nat.beq j id) (Q .normal fr M) (Q (.exit j) fr M)
  | e => Q e

section
variable {D : Decls} {n : Nat} {fr : Fr} {M : Mem} {Q : AExit → Fr → Mem → Prop}
theorem Runs.mono {f : FuncId} {args : List V} {R R' : V → Mem → Prop} (h : Runs D f args M R) (hr : ∀ v M', R v M' → R' v M') : Runs D f args M R' :=
  let ⟨k, v, M', h1, h2⟩ := h; ⟨k, v, M', h1, hr v M' h2⟩
theorem WC.mono {c : ACode} {Q' : AExit → Fr → Mem → Prop} (h : WC D n c fr M Q) (hq : ∀ e fr M, Q e fr M → Q' e fr M) : WC D n c fr M Q' :=
  let ⟨k, e, fr', M', h1, h2⟩ := h; ⟨k, e, fr', M', h1, hq _ _ _ h2⟩

theorem item_goes {i : Item} {K : Fr → Mem → Prop} (h : WItem D n i fr M K) : ∃ k fr' M', execItem (callN D k) n i fr M = some (fr', M') ∧ K fr' M' := by
  unfold WItem at h
  unfold execItem
  cases hw : wantedA fr i.op.guard with
  | false => rw [hw] at h; exact ⟨0, _, _, rfl, h⟩
  | true =>
    rw [hw] at h
    simp only [cond_true] at h ⊢
    cases ha : aop i.op.op fr.ev M with
    | none => rw [ha] at h; exact h.elim
    | some res =>
      rw [ha] at h
      cases res with
      | val v M' =>
        obtain ⟨h1, h2⟩ := h
        refine ⟨0, _, _, ?_, h2⟩
        simp only [h1, cond_true]
      | call f args =>
        obtain ⟨k, v, M', h0, h1, h2⟩ := h
        refine ⟨k, _, _, ?_, h2⟩
        simp only [h0, h1, cond_true]
theorem items_go : ∀ {l : List Item} {fr : Fr} {M : Mem} {K : Fr → Mem → Prop}, WI D n l fr M K → ∃ k fr' M', execItems (callN D k) n l fr M = some (fr', M') ∧ K fr' M'
  | [], fr, M, K, h => ⟨0, fr, M, rfl, h⟩
  | i :: l, fr, M, K, h => by
    obtain ⟨k, fr1, M1, h1, h2⟩ := item_goes h
    obtain ⟨k', fr2, M2, h3, h4⟩ := items_go h2
    refine ⟨max k k', fr2, M2, ?_, h4⟩
    simp only [execItems, execItem_mono (callN_mono (Nat.le_max_left k k')) h1]
    exact execItems_mono (callN_mono (Nat.le_max_right k k')) h3

theorem WC.skip (h : Q .normal fr M) : WC D n .skip fr M Q := ⟨0, _, _, _, rfl, h⟩
theorem WC.exit {id : Nat} (h : Q (.exit id) fr M) : WC D n (.exit id) fr M Q := ⟨0, _, _, _, rfl, h⟩
theorem WC.ret (h : Q .ret fr M) : WC D n .ret fr M Q := ⟨0, _, _, _, rfl, h⟩
theorem WC.ops {l : List Item} (h : WI D n l fr M (Q .normal)) : WC D n (.ops l) fr M Q := by
  obtain ⟨k, fr', M', h1, h2⟩ := items_go h
  exact ⟨k, _, _, _, by simp only [Go.Am.exec, h1]; rfl, h2⟩
theorem WC.seq {a b : ACode} (h : WC D n a fr M (nextQ (fun fr M => WC D n b fr M Q) Q)) : WC D n (.seq a b) fr M Q := by
  obtain ⟨k, e, fr1, M1, h1, h2⟩ := h
  cases e with
  | normal =>
    obtain ⟨k', e, fr2, M2, h3, h4⟩ := h2
    refine ⟨max k k', e, fr2, M2, ?_, h4⟩
    simp only [Go.Am.exec, exec_mono (callN_mono (Nat.le_max_left k k')) (Nat.le_max_left k k') _ h1]
    exact exec_mono (callN_mono (Nat.le_max_right k k')) (Nat.le_max_right k k') _ h3
  | exit id => exact ⟨k, _, _, _, by simp only [Go.Am.exec, h1], h2⟩
  | ret => exact ⟨k, _, _, _, by simp only [Go.Am.exec, h1], h2⟩
theorem WC.cond {c : Opd} {a b : ACode} {t : Bool} (hc : fr.ev c = .bool t) (h : bif t then WC D n a fr M Q else WC D n b fr M Q) : WC D n (.cond c a b) fr M Q := by
  cases t <;> (obtain ⟨k, e, fr1, M1, h1, h2⟩ := h; exact ⟨k, e, fr1, M1, by simp only [Go.Am.exec, hc]; exact h1, h2⟩)
theorem WC.block {id : Nat} {b : ACode} (h : WC D n b fr M (blockQ id Q)) : WC D n (.block id b) fr M Q := by
  obtain ⟨k, e, fr1, M1, h1, h2⟩ := h
  cases e with
  | normal => exact ⟨k, _, _, _, by simp only [Go.Am.exec, h1], h2⟩
  | ret => exact ⟨k, _, _, _, by simp only [Go.Am.exec, h1], h2⟩
  | exit j =>
    simp only [blockQ] at h2
    cases hj : Nat.beq j id with
    | true => rw [hj] at h2; exact ⟨k, _, _, _, by simp only [Go.Am.exec, h1, hj, cond_true], h2⟩
    | false => rw [hj] at h2; exact ⟨k, _, _, _, by simp only [Go.Am.exec, h1, hj, cond_false], h2⟩
theorem WC.scope {b : ACode} (h : WC D n b fr M Q) : WC D n (.scope b) fr M Q := h
theorem WC.loop {b : ACode} (h : WC D n b fr M (nextQ (fun fr M => WC D n (.loop b) fr M Q) Q)) : WC D n (.loop b) fr M Q := by
  obtain ⟨k, e, fr1, M1, h1, h2⟩ := h
  cases e with
  | normal =>
    obtain ⟨k', e, fr2, M2, h3, h4⟩ := h2
    refine ⟨max k k' + 1, e, fr2, M2, ?_, h4⟩
    simp only [Go.Am.exec, loopN] at h3 ⊢
    rw [exec_mono (callN_mono (k' := max k k' + 1) (by omega)) (by omega) _ h1]
    exact loopN_mono (fun fr M r h => exec_mono (callN_mono (by omega)) (by omega) _ h) (by omega) h3
  | exit id => exact ⟨k + 1, _, _, _, by simp only [Go.Am.exec, loopN]; rw [exec_mono (callN_mono (k' := k + 1) (by omega)) (by omega) _ h1], h2⟩
  | ret => exact ⟨k + 1, _, _, _, by simp only [Go.Am.exec, loopN]; rw [exec_mono (callN_mono (k' := k + 1) (by omega)) (by omega) _ h1], h2⟩

/-- What a function's end is worth. -/
def endQ (rs : List ARes) (R : V → Mem → Prop) : AExit → Fr → Mem → Prop
  | .exit _ => fun _ _ => False
  | _ => fun fr M => match resultsOf fr M rs with
    | some vs => R (oneOf vs) M
    | none => False
theorem Runs.of {f : FuncId} {F : AFunc} {args : List V} {R : V → Mem → Prop} (hp : D.prim f = none) (hf : D.code.get f = some F) (hl : Nat.ble args.length F.ntmps = true) (h : WC D F.ntmps F.body (frameOf 0 args .nil) M (endQ F.results R)) : Runs D f args M R := by
  obtain ⟨k, e, fr1, M1, h1, h2⟩ := h
  have he : ∀ e, (e = .normal ∨ e = .ret) → exec (callN D k) F.ntmps k F.body (frameOf 0 args .nil) M = some (e, fr1, M1) → endQ F.results R e fr1 M1 → Runs D f args M R := by
    intro e he h1 h2
    cases hr : resultsOf fr1 M1 F.results with
    | none => rcases he with rfl | rfl <;> simp only [endQ, hr] at h2
    | some vs =>
      have h2 : R (oneOf vs) M1 := by rcases he with rfl | rfl <;> simpa only [endQ, hr] using h2
      refine ⟨k + 1, oneOf vs, M1, ?_, h2⟩
      simp only [callN, hp, hf, hl, cond_true, h1]
      rcases he with rfl | rfl <;> simp only [hr, Option.map_some]
  cases e with
  | normal => exact he _ (.inl rfl) h1 h2
  | ret => exact he _ (.inr rfl) h1 h2
  | exit id => exact h2.elim
theorem Runs.prim {f : FuncId} {g : List V → Mem → Option (V × Mem)} {args : List V} {v : V} {M' : Mem} {R : V → Mem → Prop} (hp : D.prim f = some g) (hg : g args M = some (v, M')) (h : R v M') : Runs D f args M R :=
  ⟨1, v, M', by simp only [callN, hp, hg], h⟩
/-- A closed run, by reckoning. -/
theorem Runs.closed {f : FuncId} {args : List V} {R : V → Mem → Prop} (k : Nat) {v : V} {M' : Mem} (h : callN D k f args M = some (v, M')) (hr : R v M') : Runs D f args M R := ⟨k, v, M', h, hr⟩
end
end Go.Am
