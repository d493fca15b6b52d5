/- A statement that draws its order: whatever order is drawn, the same comes of it. -/
import Derived.Test.YtpkflnohagieiaaAmSnd17
set_option linter.unusedSimpArgs false
set_option linter.unusedVariables false
namespace Go.Am
open Go Go.RowKit

section
variable {P : Program} {gl : Nat → Bool} {ops : Array Oper} {aops : List AOper} {L : List Nat} {call : CallF} {n : Nat} {val : Nat → V} {fr0 : Fr}
variable {E0 E : Emb} {M0 M : Mem} {w0 w : World} {frE : Fr} {ME : Mem} {ds : List Deferred} {S : Nat → Bool} {a : Act}

/-- A pending look or block, behind a write. -/
theorem pend_again {bits : List Nat} {i k : Nat} {pre : List Nat} (hLk : ∃ l1 l2, pre = l1 ++ k :: l2 ∧ befo L k = l1) (hbt : betweenOk aops bits i [] pre.reverse = true) (hnk : needs bits i k = false) (hkW : (clsA aops k).isW = false)
    {M1 : Mem} {E' : Emb} {nx : Nat} (hag : ((againIs aops bits i pre.reverse).map (opA aops)).all (againOk n (putAll aops n val pre fr0) M M1) = true) (hp : Pend aops L n val fr0 nx E M k)
    (hE' : ∀ b, b < M.next → E b = none → E' b = none) (hnx : M.next ≤ M1.next) : Pend aops L n val fr0 nx E' M1 k := by
  obtain ⟨l1, l2, hpre, hbef⟩ := hLk
  rcases hp with h | ⟨hw, hp⟩
  · exact .inl h
  · refine .inr ⟨hw, ?_⟩
    by_cases hP : (clsA aops k).isP = true
    · rcases hp with ⟨hs, hv⟩ | ⟨hA, _⟩
      · exact .inl ⟨hs, aop_pure hP _ hv⟩
      · cases hq : clsA aops k <;> rw [hq] at hP hA <;> first | (cases hP; done) | cases hA
    · have hP : (clsA aops k).isP = false := by simpa using hP
      have hrev : pre.reverse = l2.reverse ++ k :: l1.reverse := by rw [hpre]; simp
      obtain ⟨hlv, hself⟩ := between_spec hbt hrev ⟨hP, hkW⟩ hnk
      have hmem : k ∈ againIs aops bits i pre.reverse := again_mem (by rw [hrev]; simp) hP hkW hnk
      have hok := List.all_eq_true.1 hag (opA aops k) (List.mem_map.2 ⟨k, hmem, rfl⟩)
      -- the slots that it looks at, and its own, are as they were
      have hlooks : ∀ t ∈ (opA aops k).looks, (putAll aops n val pre fr0).rd t = (putAll aops n val (befo L k) fr0).rd t := by
        intro t ht
        rw [hpre, hbef, putAll_append]
        show (putAll aops n val l2 ((putAll aops n val l1 fr0).put n _ _)).rd t = _
        rw [putAll_none, rd_put, if_neg]
        · rintro ⟨h1, _⟩
          rw [dstIn_iff.2 ⟨t, ht, h1⟩] at hself
          cases hself
        · intro j hj
          exact (leaves_spec (hlv j (by simpa using hj))).1 t ht
      have hdst : ∀ d, (opA aops k).dst = some d → d < n → (putAll aops n val pre fr0).rd d = val k := by
        intro d hd hlt
        rw [hpre, putAll_append]
        show (putAll aops n val l2 ((putAll aops n val l1 fr0).put n _ _)).rd d = _
        rw [putAll_none, rd_put, if_pos ⟨hd, hlt⟩]
        intro j hj
        exact (leaves_spec (hlv j (by simpa using hj))).2 d hd
      obtain ⟨hsa, hsw⟩ := looks_spec hlooks
      unfold againOk at hok
      rw [hsw, hw, cond_true] at hok
      rcases hp with ⟨hs, hv⟩ | ⟨hA, s, cs, id, h1, h2, h3, h4, h5, h6⟩
      · left
        refine ⟨hs, ?_⟩
        have hval : ∃ d v M2, (opA aops k).dst = some d ∧ aop (opA aops k).op (putAll aops n val pre fr0).ev M1 = some (.val v M2) ∧ d < n ∧ (putAll aops n val pre fr0).rd d = v := by
          have hs' : (clsOf (opA aops k).op).still = true := hs
          have hP' : (clsOf (opA aops k).op).isP = false := hP
          revert hok
          cases ho : (opA aops k).op <;> rw [ho] at hs' hP' <;> simp only [clsOf, Cls.still, Cls.isP] at hs' hP' <;> (first | (cases hs'; done) | (cases hP'; done) | skip) <;> intro hok <;>
            (cases hd : (opA aops k).dst with
             | none => rw [hd] at hok; cases hok
             | some d =>
               rw [hd] at hok
               simp only at hok
               generalize hav : aop _ (putAll aops n val pre fr0).ev M1 = res at hok
               cases res with
               | none => cases hok
               | some r =>
                 cases r with
                 | call f args => cases hok
                 | val v M2 =>
                   obtain ⟨hlt, hb⟩ := cond_true_iff.1 hok
                   rw [ble_iff] at hlt
                   exact ⟨d, v, M2, rfl, rfl, by have := of_decide_eq_true hlt; omega, V.beq_eq hb⟩)
        obtain ⟨d, v, M2, hd, hav, hlt, hb⟩ := hval
        rw [hdst d hd hlt] at hb
        subst hb
        have hm := aop_still hs hav
        subst hm
        rw [hsa] at hav
        exact hav
      · right
        refine ⟨hA, s, cs, id, h1, h2, by omega, ?_, hE' id h3 h5, h6⟩
        have hA' : (clsOf (opA aops k).op).isA = true := hA
        have hkey : ∀ (d : Nat), (opA aops k).dst = some d → d < n → (putAll aops n val pre fr0).rd d = mkV s id := fun d hd hl => by rw [hdst d hd hl, h1]
        have hget : sameCells (M.get id) (M1.get id) = true := by
          have h60 := h6 M
          revert hok
          cases ho : (opA aops k).op <;> rw [ho] at hA' h60 <;> simp only [clsOf, Cls.isA] at hA' <;> (first | (cases hA'; done) | skip) <;> intro hok
          · dsimp only at hok
            cases hd : (opA aops k).dst with
            | none => rw [hd] at hok; cases hok
            | some d =>
              rw [hd] at hok
              dsimp only at hok
              obtain ⟨hlt, hok⟩ := cond_true_iff.1 hok
              rw [ble_iff] at hlt
              rw [hkey d hd (by have := of_decide_eq_true hlt; omega)] at hok
              cases s with
              | none => exact hok
              | some m => cases hok
          · dsimp only at hok
            cases hd : (opA aops k).dst with
            | none => rw [hd] at hok; cases hok
            | some d =>
              rw [hd] at hok
              dsimp only at hok
              obtain ⟨hlt, hok⟩ := cond_true_iff.1 hok
              rw [ble_iff] at hlt
              rw [hkey d hd (by have := of_decide_eq_true hlt; omega)] at hok
              cases s with
              | none => exact hok
              | some m => cases hok
          · dsimp only at hok
            cases hd : (opA aops k).dst with
            | none => rw [hd] at hok; cases hok
            | some d =>
              rw [hd] at hok
              dsimp only at hok
              obtain ⟨hlt, hok⟩ := cond_true_iff.1 hok
              rw [ble_iff] at hlt
              rw [hkey d hd (by have := of_decide_eq_true hlt; omega)] at hok
              cases s with
              | none => cases hok
              | some m => exact hok
        obtain ⟨cs', e1, e2⟩ := sameCells_eq hget
        rw [h4] at e1
        cases e1
        exact e2

theorem run_ready (hcall : CallOK P gl call) (hG0 : GOK gl E0) (hcops : cOpers P gl ops ops.toList = some aops) (hO : orderOk aops (bitsOf ops.toList []) ops.size [] L = true) {pre rest : List Nat}
    (h : Inv ops aops L call n val fr0 (bitsOf ops.toList []) E0 M0 w0 frE ME ds S pre rest E M a w) (hhead : ∀ e t, rest = e :: t → (clsA aops e).isW = true) {i : Nat} (hi : i < ops.size) (hSi : S i = false) (hpre : ∀ j ∈ preds ops i, S j = true)
    {K : Act → World → Prop} {Q : Exit → Act → World → Prop}
    (hK : ∀ S' pre' rest' E' M' a' w', (∀ j, S' j = (Nat.beq j i || S j)) → Inv ops aops L call n val fr0 (bitsOf ops.toList []) E0 M0 w0 frE ME ds S' pre' rest' E' M' a' w' → (∀ e t, rest' = e :: t → (clsA aops e).isW = true) → K a' w') : wpOp P ops Q i K a w := by
  have hneed : ∀ j, needs (bitsOf ops.toList []) i j = true → S j = true := needs_closed (S := fun j => S j = true) h.closed i hpre
  have hdesc : ∀ j, S j = true → needs (bitsOf ops.toList []) j i = false := by
    intro j hj
    cases hn : needs (bitsOf ops.toList []) j i with
    | false => rfl
    | true =>
      have := needs_closed (S := fun j => S j = true) h.closed j (h.closed j hj) i hn
      rw [hSi] at this; cases this
  have ho : ops[i]? = some ops[i] := Array.getElem?_eq_getElem hi
  generalize ops[i] = o at ho
  have hco : cOper P gl ops o = some (opA aops i) := by
    obtain ⟨_, hg⟩ := cOpers_get hcops
    obtain ⟨ao, h1, h2⟩ := hg i o (by simpa using ho)
    have : opA aops i = ao := by unfold opA; rw [List.getD_eq_getElem?_getD, h1]; rfl
    rw [this]; exact h2
  obtain ⟨hd, hop⟩ := cOper_dst hco
  have hiL : i ∈ L := (order_all hO i hi).resolve_right (by simp)
  obtain ⟨l1, l2, hL⟩ := List.append_of_mem hiL
  have hni : i ∉ l1 := by rw [hL] at hO; have := (order_split hO).2.1; simpa using this
  have hbef : befo L i = l1 := by rw [hL]; exact befo_eq hni
  have hagree : ∀ t ∈ (opA aops i).looks, (putAll aops n val (L.filter S) fr0).rd t = (putAll aops n val (befo L i) fr0).rd t := fun t ht => by
    rw [hbef]; exact looks_agree hO hL hSi hneed hdesc fr0 ht
  obtain ⟨hsa, hsw⟩ := looks_spec hagree
  let S' : Nat → Bool := fun j => Nat.beq j i || S j
  have hS' : ∀ j, S' j = (Nat.beq j i || S j) := fun _ => rfl
  have hS'i : S' i = true := by simp [S']
  have hS'of : ∀ j, S j = true → S' j = true := fun j hj => by simp [S', hj]
  have hS'not : ∀ j, S' j = false → S j = false ∧ j ≠ i := by
    intro j hj
    simp only [S', Bool.or_eq_false_iff] at hj
    exact ⟨hj.2, by rintro rfl; simp at hj⟩
  have hclosed' : ∀ j, S' j = true → ∀ k ∈ preds ops j, S' k = true := by
    intro j hj k hk
    simp only [S', Bool.or_eq_true] at hj
    rcases hj with hj | hj
    · have := Nat.eq_of_beq_eq_true hj
      subst this
      exact hS'of k (hpre k hk)
    · exact hS'of k (h.closed j hj k hk)
  have newF : ∀ {E' : Emb} {v' : Value}, Emb.le E E' → VR E' (val i) v' → FrR E' n (putAll aops n val (L.filter S') fr0) (a.put o.dst v') := by
    intro E' v' hle hv
    have h1 := (h.hF.mono hle).put hv (opA aops i).dst
    rw [hd] at h1
    refine ⟨h1.size, fun t => ?_⟩
    rw [put_more hO hiL hSi hS' hdesc fr0 t, hd]
    exact h1.rd t
  have hG : GOK gl E := hG0.mono h.hX.le
  unfold wpOp
  simp only [ho]
  rw [wanted_rel h.hF hco, hsw]
  by_cases hipre : i ∈ pre
  · -- the machine has run it already
    have hnW : (clsA aops i).isW = false := by
      cases hw : (clsA aops i).isW with
      | false => rfl
      | true => rw [h.writers i hipre hw] at hSi; cases hSi
    have hwr' : ∀ j ∈ pre, (clsA aops j).isW = true → S' j = true := fun j hj hw => hS'of j (h.writers j hj hw)
    have hrest' : ∀ j ∈ rest, S' j = false := by
      intro j hj
      have h1 := h.rest0 j hj
      have : j ≠ i := by
        rintro rfl
        have hO2 := hO
        rw [h.hL] at hO2
        obtain ⟨p, q, hq⟩ := List.append_of_mem hj
        rw [hq, ← List.append_assoc] at hO2
        have := (order_split hO2).2.1
        exact this (by simp [hipre])
      simp only [S', h1, Bool.or_false]
      cases hb : Nat.beq j i with
      | false => rfl
      | true => exact absurd (Nat.eq_of_beq_eq_true hb) this
    have htwo' : Apart2 aops val S' pre := fun j hj k hk hSj hSk => h.two j hj k hk (hS'not j hSj).1 (hS'not k hSk).1
    rcases h.pend i hipre hSi with ⟨hw, hv⟩ | ⟨hw, hp⟩
    · rw [hw]
      simp only [Bool.false_eq_true, if_false]
      refine hK S' pre rest E M _ w hS' ⟨h.hL, h.good, hrest', hwr', newF (Emb.le_refl E) (by rw [hv]; exact VR.undef E), h.hR, h.hX, ?_, htwo', hclosed', by rw [defers_put]; exact h.defers⟩ hhead
      intro j hj hSj
      exact h.pend j hj (hS'not j hSj).1
    · rw [hw]
      simp only [if_true]
      left
      rcases hp with ⟨hs, hv⟩ | ⟨hA, s, cs, id, h1, h2, h3, h4, h5, h6⟩
      · have hv2 : aop ((cOp P gl o).getD .fail) (putAll aops n val (L.filter S) fr0).ev M = some (.val (val i) M) := by rw [← hop, hsa]; exact hv
        have hcop := cOp_of hv2
        obtain ⟨_, v', hv', hr⟩ := pr_sound h.hR (h.hF.rok hG) hcop (by rw [← hop]; exact hs) hv2
        unfold Oper.wp
        rw [hr]
        refine hK S' pre rest E M _ w hS' ⟨h.hL, h.good, hrest', hwr', newF (Emb.le_refl E) hv', h.hR, h.hX, ?_, htwo', hclosed', by rw [defers_put]; exact h.defers⟩ hhead
        intro j hj hSj
        exact h.pend j hj (hS'not j hSj).1
      · have hv2 : aop ((cOp P gl o).getD .fail) (putAll aops n val (L.filter S) fr0).ev M = some (.val (mkV s M.next) (M.push (.cells cs false))) := by rw [← hop, hsa]; exact h6 M
        have hcop := cOp_of hv2
        obtain ⟨s2, cs2, arr, elem, e1, e2, hcs, hr⟩ := a_sound (P := P) (h.hF.rok hG) hcop (by rw [← hop]; exact hA) hv2
        obtain ⟨rfl, _⟩ := mkV_inj e1
        have ecs : cs = cs2 := by
          have h7 := Mem.get_push_same M (.cells cs false)
          rw [e2, Mem.get_push_same] at h7
          cases h7
          rfl
        subst ecs
        unfold Oper.wp
        rw [hr w]
        have hR2 := h.hR.reveal (elem := elem) h4 h5 hcs
        have hX2 := h.hX.reveal h5 h2 (.cells arr elem) arr.size
        refine hK S' pre rest _ M _ _ hS' ⟨h.hL, h.good, hrest', hwr', newF (Emb.more_le h5) ?_, hR2, hX2, ?_, htwo', hclosed', by rw [defers_put]; exact h.defers⟩ hhead
        · rw [h1]
          exact mk_rel (Emb.more_same _ _ _)
        · intro j hj hSj
          obtain ⟨hSj1, hne⟩ := hS'not j hSj
          rcases h.pend j hj hSj1 with q | ⟨qw, q⟩
          · exact .inl q
          · refine .inr ⟨qw, ?_⟩
            rcases q with q | ⟨qA, s3, cs3, id3, q1, q2, q3, q4, q5, q6⟩
            · exact .inl q
            · refine .inr ⟨qA, s3, cs3, id3, q1, q2, q3, q4, ?_, q6⟩
              rw [Emb.more_ne _ _ (fun e => by subst e; exact h.two i hipre j hj hSi hSj1 (fun e => hne e.symm) hA qA s s3 id3 h1 q1)]
              exact q5
  · -- the next one that writes
    have hirest : i ∈ rest := by
      rw [h.hL, List.mem_append] at hiL
      exact hiL.resolve_left hipre
    cases hrest : rest with
    | nil => rw [hrest] at hirest; cases hirest
    | cons e t =>
      have heW := hhead e t hrest
      have hie : i = e := by
        rw [hrest] at hirest
        cases hirest with
        | head => rfl
        | tail _ hit =>
          have hO2 := hO
          rw [h.hL, hrest] at hO2
          rcases (order_split hO2).2.2.2.1 i hit with hn | ⟨_, hn⟩
          · have := hneed e hn
            rw [h.rest0 e (by rw [hrest]; exact List.mem_cons_self ..)] at this
            cases this
          · rw [heW] at hn; cases hn
      subst hie
      subst hrest
      have hLe := h.hL
      have hbef2 : befo L i = pre := by
        rw [hLe]
        refine befo_eq ?_
        exact hipre
      obtain ⟨M1, hstep, hgood⟩ := h.good
      have hag : agOf aops (bitsOf ops.toList []) pre.reverse i = (againIs aops (bitsOf ops.toList []) i pre.reverse).map (opA aops) := by unfold agOf; rw [heW]; rfl
      rw [hag] at hstep
      have hO2 := hO
      rw [hLe] at hO2
      have hbt : betweenOk aops (bitsOf ops.toList []) i [] pre.reverse = true := by
        have := (order_split hO2).2.2.2.2 heW
        simpa using this
      have hgood' : Good aops (bitsOf ops.toList []) call n val (pre ++ [i]).reverse t (putAll aops n val (pre ++ [i]) fr0) M1 frE ME := by
        rw [putAll_append, List.reverse_append]
        exact hgood
      have hL2 : L = (pre ++ [i]) ++ t := by rw [hLe]; simp
      have hrest' : ∀ j ∈ t, S' j = false := by
        intro j hj
        have h1 := h.rest0 j (List.mem_cons_of_mem _ hj)
        simp only [S', h1, Bool.or_false]
        cases hb : Nat.beq j i with
        | false => rfl
        | true =>
          have := Nat.eq_of_beq_eq_true hb
          subst this
          obtain ⟨p, q, rfl⟩ := List.append_of_mem hj
          have hO3 : orderOk aops (bitsOf ops.toList []) ops.size [] ((pre ++ j :: p) ++ j :: q) = true := by simpa using hO2
          have := (order_split hO3).2.1
          exact absurd (by simp) this
      have hwr' : ∀ j ∈ pre ++ [i], (clsA aops j).isW = true → S' j = true := by
        intro j hj hw
        rw [List.mem_append, List.mem_singleton] at hj
        rcases hj with hj | rfl
        · exact hS'of j (h.writers j hj hw)
        · exact hS'i
      have htwo' : Apart2 aops val S' (pre ++ [i]) := by
        intro j hj k hk hSj hSk
        obtain ⟨hj1, hj2⟩ := hS'not j hSj
        obtain ⟨hk1, hk2⟩ := hS'not k hSk
        rw [List.mem_append, List.mem_singleton] at hj hk
        exact h.two j (hj.resolve_right hj2) k (hk.resolve_right hk2) hj1 hk1
      rw [hbef2] at hsa hsw ⊢
      have fin : ∀ {E' : Emb} {v' : Value} {w' : World}, VR E' (val i) v' → Rel E' M1 w' → Ext E M w E' M1 w' → (∀ k ∈ pre, S k = false → Pend aops L n val fr0 M0.next E' M1 k) → K (a.put o.dst v') w' := by
        intro E' v' w' hv' h1 h2 hpk
        obtain ⟨pre', rest', M', hinv, hh⟩ := advance hO (ds := ds) (rest := t) (pre := pre ++ [i]) (M := M1) (S := S') (E := E') (a := a.put o.dst v') (w := w')
          ⟨hL2, hgood', hrest', hwr', newF h2.le hv', h1, h.hX.trans h2, by
            intro k hk hSk
            obtain ⟨hk1, hk2⟩ := hS'not k hSk
            rw [List.mem_append, List.mem_singleton] at hk
            exact hpk k (hk.resolve_right hk2) hk1, htwo', hclosed', by rw [defers_put]; exact h.defers⟩
        exact hK S' pre' rest' E' M' _ w' hS' hinv hh
      rcases hstep with ⟨hw, hv, rfl⟩ | ⟨hw, hv, hall⟩
      · rw [hw]
        simp only [Bool.false_eq_true, if_false]
        exact fin (by rw [hv]; exact VR.undef E) h.hR (Ext.refl E M1 w) h.pend
      · rw [hw]
        simp only [if_true]
        left
        have hv2 : aop ((cOp P gl o).getD .fail) (putAll aops n val (L.filter S) fr0).ev M = some (.val (val i) M1) ∨ ∃ f args, aop ((cOp P gl o).getD .fail) (putAll aops n val (L.filter S) fr0).ev M = some (.call f args) ∧ call f args M = some (val i, M1) := by
          rw [← hop, hsa]; exact hv
        have hcop : cOp P gl o = some ((cOp P gl o).getD .fail) := by rcases hv2 with q | ⟨_, _, q, _⟩ <;> exact cOp_of q
        refine op_run hcall h.hR hG h.hF hcop hv2 fun E' v' w' hv' h1 h2 => fin hv' h1 h2 ?_
        intro k hk hSk
        have hkW : (clsA aops k).isW = false := by
          cases hq : (clsA aops k).isW with
          | false => rfl
          | true => rw [h.writers k hk hq] at hSk; cases hSk
        have hnk : needs (bitsOf ops.toList []) i k = false := by
          cases hq : needs (bitsOf ops.toList []) i k with
          | false => rfl
          | true => rw [hneed k hq] at hSk; cases hSk
        obtain ⟨p, q, hpq⟩ := List.append_of_mem hk
        have hbk : befo L k = p := by
          rw [hLe, hpq, List.append_assoc]
          refine befo_eq ?_
          rw [hpq] at hO2
          have hO3 : orderOk aops (bitsOf ops.toList []) ops.size [] (p ++ k :: (q ++ i :: t)) = true := by simpa using hO2
          have := (order_split hO3).2.1
          simpa using this
        refine pend_again ⟨p, q, hpq, hbk⟩ hbt hnk hkW hall (h.pend k hk hSk) ?_ h2.next
        intro b hb hE
        cases hE' : E' b with
        | none => rfl
        | some x =>
          obtain ⟨c, d, kk⟩ := x
          have := (h2.new b c d kk hE hE').1
          omega
end
end Go.Am
