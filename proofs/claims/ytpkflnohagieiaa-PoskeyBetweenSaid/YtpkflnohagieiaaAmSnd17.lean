/- A statement that draws its order: whatever order is drawn, the same comes of it. -/
import Derived.Test.YtpkflnohagieiaaAmSnd16
set_option linter.unusedSimpArgs false
set_option linter.unusedVariables false
namespace Go.Am
open Go Go.RowKit

/-- What one operation comes to, where it stands in the machine's own order. -/
def Step (call : CallF) (n : Nat) (o : AOper) (ag : List AOper) (fr : Fr) (M : Mem) (v : V) (M1 : Mem) : Prop :=
  (wantedA fr o.guard = false ∧ v = .undef ∧ M1 = M) ∨
  (wantedA fr o.guard = true ∧ (aop o.op fr.ev M = some (.val v M1) ∨ ∃ f args, aop o.op fr.ev M = some (.call f args) ∧ call f args M = some (v, M1)) ∧ ag.all (againOk n fr M M1) = true)

theorem step_of {call : CallF} {n : Nat} {o : AOper} {ag : List AOper} {fr fr' : Fr} {M M' : Mem} (h : execItem call n ⟨o, ag⟩ fr M = some (fr', M')) : ∃ v, Step call n o ag fr M v M' ∧ fr' = fr.put n o.dst v := by
  unfold execItem at h
  cases hw : wantedA fr o.guard with
  | false =>
    simp only [hw, cond_false, Option.some.injEq, Prod.mk.injEq] at h
    obtain ⟨rfl, rfl⟩ := h
    exact ⟨.undef, .inl ⟨hw, rfl, rfl⟩, rfl⟩
  | true =>
    simp only [hw, cond_true] at h
    split at h
    · rename_i v M1 hv
      obtain ⟨ha, h⟩ := cond_some h
      simp only [Option.some.injEq, Prod.mk.injEq] at h
      obtain ⟨rfl, rfl⟩ := h
      exact ⟨v, .inr ⟨hw, .inl hv, ha⟩, rfl⟩
    · rename_i f args hv
      split at h
      · rename_i v M1 hc
        obtain ⟨ha, h⟩ := cond_some h
        simp only [Option.some.injEq, Prod.mk.injEq] at h
        obtain ⟨rfl, rfl⟩ := h
        exact ⟨v, .inr ⟨hw, .inr ⟨f, args, hv, hc⟩, ha⟩, rfl⟩
      · cases h
    · cases h

section
variable (aops : List AOper) (bits : List Nat) (call : CallF) (n : Nat) (val : Nat → V)
def agOf (ahead : List Nat) (i : Nat) : List AOper := cond (clsA aops i).isW ((againIs aops bits i ahead).map (opA aops)) []
/-- The machine's own run of what is left. -/
def Good : List Nat → List Nat → Fr → Mem → Fr → Mem → Prop
  | _, [], fr, M, fr', M' => fr' = fr ∧ M' = M
  | ahead, i :: rest, fr, M, fr', M' => ∃ M1, Step call n (opA aops i) (agOf aops bits ahead i) fr M (val i) M1 ∧ Good (i :: ahead) rest (fr.put n (opA aops i).dst (val i)) M1 fr' M'
end

section
variable {aops : List AOper} {bits : List Nat} {call : CallF} {n : Nat}
theorem Good.congr {val val' : Nat → V} : ∀ {rest ahead : List Nat} {fr fr' : Fr} {M M' : Mem}, (∀ j ∈ rest, val j = val' j) → Good aops bits call n val ahead rest fr M fr' M' → Good aops bits call n val' ahead rest fr M fr' M'
  | [], _, _, _, _, _, _, h => h
  | i :: rest, ahead, fr, fr', M, M', hv, h => by
    obtain ⟨M1, h1, h2⟩ := h
    refine ⟨M1, ?_, ?_⟩
    · rw [← hv i (List.mem_cons_self ..)]; exact h1
    · rw [← hv i (List.mem_cons_self ..)]; exact Good.congr (fun j hj => hv j (List.mem_cons_of_mem _ hj)) h2

theorem good_of {N : Nat} : ∀ {rest ahead : List Nat} {fr fr' : Fr} {M M' : Mem}, orderOk aops bits N ahead rest = true → execItems call n (itemsOf aops bits ahead rest) fr M = some (fr', M') → ∃ val, Good aops bits call n val ahead rest fr M fr' M'
  | [], ahead, fr, fr', M, M', _, h => by
    simp only [itemsOf, execItems, Option.some.injEq, Prod.mk.injEq] at h
    exact ⟨fun _ => .undef, h.1.symm, h.2.symm⟩
  | i :: rest, ahead, fr, fr', M, M', hO, h => by
    simp only [itemsOf, execItems] at h
    split at h
    · rename_i fr1 M1 h1
      obtain ⟨v, hs, rfl⟩ := step_of h1
      have hO2 : orderOk aops bits N (i :: ahead) rest = true := by
        simp only [orderOk, Bool.and_eq_true] at hO
        exact hO.2
      obtain ⟨val, hg⟩ := good_of hO2 h
      have hni : i ∉ rest := by
        intro hm
        obtain ⟨p, q, rfl⟩ := List.append_of_mem hm
        have := (order_split hO2).2.1
        exact this (by simp)
      refine ⟨fun j => if j = i then v else val j, M1, by simp only [if_true]; exact hs, ?_⟩
      simp only [if_true]
      refine Good.congr (fun j hj => ?_) hg
      rw [if_neg (by rintro rfl; exact hni hj)]
    · cases h
end

theorem Rel.ghost {E : Emb} {M : Mem} {w : World} (h : Rel E M w) (o : O) : Rel E (M.push o) w := by
  have hne : ∀ {b : Nat} {x : Nat × Nat × Nat}, E b = some x → b ≠ M.next := by
    rintro b x hb rfl
    rw [h.fresh (Nat.le_refl _)] at hb
    cases hb
  refine ⟨?_, h.lt, ?_, ?_⟩
  · intro b c d k hb
    obtain ⟨o', h1, h2⟩ := h.at_ b c d k hb
    exact ⟨o', by rw [Mem.get_push_ne _ _ (hne hb)]; exact h1, h2⟩
  · intro b b' c d k d' k' hb hb' ho hn
    rw [Mem.get_push_ne _ _ (hne hb')]
    refine h.inj b b' c d k d' k' hb hb' ?_ hn
    unfold own at ho ⊢
    rwa [Mem.get_push_ne _ _ (hne hb)] at ho
  · intro b hb
    simp only [Mem.next_push] at hb
    rw [Mem.get_push_ne _ _ (by omega)]
    exact h.wf b (by omega)
theorem Ext.ghost {E0 E : Emb} {M0 M : Mem} {w0 w : World} (hx : Ext E0 M0 w0 E M w) (h : Rel E M w) (o : O) : Ext E0 M0 w0 E (M.push o) w := by
  refine ⟨hx.le, hx.os, hx.tape, hx.output, hx.size, by have := hx.next; simp; omega, hx.keep, hx.new, fun b hb => ?_⟩
  have : b ≠ M.next := by
    rintro rfl
    have e := hx.ro _ hb
    rw [h.wf _ (Nat.le_refl _)] at e
    obtain ⟨cs, hcs⟩ := hb
    rw [hcs] at e
    cases e
  rw [Mem.get_push_ne _ _ this]
  exact hx.ro b hb

/-- A block that the machine has laid, now laid in the world. -/
theorem Rel.reveal {E : Emb} {M : Mem} {w : World} (h : Rel E M w) {id : Nat} {cs : List V} (hM : M.get id = some (.cells cs false)) (hE : E id = none) {arr : Array Value} {elem : TypeId} (hv : VRs E cs arr.toList) :
    Rel (E.more id (w.heap.size, 0, arr.size)) M (w.alloc (.cells arr elem)) := by
  have hle : Emb.le E (E.more id (w.heap.size, 0, arr.size)) := Emb.more_le hE
  refine ⟨?_, ?_, ?_, h.wf⟩
  · intro b c d k hb
    by_cases e : b = id
    · subst e
      rw [Emb.more_same] at hb
      cases hb
      refine ⟨_, hM, arr, elem, (0, 0), by rw [heap_alloc]; exact if_pos rfl, ?_, by simp, fun _ i _ => by simp⟩
      intro i v hi
      obtain ⟨u, hu, hvu⟩ := hv.get i v hi
      exact ⟨u, by rw [Nat.zero_add]; simpa using hu, hvu.mono hle⟩
    · rw [Emb.more_ne _ _ e] at hb
      obtain ⟨o, h1, h2⟩ := h.at_ b c d k hb
      have := h.lt b c d k hb
      exact ⟨o, h1, by rw [heap_alloc, if_neg (by omega)]; exact h2.mono hle⟩
  · intro b c d k hb
    have hs : (w.alloc (.cells arr elem)).heap.size = w.heap.size + 1 := by simp
    by_cases e : b = id
    · subst e
      rw [Emb.more_same] at hb
      cases hb
      omega
    · rw [Emb.more_ne _ _ e] at hb
      have := h.lt b c d k hb
      omega
  · intro b b' c d k d' k' hb hb' ho hn
    by_cases e : b = id
    · subst e
      rw [Emb.more_same] at hb
      cases hb
      rw [Emb.more_ne _ _ hn] at hb'
      have := h.lt b' _ _ _ hb'
      omega
    · rw [Emb.more_ne _ _ e] at hb
      by_cases e' : b' = id
      · subst e'
        rw [Emb.more_same] at hb'
        cases hb'
        have := h.lt b _ _ _ hb
        omega
      · rw [Emb.more_ne _ _ e'] at hb'
        exact h.inj b b' c d k d' k' hb hb' ho hn
theorem Ext.reveal {E0 E : Emb} {M0 M : Mem} {w0 w : World} (hx : Ext E0 M0 w0 E M w) {id : Nat} (hE : E id = none) (hid : M0.next ≤ id) (o : Obj) (k : Nat) : Ext E0 M0 w0 (E.more id (w.heap.size, 0, k)) M (w.alloc o) := by
  refine ⟨Emb.le_trans hx.le (Emb.more_le hE), hx.os, hx.tape, hx.output, by have := hx.size; simp; omega, hx.next, ?_, ?_, hx.ro⟩
  · intro c hc ho
    have := hx.size
    rw [heap_alloc, if_neg (by omega)]
    exact hx.keep c hc ho
  · intro b c d k' hb hb'
    by_cases e : b = id
    · subst e
      rw [Emb.more_same] at hb'
      cases hb'
      exact ⟨hid, .inl hx.size⟩
    · rw [Emb.more_ne _ _ e] at hb'
      exact hx.new b c d k' hb hb'

section
variable (P : Program) (gl : Nat → Bool) (ops : Array Oper) (aops : List AOper) (L : List Nat) (call : CallF) (n : Nat) (val : Nat → V) (fr0 : Fr)
def befo (i : Nat) : List Nat := L.takeWhile fun j => !Nat.beq j i
/-- An operation that the machine has run already, and the world has not. -/
def Pend (nx : Nat) (E : Emb) (M : Mem) (i : Nat) : Prop :=
  (wantedA (putAll aops n val (befo L i) fr0) (opA aops i).guard = false ∧ val i = .undef) ∨
  (wantedA (putAll aops n val (befo L i) fr0) (opA aops i).guard = true ∧
    (((clsA aops i).still = true ∧ aop (opA aops i).op (putAll aops n val (befo L i) fr0).ev M = some (.val (val i) M)) ∨
     ((clsA aops i).isA = true ∧ ∃ s cs id, val i = mkV s id ∧ nx ≤ id ∧ id < M.next ∧ M.get id = some (.cells cs false) ∧ E id = none ∧
       ∀ M1, aop (opA aops i).op (putAll aops n val (befo L i) fr0).ev M1 = some (.val (mkV s M1.next) (M1.push (.cells cs false))))))
/-- Two pending blocks are two. -/
def Apart2 (S : Nat → Bool) (pre : List Nat) : Prop := ∀ i ∈ pre, ∀ j ∈ pre, S i = false → S j = false → i ≠ j → (clsA aops i).isA = true → (clsA aops j).isA = true → ∀ s s' id, val i = mkV s id → val j = mkV s' id → False

structure Inv (bits : List Nat) (E0 : Emb) (M0 : Mem) (w0 : World) (frE : Fr) (ME : Mem) (ds : List Deferred) (S : Nat → Bool) (pre rest : List Nat) (E : Emb) (M : Mem) (a : Act) (w : World) : Prop where
  hL : L = pre ++ rest
  good : Good aops bits call n val pre.reverse rest (putAll aops n val pre fr0) M frE ME
  rest0 : ∀ j ∈ rest, S j = false
  writers : ∀ j ∈ pre, (clsA aops j).isW = true → S j = true
  hF : FrR E n (putAll aops n val (L.filter S) fr0) a
  hR : Rel E M w
  hX : Ext E0 M0 w0 E M w
  pend : ∀ i ∈ pre, S i = false → Pend aops L n val fr0 M0.next E M i
  two : Apart2 aops val S pre
  closed : ∀ i, S i = true → ∀ j ∈ preds ops i, S j = true
  defers : a.defers = ds
end

theorem befo_eq {l1 l2 : List Nat} {i : Nat} (h : i ∉ l1) : befo (l1 ++ i :: l2) i = l1 := by
  unfold befo
  rw [List.takeWhile_append_of_pos (fun a ha => by
    have : Nat.beq a i = false := by
      cases hb : Nat.beq a i with
      | false => rfl
      | true => exact absurd (Nat.eq_of_beq_eq_true hb ▸ ha) h
    simp [this])]
  simp

theorem mkV_inj {s s' : Option Nat} {b b' : Nat} (h : mkV s b = mkV s' b') : s = s' ∧ b = b' := by
  cases s <;> cases s' <;> simp [mkV] at h
  · exact ⟨rfl, h⟩
  · exact ⟨by rw [h.2], h.1⟩

theorem sameCells_eq {x y : Option O} (h : sameCells x y = true) : ∃ cs, x = some (.cells cs false) ∧ y = some (.cells cs false) := by
  unfold sameCells at h
  split at h
  · exact ⟨_, rfl, by rw [V.beqs_eq h]⟩
  · cases h

theorem cls_call {o : AOp} (h : isCallA o = true) : (clsOf o).isW = true := by cases o <;> first | (cases h; done) | rfl
theorem not_call {o : AOp} (hw : (clsOf o).isW = false) {ρ : Opd → V} {M : Mem} {f : FuncId} {args : List V} (h : aop o ρ M = some (.call f args)) : False := by
  cases hq : isCallA o with
  | false => exact aop_noCall hq f args h
  | true => rw [cls_call hq] at hw; cases hw
theorem cls_cases (c : Cls) : c.still = true ∨ c.isA = true ∨ c.isW = true := by cases c <;> simp [Cls.still, Cls.isA, Cls.isW]
theorem still_cases {c : Cls} (h : c.still = true) : c.isP = true ∨ c.isR = true := by cases c <;> simp_all [Cls.still, Cls.isP, Cls.isR]

section
variable {P : Program} {gl : Nat → Bool} {ops : Array Oper} {aops : List AOper} {L : List Nat} {call : CallF} {n : Nat} {val : Nat → V} {fr0 : Fr} {N : Nat}
variable {E0 E : Emb} {M0 M : Mem} {w0 w : World} {frE : Fr} {ME : Mem} {ds : List Deferred} {S : Nat → Bool} {a : Act}

theorem pend_ghost {nx : Nat} {i : Nat} (h : Pend aops L n val fr0 nx E M i) (hW : M.WF) (o : O) : Pend aops L n val fr0 nx E (M.push o) i := by
  rcases h with h | ⟨hw, ⟨hs, hv⟩ | ⟨ha, s, cs, id, h1, h2, h3, h4, h5, h6⟩⟩
  · exact .inl h
  · refine .inr ⟨hw, .inl ⟨hs, ?_⟩⟩
    rcases still_cases hs with hp | hr
    · exact aop_pure hp _ hv
    · exact aop_look hr hW o hv
  · exact .inr ⟨hw, .inr ⟨ha, s, cs, id, h1, h2, by simp; omega, Mem.get_push_some hW h4, h5, h6⟩⟩

/-- Whatever neither writes nor calls runs at once. -/
theorem advance (hO : orderOk aops (bitsOf ops.toList []) N [] L = true) : ∀ {rest pre : List Nat} {M : Mem},
    Inv ops aops L call n val fr0 (bitsOf ops.toList []) E0 M0 w0 frE ME ds S pre rest E M a w →
    ∃ pre' rest' M', Inv ops aops L call n val fr0 (bitsOf ops.toList []) E0 M0 w0 frE ME ds S pre' rest' E M' a w ∧ (∀ e t, rest' = e :: t → (clsA aops e).isW = true)
  | [], pre, M, h => ⟨pre, [], M, h, fun e t q => by cases q⟩
  | j :: rest, pre, M, h => by
    cases hw : (clsA aops j).isW with
    | true => exact ⟨pre, j :: rest, M, h, fun e t q => by cases q; exact hw⟩
    | false =>
      obtain ⟨M1, hs, hg⟩ := h.good
      have hag : agOf aops (bitsOf ops.toList []) pre.reverse j = [] := by unfold agOf; rw [hw]; rfl
      have hO' : orderOk aops (bitsOf ops.toList []) N [] (pre ++ j :: rest) = true := by rw [← h.hL]; exact hO
      have hni : j ∉ pre := by have := (order_split hO').2.1; simpa using this
      have hbef : befo L j = pre := by rw [h.hL]; exact befo_eq hni
      have hgood : Good aops (bitsOf ops.toList []) call n val (pre ++ [j]).reverse rest (putAll aops n val (pre ++ [j]) fr0) M1 frE ME := by
        rw [putAll_append, List.reverse_append]
        exact hg
      have hL2 : L = (pre ++ [j]) ++ rest := by rw [h.hL]; simp
      have hwr : ∀ k ∈ pre ++ [j], (clsA aops k).isW = true → S k = true := by
        intro k hk hkw
        rw [List.mem_append, List.mem_singleton] at hk
        rcases hk with hk | rfl
        · exact h.writers k hk hkw
        · rw [hw] at hkw; cases hkw
      have hrest : ∀ k ∈ rest, S k = false := fun k hk => h.rest0 k (List.mem_cons_of_mem _ hk)
      -- what it came to
      have hcase : (M1 = M ∧ Pend aops L n val fr0 M0.next E M j ∧ ((clsA aops j).isA = true → ∀ s id, val j = mkV s id → False)) ∨
          (∃ cs s, M1 = M.push (.cells cs false) ∧ val j = mkV s M.next ∧ (clsA aops j).isA = true ∧ wantedA (putAll aops n val (befo L j) fr0) (opA aops j).guard = true ∧
            ∀ M2, aop (opA aops j).op (putAll aops n val (befo L j) fr0).ev M2 = some (.val (mkV s M2.next) (M2.push (.cells cs false)))) := by
        rcases hs with ⟨h1, h2, h3⟩ | ⟨h1, h2, _⟩
        · refine .inl ⟨h3, .inl ⟨by rw [hbef]; exact h1, h2⟩, fun _ s id he => ?_⟩
          rw [h2] at he
          cases s <;> cases he
        · rcases h2 with h2 | ⟨f, args, h2, _⟩
          · rcases cls_cases (clsOf (opA aops j).op) with hc | hc | hc
            · have hm := aop_still hc h2
              subst hm
              refine .inl ⟨rfl, .inr ⟨by rw [hbef]; exact h1, .inl ⟨hc, by rw [hbef]; exact h2⟩⟩, fun ha => ?_⟩
              have : (clsOf (opA aops j).op).isA = true := ha
              cases hq : clsOf (opA aops j).op <;> rw [hq] at this hc <;> first | (cases this; done) | cases hc
            · obtain ⟨s, cs, e1, e2, e3⟩ := aop_makes hc h2
              exact .inr ⟨cs, s, e2, e1, hc, by rw [hbef]; exact h1, by rw [hbef]; exact e3⟩
            · have : (clsA aops j).isW = true := hc
              rw [hw] at this; cases this
          · exact (not_call hw h2).elim
      rcases hcase with ⟨rfl, hp, hna⟩ | ⟨cs, s, rfl, hv, hA, hwt, hall⟩
      · refine advance hO (rest := rest) (pre := pre ++ [j]) (M := M1) ⟨hL2, hgood, hrest, hwr, h.hF, h.hR, h.hX, ?_, ?_, h.closed, h.defers⟩
        · intro i hi hSi
          rw [List.mem_append, List.mem_singleton] at hi
          rcases hi with hi | rfl
          · exact h.pend i hi hSi
          · exact hp
        · intro i hi k hk hSi hSk hne hiA hkA s s' id e1 e2
          rw [List.mem_append, List.mem_singleton] at hi hk
          rcases hi with hi | rfl
          · rcases hk with hk | rfl
            · exact h.two i hi k hk hSi hSk hne hiA hkA s s' id e1 e2
            · exact hna hkA s' id e2
          · exact hna hiA s id e1
      · have hpj : Pend aops L n val fr0 M0.next E (M.push (.cells cs false)) j :=
          .inr ⟨hwt, .inr ⟨hA, s, cs, M.next, hv, h.hX.next, by simp, Mem.get_push_same _ _, h.hR.fresh (Nat.le_refl _), hall⟩⟩
        refine advance hO (rest := rest) (pre := pre ++ [j]) (M := M.push (.cells cs false)) ⟨hL2, hgood, hrest, hwr, h.hF, h.hR.ghost _, h.hX.ghost h.hR _, ?_, ?_, h.closed, h.defers⟩
        · intro i hi hSi
          rw [List.mem_append, List.mem_singleton] at hi
          rcases hi with hi | rfl
          · exact pend_ghost (h.pend i hi hSi) h.hR.wf _
          · exact hpj
        · have lower : ∀ i ∈ pre, S i = false → (clsA aops i).isA = true → ∀ s id, val i = mkV s id → id < M.next := by
            intro i hi hSi hiA s1 id e1
            rcases h.pend i hi hSi with ⟨_, hu⟩ | ⟨_, ⟨hs, _⟩ | ⟨_, s2, cs2, id2, q1, _, q3, _⟩⟩
            · rw [hu] at e1
              cases s1 <;> cases e1
            · cases hq : clsA aops i <;> rw [hq] at hs hiA <;> first | (cases hs; done) | cases hiA
            · rw [q1] at e1
              have := (mkV_inj e1).2
              omega
          intro i hi k hk hSi hSk hne hiA hkA s1 s2 id e1 e2
          rw [List.mem_append, List.mem_singleton] at hi hk
          rcases hi with hi | rfl
          · rcases hk with hk | rfl
            · exact h.two i hi k hk hSi hSk hne hiA hkA s1 s2 id e1 e2
            · have h1 := lower i hi hSi hiA s1 id e1
              rw [hv] at e2
              have := (mkV_inj e2).2
              omega
          · rcases hk with hk | rfl
            · have h1 := lower k hk hSk hkA s2 id e2
              rw [hv] at e1
              have := (mkV_inj e1).2
              omega
            · exact hne rfl
end
end Go.Am
