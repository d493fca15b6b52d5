/- A statement that draws its order: what the order may be. -/
import Derived.Test.YtpkflnohagieiaaAmSnd14
set_option linter.unusedSimpArgs false
set_option linter.unusedVariables false
namespace Go.Am
open Go Go.RowKit

/-! ### the slots that an operation looks at -/
theorem aop_congr {o : AOp} {ρ ρ' : Opd → V} (h : ∀ x ∈ o.opds, ρ x = ρ' x) (M : Mem) : aop o ρ M = aop o ρ' M := by
  have pairs : ∀ ps : List (Nat × Nat × Opd), (∀ x ∈ ps.map (·.2.2), ρ x = ρ' x) → (ps.map fun p => (p.1, p.2.1, ρ p.2.2)) = ps.map fun p => (p.1, p.2.1, ρ' p.2.2) := fun ps hp =>
    List.map_congr_left fun p hm => by rw [hp _ (List.mem_map.2 ⟨p, hm, rfl⟩)]
  have lists : ∀ xs : List Opd, (∀ x ∈ xs, ρ x = ρ' x) → xs.map ρ = xs.map ρ' := fun xs hx => List.map_congr_left hx
  cases o <;> simp only [AOp.opds, List.mem_cons, List.mem_nil_iff, or_false, List.mem_append, forall_eq_or_imp, forall_eq, Option.mem_toList] at h <;> simp only [aop]
  case build z ps => rw [pairs ps h]
  case buildSlice len z ps => rw [pairs ps h]
  case makeFunc f a b => rw [lists a fun x hx => h x (.inl hx), lists b fun x hx => h x (.inr hx)]
  case min xs => rw [lists xs h]
  case max xs => rw [lists xs h]
  case call f args => obtain ⟨h1, h2⟩ := h; rw [h1, lists args h2]
  case sliceStr x lo hi =>
    obtain ⟨h1, h2⟩ := h
    have e1 : ∀ d, optNat ρ lo d = optNat ρ' lo d := fun d => by cases lo with | none => rfl | some y => simp only [optNat]; rw [h2 y (.inl rfl)]
    have e2 : ∀ d, optNat ρ hi d = optNat ρ' hi d := fun d => by cases hi with | none => rfl | some y => simp only [optNat]; rw [h2 y (.inr rfl)]
    rw [h1]
    simp only [e1, e2]
  case slice es x lo hi mx =>
    obtain ⟨h1, h2⟩ := h
    have e1 : (lo.map fun x => asNat (ρ x)) = lo.map fun x => asNat (ρ' x) := by cases lo with | none => rfl | some y => simp only [Option.map_some]; rw [h2 y (.inl (.inl rfl))]
    have e2 : (hi.map fun x => asNat (ρ x)) = hi.map fun x => asNat (ρ' x) := by cases hi with | none => rfl | some y => simp only [Option.map_some]; rw [h2 y (.inl (.inr rfl))]
    have e3 : (mx.map fun x => asNat (ρ x)) = mx.map fun x => asNat (ρ' x) := by cases mx with | none => rfl | some y => simp only [Option.map_some]; rw [h2 y (.inr rfl)]
    rw [h1, e1, e2, e3]
  case sliceArr es m x lo hi mx =>
    obtain ⟨h1, h2⟩ := h
    have e1 : (lo.map fun x => asNat (ρ x)) = lo.map fun x => asNat (ρ' x) := by cases lo with | none => rfl | some y => simp only [Option.map_some]; rw [h2 y (.inl (.inl rfl))]
    have e2 : (hi.map fun x => asNat (ρ x)) = hi.map fun x => asNat (ρ' x) := by cases hi with | none => rfl | some y => simp only [Option.map_some]; rw [h2 y (.inl (.inr rfl))]
    have e3 : (mx.map fun x => asNat (ρ x)) = mx.map fun x => asNat (ρ' x) := by cases mx with | none => rfl | some y => simp only [Option.map_some]; rw [h2 y (.inr rfl)]
    rw [h1, e1, e2, e3]
  all_goals first
    | rfl
    | (rw [h])
    | (obtain ⟨h1, h2⟩ := h; rw [h1, h2])
    | (obtain ⟨h1, h2, h3⟩ := h; rw [h1, h2, h3])

theorem looks_spec {o : AOper} {fr fr' : Fr} (h : ∀ t ∈ o.looks, fr.rd t = fr'.rd t) : (∀ M, aop o.op fr.ev M = aop o.op fr'.ev M) ∧ wantedA fr o.guard = wantedA fr' o.guard := by
  refine ⟨fun M => aop_congr (fun x hx => ?_) M, ?_⟩
  · cases x with
    | tmp t => exact h t (List.mem_append_left _ (List.mem_flatMap.2 ⟨_, hx, List.mem_singleton.2 rfl⟩))
    | const v => rfl
    | func f => rfl
  · unfold wantedA
    cases hg : o.guard with
    | none => rfl
    | some g =>
      obtain ⟨t, b⟩ := g
      simp only
      rw [h t (List.mem_append_right _ (by rw [hg]; exact List.mem_singleton.2 rfl))]

/-- What leaves memory as it is. -/
theorem aop_still {o : AOp} (hs : (clsOf o).still = true) {ρ : Opd → V} {M M' : Mem} {v : V} (h : aop o ρ M = some (.val v M')) : M' = M := by
  cases o <;> simp only [clsOf, Cls.still] at hs <;> (first | (cases hs; done) | skip) <;> simp only [aop] at h <;>
    first
    | (exact (vof_some h).2)
    | (cases h; rfl)
    | (repeat' (split at h)) <;> first | (exact (vof_some h).2) | (cases h; rfl) | (cases h; done) | (obtain ⟨_, h⟩ := cond_some h; first | exact (vof_some h).2 | (cases h; rfl)) | skip
  simp only [Option.bind_eq_some_iff, Option.map_eq_some_iff] at h
  obtain ⟨_, _, _, _, h⟩ := h
  cases h
  rfl

/-- What is only reckoned does not look at memory. -/
theorem aop_pure {o : AOp} (hs : (clsOf o).isP = true) (ρ : Opd → V) {M M' : Mem} {v : V} (h : aop o ρ M = some (.val v M)) : aop o ρ M' = some (.val v M') := by
  have hv : ∀ {x : Option V}, vof x M = some (.val v M) → vof x M' = some (.val v M') := by
    intro x hx
    obtain ⟨rfl, _⟩ := vof_some hx
    rfl
  cases o <;> simp only [clsOf, Cls.isP] at hs <;> (first | (cases hs; done) | skip) <;> simp only [aop] at h ⊢ <;>
    first
    | exact hv h
    | (cases h; rfl)
    | (repeat' (split at h)) <;> first | (cases h; done) | (simp_all; done) | exact hv h | (obtain ⟨hc, h⟩ := cond_some h; rw [hc, cond_true]; first | exact hv h | (cases h; rfl))


def Mem.WF (M : Mem) : Prop := ∀ b, M.next ≤ b → M.get b = none
theorem Mem.get_push_some {M : Mem} (hw : M.WF) {b : Nat} {x y : O} (h : M.get b = some y) : (M.push x).get b = some y := by
  rw [Mem.get_push_ne _ _ (fun e => by rw [hw b (by omega)] at h; cases h)]
  exact h
theorem Mem.WF.push {M : Mem} (hw : M.WF) (x : O) : (M.push x).WF := fun b hb => by
  simp only [Mem.next_push] at hb
  rw [Mem.get_push_ne _ _ (by omega)]
  exact hw b (by omega)
theorem Mem.read_push {M : Mem} (hw : M.WF) {b o n : Nat} {l : List V} {x : O} (h : M.read b o n = some l) : (M.push x).read b o n = some l := by
  unfold Mem.read at h ⊢
  split at h
  · rename_i cs ro hM
    rw [Mem.get_push_some hw hM]
    exact h
  · cases h
theorem mapOf_push {M : Mem} (hw : M.WF) {b : Nat} {es : List (V × V)} {x : O} (h : mapOf M b = some es) : mapOf (M.push x) b = some es := by
  unfold mapOf at h ⊢
  split at h
  · rename_i hM
    rw [Mem.get_push_some hw hM]
    exact h
  · cases h

def Cls.isR : Cls → Bool
  | .r => true
  | _ => false
/-- A look at memory sees the same behind a new block. -/
theorem aop_look {o : AOp} (hs : (clsOf o).isR = true) {ρ : Opd → V} {M : Mem} (hw : M.WF) {v : V} (x : O) (h : aop o ρ M = some (.val v M)) : aop o ρ (M.push x) = some (.val v (M.push x)) := by
  cases o <;> simp only [clsOf, Cls.isR] at hs <;> (first | (cases hs; done) | skip)
  case load n a =>
    simp only [aop] at h ⊢
    obtain ⟨h, _⟩ := vof_some h
    have : vload n (M.push x) (ρ a) = some v := by
      unfold vload at h ⊢
      split at h
      · rename_i b o' _
        cases n with
        | some n =>
          simp only at h ⊢
          rw [Bool.cond_eq_ite] at h ⊢
          split at h
          · cases h
          · rename_i hn
            rw [if_neg hn]
            simp only [Option.map_eq_some_iff] at h ⊢
            obtain ⟨l, hl, rfl⟩ := h
            exact ⟨l, Mem.read_push hw hl, rfl⟩
        | none =>
          simp only at h ⊢
          split at h
          · rename_i cs ro hM
            rw [Mem.get_push_some hw hM]
            exact h
          · cases h
      · cases h
    rw [this]; rfl
  case bytesStr a =>
    simp only [aop] at h ⊢
    split at h
    · cases h; rfl
    · simp only [Option.bind_eq_some_iff, Option.map_eq_some_iff] at h ⊢
      obtain ⟨cs, hcs, s, hs, h⟩ := h
      cases h
      refine ⟨cs, ?_, s, hs, rfl⟩
      rw [Bool.cond_eq_ite] at hcs ⊢
      split at hcs
      · rename_i hn; rw [if_pos hn]; exact hcs
      · rename_i hn; rw [if_neg hn]; exact Mem.read_push hw hcs
    · cases h
  case lookup sh z ok m k =>
    simp only [aop] at h ⊢
    obtain ⟨h, _⟩ := vof_some h
    have : vlookup sh z ok (M.push x) (ρ m) (ρ k) = some v := by
      unfold vlookup at h ⊢
      split at h
      · exact h
      · simp only [Option.bind_eq_some_iff] at h ⊢
        obtain ⟨es, hes, h⟩ := h
        exact ⟨es, mapOf_push hw hes, h⟩
      · cases h
    rw [this]; rfl
  case lenMap m =>
    simp only [aop] at h ⊢
    obtain ⟨h, _⟩ := vof_some h
    have : vlenMap (M.push x) (ρ m) = some v := by
      unfold vlenMap at h ⊢
      split at h
      · exact h
      · simp only [Option.map_eq_some_iff] at h ⊢
        obtain ⟨es, hes, h⟩ := h
        exact ⟨es, mapOf_push hw hes, h⟩
      · cases h
    rw [this]; rfl

/-- What lays one block. -/
theorem aop_makes {o : AOp} (hs : (clsOf o).isA = true) {ρ : Opd → V} {M M' : Mem} {v : V} (h : aop o ρ M = some (.val v M')) :
    ∃ s cs, v = mkV s M.next ∧ M' = M.push (.cells cs false) ∧ ∀ M1, aop o ρ M1 = some (.val (mkV s M1.next) (M1.push (.cells cs false))) := by
  cases o <;> simp only [clsOf, Cls.isA] at hs <;> (first | (cases hs; done) | skip) <;> simp only [aop] at h ⊢
  · cases h; exact ⟨none, _, rfl, rfl, fun _ => rfl⟩
  · cases h; exact ⟨none, _, rfl, rfl, fun _ => rfl⟩
  · simp only [Option.map_eq_some_iff] at h
    obtain ⟨cs, hcs, h⟩ := h
    cases h
    exact ⟨some _, cs, rfl, rfl, fun M1 => by rw [hcs]; rfl⟩

/-! ### the order of a statement's operations -/
section
variable (ops : Array Oper)
/-- What must have run ahead of operation i. -/
def preds (i : Nat) : List Nat := match ops[i]? with
  | some o => (o.after.toList.filter (Region.binds .any)).map (·.on)
  | none => []
end

theorem foldl_bits (acc : List Nat) : ∀ (es : List Edge) (s j : Nat), (es.foldl (fun s e => cond (Region.binds .any e) (s ||| 2 ^ e.on ||| acc.getD e.on 0) s) s).testBit j = true →
    s.testBit j = true ∨ ∃ e ∈ es, Region.binds .any e = true ∧ (e.on = j ∨ (acc.getD e.on 0).testBit j = true)
  | [], s, j, h => .inl h
  | e :: es, s, j, h => by
    simp only [List.foldl_cons] at h
    rcases foldl_bits acc es _ j h with h | ⟨e', he, hb, hh⟩
    · cases hb : Region.binds .any e with
      | false => rw [hb, cond_false] at h; exact .inl h
      | true =>
        rw [hb, cond_true, Nat.testBit_or, Nat.testBit_or, Bool.or_eq_true, Bool.or_eq_true] at h
        rcases h with (h | h) | h
        · exact .inl h
        · rw [Nat.testBit_two_pow] at h
          exact .inr ⟨e, List.mem_cons_self .., hb, .inl (of_decide_eq_true h)⟩
        · exact .inr ⟨e, List.mem_cons_self .., hb, .inr h⟩
    · exact .inr ⟨e', List.mem_cons_of_mem _ he, hb, hh⟩

theorem bitsOf_spec : ∀ (os : List Oper) (acc : List Nat), (∀ i, i < acc.length → (bitsOf os acc)[i]? = acc[i]?) ∧
    ∀ (k : Nat) (o : Oper), os[k]? = some o → ∃ acc', (bitsOf os acc)[acc.length + k]? = some (needBits acc' o) ∧ acc'.length = acc.length + k ∧ ∀ i, i < acc'.length → acc'[i]? = (bitsOf os acc)[i]?
  | [], acc => ⟨fun _ _ => rfl, fun k o h => by simp at h⟩
  | o :: os, acc => by
    obtain ⟨h1, h2⟩ := bitsOf_spec os (acc ++ [needBits acc o])
    have h1' : ∀ i, i < acc.length → (bitsOf (o :: os) acc)[i]? = acc[i]? := fun i hi => by
      show (bitsOf os (acc ++ [needBits acc o]))[i]? = _
      rw [h1 i (by simp; omega), List.getElem?_append_left hi]
    refine ⟨h1', fun k o' hk => ?_⟩
    cases k with
    | zero =>
      simp at hk
      subst hk
      refine ⟨acc, ?_, rfl, fun i hi => (h1' i hi).symm⟩
      show (bitsOf os (acc ++ [needBits acc o]))[acc.length + 0]? = _
      rw [h1 _ (by simp)]
      simp
    | succ k =>
      obtain ⟨acc', a1, a2, a3⟩ := h2 k o' (by simpa using hk)
      refine ⟨acc', ?_, by rw [a2]; simp; omega, a3⟩
      show (bitsOf os (acc ++ [needBits acc o]))[acc.length + (k + 1)]? = _
      rw [← a1]
      congr 1
      simp
      omega

/-- Whatever is closed under what must run ahead is closed under the bits. -/
theorem needs_closed {ops : Array Oper} {S : Nat → Prop} (hS : ∀ i, S i → ∀ j ∈ preds ops i, S j) : ∀ i, (∀ j ∈ preds ops i, S j) → ∀ j, needs (bitsOf ops.toList []) i j = true → S j := by
  intro i
  induction i using Nat.strongRecOn with
  | _ i ih =>
    intro hi j hj
    unfold needs at hj
    rw [List.getD_eq_getElem?_getD] at hj
    cases ho : ops[i]? with
    | none =>
      have : (bitsOf ops.toList [])[i]? = none := by
        apply List.getElem?_eq_none
        have hlen : ∀ (os : List Oper) (acc : List Nat), (bitsOf os acc).length = acc.length + os.length := by
          intro os
          induction os with
          | nil => intro acc; rfl
          | cons o os ih => intro acc; show (bitsOf os (acc ++ [needBits acc o])).length = _; rw [ih]; simp; omega
        rw [hlen]
        have := Array.getElem?_eq_none_iff.1 ho
        simpa using this
      rw [this] at hj
      simp at hj
    | some o =>
      have ho' : ops.toList[i]? = some o := by simpa using ho
      obtain ⟨acc', a1, a2, a3⟩ := (bitsOf_spec ops.toList []).2 i o ho'
      rw [show ([] : List Nat).length + i = i from by simp] at a1 a2
      rw [a1] at hj
      simp only [Option.getD_some] at hj
      have hp : ∀ e ∈ o.after.toList, Region.binds .any e = true → S e.on := fun e he hb => hi e.on (by
        unfold preds
        rw [ho]
        exact List.mem_map.2 ⟨e, List.mem_filter.2 ⟨he, hb⟩, rfl⟩)
      rcases foldl_bits acc' o.after.toList 0 j hj with h | ⟨e, he, hb, h | h⟩
      · simp at h
      · subst h; exact hp e he hb
      · have hlt : e.on < i := by
          rcases Nat.lt_or_ge e.on i with hl | hl
          · exact hl
          · rw [List.getD_eq_getElem?_getD, List.getElem?_eq_none (by omega)] at h
            simp at h
        refine ih e.on hlt (hS e.on (hp e he hb)) j ?_
        unfold needs
        rw [List.getD_eq_getElem?_getD, ← a3 e.on (by omega), ← List.getD_eq_getElem?_getD]
        exact h
end Go.Am
