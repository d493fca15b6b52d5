/- An operation of the machine against the program's own: new blocks, stores. -/
import Derived.Test.YtpkflnohagieiaaAmSnd8
set_option linter.unusedSimpArgs false
set_option linter.unusedVariables false
namespace Go.Am
open Go Go.RowKit

/-- A block of the machine's own may become such. -/
def notRo : O → Prop
  | .cells _ true => False
  | _ => True

section
variable {P : Program} {E : Emb} {M : Mem} {w : World}

theorem OR.mono {E E' : Emb} (hE : Emb.le E E') {o : O} {x : Option Obj} {d k : Nat} (h : OR E o x d k) : OR E' o x d k := by
  cases o with
  | cells cs ro =>
    obtain ⟨arr, elem, fz, h1, h2, h3⟩ := h
    exact ⟨arr, elem, fz, h1, fun i v hv => let ⟨u, hu, hr⟩ := h2 i v hv; ⟨u, hu, hr.mono hE⟩, h3⟩
  | map es =>
    obtain ⟨ents, clock, h1, ⟨h2, h3⟩, h4⟩ := h
    exact ⟨ents, clock, h1, ⟨h2.mono hE, h3.mono hE⟩, h4⟩
  | strIter s pos => exact h
  | dead => trivial

/-- The machine's memory with one block more. -/
def Emb.more (E : Emb) (b : Nat) (x : Nat × Nat × Nat) : Emb := fun i => if i = b then some x else E i
theorem Emb.more_le {E : Emb} {b : Nat} {x : Nat × Nat × Nat} (h : E b = none) : Emb.le E (E.more b x) := by
  intro i y hi
  unfold Emb.more
  rw [if_neg (by rintro rfl; rw [h] at hi; cases hi)]
  exact hi
theorem Emb.more_same (E : Emb) (b : Nat) (x : Nat × Nat × Nat) : (E.more b x) b = some x := if_pos rfl
theorem Emb.more_ne (E : Emb) {b i : Nat} (x : Nat × Nat × Nat) (h : i ≠ b) : (E.more b x) i = E i := if_neg h

theorem heap_alloc (w : World) (o : Obj) (i : Nat) : (w.alloc o).heap[i]? = if i = w.heap.size then some o else w.heap[i]? := by
  show (w.heap.push o)[i]? = _
  rw [Array.getElem?_push]

theorem Rel.alloc (h : Rel E M w) {o : O} {x : Obj} {k : Nat} (hr : OR (E.more M.next (w.heap.size, 0, k)) o (some x) 0 k) :
    Rel (E.more M.next (w.heap.size, 0, k)) (M.push o) (w.alloc x) ∧ Ext E M w (E.more M.next (w.heap.size, 0, k)) (M.push o) (w.alloc x) := by
  have hf := h.fresh (Nat.le_refl M.next)
  have hle : Emb.le E (E.more M.next (w.heap.size, 0, k)) := Emb.more_le hf
  have hsz : (w.alloc x).heap.size = w.heap.size + 1 := by simp
  refine ⟨⟨?_, ?_, ?_, ?_⟩, ⟨hle, rfl, rfl, rfl, by omega, by simp, ?_, ?_, ?_⟩⟩
  · intro b c d k' hb
    by_cases e : b = M.next
    · subst e
      rw [Emb.more_same] at hb
      cases hb
      refine ⟨o, Mem.get_push_same _ _, ?_⟩
      rw [heap_alloc, if_pos rfl]
      exact hr
    · rw [Emb.more_ne _ _ e] at hb
      obtain ⟨o', ho', hr'⟩ := h.at_ b c d k' hb
      refine ⟨o', by rw [Mem.get_push_ne _ _ e]; exact ho', ?_⟩
      have := h.lt b c d k' hb
      rw [heap_alloc, if_neg (by omega)]
      exact hr'.mono hle
  · intro b c d k' hb
    by_cases e : b = M.next
    · subst e
      rw [Emb.more_same] at hb
      cases hb
      omega
    · rw [Emb.more_ne _ _ e] at hb
      have := h.lt b c d k' hb
      omega
  · intro b b' c d k1 d' k' hb hb' ho hne
    by_cases e : b = M.next
    · subst e
      rw [Emb.more_same] at hb
      cases hb
      rw [Emb.more_ne _ _ hne] at hb'
      have := h.lt b' _ _ _ hb'
      omega
    · rw [Emb.more_ne _ _ e] at hb
      by_cases e' : b' = M.next
      · subst e'
        rw [Emb.more_same] at hb'
        cases hb'
        have := h.lt b _ _ _ hb
        omega
      · rw [Emb.more_ne _ _ e'] at hb'
        rw [Mem.get_push_ne _ _ e']
        refine h.inj b b' c d k1 d' k' hb hb' ?_ hne
        unfold own at ho ⊢
        rwa [Mem.get_push_ne _ _ e] at ho
  · intro b hb
    simp only [Mem.next_push] at hb
    rw [Mem.get_push_ne _ _ (by omega)]
    exact h.wf b (by omega)
  · intro c hc _
    rw [heap_alloc, if_neg (by omega)]
  · intro b c d k' hb hb'
    by_cases e : b = M.next
    · subst e
      rw [Emb.more_same] at hb'
      cases hb'
      exact ⟨Nat.le_refl _, .inl (Nat.le_refl _)⟩
    · rw [Emb.more_ne _ _ e, hb] at hb'
      cases hb'
  · intro b hb
    have : b ≠ M.next := by
      rintro rfl
      obtain ⟨cs, hcs⟩ := hb
      rw [h.wf _ (Nat.le_refl _)] at hcs
      cases hcs
    exact Mem.get_push_ne _ _ this

theorem own_lt (h : Rel E M w) {b : Nat} (ho : own M b) : b < M.next := by
  rcases Nat.lt_or_ge b M.next with hlt | hge
  · exact hlt
  · unfold own at ho
    rw [h.wf b hge] at ho
    exact ho.elim

theorem Rel.setBlock (h : Rel E M w) {b c d k : Nat} (hE : E b = some (c, d, k)) (ho : own M b) {o' : O} (hno : notRo o') {x' : Obj} {w' : World} (hos : w'.os = w.os) (htp : w'.tape = w.tape) (hou : w'.output = w.output)
    (hsz : w'.heap.size = w.heap.size) (hat : w'.heap[c]? = some x') (hoth : ∀ i, i ≠ c → w'.heap[i]? = w.heap[i]?) (hr : OR E o' (some x') d k) : Rel E (M.set b o') w' ∧ Ext E M w E (M.set b o') w' := by
  have hnr : ¬ isRo M b := fun r => own_not_ro ho r
  refine ⟨⟨?_, ?_, ?_, ?_⟩, ⟨Emb.le_refl E, hos, htp, hou, by omega, Nat.le_refl _, ?_, ?_, ?_⟩⟩
  · intro b1 c1 d1 k1 hb1
    by_cases e : b1 = b
    · subst e
      rw [hE] at hb1
      cases hb1
      exact ⟨o', Mem.get_set_same _ _ _, by rw [hat]; exact hr⟩
    · obtain ⟨o1, ho1, hr1⟩ := h.at_ b1 c1 d1 k1 hb1
      refine ⟨o1, by rw [Mem.get_set_ne _ _ e]; exact ho1, ?_⟩
      by_cases ec : c1 = c
      · subst ec
        have := h.inj b b1 c1 d k d1 k1 hE hb1 ho e
        rw [ho1] at this
        cases this
        trivial
      · rw [hoth _ ec]; exact hr1
  · intro b1 c1 d1 k1 hb1
    rw [hsz]; exact h.lt b1 c1 d1 k1 hb1
  · intro b1 b2 c1 d1 k1 d2 k2 hb1 hb2 ho1 hne
    have own1 : b1 ≠ b → own M b1 := by
      intro e
      unfold own at ho1 ⊢
      rwa [Mem.get_set_ne _ _ e] at ho1
    by_cases e2 : b2 = b
    · subst e2
      have e1 : b1 ≠ b2 := fun e => hne e.symm
      have hd := h.inj b1 b2 c1 d1 k1 d2 k2 hb1 hb2 (own1 e1) hne
      unfold own at ho
      rw [hd] at ho
      exact ho.elim
    · rw [Mem.get_set_ne _ _ e2]
      by_cases e1 : b1 = b
      · subst e1; exact h.inj b1 b2 c1 d1 k1 d2 k2 hb1 hb2 ho hne
      · exact h.inj b1 b2 c1 d1 k1 d2 k2 hb1 hb2 (own1 e1) hne
  · intro b1 hb1
    have : b1 ≠ b := by
      have := own_lt h ho
      simp at hb1
      omega
    rw [Mem.get_set_ne _ _ this]
    exact h.wf b1 hb1
  · intro i hi hro
    apply hoth
    rintro rfl
    exact hnr (hro b d k hE)
  · intro b1 c1 d1 k1 h1 h2
    rw [h1] at h2
    cases h2
  · intro b1 hr1
    have : b1 ≠ b := fun e => hnr (e ▸ hr1)
    rw [Mem.get_set_ne _ _ this]

/-! ### stores into a row -/
theorem run_storeCells' {c o : Nat} {elem : TypeId} {fz : Nat × Nat} : ∀ (vs : List Value) (i : Nat) (arr : Array Value) (w : World), w.heap[c]? = some (.cells arr elem fz) → o + i + vs.length ≤ arr.size → Free fz arr.size →
    (∀ v ∈ vs, oneValue v = true) → ∃ (arr' : Array Value) (w' : World), (storeCells ⟨c, o, none⟩ vs i).run P w = .ok () w' ∧ w'.os = w.os ∧ w'.tape = w.tape ∧ w'.output = w.output ∧ w'.heap.size = w.heap.size ∧
      w'.heap[c]? = some (.cells arr' elem fz) ∧ (∀ j, j ≠ c → w'.heap[j]? = w.heap[j]?) ∧ arr'.size = arr.size ∧ ∀ j, arr'[j]? = if o + i ≤ j ∧ j < o + i + vs.length then vs[j - (o + i)]? else arr[j]?
  | [], i, arr, w, hw, hl, hf, h1 => ⟨arr, w, rfl, rfl, rfl, rfl, rfl, hw, fun _ _ => rfl, rfl, fun j => by rw [if_neg (by simp)]⟩
  | v :: vs, i, arr, w, hw, hl, hf, h1 => by
    simp only [List.length_cons] at hl
    have hin : o + i < arr.size := by omega
    have hcell : w.cell? ⟨c, o + i, none⟩ = some arr[o + i] := by simp [World.cell?, hw, hin]
    have hfr : w.frozen? ⟨c, o + i, none⟩ = false := by
      simp only [World.frozen?, hw]
      have := hf (o + i) hin
      simpa using this
    have hone : v.oneCell' = true := by
      have := h1 v (List.mem_cons_self ..)
      cases v <;> first | rfl | (simp [oneValue] at this; done)
    have hst : (store ⟨c, o + i, none⟩ v).run P w = .ok () (w.setCell ⟨c, o + i, none⟩ v) := by
      rw [run_store P w _ v .plain hone, hcell]
      simp [hfr]
    have hlt : c < w.heap.size := (Array.getElem?_eq_some_iff.1 hw).1
    have hw1 : (w.setCell ⟨c, o + i, none⟩ v).heap[c]? = some (.cells (arr.setIfInBounds (o + i) v) elem fz) := by
      simp only [World.setCell, Array.getElem?_modify, if_true, hw, Option.map_some]
      rfl
    have hl' : o + (i + 1) + vs.length ≤ (arr.setIfInBounds (o + i) v).size := by rw [Array.size_setIfInBounds]; omega
    obtain ⟨arr', w', hr, a1, a2, a3, a4, a5, a6, a7, a8⟩ := run_storeCells' vs (i + 1) (arr.setIfInBounds (o + i) v) _ hw1 hl' (by simpa using hf) (fun u hu => h1 u (List.mem_cons_of_mem _ hu))
    refine ⟨arr', w', ?_, a1, a2, a3, ?_, a5, ?_, ?_, ?_⟩
    · rw [storeCells]
      simp only [addr_add, Sem.run_bind, hst, Result.andThen_ok]
      exact hr
    · rw [a4]; simp [World.setCell]
    · intro j hj
      rw [a6 j hj]
      exact Below.heap_setCell _ _ _ _ hj
    · simpa using a7
    · intro j
      rw [a8 j]
      simp only [List.length_cons]
      by_cases h2 : o + (i + 1) ≤ j ∧ j < o + (i + 1) + vs.length
      · rw [if_pos h2, if_pos (by omega), show j - (o + i) = (j - (o + (i + 1))) + 1 from by omega, List.getElem?_cons_succ]
      · rw [if_neg h2]
        by_cases h3 : j = o + i
        · subst h3
          rw [if_pos (by omega), Array.getElem?_setIfInBounds_self_of_lt hin]
          simp
        · rw [if_neg (by omega), Array.getElem?_setIfInBounds_ne (by omega)]

theorem allOne_mem : ∀ {vs : List V} {us : List Value}, VRs E vs us → allOne vs = true → ∀ u ∈ us, oneValue u = true
  | [], _, .nil, _, u, hu => by cases hu
  | v :: vs, _, .cons h1 ht, h, u, hu => by
    simp only [allOne, cond_true_iff] at h
    cases hu with
    | head => rw [h1.one]; exact h.1
    | tail _ hm => exact allOne_mem ht h.2 u hm

theorem Mem.write_some {b o : Nat} {vs : List V} {M' : Mem} (h : M.write b o vs = some M') : ∃ cs, M.get b = some (.cells cs false) ∧ o + vs.length ≤ cs.length ∧ allOne vs = true ∧ M' = M.set b (.cells (wrCells cs o vs) false) := by
  unfold Mem.write at h
  split at h
  · rename_i cs hM
    obtain ⟨h1, h⟩ := cond_some h
    obtain ⟨h2, h⟩ := cond_some h
    rw [ble_iff] at h1
    exact ⟨cs, hM, of_decide_eq_true h1, h2, (Option.some.inj h).symm⟩
  · cases h

/-- A store of cells. -/
theorem Rel.write (h : Rel E M w) {b c d k o : Nat} (hE : E b = some (c, d, k)) {vs : List V} {us : List Value} (hv : VRs E vs us) {M' : Mem} (hw : M.write b o vs = some M') :
    ∃ w', (storeCells ⟨c, d + o, none⟩ us).run P w = .ok () w' ∧ Rel E M' w' ∧ Ext E M w E M' w' := by
  obtain ⟨cs, hM, hl, h1, rfl⟩ := Mem.write_some hw
  obtain ⟨arr, elem, fz, hb, hc, hk, hf⟩ := h.cells hE hM
  have hlen := hv.length
  have hin : vs ≠ [] → d + o + us.length ≤ arr.size := by
    intro hne
    have hpos : 0 < vs.length := List.length_pos_iff.2 hne
    obtain ⟨u, hu, _⟩ := hc (o + vs.length - 1) (cs[o + vs.length - 1]'(by omega)) (by simp)
    have := (Array.getElem?_eq_some_iff.1 hu).1
    omega
  have ho : own M b := by unfold own; rw [hM]; trivial
  by_cases hne : vs = []
  · subst hne
    cases hv
    refine ⟨w, rfl, ?_⟩
    have : wrCells cs o [] = cs := by cases cs <;> rfl
    rw [this]
    exact h.setBlock (o' := .cells cs false) hE ho trivial rfl rfl rfl rfl hb (fun _ _ => rfl) ⟨arr, elem, fz, rfl, hc, hk, hf⟩
  · obtain ⟨arr', w', hr, a1, a2, a3, a4, a5, a6, a7, a8⟩ := run_storeCells' (P := P) (o := d + o) us 0 arr w hb (by have := hin hne; omega) (hf rfl) (allOne_mem hv h1)
    refine ⟨w', hr, h.setBlock (o' := .cells (wrCells cs o vs) false) hE ho trivial a1 a2 a3 a4 a5 a6 ⟨arr', elem, fz, rfl, ?_, by rw [a7]; exact hk, by rw [a7]; exact hf⟩⟩
    intro i v hi
    rw [wrCells_get _ _ _ _ hl] at hi
    rw [a8]
    by_cases h2 : o ≤ i ∧ i < o + vs.length
    · rw [if_pos h2] at hi
      rw [if_pos (by omega)]
      obtain ⟨u, hu, hvu⟩ := hv.get _ v hi
      exact ⟨u, by rw [← hu]; congr 1; omega, hvu⟩
    · rw [if_neg h2] at hi
      rw [if_neg (by omega)]
      exact hc i v hi

theorem store_rel (h : Rel E M w) {t : TypeId} {n : Nat} (hn : szE P t = some n) {a v : V} {a' v' : Value} (ha : VR E a a') (hv : VR E v v') {M' : Mem} (hs : vstore n M a v = some M') :
    ∃ w', (Instr.storeAt t a' v').run P w = .ok () w' ∧ Rel E M' w' ∧ Ext E M w E M' w' := by
  unfold vstore at hs
  split at hs
  · rename_i b o
    obtain ⟨h1, hs⟩ := cond_some hs
    rw [beq_iff] at h1
    have h1 := of_decide_eq_true h1
    rw [Bool.cond_eq_ite] at hs
    split at hs
    · cases hs
    · cases ha
      rename_i c d k hE
      have hc := hv.cells
      obtain ⟨w', hr, h2⟩ := h.write (P := P) hE hc hs
      refine ⟨w', ?_, h2⟩
      have hsz : v'.cells.size = n := by
        have := hc.length
        simp only [Array.length_toList] at this
        omega
      simp only [Instr.storeAt, Instr.sureAddr, storeVar, Sem.run_bind, Sem.run_pure, Result.andThen_ok, run_sizeOf' hn]
      rw [if_neg (by simp [hsz])]
      exact hr
  · cases hs
end
end Go.Am
