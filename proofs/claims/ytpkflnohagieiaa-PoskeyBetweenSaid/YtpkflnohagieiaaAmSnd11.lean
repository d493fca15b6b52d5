/- An operation of the machine against the program's own: append and copy. -/
import Derived.Test.YtpkflnohagieiaaAmSnd10
set_option linter.unusedSimpArgs false
set_option linter.unusedVariables false
namespace Go.Am
open Go Go.RowKit

section
variable {P : Program} {E : Emb} {M : Mem} {w : World}

theorem lenOf_rel {x : V} {x' : Value} (hx : VR E x x') {n : Nat} (h : srcLen x = some n) (w : World) : (Builtin.lenOf x').run P w = .ok n w := by
  cases x <;> simp only [srcLen, Option.some.injEq] at h <;> try (cases h; done)
  · subst h
    cases hx
    simp [Builtin.lenOf]
  · subst h
    cases hx <;> rfl

/-- The cells that are appended or copied. -/
theorem srcCells_rel (h : Rel E M w) {es n : Nat} {x : V} {x' : Value} (hx : VR E x x') {m : Nat} (hm : srcLen x = some m) (hn : n ≤ m) {l : List V} (hl : srcCells es M n x = some l) :
    ∃ us : List Value, VRs E l us ∧ (Builtin.firstCells es n x').run P w = .ok us.toArray w ∧ l.length = n * es := by
  unfold srcCells at hl
  split at hl
  · cases hl
    simp only [srcLen, Option.some.injEq] at hm
    subst hm
    cases hx
    refine ⟨[], .nil, rfl, ?_⟩
    rw [show n = 0 from by omega]
    simp
  · rename_i b o len cap
    simp only [srcLen, Option.some.injEq] at hm
    subst hm
    rw [Bool.cond_eq_ite] at hl
    split at hl
    · rename_i h0
      have h0 : n = 0 := Nat.eq_of_beq_eq_true h0
      subst h0
      cases hl
      refine ⟨[], .nil, ?_, by simp⟩
      cases hx <;> (simp only [Builtin.firstCells, Nat.zero_mul]; rfl)
    · rename_i h0
      cases hx with
      | slice hE hc hn' =>
        obtain ⟨us, hus, hr⟩ := h.readCells (P := P) hE hl
        obtain ⟨cs, ro, _, hlen, rfl⟩ := Mem.read_some hl
        exact ⟨us, hus, hr, by simp; omega⟩
      | sliceZero hE hs hz =>
        exact absurd (show Nat.beq n 0 = true from by rw [show n = 0 from by omega]; rfl) h0
  · rename_i s
    obtain ⟨hes, hl⟩ := cond_some hl
    have := Nat.eq_of_beq_eq_true hes
    subst this
    cases hl
    simp only [srcLen, Option.some.injEq] at hm
    subst hm
    cases hx
    rename_i s
    refine ⟨(s.data.toList.take n).map fun c => .int .u8 (c.toNat : Int), ?_, ?_, ?_⟩
    · exact VRs.map _ _ rfl fun i x y h1 h2 => by rw [h1] at h2; cases h2; exact .int _ _
    · simp only [Builtin.firstCells, Sem.run_pure]
      congr 1
      apply Array.ext'
      simp [List.extract]
    · simp at hn ⊢
      omega
  · cases hl

theorem nextcap_le {need old : Nat} (h : old < need) : Builtin.nextslicecap need old ≤ 3 * need := by
  unfold Builtin.nextslicecap
  split
  · omega
  · split
    · omega
    · rename_i h1 h2
      have key : ∀ (r c : Nat), c ≤ 3 * need → 256 ≤ need → Builtin.growBy need r c ≤ 3 * need := by
        intro r
        induction r with
        | zero => intro c hc _; simpa [Builtin.growBy] using hc
        | succ r ih =>
          intro c hc h3
          simp only [Builtin.growBy]
          split
          · exact hc
          · exact ih _ (by omega) h3
      exact key 4 old (by omega) (by omega)

/-- A row that has grown: old cells, new ones, and room behind. -/
theorem grow_rel (h : Rel E M w) {cs : List V} {us : List Value} (hv : VRs E cs us) (rest : Array Value) (elem : TypeId) :
    Rel (E.more M.next (w.heap.size, 0, us.length + rest.size)) (M.push (.cells cs false)) (w.alloc (.cells (us.toArray ++ rest) elem)) ∧
    Ext E M w (E.more M.next (w.heap.size, 0, us.length + rest.size)) (M.push (.cells cs false)) (w.alloc (.cells (us.toArray ++ rest) elem)) := by
  apply h.alloc
  refine ⟨us.toArray ++ rest, elem, (0, 0), rfl, ?_, by simp, fun _ i _ => by simp⟩
  intro i v hi
  obtain ⟨u, hu, hvu⟩ := hv.get i v hi
  refine ⟨u, ?_, hvu.mono (Emb.more_le (h.fresh (Nat.le_refl _)))⟩
  have hlt := (List.getElem?_eq_some_iff.1 hu).1
  rw [Nat.zero_add, Array.getElem?_append_left (by simpa using hlt)]
  simpa using hu

/-- A row that came to its end, and grows: either where it lies, or elsewhere. The old block is no longer looked at. -/
theorem Rel.kill (h : Rel E M w) {b : Nat} (ho : own M b) : Rel E (M.set b .dead) w ∧ Ext E M w E (M.set b .dead) w := by
  refine ⟨⟨?_, h.lt, ?_, ?_⟩, ⟨Emb.le_refl E, rfl, rfl, rfl, Nat.le_refl _, Nat.le_refl _, fun _ _ _ => rfl, fun b c d k h1 h2 => by (rw [h1] at h2; cases h2), ?_⟩⟩
  · intro b1 c d k hb
    by_cases e : b1 = b
    · subst e; exact ⟨.dead, Mem.get_set_same _ _ _, trivial⟩
    · obtain ⟨o, h1, h2⟩ := h.at_ b1 c d k hb
      exact ⟨o, by rw [Mem.get_set_ne _ _ e]; exact h1, h2⟩
  · intro b1 b2 c d k d' k' h1 h2 h3 hne
    have e1 : b1 ≠ b := by
      rintro rfl
      unfold own at h3
      rw [Mem.get_set_same] at h3
      exact h3
    by_cases e2 : b2 = b
    · subst e2; exact Mem.get_set_same _ _ _
    · rw [Mem.get_set_ne _ _ e2]
      refine h.inj b1 b2 c d k d' k' h1 h2 ?_ hne
      unfold own at h3 ⊢
      rwa [Mem.get_set_ne _ _ e1] at h3
  · intro b1 hb1
    have : b1 ≠ b := by
      have := own_lt h ho
      simp at hb1
      omega
    rw [Mem.get_set_ne _ _ this]
    exact h.wf b1 hb1
  · intro b1 hr
    have : b1 ≠ b := fun e => own_not_ro ho (e ▸ hr)
    rw [Mem.get_set_ne _ _ this]

/-- A new block of the machine's over a block of the world whose elder ones are no longer looked at. -/
theorem Rel.adopt (h : Rel E M w) {b0 c d0 k0 : Nat} (hE : E b0 = some (c, d0, k0)) (hdead : ∀ b d k, E b = some (c, d, k) → M.get b = some .dead) {o : O} {d k : Nat} {x' : Obj} {w' : World} (hos : w'.os = w.os) (htp : w'.tape = w.tape) (hou : w'.output = w.output)
    (hsz : w'.heap.size = w.heap.size) (hat : w'.heap[c]? = some x') (hoth : ∀ i, i ≠ c → w'.heap[i]? = w.heap[i]?) (hr : OR (E.more M.next (c, d, k)) o (some x') d k) :
    Rel (E.more M.next (c, d, k)) (M.push o) w' ∧ Ext E M w (E.more M.next (c, d, k)) (M.push o) w' := by
  have hf := h.fresh (Nat.le_refl M.next)
  have hle : Emb.le E (E.more M.next (c, d, k)) := Emb.more_le hf
  have hc := h.lt b0 c d0 k0 hE
  refine ⟨⟨?_, ?_, ?_, ?_⟩, ⟨hle, hos, htp, hou, by omega, by simp, ?_, ?_, ?_⟩⟩
  · intro b c1 d1 k1 hb
    by_cases e : b = M.next
    · subst e
      rw [Emb.more_same] at hb
      cases hb
      exact ⟨o, Mem.get_push_same _ _, by rw [hat]; exact hr⟩
    · rw [Emb.more_ne _ _ e] at hb
      obtain ⟨o', ho', hr'⟩ := h.at_ b c1 d1 k1 hb
      refine ⟨o', by rw [Mem.get_push_ne _ _ e]; exact ho', ?_⟩
      by_cases ec : c1 = c
      · subst ec
        rw [hdead b d1 k1 hb] at ho'
        cases ho'
        trivial
      · rw [hoth _ ec]; exact hr'.mono hle
  · intro b c1 d1 k1 hb
    rw [hsz]
    by_cases e : b = M.next
    · subst e
      rw [Emb.more_same] at hb
      cases hb
      exact hc
    · rw [Emb.more_ne _ _ e] at hb
      exact h.lt b c1 d1 k1 hb
  · intro b b' c1 d1 k1 d2 k2 hb hb' ho hne
    have dead_not : ∀ b, M.get b = some .dead → b ≠ M.next → own (M.push o) b → False := by
      intro b hd hn hh
      unfold own at hh
      rw [Mem.get_push_ne _ _ hn, hd] at hh
      exact hh
    by_cases e : b = M.next
    · subst e
      rw [Emb.more_same] at hb
      cases hb
      rw [Emb.more_ne _ _ hne] at hb'
      rw [Mem.get_push_ne _ _ hne]
      exact hdead b' _ _ hb'
    · rw [Emb.more_ne _ _ e] at hb
      by_cases e' : b' = M.next
      · subst e'
        rw [Emb.more_same] at hb'
        cases hb'
        exact (dead_not b (hdead b _ _ hb) e ho).elim
      · rw [Emb.more_ne _ _ e'] at hb'
        rw [Mem.get_push_ne _ _ e']
        refine h.inj b b' c1 d1 k1 d2 k2 hb hb' ?_ hne
        unfold own at ho ⊢
        rwa [Mem.get_push_ne _ _ e] at ho
  · intro b hb
    simp only [Mem.next_push] at hb
    rw [Mem.get_push_ne _ _ (by omega)]
    exact h.wf b (by omega)
  · intro i hi hro
    apply hoth
    rintro rfl
    obtain ⟨cs, hcs⟩ := hro b0 d0 k0 hE
    rw [hdead b0 _ _ hE] at hcs
    cases hcs
  · intro b c1 d1 k1 hb hb'
    by_cases e : b = M.next
    · subst e
      rw [Emb.more_same] at hb'
      cases hb'
      refine ⟨Nat.le_refl _, .inr ⟨b0, d0, k0, hE, ?_⟩⟩
      rintro ⟨cs, hcs⟩
      rw [hdead b0 _ _ hE] at hcs
      cases hcs
    · rw [Emb.more_ne _ _ e, hb] at hb'
      cases hb'
  · intro b hb
    have : b ≠ M.next := by
      rintro rfl
      obtain ⟨cs, hcs⟩ := hb
      rw [h.wf _ (Nat.le_refl _)] at hcs
      cases hcs
    exact Mem.get_push_ne _ _ this

/-- What 'append' comes to. -/
def AppOk (P : Program) (E : Emb) (M : Mem) (w : World) (s : Sem Value) (v : V) (M' : Mem) : Prop :=
  ∃ E' v' w', s.run P w = .ok v' w' ∧ VR E' v v' ∧ Rel E' M' w' ∧ Ext E M w E' M' w'

set_option maxHeartbeats 2000000 in
theorem append_rel (h : Rel E M w) {ta tb ty e : TypeId} (hu : P.underlying ta = some (.slice e)) {d2 : TypeDesc} (hu2 : P.underlying tb = some d2) (hni : ∀ k, d2 ≠ .int k) {es bytes : Nat} (hs : szE P e = some es) (hby : bytesE P e = some bytes) {z : V} (hz : zeroE P e = some z)
    (he0 : es ≠ 0) (hb0 : bytes ≠ 0) (hzl : z.cells.length = es) {s x v : V} {s' x' : Value} (hsr : VR E s s') (hxr : VR E x x') {M' : Mem} (hv : vappend es bytes M s x = some (v, M')) :
    AppOk P E M w (Builtin.append_ #[ta, tb] ty #[s', x']) v M' := by
  unfold vappend at hv
  simp only [Option.bind_eq_some_iff] at hv
  obtain ⟨n, hn, new, hnew, hv⟩ := hv
  obtain ⟨us, hus, hfr, hnl⟩ := srcCells_rel (P := P) h hxr hn (Nat.le_refl n) hnew
  have hlen := lenOf_rel (P := P) hxr hn
  obtain ⟨z', hz', hzr⟩ := zeroV_rel (P := P) (E := E) hz
  have hzs : z'.cells.size = es := by have := hz'.cells.length; simp only [Array.length_toList] at this; omega
  have hun : us.length = n * es := by rw [← hus.length]; exact hnl
  have hti : ∃ ti, P.info? e = some ti ∧ ti.size = es ∧ ti.bytes = bytes := by
    simp only [szE, bytesE, Option.map_eq_some_iff] at hs hby
    obtain ⟨ti, h1, h2⟩ := hs
    obtain ⟨tj, h3, h4⟩ := hby
    rw [h1] at h3
    cases h3
    exact ⟨ti, h1, h2, h4⟩
  obtain ⟨ti, hti1, hti2, hti3⟩ := hti
  -- where there is room
  have room : ∀ (base : Option Addr) (len cap : Nat), len + n ≤ cap → ∀ (w1 : World),
      (match base with | some a => (storeCells (a.add (len * es)) us).run P w = .ok () w1 | none => w1 = w) →
      (Builtin.append_ #[ta, tb] ty #[.slice base len cap, x']).run P w = .ok (.slice base (len + n) cap) w1 := by
    intro base len cap hc w1 hw1
    simp only [Builtin.append_, List.getElem?_toArray, List.getElem?_cons_zero, List.getElem?_cons_succ, Sem.run_bind, run_underlying hu, run_underlying hu2, Result.andThen_ok, run_sizeOf' hs, Sem.run_pure]
    simp only [Bool.false_eq_true, if_false, Bool.not_false, if_true, Sem.run_bind, hlen, Result.andThen_ok, if_pos hc, hfr]
    cases base with
    | none => subst hw1; rfl
    | some a =>
      simp only at hw1
      simp only [Sem.run_bind, List.toList_toArray, hw1, Result.andThen_ok, Sem.run_pure]
  -- where there is none
  have grow : ∀ (base : Option Addr) (len cap : Nat) (olds us : List Value), ¬ (len + n ≤ cap) → (len + n) * bytes ≤ maxRoom → olds.length = len * es →
      (Builtin.firstCells es len (.slice base len cap)).run P w.drew = .ok olds.toArray w.drew → (Builtin.firstCells es n x').run P w.drew = .ok us.toArray w.drew →
      ∃ (m : Nat) (rest : Array Value), len + n ≤ m ∧ rest.size = (m - (len + n)) * es ∧
        (Builtin.append_ #[ta, tb] ty #[.slice base len cap, x']).run P w = .ok (.slice (some ⟨w.heap.size, 0, none⟩) (len + n) m) (w.drew.alloc (.cells ((olds ++ us).toArray ++ rest) e)) := by
    intro base len cap olds us hc hroom ho hof hnf
    refine ⟨(Question.appendCap (len + n) cap e).cut (w.tape w.drawn (.appendCap (len + n) cap e)), Builtin.zeroCells z'.cells ((Question.appendCap (len + n) cap e).cut (w.tape w.drawn (.appendCap (len + n) cap e)) - (len + n)), ?_, ?_, ?_⟩
    · simp only [Question.cut]; omega
    · simp [Builtin.zeroCells, hzs]
    · have hpos : 0 < bytes := Nat.pos_of_ne_zero hb0
      have hle : len + n ≤ maxRoom := Nat.le_trans (Nat.le_mul_of_pos_right _ hpos) hroom
      have c1 : ¬ (((len + n : Nat) : Int) > IntKind.max .i64 ∧ (false = true ∨ ti.bytes = 0)) := by
        rintro ⟨_, h1 | h1⟩
        · cases h1
        · omega
      have c2 : ¬ (Builtin.nextslicecap (len + n) cap * ti.bytes > 2 ^ 48) := by
        have h3 := nextcap_le (need := len + n) (old := cap) (by omega)
        have h4 : Builtin.nextslicecap (len + n) cap * ti.bytes ≤ 3 * (len + n) * ti.bytes := Nat.mul_le_mul_right _ h3
        rw [hti3] at h4 ⊢
        have h5 : 3 * (len + n) * bytes = 3 * ((len + n) * bytes) := Nat.mul_assoc ..
        unfold maxRoom at hroom
        omega
      have hinfo : ∀ w : World, (typeInfo e).run P w = .ok ti w := fun w => by simp [typeInfo, hti1]
      have hforced : (Question.appendCap (len + n) cap e).forced = false := rfl
      simp only [Builtin.append_, List.getElem?_toArray, List.getElem?_cons_zero, List.getElem?_cons_succ, Sem.run_bind, run_underlying hu, run_underlying hu2, Result.andThen_ok, run_sizeOf' hs, Sem.run_pure]
      simp only [Bool.false_eq_true, if_false, Bool.not_false, if_true, Sem.run_bind, hlen, Result.andThen_ok, if_neg hc, hinfo]
      rw [if_neg (by simpa using c1)]
      simp only [Sem.run_bind, hinfo, Result.andThen_ok]
      rw [if_neg c2]
      simp only [Sem.run_bind, run_choose, hforced, Bool.false_eq_true, if_false, Result.andThen_ok, hinfo, run_askRoom]
      rw [show ({ w with drawn := w.drawn + 1 } : World) = w.drew from rfl]
      simp only [hof, Result.andThen_ok, Sem.run_bind, hnf, hzr, newRow, run_newObj, Sem.run_pure]
      simp only [List.append_toArray]
      rfl
  have hle : 0 < es := Nat.pos_of_ne_zero he0
  obtain ⟨hd1, hd2⟩ := h.drew
  -- a new row
  have fresh : ∀ (base : Option Addr) (len cap : Nat) (old : List V) (olds : List Value), ¬ (len + n ≤ cap) → (len + n) * bytes ≤ maxRoom → VRs E old olds → olds.length = len * es →
      (Builtin.firstCells es len (.slice base len cap)).run P w.drew = .ok olds.toArray w.drew →
      AppOk P E M w (Builtin.append_ #[ta, tb] ty #[.slice base len cap, x']) (.slice (some (M.next, 0)) (len + n) (.upto es)) (M.push (.cells (old ++ new) false)) := by
    intro base len cap old olds hc hroom hor ho hof
    obtain ⟨us2, hus2, hfr2, _⟩ := srcCells_rel (P := P) hd1 hxr hn (Nat.le_refl n) hnew
    have hun2 : us2.length = n * es := by rw [← hus2.length]; exact hnl
    obtain ⟨m, rest, hm, hrs, hrun⟩ := grow base len cap olds us2 hc hroom ho hof hfr2
    obtain ⟨hR, hX⟩ := grow_rel hd1 (hor.app hus2) rest e
    refine ⟨_, _, _, hrun, .slice (o := 0) (d := 0) (Emb.more_same _ _ _) ⟨hle, ?_⟩ hm, hR, hd2.trans hX⟩
    rw [List.length_append, ho, hun2, hrs, Nat.zero_add, ← Nat.add_mul, ← Nat.add_mul]
    congr 1
    omega
  have nothing : n = 0 → ∀ (base : Option Addr) (len cap : Nat), len ≤ cap → (Builtin.append_ #[ta, tb] ty #[.slice base len cap, x']).run P w = .ok (.slice base len cap) w := by
    intro h0 base len cap hc
    subst h0
    have hus0 : us = [] := List.eq_nil_of_length_eq_zero (by omega)
    subst hus0
    have := room base len cap (by omega) w (by cases base <;> rfl)
    exact this
  split at hv
  · -- a nil slice
    cases hsr
    rw [Bool.cond_eq_ite] at hv
    split at hv
    · rename_i h0
      cases hv
      exact ⟨E, _, w, nothing (Nat.eq_of_beq_eq_true h0) none 0 0 (Nat.le_refl _), .sliceNil, h, Ext.refl E M w⟩
    · rename_i h0
      obtain ⟨h1, hv⟩ := cond_some hv
      rw [ble_iff] at h1
      have h1 := of_decide_eq_true h1
      cases hv
      have h0 : n ≠ 0 := by rintro rfl; exact h0 rfl
      have := fresh none 0 0 [] [] (by omega) (by simpa using h1) .nil (by simp) (by rfl)
      simpa using this
  · -- a slice whose room is known
    rename_i b o len c
    rw [Bool.cond_eq_ite] at hv
    split at hv
    · rename_i h0
      have h0 := Nat.eq_of_beq_eq_true h0
      cases hv
      cases hsr with
      | slice hE hc hn' => exact ⟨E, _, w, nothing h0 _ _ _ hn', .slice hE hc hn', h, Ext.refl E M w⟩
      | sliceZero hE hsp hz => exact ⟨E, _, w, nothing h0 _ _ _ (Nat.le_refl _), .sliceZero hE hsp hz, h, Ext.refl E M w⟩
    · rename_i h0
      have h0 : n ≠ 0 := by rintro rfl; exact h0 rfl
      rw [Bool.cond_eq_ite] at hv
      split at hv
      · rename_i hcap
        rw [ble_iff] at hcap
        have hcap := of_decide_eq_true hcap
        simp only [Option.map_eq_some_iff] at hv
        obtain ⟨M1, hw, hv⟩ := hv
        cases hv
        cases hsr with
        | slice hE hc hn' =>
          rename_i cc d k c'
          have hc : c' = c := hc
          subst hc
          obtain ⟨w', hr, hR, hX⟩ := h.write (P := P) hE hus hw
          refine ⟨E, _, w', room _ _ _ hcap w' ?_, .slice hE rfl (by omega), hR, hX⟩
          simp only [addr_add, Nat.add_assoc]
          exact hr
        | sliceZero hE hsp hz =>
          have hz : c = 0 := hz
          omega
      · rename_i hcap
        rw [ble_iff] at hcap
        have hcap : ¬ (len + n ≤ c) := fun e => hcap (decide_eq_true e)
        obtain ⟨h1, hv⟩ := cond_some hv
        rw [ble_iff] at h1
        have h1 := of_decide_eq_true h1
        simp only [Option.map_eq_some_iff] at hv
        obtain ⟨old, hold, hv⟩ := hv
        cases hv
        cases hsr with
        | slice hE hc hn' =>
          rename_i cc d k c'
          have hc : c' = c := hc
          subst hc
          rw [Bool.cond_eq_ite] at hold
          split at hold
          · rename_i hl0
            have hl0 := Nat.eq_of_beq_eq_true hl0
            subst hl0
            cases hold
            have := fresh (some ⟨cc, d + o, none⟩) 0 c' [] [] hcap h1 .nil (by simp) (by simp [Builtin.firstCells]; rfl)
            simpa using this
          · obtain ⟨olds, hor, hor2⟩ := hd1.readCells (P := P) hE hold
            obtain ⟨cs, ro, _, hlen2, rfl⟩ := Mem.read_some hold
            exact fresh _ len c' _ olds hcap h1 hor (by rw [← hor.length]; simp; omega) hor2
        | @sliceZero _ _ cc d k _ a hE hsp hz =>
          have hz : c = 0 := hz
          subst hz
          rw [Bool.cond_eq_ite, if_pos (show Nat.beq 0 0 = true from rfl)] at hold
          cases hold
          have := fresh (some a) 0 0 [] [] hcap h1 .nil (by simp) (by simp [Builtin.firstCells]; rfl)
          simpa using this
  · -- a slice that reaches as far as its row
    rename_i b o len e'
    obtain ⟨hee, hv⟩ := cond_some hv
    have hee := Nat.eq_of_beq_eq_true hee
    subst hee
    rw [Bool.cond_eq_ite] at hv
    split at hv
    · rename_i h0
      have h0 := Nat.eq_of_beq_eq_true h0
      cases hv
      cases hsr with
      | slice hE hc hn' => exact ⟨E, _, w, nothing h0 _ _ _ hn', .slice hE hc hn', h, Ext.refl E M w⟩
      | sliceZero hE hsp hz => exact ⟨E, _, w, nothing h0 _ _ _ (Nat.le_refl _), .sliceZero hE hsp hz, h, Ext.refl E M w⟩
    · rename_i h0
      have h0 : n ≠ 0 := by rintro rfl; exact h0 rfl
      split at hv
      · rename_i cs hM
        have ho : own M b := by unfold own; rw [hM]; trivial
        rw [Bool.cond_eq_ite] at hv
        split at hv
        · rename_i htail
          rw [beq_iff] at htail
          have htail := of_decide_eq_true htail
          obtain ⟨h1, hv⟩ := cond_some hv
          rw [ble_iff] at h1
          have h1 := of_decide_eq_true h1
          obtain ⟨hall, hv⟩ := cond_some hv
          cases hv
          have hdrop : (cs.drop o).length = len * e' := by simp; omega
          -- elsewhere
          have elsewhere : ∀ (base : Addr) (cap : Nat) (olds : List Value), ¬ (len + n ≤ cap) → VRs E (cs.drop o) olds → (Builtin.firstCells e' len (.slice (some base) len cap)).run P w.drew = .ok olds.toArray w.drew →
              AppOk P E M w (Builtin.append_ #[ta, tb] ty #[.slice (some base) len cap, x']) (.slice (some (M.next, 0)) (len + n) (.upto e')) ((M.set b .dead).push (.cells (cs.drop o ++ new) false)) := by
            intro base cap olds hc hor hof
            obtain ⟨us2, hus2, hfr2, _⟩ := srcCells_rel (P := P) hd1 hxr hn (Nat.le_refl n) hnew
            have hun2 : us2.length = n * e' := by rw [← hus2.length]; exact hnl
            have ho2 : olds.length = len * e' := by rw [← hor.length]; exact hdrop
            obtain ⟨m, rest, hm, hrs, hrun⟩ := grow (some base) len cap olds us2 hc h1 ho2 hof hfr2
            obtain ⟨hk1, hk2⟩ := hd1.kill ho
            obtain ⟨hR, hX⟩ := grow_rel hk1 (hor.app hus2) rest e
            refine ⟨_, _, _, hrun, .slice (o := 0) (d := 0) (Emb.more_same _ _ _) ⟨hle, ?_⟩ hm, hR, (hd2.trans hk2).trans hX⟩
            rw [List.length_append, ho2, hun2, hrs, Nat.zero_add, ← Nat.add_mul, ← Nat.add_mul]
            congr 1
            omega
          cases hsr with
          | slice hE hc hn' =>
            rename_i cc d k c'
            obtain ⟨_, hk⟩ : 0 < e' ∧ o + c' * e' = k := hc
            by_cases hcap : len + n ≤ c'
            · -- where it lies
              obtain ⟨arr, elem, fz, hb, hcr, hdk, hfz⟩ := h.cells hE hM
              have hfit : d + (o + len * e') + us.length ≤ arr.size := by
                have : (len + n) * e' ≤ c' * e' := Nat.mul_le_mul_right _ hcap
                rw [Nat.add_mul] at this
                omega
              have hone : ∀ u ∈ us, oneValue u = true := allOne_mem hus hall
              obtain ⟨arr', w', hr, a1, a2, a3, a4, a5, a6, a7, a8⟩ := run_storeCells' (P := P) (o := d + (o + len * e')) us 0 arr w hb (by omega) (hfz rfl) hone
              obtain ⟨hk1, hk2⟩ := h.kill ho
              have hdead : ∀ b1 d1 k1, E b1 = some (cc, d1, k1) → (M.set b .dead).get b1 = some .dead := by
                intro b1 d1 k1 hb1
                by_cases e1 : b1 = b
                · subst e1; exact Mem.get_set_same _ _ _
                · rw [Mem.get_set_ne _ _ e1]
                  exact h.inj b b1 cc d k d1 k1 hE hb1 ho e1
              have hOR : OR (E.more M.next (cc, d + o, k - o)) (.cells (cs.drop o ++ new) false) (some (.cells arr' elem fz)) (d + o) (k - o) := by
                have hmono := Emb.more_le (x := (cc, d + o, k - o)) (h.fresh (Nat.le_refl M.next))
                refine ⟨arr', elem, fz, rfl, ?_, by rw [a7]; omega, fun _ => by rw [a7]; exact hfz rfl⟩
                intro i v hi
                rw [a8]
                by_cases hi1 : i < (cs.drop o).length
                · rw [List.getElem?_append_left hi1, List.getElem?_drop] at hi
                  rw [if_neg (by omega)]
                  obtain ⟨u, hu', hvu⟩ := hcr (o + i) v hi
                  exact ⟨u, by rw [← hu']; congr 1; omega, hvu.mono hmono⟩
                · rw [List.getElem?_append_right (by omega)] at hi
                  have hi2 := (List.getElem?_eq_some_iff.1 hi).1
                  obtain ⟨u, hu', hvu⟩ := hus.get _ v hi
                  have hul := hus.length
                  rw [if_pos (by omega)]
                  exact ⟨u, by rw [← hu']; congr 1; omega, hvu.mono hmono⟩
              obtain ⟨hR, hX⟩ := hk1.adopt (c := cc) (d0 := d) (k0 := k) hE hdead a1 a2 a3 a4 a5 a6 hOR
              refine ⟨_, _, w', room _ _ _ hcap w' ?_, ?_, hR, hk2.trans hX⟩
              · simp only [addr_add, Nat.add_assoc]
                exact hr
              · exact .slice (o := 0) (Emb.more_same _ _ _) ⟨hle, by omega⟩ hcap
            · -- elsewhere
              have hread : M.read b o (len * e') = some (cs.drop o) := by
                unfold Mem.read
                rw [hM]
                simp only [rdCells, ble_iff]
                rw [decide_eq_true (by omega), cond_true, List.take_of_length_le (by omega)]
              obtain ⟨olds, hor, hor2⟩ := hd1.readCells (P := P) hE hread
              exact elsewhere _ c' olds hcap hor hor2
          | @sliceZero _ _ cc d k _ a hE hsp hz =>
            have hd0 : cs.drop o = [] := List.eq_nil_of_length_eq_zero (by omega)
            exact elsewhere a 0 [] (by omega) (by rw [hd0]; exact .nil) (by simp [Builtin.firstCells]; rfl)
        · rename_i htail
          obtain ⟨hpre, hv⟩ := cond_some hv
          rw [ble_iff] at hpre
          have hpre := of_decide_eq_true hpre
          simp only [Option.map_eq_some_iff] at hv
          obtain ⟨M1, hw, hv⟩ := hv
          cases hv
          cases hsr with
          | slice hE hc hn' =>
            rename_i cc d k c'
            obtain ⟨he1, hk⟩ : 0 < e' ∧ o + c' * e' = k := hc
            obtain ⟨arr, elem, fz, hb, hcr, hdk, hfz⟩ := h.cells hE hM
            have hck : cs.length ≤ k := by
              by_cases hz : cs.length = 0
              · omega
              · obtain ⟨u, hu', _⟩ := hcr (cs.length - 1) (cs[cs.length - 1]'(by omega)) (by simp)
                have := (Array.getElem?_eq_some_iff.1 hu').1
                omega
            have hcap : len + n ≤ c' := by
              have : (len + n) * e' ≤ c' * e' := by omega
              exact Nat.le_of_mul_le_mul_right this he1
            obtain ⟨w', hr, hR, hX⟩ := h.write (P := P) hE hus hw
            refine ⟨E, _, w', room _ _ _ hcap w' ?_, .slice hE ⟨he1, hk⟩ hcap, hR, hX⟩
            simp only [addr_add, Nat.add_assoc]
            exact hr
          | @sliceZero _ _ cc d k _ a hE hsp hz =>
            have hz : k ≤ o := hz
            obtain ⟨arr, elem, fz, hb, hcr, hdk, hfz⟩ := h.cells hE hM
            have hpos : 0 < n * e' := Nat.mul_pos (by omega) hle
            have hlt : o < cs.length := by rw [Nat.zero_add] at hpre; omega
            obtain ⟨u, hu', _⟩ := hcr (cs.length - 1) (cs[cs.length - 1]'(by omega)) (by simp)
            have := (Array.getElem?_eq_some_iff.1 hu').1
            omega
      · cases hv
  · cases hv
end
end Go.Am
