/- An operation of the machine against the program's own: parts, slices, places. -/
import Derived.Test.YtpkflnohagieiaaAmSnd3
set_option linter.unusedSimpArgs false
set_option linter.unusedVariables false
namespace Go.Am
open Go Go.RowKit

theorem cond_some {α : Type} {c : Bool} {a : Option α} {b : α} (h : cond c a none = some b) : c = true ∧ a = some b := by
  cases c
  · cases h
  · exact ⟨rfl, h⟩

section
variable {P : Program} {E : Emb} {w : World}

theorem un_rel {op : UnOp} {x v : V} {x' : Value} (hx : VR E x x') (h : vun op x = some v) : PureV P E w (Op.unary op x') v := by
  cases op <;> cases x <;> simp [vun] at h <;> subst h <;> cases hx
  · exact ⟨_, .int _ _, by simp [Op.unary, Op.intArith]⟩
  · exact ⟨_, .bool _, by simp [Op.unary]⟩

theorem rdCells_some {cs : List V} {o n : Nat} {l : List V} (h : rdCells cs o n = some l) : o + n ≤ cs.length ∧ l = (cs.drop o).take n := by
  obtain ⟨h1, h2⟩ := cond_some h
  rw [ble_iff] at h1
  exact ⟨of_decide_eq_true h1, (Option.some.inj h2).symm⟩

/-- What 'ldE' tells of a type. -/
theorem ldE_some {t : TypeId} {n : Option Nat} (h : ldE P t = some n) : ∃ d, P.underlying t = some d ∧ ((aggD d = true ∧ ∃ k, n = some k ∧ szE P t = some k) ∨ (aggD d = false ∧ n = none)) := by
  unfold ldE at h
  split at h
  · rename_i hu
    simp only [Option.map_eq_some_iff] at h
    obtain ⟨k, hk, rfl⟩ := h
    exact ⟨_, hu, .inl ⟨rfl, k, rfl, hk⟩⟩
  · rename_i hu
    simp only [Option.map_eq_some_iff] at h
    obtain ⟨k, hk, rfl⟩ := h
    exact ⟨_, hu, .inl ⟨rfl, k, rfl, hk⟩⟩
  · rename_i d hn1 hn2 hu
    cases h
    refine ⟨d, hu, .inr ⟨?_, rfl⟩⟩
    cases d <;> first | rfl | exact absurd rfl (hn1 _) | exact absurd rfl (hn2 _ _)
  · cases h

theorem part_rel {t : TypeId} {n : Option Nat} (hl : ldE P t = some n) {cs : List V} {cs' : Array Value} (hc : VRs E cs cs'.toList) {off : Nat} {v : V} (h : partOf cs off n = some v) :
    PureV P E w (part t cs' off) v := by
  obtain ⟨d, hu, hh⟩ := ldE_some hl
  rcases hh with ⟨ha, k, rfl, hk⟩ | ⟨ha, rfl⟩
  · simp only [partOf, Option.map_eq_some_iff] at h
    obtain ⟨l, hl, rfl⟩ := h
    obtain ⟨hb, rfl⟩ := rdCells_some hl
    refine ⟨.agg (cs'.extract off (off + k)), .agg ?_, ?_⟩
    · rw [Array.toList_extract]
      simpa [List.extract] using (hc.drop off).take k
    · simp only [part, Sem.run_bind, run_isAgg hu, Result.andThen_ok, ha, if_true, run_sizeOf' hk, Sem.run_pure]
  · simp only [partOf] at h
    obtain ⟨u, hu', hv⟩ := hc.get off v h
    refine ⟨u, hv, ?_⟩
    have : cs'[off]? = some u := by simpa using hu'
    simp only [part, Sem.run_bind, run_isAgg hu, Result.andThen_ok, ha, Bool.false_eq_true, if_false, this, Sem.run_pure]

/-! ### making an aggregate -/
theorem wrCells_length : ∀ (cs : List V) (o : Nat) (vs : List V), (wrCells cs o vs).length = cs.length
  | cs, _, [] => by cases cs <;> simp [wrCells]
  | [], _, _ :: _ => rfl
  | _ :: cs, 0, v :: vs => by simp [wrCells, wrCells_length cs 0 vs]
  | c :: cs, o + 1, v :: vs => by simp [wrCells, wrCells_length cs o (v :: vs)]
theorem wrCells_get : ∀ (cs : List V) (o : Nat) (vs : List V) (i : Nat), o + vs.length ≤ cs.length → (wrCells cs o vs)[i]? = if o ≤ i ∧ i < o + vs.length then vs[i - o]? else cs[i]?
  | cs, o, [], i, _ => by
    have : wrCells cs o [] = cs := by cases cs <;> rfl
    rw [this, if_neg (by simp only [List.length_nil]; omega)]
  | [], _, _ :: _, _, h => by simp at h
  | c :: cs, 0, v :: vs, i, h => by
    simp only [wrCells]
    cases i with
    | zero => simp
    | succ i =>
      have ih := wrCells_get cs 0 vs i (by simp at h; simpa using h)
      simp only [List.getElem?_cons_succ, ih, Nat.zero_add, Nat.zero_le, true_and, List.length_cons, Nat.sub_zero]
      by_cases hi : i < vs.length
      · rw [if_pos hi, if_pos (by omega)]
      · rw [if_neg hi, if_neg (by omega)]
  | c :: cs, o + 1, v :: vs, i, h => by
    simp only [wrCells]
    cases i with
    | zero => simp
    | succ i =>
      have ih := wrCells_get cs o (v :: vs) i (by simp at h ⊢; omega)
      simp only [List.getElem?_cons_succ, ih]
      by_cases hi : o ≤ i ∧ i < o + (v :: vs).length
      · rw [if_pos hi, if_pos (by omega)]
        congr 1
        omega
      · rw [if_neg hi, if_neg (by omega)]

/-- The model's own way of putting a part into an aggregate. -/
theorem foldl_set_get (off : Nat) : ∀ (l : List Value) (j : Nat) (cs : Array Value), off + j + l.length ≤ cs.size →
    ∀ i, ((l.zipIdx j).foldl (fun cs (p : Value × Nat) => cs.setIfInBounds (off + p.2) p.1) cs)[i]? = if off + j ≤ i ∧ i < off + j + l.length then l[i - (off + j)]? else cs[i]?
  | [], j, cs, _, i => by simp; omega
  | u :: l, j, cs, h, i => by
    simp only [List.zipIdx_cons, List.foldl_cons]
    rw [foldl_set_get off l (j + 1) _ (by simp at h ⊢; omega) i]
    simp only [List.length_cons] at h ⊢
    by_cases h1 : off + (j + 1) ≤ i ∧ i < off + (j + 1) + l.length
    · rw [if_pos h1, if_pos (by omega)]
      rw [show i - (off + j) = (i - (off + (j + 1))) + 1 from by omega, List.getElem?_cons_succ]
    · rw [if_neg h1]
      by_cases h2 : i = off + j
      · subst h2
        rw [if_pos (by omega), Array.getElem?_setIfInBounds_self_of_lt (by omega)]
        simp
      · rw [if_neg (by omega), Array.getElem?_setIfInBounds_ne (by omega)]

theorem fill_size (off : Nat) : ∀ (l : List (Value × Nat)) (cs : Array Value), (l.foldl (fun cs (p : Value × Nat) => cs.setIfInBounds (off + p.2) p.1) cs).size = cs.size
  | [], _ => rfl
  | p :: l, cs => by simp [fill_size off l]

theorem fill_rel {place : Nat → Option (Nat × Nat)} {gl : Nat → Bool} {ρ : Opd → V} {ρ' : Operand → Value} (hρ : ROK gl E ρ ρ') :
    ∀ {ps : List (Nat × Operand)} {qs : List (Nat × Nat × Opd)} {cs out : List V} {cs' : Array Value}, cParts gl place ps = some qs → VRs E cs cs'.toList →
      fillCells cs (qs.map fun p => (p.1, p.2.1, ρ p.2.2)) = some out → ∃ out', Instr.fill place cs' (ps.map fun p => (p.1, ρ' p.2)) = some out' ∧ VRs E out out'.toList
  | [], qs, cs, out, cs', hq, hc, h => by
    simp only [cParts, Option.some.injEq] at hq
    subst hq
    simp only [List.map_nil, fillCells, Option.some.injEq] at h
    subst h
    exact ⟨cs', rfl, hc⟩
  | (i, x) :: ps, qs, cs, out, cs', hq, hc, h => by
    simp only [cParts, Option.bind_eq_some_iff, Option.map_eq_some_iff] at hq
    obtain ⟨⟨off, n⟩, hp, y, hy, rs, hr, rfl⟩ := hq
    simp only [List.map_cons, fillCells] at h
    obtain ⟨h1, h⟩ := cond_some h
    obtain ⟨h2, h⟩ := cond_some h
    rw [beq_iff] at h1
    rw [ble_iff] at h2
    have h1 := of_decide_eq_true h1
    have h2 := of_decide_eq_true h2
    have hv := hρ.1 x y hy
    have hcell := hv.cells
    have hlen := hcell.length
    have hcl := hc.length
    simp only [Array.length_toList] at hlen hcl
    have hc2 : VRs E (wrCells cs off (ρ y).cells) ((ρ' x).cells.zipIdx.foldl (fun cs (p : Value × Nat) => cs.setIfInBounds (off + p.2) p.1) cs').toList := by
      rw [← Array.foldl_toList, Array.toList_zipIdx]
      apply VRs.of_get
      · rw [wrCells_length, hcl]
        exact (Array.length_toList.trans (fill_size off _ _)).symm
      · intro j v hj
        rw [wrCells_get _ _ _ _ (by omega)] at hj
        have hf := foldl_set_get off (ρ' x).cells.toList 0 cs' (by simp; omega) j
        rw [Nat.add_zero] at hf
        rw [Array.getElem?_toList, hf]
        simp only [Array.length_toList]
        by_cases hin : off ≤ j ∧ j < off + (ρ y).cells.length
        · rw [if_pos hin] at hj
          rw [if_pos (by omega)]
          exact hcell.get _ v hj
        · rw [if_neg hin] at hj
          rw [if_neg (by omega)]
          simpa using hc.get _ v hj
    obtain ⟨out', ho, hv'⟩ := fill_rel hρ hr hc2 h
    refine ⟨out', ?_, hv'⟩
    simp only [List.map_cons, Instr.fill, hp]
    rw [if_neg (by simp; omega)]
    exact ho

/-! ### places -/
theorem addr_add (c o n : Nat) : (Addr.add ⟨c, o, none⟩ n) = ⟨c, o + n, none⟩ := by
  unfold Addr.add
  split
  · rename_i h; subst h; rfl
  · rfl

theorem asNat_rel {x : V} {x' : Value} (hx : VR E x x') {n : Nat} (h : asNat x = some n) : ∃ k, x' = .int k n := by
  unfold asNat at h
  split at h
  · cases h; cases hx; exact ⟨_, rfl⟩
  · cases h

theorem run_bound {x : V} {x' : Value} (hx : VR E x x') {n y : Nat} (h : asNat x = some n) (hn : n ≤ y) (code : BoundsCode) : (Instr.sliceBound x' y code).run P w = .ok n w := by
  obtain ⟨k, rfl⟩ := asNat_rel hx h
  simp only [Instr.sliceBound, asIntOf, Sem.run_bind, Sem.run_pure, Result.andThen_ok]
  rw [if_pos (by omega)]
  simp

/-- A bound that may be left out. -/
def OptR (E : Emb) (x' : Option Value) (n : Option Nat) : Prop := (x' = none ∧ n = none) ∨ ∃ x u k, x' = some u ∧ n = some k ∧ VR E x u ∧ asNat x = some k
/-- The three bounds of a slice expression. -/
theorem run_bounds (isSlice : Bool) {lo' hi' mx' : Option Value} {l h m : Option Nat} (len cap : Nat)
    (hlo : OptR E lo' l) (hhi : OptR E hi' h) (hmx : OptR E mx' m)
    (h1 : m.getD cap ≤ cap) (h2 : h.getD len ≤ m.getD cap) (h3 : l.getD 0 ≤ h.getD len) (hmh : m ≠ none → h ≠ none) :
    (Instr.sliceBounds isSlice len cap lo' hi' mx').run P w = .ok (l.getD 0, h.getD len, m.getD cap) w := by
  rcases hmx with ⟨rfl, rfl⟩ | ⟨x1, u1, k1, rfl, rfl, v1, a1⟩
  · rcases hhi with ⟨rfl, rfl⟩ | ⟨x2, u2, k2, rfl, rfl, v2, a2⟩ <;> rcases hlo with ⟨rfl, rfl⟩ | ⟨x3, u3, k3, rfl, rfl, v3, a3⟩ <;>
      simp only [Option.getD_some, Option.getD_none] at h1 h2 h3 <;> simp only [Instr.sliceBounds, Sem.run_bind, Sem.run_pure, Result.andThen_ok, Option.getD_some, Option.getD_none]
    · rw [run_bound v3 a3 h3]; rfl
    · rw [run_bound v2 a2 h2]; rfl
    · rw [run_bound v2 a2 h2]; simp only [Result.andThen_ok, Sem.run_bind]; rw [run_bound v3 a3 h3]; rfl
  · rcases hhi with ⟨rfl, rfl⟩ | ⟨x2, u2, k2, rfl, rfl, v2, a2⟩
    · exact absurd rfl (hmh (fun e => by cases e))
    · rcases hlo with ⟨rfl, rfl⟩ | ⟨x3, u3, k3, rfl, rfl, v3, a3⟩ <;>
        simp only [Option.getD_some, Option.getD_none] at h1 h2 h3 <;> simp only [Instr.sliceBounds, Sem.run_bind, Sem.run_pure, Result.andThen_ok, Option.getD_some, Option.getD_none]
      · rw [run_bound v1 a1 h1]; simp only [Result.andThen_ok, Sem.run_bind]; rw [run_bound v2 a2 h2]; rfl
      · rw [run_bound v1 a1 h1]; simp only [Result.andThen_ok, Sem.run_bind]; rw [run_bound v2 a2 h2]; simp only [Result.andThen_ok, Sem.run_bind]; rw [run_bound v3 a3 h3]; rfl
end
end Go.Am
