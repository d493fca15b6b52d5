/- An operation of the machine against the program's own: looks at memory, and all that changes nothing. -/
import Derived.Test.YtpkflnohagieiaaAmSnd4
import Derived.Laws.Cells
set_option linter.unusedSimpArgs false
set_option linter.unusedVariables false
namespace Go.Am
open Go Go.RowKit

section
variable {P : Program} {E : Emb} {M : Mem} {w : World}

theorem Rel.cells (h : Rel E M w) {b c d k : Nat} {cs : List V} {ro : Bool} (hE : E b = some (c, d, k)) (hM : M.get b = some (.cells cs ro)) :
    ∃ arr elem fz, w.heap[c]? = some (.cells arr elem fz) ∧ CR E cs arr d ∧ d + k = arr.size ∧ (ro = false → Free fz arr.size) := by
  obtain ⟨o, ho, hr⟩ := h.at_ b c d k hE
  rw [hM] at ho
  cases ho
  exact hr
theorem Rel.cell (h : Rel E M w) {b c d k i : Nat} {cs : List V} {ro : Bool} {v : V} (hE : E b = some (c, d, k)) (hM : M.get b = some (.cells cs ro)) (hi : cs[i]? = some v) :
    ∃ u, w.cell? ⟨c, d + i, none⟩ = some u ∧ VR E v u := by
  obtain ⟨arr, elem, fz, hb, hc, _, _⟩ := h.cells hE hM
  obtain ⟨u, hu, hv⟩ := hc i v hi
  exact ⟨u, by simp [World.cell?, hb, hu], hv⟩

theorem Mem.read_some {b o n : Nat} {l : List V} (h : M.read b o n = some l) : ∃ cs ro, M.get b = some (.cells cs ro) ∧ o + n ≤ cs.length ∧ l = (cs.drop o).take n := by
  unfold Mem.read at h
  split at h
  · rename_i cs ro hM
    obtain ⟨h1, h2⟩ := rdCells_some h
    exact ⟨cs, ro, hM, h1, h2⟩
  · cases h

/-- The world's cells behind cells that are read. -/
theorem Rel.readCells (h : Rel E M w) {b c d k o n : Nat} (hE : E b = some (c, d, k)) {l : List V} (hr : M.read b o n = some l) :
    ∃ us : List Value, VRs E l us ∧ (loadCells ⟨c, d + o, none⟩ n).run P w = .ok us.toArray w := by
  obtain ⟨cs, ro, hM, hlen, rfl⟩ := Mem.read_some hr
  obtain ⟨arr, elem, fz, hb, hc, _, _⟩ := h.cells hE hM
  have hn : ((cs.drop o).take n).length = n := by simp; omega
  have hin : ∀ i, i < n → ∃ u, arr[d + o + i]? = some u := by
    intro i hi
    obtain ⟨u, hu, _⟩ := hc (o + i) (cs[o + i]'(by omega)) (by simp)
    exact ⟨u, by rw [← hu]; congr 1; omega⟩
  have hus : ((arr.toList.drop (d + o)).take n).length = n := by
    by_cases h0 : n = 0
    · simp [h0]
    · obtain ⟨u, hu⟩ := hin (n - 1) (by omega)
      have := (Array.getElem?_eq_some_iff.1 hu).1
      simp; omega
  refine ⟨(arr.toList.drop (d + o)).take n, VRs.of_get (by rw [hn, hus]) ?_, ?_⟩
  · intro i v hi
    have hi' : i < n := by
      have := (List.getElem?_eq_some_iff.1 hi).1
      omega
    rw [List.getElem?_take_of_lt hi', List.getElem?_drop] at hi
    obtain ⟨u, hu, hv⟩ := hc (o + i) v hi
    refine ⟨u, ?_, hv⟩
    rw [List.getElem?_take_of_lt hi', List.getElem?_drop, ← hu]
    simp [Nat.add_assoc]
  · have := run_loadCells_list (P := P) (w := w) ⟨c, d + o, none⟩ ((arr.toList.drop (d + o)).take n) (by
      intro j v hj
      have hj' : j < n := by
        have := (List.getElem?_eq_some_iff.1 hj).1
        omega
      rw [List.getElem?_take_of_lt hj', List.getElem?_drop] at hj
      rw [addr_add]
      simp only [World.cell?, hb]
      simpa using hj)
    rw [hus] at this
    exact this

theorem load_rel (h : Rel E M w) {t : TypeId} {n : Option Nat} (hl : ldE P t = some n) {x v : V} {x' : Value} (hx : VR E x x') (hv : vload n M x = some v) :
    PureV P E w (Instr.loadAt t x') v := by
  unfold vload at hv
  split at hv
  · rename_i b o
    cases hx
    rename_i c d k hE
    obtain ⟨dd, hu, hh⟩ := ldE_some hl
    rcases hh with ⟨ha, m, rfl, hm⟩ | ⟨ha, rfl⟩
    · simp only [Bool.cond_eq_ite] at hv
      split at hv
      · cases hv
      · simp only [Option.map_eq_some_iff] at hv
        obtain ⟨l, hl, rfl⟩ := hv
        obtain ⟨us, hus, hr⟩ := h.readCells (P := P) hE hl
        refine ⟨.agg us.toArray, .agg (by simpa using hus), ?_⟩
        simp only [Instr.loadAt, Instr.sureAddr, loadVar, Sem.run_bind, Sem.run_pure, Result.andThen_ok, run_isAgg hu, ha, if_true, run_sizeOf' hm, hr]
    · simp only at hv
      split at hv
      · rename_i cs ro hM
        obtain ⟨u, hu', hv'⟩ := h.cell hE hM hv
        refine ⟨u, hv', ?_⟩
        simp only [Instr.loadAt, Instr.sureAddr, loadVar, Sem.run_bind, Sem.run_pure, Result.andThen_ok, run_isAgg hu, ha, Bool.false_eq_true, if_false, run_load, hu']
      · cases hv
  · cases hv

theorem fieldAddr_rel {t : TypeId} {i n : Nat} {f : Field} (hf : fieldE P t i = some f) (hn : szE P f.type = some n) (h0 : n ≠ 0) {x v : V} {x' : Value} (hx : VR E x x') (hv : vptr (· + f.offset) x = some v) :
    PureV P E w (Instr.fieldAt t x' i) v := by
  unfold vptr at hv
  split at hv
  · cases hv
    cases hx
    rename_i b o c d k hE
    unfold fieldE at hf
    split at hf
    · rename_i fs hu
      have hr := VR.ptr (o := o + f.offset) hE
      refine ⟨_, hr, ?_⟩
      simp only [Instr.fieldAt, Sem.run_bind, run_underlying hu, Result.andThen_ok, hf, Instr.sureAddr, Sem.run_pure, fieldPlace, run_sizeOf' hn, if_neg h0, addr_add, Nat.add_assoc]
    · cases hf
  · cases hv

theorem indexAddr_rel {t e : TypeId} (hu : P.underlying t = some (.slice e)) {es : Nat} (hs : szE P e = some es) {b o n j : Nat} {cap : Cap} {i : V} {x' i' : Value}
    (hx : VR E (.slice (some (b, o)) n cap) x') (hi : VR E i i') (hj : asNat i = some j) (hb : j + 1 ≤ n) : PureV P E w (Instr.indexAt t x' i') (.ptr (some (b, o + j * es))) := by
  obtain ⟨k, rfl⟩ := asNat_rel hi hj
  cases hx with
  | slice hE hc hn =>
    rename_i c d kk c'
    refine ⟨_, .ptr hE, ?_⟩
    have h1 : (0 : Int) ≤ (j : Int) ∧ (j : Int) < (n : Int) := by omega
    simp only [Instr.indexAt, asIntOf, Sem.run_bind, Sem.run_pure, Result.andThen_ok, run_underlying hu]
    rw [if_pos h1]
    simp only [Sem.run_bind, run_sizeOf' hs, Result.andThen_ok, Sem.run_pure, addr_add, Int.toNat_natCast, Nat.add_assoc]
  | sliceZero hE hs hz => omega

theorem indexArr_rel {t e : TypeId} {len : Nat} (hu : P.underlying t = some (.array len e)) {es : Nat} (hs : szE P e = some es) {b o j : Nat} {i : V} {x' i' : Value}
    (hx : VR E (.ptr (some (b, o))) x') (hi : VR E i i') (hj : asNat i = some j) (hb : j + 1 ≤ len) : PureV P E w (Instr.indexAt t x' i') (.ptr (some (b, o + j * es))) := by
  obtain ⟨k, rfl⟩ := asNat_rel hi hj
  cases hx
  rename_i c d kk hE
  refine ⟨_, .ptr hE, ?_⟩
  have h1 : (0 : Int) ≤ (j : Int) ∧ (j : Int) < (len : Int) := by omega
  simp only [Instr.indexAt, asIntOf, Sem.run_bind, Sem.run_pure, Result.andThen_ok, run_underlying hu, Instr.sureAddr]
  rw [if_pos h1]
  simp only [Sem.run_bind, run_sizeOf' hs, Result.andThen_ok, Sem.run_pure, addr_add, Int.toNat_natCast, Nat.add_assoc]

theorem indexStr_rel {t : TypeId} (hu : P.underlying t = some .string) {s : List UInt8} {j : Nat} {c : UInt8} {i : V} {x' i' : Value}
    (hx : VR E (.str s) x') (hi : VR E i i') (hj : asNat i = some j) (hb : s[j]? = some c) : PureV P E w (Instr.index t x' i') (.int .u8 (c.toNat : Int)) := by
  obtain ⟨k, rfl⟩ := asNat_rel hi hj
  cases hx
  rename_i s
  refine ⟨_, .int _ _, ?_⟩
  have h1 : s[j]? = some c := by
    rw [Array.getElem?_toList] at hb
    rw [← hb]
    rfl
  have h0 : (0 : Int) ≤ (j : Int) := by omega
  simp only [Instr.index, asIntOf, Sem.run_bind, Sem.run_pure, Result.andThen_ok, run_underlying hu]
  rw [if_pos h0, Int.toNat_natCast, h1]
  rfl

theorem indexAgg_rel {t e : TypeId} {len : Nat} (hu : P.underlying t = some (.array len e)) {es : Nat} (hs : szE P e = some es) {n : Option Nat} (hl : ldE P e = some n) {cs : List V} {j : Nat} {i v : V} {x' i' : Value}
    (hx : VR E (.agg cs) x') (hi : VR E i i') (hj : asNat i = some j) (hb : j + 1 ≤ len) (hv : partOf cs (j * es) n = some v) : PureV P E w (Instr.index t x' i') v := by
  obtain ⟨k, rfl⟩ := asNat_rel hi hj
  cases hx
  rename_i cs' hc
  obtain ⟨v', hv', hr⟩ := part_rel (P := P) (w := w) hl hc hv
  refine ⟨v', hv', ?_⟩
  have h1 : (0 : Int) ≤ (j : Int) ∧ (j : Int) < (len : Int) := by omega
  simp only [Instr.index, asIntOf, Sem.run_bind, Sem.run_pure, Result.andThen_ok, run_underlying hu]
  rw [if_pos h1]
  simp only [Sem.run_bind, run_sizeOf' hs, Result.andThen_ok, Int.toNat_natCast, hr]

theorem sliceStr_rel {t : TypeId} (hu : P.underlying t = some .string) {s : List UInt8} {x' : Value} (hx : VR E (.str s) x') {lo' hi' : Option Value} {l h : Option Nat} (hlo : OptR E lo' l) (hhi : OptR E hi' h) {v : V}
    (hv : vslStr s (l.getD 0) (h.getD s.length) = some v) : PureV P E w (Instr.sliceAt t x' lo' hi' none) v := by
  obtain ⟨h1, hv⟩ := cond_some hv
  obtain ⟨h2, hv⟩ := cond_some hv
  rw [ble_iff] at h1 h2
  have h1 := of_decide_eq_true h1
  have h2 := of_decide_eq_true h2
  cases hx with | str s =>
  cases hv
  have hsz : s.data.toList.length = s.size := by simp
  rw [hsz] at h1 h2 ⊢
  have hb := run_bounds (P := P) (E := E) (w := w) false (mx' := none) (m := none) s.size s.size hlo hhi (.inl ⟨rfl, rfl⟩) (Nat.le_refl _) h2 h1 (fun h => absurd rfl h)
  refine ⟨.string (s.extract (l.getD 0) (h.getD s.size)), str_mk ?_, ?_⟩
  · simp [List.extract]
  · simp only [Instr.sliceAt, Sem.run_bind, run_underlying hu, Result.andThen_ok, Instr.slice]
    simp only [Sem.run_bind, hb, Result.andThen_ok, Option.isSome_none, Bool.false_eq_true, if_false, Sem.run_pure]

theorem slice_core {es : Nat} {b o len : Nat} {cap : Cap} {c d k cap' : Nat} (hE : E b = some (c, d, k)) (hc : CapR cap o k cap') (hn : len ≤ cap') {l h m : Option Nat} {v : V}
    (hv : vslice es (.slice (some (b, o)) len cap) l h m = some v) (hmh : m ≠ none → h ≠ none) :
    m.getD cap' ≤ cap' ∧ h.getD len ≤ m.getD cap' ∧ l.getD 0 ≤ h.getD len ∧
    VR E v (.slice (if m.getD cap' = l.getD 0 then some ⟨c, d + o, none⟩ else some ⟨c, d + (o + l.getD 0 * es), none⟩) (h.getD len - l.getD 0) (m.getD cap' - l.getD 0)) := by
  cases cap with
  | exact cc =>
    have hcc : cap' = cc := hc
    subst hcc
    simp only [vslice] at hv
    obtain ⟨h1, hv⟩ := cond_some hv
    obtain ⟨h2, hv⟩ := cond_some hv
    obtain ⟨h3, hv⟩ := cond_some hv
    rw [ble_iff] at h1 h2 h3
    have h1 := of_decide_eq_true h1
    have h2 := of_decide_eq_true h2
    have h3 := of_decide_eq_true h3
    refine ⟨h1, h2, h3, ?_⟩
    rw [beq_iff] at hv
    cases hv
    by_cases e : m.getD cap' = l.getD 0
    · simp only [e, decide_true, cond_true, if_true]
      exact .slice hE rfl (by omega)
    · simp only [e, decide_false, cond_false, if_false, Option.map_some]
      exact .slice hE rfl (by omega)
  | upto e =>
    obtain ⟨he0, hk⟩ : 0 < e ∧ o + cap' * e = k := hc
    simp only [vslice] at hv
    obtain ⟨h1, hv⟩ := cond_some hv
    obtain ⟨h2, hv⟩ := cond_some hv
    obtain ⟨h3, hv⟩ := cond_some hv
    rw [ble_iff] at h2 h3
    rw [beq_iff] at h1
    have h1 := of_decide_eq_true h1
    have h2 := of_decide_eq_true h2
    have h3 := of_decide_eq_true h3
    subst h1
    cases m with
    | none =>
      simp only [Option.some.injEq] at hv
      subst hv
      simp only [Option.getD_none]
      refine ⟨Nat.le_refl _, by omega, h3, ?_⟩
      by_cases e1 : cap' = l.getD 0
      · have e2 : h.getD len - l.getD 0 = 0 := by omega
        have e3 : cap' - l.getD 0 = 0 := by omega
        rw [if_pos e1, e2, e3]
        exact .sliceZero hE rfl (by show k ≤ _; rw [← e1]; omega)
      · rw [if_neg e1]
        refine .slice hE ⟨he0, ?_⟩ (by omega)
        rw [Nat.add_assoc, ← Nat.add_mul, Nat.add_sub_cancel' (by omega)]
        exact hk
    | some mm =>
      obtain ⟨h4, hv⟩ := cond_some hv
      obtain ⟨h5, hv⟩ := cond_some hv
      rw [ble_iff] at h4 h5
      have h4 := of_decide_eq_true h4
      have h5 := of_decide_eq_true h5
      simp only [Option.some.injEq] at hv
      subst hv
      simp only [Option.getD_some]
      refine ⟨by omega, by omega, h3, ?_⟩
      rw [beq_iff]
      by_cases e1 : mm = l.getD 0
      · simp only [e1, decide_true, cond_true, if_true]
        exact .slice hE rfl (by omega)
      · simp only [e1, decide_false, cond_false, if_false]
        exact .slice hE rfl (by omega)

theorem slice_rel {t e : TypeId} (hu : P.underlying t = some (.slice e)) {es : Nat} (hs : szE P e = some es) {x v : V} {x' : Value} (hx : VR E x x') {lo' hi' mx' : Option Value} {l h m : Option Nat}
    (hlo : OptR E lo' l) (hhi : OptR E hi' h) (hmx : OptR E mx' m) (hmh : m ≠ none → h ≠ none) (hv : vslice es x l h m = some v) : PureV P E w (Instr.sliceAt t x' lo' hi' mx') v := by
  cases x <;> try (simp [vslice] at hv; done)
  rename_i a len cap
  have fin : ∀ (a' : Option Addr) (cap' : Nat), m.getD cap' ≤ cap' → h.getD len ≤ m.getD cap' → l.getD 0 ≤ h.getD len →
      (Instr.sliceAt t (.slice a' len cap') lo' hi' mx').run P w = .ok (.slice (if m.getD cap' = l.getD 0 then a' else a'.map (·.add (l.getD 0 * es))) (h.getD len - l.getD 0) (m.getD cap' - l.getD 0)) w := by
    intro a' cap' h1 h2 h3
    have hb := run_bounds (P := P) (E := E) (w := w) true len cap' hlo hhi hmx h1 h2 h3 hmh
    simp only [Instr.sliceAt, Sem.run_bind, run_underlying hu, Result.andThen_ok, Instr.slice]
    simp only [Sem.run_bind, hb, Result.andThen_ok, run_sizeOf' hs, Sem.run_pure]
  cases hx with
  | sliceNil =>
    simp only [vslice] at hv
    obtain ⟨h1, hv⟩ := cond_some hv
    obtain ⟨h2, hv⟩ := cond_some hv
    obtain ⟨h3, hv⟩ := cond_some hv
    rw [ble_iff] at h1 h2 h3
    have h1 := of_decide_eq_true h1
    have h2 := of_decide_eq_true h2
    have h3 := of_decide_eq_true h3
    refine ⟨_, ?_, fin none 0 h1 h2 h3⟩
    have e1 : m.getD 0 - l.getD 0 = 0 := by omega
    have e2 : h.getD 0 - l.getD 0 = 0 := by omega
    cases hv
    have e3 : m.getD 0 = l.getD 0 := by omega
    rw [e1, e2, beq_iff]
    simp only [e3, decide_true, cond_true, if_true]
    exact .sliceNil
  | slice hE hc hn =>
    obtain ⟨h1, h2, h3, hr⟩ := slice_core hE hc hn hv hmh
    refine ⟨_, hr, ?_⟩
    rw [fin _ _ h1 h2 h3]
    simp only [Option.map_some, addr_add, Nat.add_assoc]
  | sliceZero hE hsp hz =>
    rename_i b o c d k a
    have hE' := hE
    have key : m.getD 0 ≤ 0 ∧ h.getD 0 ≤ m.getD 0 ∧ l.getD 0 ≤ h.getD 0 ∧ ∃ o' cap', v = .slice (some (b, o')) 0 cap' ∧ CapZ cap' o' k := by
      cases cap with
      | exact cc =>
        have : cc = 0 := hz
        subst this
        simp only [vslice] at hv
        obtain ⟨h1, hv⟩ := cond_some hv
        obtain ⟨h2, hv⟩ := cond_some hv
        obtain ⟨h3, hv⟩ := cond_some hv
        rw [ble_iff] at h1 h2 h3
        have h1 := of_decide_eq_true h1
        have h2 := of_decide_eq_true h2
        have h3 := of_decide_eq_true h3
        refine ⟨h1, h2, h3, ?_⟩
        have e1 : m.getD 0 - l.getD 0 = 0 := by omega
        have e2 : h.getD 0 - l.getD 0 = 0 := by omega
        rw [e1, e2] at hv
        cases hv
        cases Nat.beq (m.getD 0) (l.getD 0)
        · exact ⟨_, _, rfl, rfl⟩
        · exact ⟨_, _, rfl, rfl⟩
      | upto e =>
        simp only [vslice] at hv
        obtain ⟨h1, hv⟩ := cond_some hv
        obtain ⟨h2, hv⟩ := cond_some hv
        obtain ⟨h3, hv⟩ := cond_some hv
        rw [ble_iff] at h2 h3
        have h2 := of_decide_eq_true h2
        have h3 := of_decide_eq_true h3
        have e2 : h.getD 0 - l.getD 0 = 0 := by omega
        rw [e2] at hv
        cases m with
        | none =>
          simp only [Option.some.injEq] at hv
          subst hv
          exact ⟨Nat.le_refl _, by simp only [Option.getD_none]; omega, h3, _, _, rfl, by
            have hz' : k ≤ o := hz
            show k ≤ o + _
            omega⟩
        | some mm =>
          obtain ⟨h4, hv⟩ := cond_some hv
          obtain ⟨h5, hv⟩ := cond_some hv
          rw [ble_iff] at h4 h5
          have h4 := of_decide_eq_true h4
          have h5 := of_decide_eq_true h5
          have e3 : mm - l.getD 0 = 0 := by omega
          rw [e3] at hv
          simp only [Option.some.injEq] at hv
          subst hv
          exact ⟨by simp only [Option.getD_some]; omega, by simp only [Option.getD_some]; omega, h3, _, _, rfl, rfl⟩
    obtain ⟨h1, h2, h3, o', cap', rfl, hz'⟩ := key
    refine ⟨_, ?_, fin (some a) 0 h1 h2 h3⟩
    have e1 : m.getD 0 - l.getD 0 = 0 := by omega
    have e2 : h.getD 0 - l.getD 0 = 0 := by omega
    have e3 : m.getD 0 = l.getD 0 := by omega
    rw [e1, e2, if_pos e3]
    exact .sliceZero hE hsp hz'
end
end Go.Am
