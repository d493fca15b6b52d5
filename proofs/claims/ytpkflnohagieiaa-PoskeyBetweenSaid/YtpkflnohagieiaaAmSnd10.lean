/- An operation of the machine against the program's own: what makes a block; append and copy. -/
import Derived.Test.YtpkflnohagieiaaAmSnd9
set_option linter.unusedSimpArgs false
set_option linter.unusedVariables false
namespace Go.Am
open Go Go.RowKit

section
variable {P : Program} {E : Emb} {M : Mem} {w : World} {gl : Nat → Bool} {ρ : Opd → V} {ρ' : Operand → Value}

/-- Comes to a value, whatever becomes of the world. -/
def Ok (P : Program) (E : Emb) (M : Mem) (w : World) (s : Sem Next) (v : V) (M' : Mem) : Prop :=
  ∃ E' v' w', (s.run P w = .ok (.value v') w' ∨ (s.run P w = .ok .skip w' ∧ v' = Go.undef)) ∧ VR E' v v' ∧ Rel E' M' w' ∧ Ext E M w E' M' w'
theorem Ok.of {o : Oper} {s : Sem Value} {v : V} {M' : Mem} (he : execOp ρ' o = (do pure (.value (← s)))) {E' : Emb} {v' : Value} {w' : World} (hr : s.run P w = .ok v' w') (hv : VR E' v v') (h1 : Rel E' M' w') (h2 : Ext E M w E' M' w') :
    Ok P E M w (execOp ρ' o) v M' := ⟨E', v', w', .inl (by rw [he]; simp [hr]), hv, h1, h2⟩
theorem Ok.ofUnit {o : Oper} {s : Sem Unit} {M' : Mem} (he : execOp ρ' o = (do s; pure .skip)) {E' : Emb} {w' : World} (hr : s.run P w = .ok () w') (h1 : Rel E' M' w') (h2 : Ext E M w E' M' w') :
    Ok P E M w (execOp ρ' o) .undef M' := ⟨E', Go.undef, w', .inr ⟨by rw [he]; simp [hr], rfl⟩, VR.undef E', h1, h2⟩

theorem Rel.drew (h : Rel E M w) : Rel E M w.drew ∧ Ext E M w E M w.drew :=
  ⟨⟨h.at_, h.lt, h.inj, h.wf⟩, ⟨Emb.le_refl E, rfl, rfl, rfl, Nat.le_refl _, Nat.le_refl _, fun _ _ _ => rfl, fun b c d k h1 h2 => by (rw [h1] at h2; cases h2), fun _ _ => rfl⟩⟩

/-! ### rows of zeros -/
theorem repl_length (n : Nat) (cs : List V) : (repl n cs).length = n * cs.length := by
  induction n with
  | zero => simp [repl]
  | succ n ih => simp [repl, ih, Nat.succ_mul, Nat.add_comm]
theorem repl_get (cs : List V) : ∀ (n i : Nat), i < n * cs.length → (repl n cs)[i]? = cs[i % cs.length]?
  | 0, i, h => by simp at h
  | n + 1, i, h => by
    simp only [repl]
    by_cases h1 : i < cs.length
    · rw [List.getElem?_append_left h1, Nat.mod_eq_of_lt h1]
    · rw [List.getElem?_append_right (by omega)]
      have : i - cs.length < n * cs.length := by rw [Nat.succ_mul] at h; omega
      rw [repl_get cs n _ this]
      congr 1
      rw [Nat.mod_eq_sub_mod (a := i) (by omega)]
theorem zeros_rel {zs : List V} {z : Array Value} (hz : VRs E zs z.toList) (n m : Nat) (hn : z.size = n) (h0 : n ≠ 0) : VRs E (repl m zs) ((Array.range (m * n)).map (z[· % z.size]!)).toList := by
  have hl : zs.length = n := by have := hz.length; simp only [Array.length_toList] at this; omega
  apply VRs.of_get
  · rw [repl_length, hl]; simp
  · intro i v hi
    have hlt : i < m * zs.length := by
      have := (List.getElem?_eq_some_iff.1 hi).1
      rwa [repl_length] at this
    rw [repl_get zs m i hlt] at hi
    obtain ⟨u, hu, hv⟩ := hz.get _ v hi
    refine ⟨u, ?_, hv⟩
    rw [hl] at hlt hu
    rw [Array.getElem?_toList, Array.getElem?_map, Array.getElem?_range, if_pos hlt, Option.map_some]
    have : z[i % n]? = some u := by simpa using hu
    rw [hn, Array.getElem!_eq_getD, Array.getD_eq_getD_getElem?, this]
    rfl

/-! ### operations that lay one block -/
/-- What such an operation comes to: the place of the block; or a slice over it. -/
def mkV : Option Nat → Nat → V
  | none, b => .ptr (some (b, 0))
  | some n, b => .slice (some (b, 0)) n (.exact n)
def mkValue : Option Nat → Nat → Value
  | none, c => .pointer (some ⟨c, 0, none⟩)
  | some n, c => .slice (some ⟨c, 0, none⟩) n n
theorem mk_rel {s : Option Nat} {b c k : Nat} (h : E b = some (c, 0, k)) : VR E (mkV s b) (mkValue s c) := by
  cases s with
  | none => exact .ptr (o := 0) h
  | some n => exact .slice (o := 0) h rfl (Nat.le_refl n)

def Cls.isA : Cls → Bool
  | .a => true
  | _ => false
/-- Of no such class. -/
def NotC (q : Cls → Bool) (x : Option AOp) : Prop := ∀ a, x = some a → q (clsOf a) = false
theorem NotC.none {q : Cls → Bool} : NotC q none := fun _ h => by cases h
theorem NotC.some {q : Cls → Bool} {a : AOp} (h : q (clsOf a) = false) : NotC q (some a) := fun _ e => by cases e; exact h
theorem NotC.bind {q : Cls → Bool} {α : Type} {x : Option α} {f : α → Option AOp} (h : ∀ y, NotC q (f y)) : NotC q (x.bind f) := fun a e => by
  obtain ⟨y, _, hy⟩ := Option.bind_eq_some_iff.1 e
  exact h y a hy
theorem NotC.map {q : Cls → Bool} {α : Type} {x : Option α} {f : α → AOp} (h : ∀ y, q (clsOf (f y)) = false) : NotC q (x.map f) := fun a e => by
  obtain ⟨y, _, hy⟩ := Option.map_eq_some_iff.1 e
  rw [← hy]; exact h y
theorem NotC.cond {q : Cls → Bool} {c : Bool} {x y : Option AOp} (hx : NotC q x) (hy : NotC q y) : NotC q (cond c x y) := by cases c <;> assumption

def opMakes : Op → Bool
  | .alloc _ => true
  | .box _ _ => true
  | .buildSlice _ _ _ => true
  | _ => false
theorem cOp_notA {o : Oper} (hn : opMakes o.op = false) : NotC Cls.isA (cOp P gl o) := by
  cases hop : o.op <;> simp only [cOp, hop, cBin, cBuiltin] <;> (first | (rw [hop] at hn; cases hn; done) | skip) <;>
    repeat' (first | contradiction | exact NotC.none | exact NotC.some rfl | (refine NotC.bind fun _ => ?_) | exact NotC.map fun _ => rfl | refine NotC.cond ?_ ?_ | split)

theorem zeroV_rel {t : TypeId} {z : V} (h : zeroE P t = some z) : ∃ z', VR E z z' ∧ ∀ w, (zeroValue t).run P w = .ok z' w := by
  simp only [zeroE, Option.bind_eq_some_iff] at h
  obtain ⟨i, hi, z', hz, hv⟩ := h
  exact ⟨z', vOf_rel hv, fun w => by simp [zeroValue, typeInfo, hi, hz]⟩

theorem a_sound (hρ : ROK gl E ρ ρ') {o : Oper} {ao : AOp} (hc : cOp P gl o = some ao) (hcl : (clsOf ao).isA = true) {v : V} {M' : Mem} (hv : aop ao ρ M = some (.val v M')) :
    ∃ (s : Option Nat) (cs : List V) (arr : Array Value) (elem : TypeId), v = mkV s M.next ∧ M' = M.push (.cells cs false) ∧ VRs E cs arr.toList ∧
      ∀ w, (execOp ρ' o).run P w = .ok (.value (mkValue s w.heap.size)) (w.alloc (.cells arr elem)) := by
  have hA : opMakes o.op = true := by
    cases hq : opMakes o.op with
    | true => rfl
    | false => rw [cOp_notA (P := P) (gl := gl) hq ao hc] at hcl; cases hcl
  cases hop : o.op <;> (first | (rw [hop] at hA; cases hA; done) | skip) <;> simp only [cOp, hop] at hc
  case alloc e =>
    simp only [Option.map_eq_some_iff] at hc
    obtain ⟨z, hz, rfl⟩ := hc
    obtain ⟨z', hz', hzr⟩ := zeroV_rel (P := P) (E := E) hz
    simp only [aop, Option.some.injEq, Res.val.injEq] at hv
    obtain ⟨rfl, rfl⟩ := hv
    refine ⟨none, z.cells, z'.cells, e, rfl, rfl, hz'.cells, fun w => ?_⟩
    simp only [execOp, hop, Instr.alloc, Sem.run_bind, hzr w, Result.andThen_ok, newVar, newRow, run_newObj, Sem.run_pure]
    rfl
  case box e x =>
    simp only [Option.map_eq_some_iff] at hc
    obtain ⟨y, hy, rfl⟩ := hc
    simp only [aop, Option.some.injEq, Res.val.injEq] at hv
    obtain ⟨rfl, rfl⟩ := hv
    refine ⟨none, (ρ y).cells, (ρ' x).cells, e, rfl, rfl, (hρ.1 _ _ hy).cells, fun w => ?_⟩
    simp only [execOp, hop, Instr.box, Sem.run_bind, Result.andThen_ok, newVar, newRow, run_newObj, Sem.run_pure]
    rfl
  case buildSlice t len parts =>
    split at hc
    · rename_i e hu
      simp only [Option.bind_eq_some_iff] at hc
      obtain ⟨n, hn, z, hz, hc⟩ := hc
      rw [Bool.cond_eq_ite] at hc
      split at hc
      · cases hc
      · rename_i h0
        obtain ⟨h24, hc⟩ := cond_some hc
        obtain ⟨hzl, hc⟩ := cond_some hc
        simp only [Option.map_eq_some_iff] at hc
        obtain ⟨ps, hps, rfl⟩ := hc
        rw [ble_iff] at h24
        rw [beq_iff] at hzl
        have h24 := of_decide_eq_true h24
        have hzl := of_decide_eq_true hzl
        have h0 : n ≠ 0 := by rintro rfl; exact h0 rfl
        obtain ⟨z', hz', hzr⟩ := zeroV_rel (P := P) (E := E) hz
        simp only [aop, Option.map_eq_some_iff, Res.val.injEq] at hv
        obtain ⟨cs, hcs, rfl, rfl⟩ := hv
        have hzc := hz'.cells
        have hzs : z'.cells.size = n := by have := hzc.length; simp only [Array.length_toList] at this; omega
        obtain ⟨out', ho, hr⟩ := fill_rel hρ hps (zeros_rel hzc n len hzs h0) hcs
        refine ⟨some len, cs, out', e, rfl, rfl, hr, fun w => ?_⟩
        have e2 : (parts.map fun (x : Nat × Operand) => (x.1, ρ' x.2)).toList = parts.toList.map fun p => (p.1, ρ' p.2) := by simp
        have e3 : ¬ (len * n > 2 ^ 24) := by omega
        simp only [execOp, hop, Instr.buildSlice, Sem.run_bind, run_underlying hu, Result.andThen_ok, run_sizeOf' hn, if_neg e3]
        rw [show (parts.map fun x => match x with | (i, x) => (i, ρ' x)) = parts.map fun (x : Nat × Operand) => (x.1, ρ' x.2) from rfl, e2]
        by_cases hl : len * n = 0
        · have e4 : ((Array.range (len * n)).map fun x => (#[] : Array Value)[x % (#[] : Array Value).size]!) = (Array.range (len * n)).map (z'.cells[· % z'.cells.size]!) := by rw [hl]; simp
          rw [if_pos hl]
          simp only [Sem.run_bind, Sem.run_pure, Result.andThen_ok, e4, ho, newRow, run_newObj]
          rfl
        · rw [if_neg hl]
          simp only [Sem.run_bind, Sem.run_pure, Result.andThen_ok, hzr w, ho, newRow, run_newObj]
          rfl
    · cases hc
end
end Go.Am
