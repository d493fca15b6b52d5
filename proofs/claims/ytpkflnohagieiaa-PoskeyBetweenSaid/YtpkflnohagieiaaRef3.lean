/- The reference's carry, first and text, on the machine. -/
import Derived.Test.YtpkflnohagieiaaRef2
namespace Go.Am.Try
open Go Go.Am Go.Proofs
set_option maxRecDepth 100000
set_option linter.unusedSimpArgs false
set_option linter.unusedVariables false

/-- A row's cells: bytes, as numbers. -/
def numsC (l : List UInt8) : List V := l.map fun c => .int .i64 (c.toNat : Int)
@[go_sem] theorem numsC_len (l : List UInt8) : (numsC l).length = l.length := by simp [numsC]
theorem numsC_get (l : List UInt8) (i : Nat) : (numsC l)[i]? = (l[i]?).map fun c => .int .i64 (c.toNat : Int) := by simp [numsC]
theorem numsC_set (l : List UInt8) (i : Nat) (c : UInt8) : (numsC l).set i (.int .i64 (c.toNat : Int)) = numsC (l.set i c) := by simp [numsC, List.map_set]

theorem carry_loop {Q : AExit → Fr → Mem → Prop} (b : Nat) (m : Nat) (hm : m < 2 ^ 40) : ∀ (i : Nat) (l : List UInt8) (fr : Fr) (M : Mem), l.length = m → i ≤ m → fr.rd 0 = .slice (some (b, 0)) m (.exact m) → fr.rd 3 = .int .i64 ((i : Int) - 1) → M.get b = some (.cells (numsC l) false) →
    (∀ fr' M' l', incFrom l i = some l' → l'.length = m → fr'.rd 2 = .bool true → Upd M b (.cells (numsC l') false) M' → Q .ret fr' M') →
    (∀ fr' M' l', incFrom l i = none → Upd M b (.cells (numsC l') false) M' → Q (.exit 0) fr' M') → WC D2 25 (.loop A31_8) fr M Q := by
  intro i
  induction i with
  | zero =>
    intro l fr M hl hi h6 h7 hM hQ1 hQ2
    refine WC.loop ?_
    unfold A31_8
    refine WC.seq (WC.seq (WC.ops ?_))
    simp only [A31_2, go_sem, ↓reduceIte, Nat.reduceEqDiff, Nat.reduceLT, h7]
    refine WC.test (t := false) (by simp only [go_sem, ↓reduceIte, Nat.reduceEqDiff, Nat.reduceLT]; rfl) (fun h => by cases h) (fun _ => ?_)
    refine WC.exit ?_
    simp only [go_sem]
    exact hQ2 _ _ l rfl (Upd.same hM)
  | succ i ih =>
    intro l fr M hl hi h6 h7 hM hQ1 hQ2
    have e7 : ((i + 1 : Nat) : Int) - 1 = (i : Int) := by omega
    rw [e7] at h7
    refine WC.loop ?_
    unfold A31_8
    refine WC.seq (WC.seq (WC.ops ?_))
    simp only [A31_2, go_sem, ↓reduceIte, Nat.reduceEqDiff, Nat.reduceLT, h7]
    refine WC.test (t := true) (by simp only [go_sem, ↓reduceIte, Nat.reduceEqDiff, Nat.reduceLT]; simp) (fun _ => ?_) (fun h => by cases h)
    refine WC.skip ?_
    simp only [go_sem]
    have hil : i < l.length := by omega
    have hg : l[i]? = some l[i] := List.getElem?_eq_getElem hil
    have hc : (numsC l)[i]? = some (.int .i64 (l[i].toNat : Int)) := by rw [numsC_get, hg]; rfl
    have hlt : i + 1 ≤ m := by omega
    have hD : l.getD i 0 = l[i] := by rw [List.getD_eq_getElem?_getD, hg]; rfl
    have h8 := l[i].toNat_lt
    refine WC.seq (WC.block (WC.seq (WC.seq (WC.ops ?_))))
    simp only [A31_3, go_sem, ↓reduceIte, Nat.reduceEqDiff, Nat.reduceLT, h6, h7, decide_eq_true hlt, vload, hM, Nat.zero_add, Nat.mul_one, hc]
    refine WC.test (by simp only [go_sem, ↓reduceIte, Nat.reduceEqDiff, Nat.reduceLT]; rfl) (fun h => ?_) (fun h => WC.skip ?_)
    · have hlt5 : l[i].toNat < 255 := by have := of_decide_eq_true h; omega
      have hs : ((l[i] + 1).toNat : Int) = (l[i].toNat : Int) + 1 := by
        rw [UInt8.toNat_add]
        simp
        omega
      refine WC.seq (WC.ops ?_)
      simp only [A31_4, go_sem, ↓reduceIte, Nat.reduceEqDiff, Nat.reduceLT, h6, h7, decide_eq_true hlt, vload, hM, Nat.zero_add, Nat.mul_one, hc, vstore, V.cells, List.length_cons, List.length_nil]
      rw [IntWalk.i64_in _ (by omega), ← hs, write_one hM (by rw [numsC_len]; omega) rfl, numsC_set]
      simp only [go_sem, ↓reduceIte, Nat.reduceEqDiff, Nat.reduceLT]
      have hu := Upd.set M b (.cells (numsC (l.set i (l[i] + 1))) false)
      generalize M.set b _ = M1 at hu
      refine WC.seq (WC.ops ?_)
      simp only [A31_5, go_sem, ↓reduceIte, Nat.reduceEqDiff, Nat.reduceLT]
      refine WC.ret ?_
      simp only [go_sem]
      refine hQ1 _ M1 (l.set i (l[i] + 1)) ?_ (by simp [hl]) (by simp only [go_sem, ↓reduceIte, Nat.reduceEqDiff, Nat.reduceLT]) hu
      have hnz : l[i] + 1 ≠ 0 := by
        intro e
        rw [e] at hs
        simp at hs
        omega
      simp only [incFrom, hD]
      simp [hnz]
    · have h255 : l[i].toNat = 255 := by have := of_decide_eq_false h; omega
      have hz : l[i] + 1 = 0 := by
        apply UInt8.toNat_inj.1
        rw [UInt8.toNat_add, h255]
        rfl
      simp only [nextQ]
      refine WC.ops ?_
      simp only [A31_6, go_sem, ↓reduceIte, Nat.reduceEqDiff, Nat.reduceLT, h6, h7, decide_eq_true hlt, Nat.zero_add, Nat.mul_one, vstore, V.cells, List.length_cons, List.length_nil]
      have h0 : (V.int .i64 0) = .int .i64 (((0 : UInt8).toNat : Nat) : Int) := rfl
      rw [h0, write_one hM (by rw [numsC_len]; omega) rfl, numsC_set]
      simp only [go_sem, ↓reduceIte, Nat.reduceEqDiff, Nat.reduceLT]
      have hu := Upd.set M b (.cells (numsC (l.set i 0)) false)
      generalize M.set b _ = M1 at hu
      refine WC.ops ?_
      simp only [A31_7, go_sem, ↓reduceIte, Nat.reduceEqDiff, Nat.reduceLT, h7]
      rw [IntWalk.i64_in _ (by omega)]
      have hinc : incFrom l (i + 1) = incFrom (l.set i 0) i := by
        simp only [incFrom, hD, hz]
        simp
      refine ih (l.set i 0) _ M1 (by simp [hl]) (by omega) (by simp only [go_sem, ↓reduceIte, Nat.reduceEqDiff, Nat.reduceLT, h6]) (by simp only [go_sem, ↓reduceIte, Nat.reduceEqDiff, Nat.reduceLT]) hu.at_ ?_ ?_
      · intro fr' M' l' h1 h2 h3 h5
        exact hQ1 fr' M' l' (hinc.trans h1) h2 h3 (hu.trans h5)
      · intro fr' M' l' h1 h2
        exact hQ2 fr' M' l' (hinc.trans h1) (hu.trans h2)

theorem carry_runs (b : Nat) (l : List UInt8) (hm : l.length < 2 ^ 40) (M : Mem) (hM : M.get b = some (.cells (numsC l) false)) : Runs D2 31 [.slice (some (b, 0)) l.length (.exact l.length)] M fun v M' =>
    (∃ l', incFrom l l.length = some l' ∧ l'.length = l.length ∧ v = .bool true ∧ Upd M b (.cells (numsC l') false) M') ∨ (∃ l', incFrom l l.length = none ∧ v = .bool false ∧ Upd M b (.cells (numsC l') false) M') := by
  refine Runs.of (F := A31) rfl (by rfl) (by rfl) ?_
  unfold A31
  refine WC.seq (WC.ops ?_)
  simp only [A31_0, go_sem]
  refine WC.seq (WC.seq (WC.ops ?_))
  simp only [A31_1, go_sem, ↓reduceIte, Nat.reduceEqDiff, Nat.reduceLT]
  rw [IntWalk.i64_in _ (by omega)]
  refine WC.block (carry_loop b l.length hm l.length l _ M rfl (Nat.le_refl _) (by simp only [go_sem, ↓reduceIte, Nat.reduceEqDiff, Nat.reduceLT]) (by simp only [go_sem, ↓reduceIte, Nat.reduceEqDiff, Nat.reduceLT]) hM ?_ ?_)
  · intro fr' M' l' h1 h2 h3 h5
    simp only [go_sem, h3]
    exact .inl ⟨l', h1, h2, trivial, h5⟩
  · intro fr' M' l' h1 h5
    simp only [go_sem]
    refine WC.seq (WC.ops ?_)
    simp only [A31_9, go_sem, ↓reduceIte, Nat.reduceEqDiff, Nat.reduceLT]
    refine WC.ret ?_
    simp only [go_sem, ↓reduceIte, Nat.reduceEqDiff, Nat.reduceLT]
    exact .inr ⟨l', h1, trivial, h5⟩
end Go.Am.Try
