/- The program's Right and fine, on the machine. -/
import Derived.Test.YtpkflnohagieiaaFns2
namespace Go.Am.Try
open Go Go.Am Go.Proofs
set_option maxRecDepth 100000
set_option linter.unusedSimpArgs false
set_option linter.unusedVariables false

def rightK (k : List UInt8) : Bool := !decide (k = []) && (decide (k.length ≤ 24) && !decide (digitL k (k.length - 1) = 0))

theorem right_runs (k : List UInt8) (M : Mem) : Runs D2 12 [.str k] M fun v M' => v = .bool (rightK k) ∧ M' = M := by
  refine Runs.of (F := A12) rfl (by rfl) (by rfl) ?_
  unfold A12
  refine WC.seq (WC.ops ?_)
  simp only [A12_0, go_sem]
  refine WC.seq (WC.ops ?_)
  simp only [A12_1, go_sem, ↓reduceIte, Nat.reduceEqDiff, Nat.reduceLT]
  by_cases h : k = []
  · simp only [h, go_sem, ↓reduceIte, Nat.reduceEqDiff, Nat.reduceLT]
    refine WC.ret ?_
    simp only [go_sem, ↓reduceIte, Nat.reduceEqDiff, Nat.reduceLT]
    exact ⟨rfl, trivial⟩
  · have hk : 0 < k.length := by cases k <;> simp at h ⊢
    simp only [h, go_sem, ↓reduceIte, Nat.reduceEqDiff, Nat.reduceLT]
    by_cases h2 : (k.length : Int) ≤ 24
    · have hl : k[k.length - 1]? = some k[k.length - 1] := List.getElem?_eq_getElem (by omega)
      have hd : digitL k (k.length - 1) = k[k.length - 1].toNat := by simp [digitL, List.getD_eq_getElem?_getD, hl]
      simp only [h2, go_sem, ↓reduceIte, Nat.reduceEqDiff, Nat.reduceLT]
      rw [IntWalk.i64_in _ (by omega), as_nat _ _ (by omega), show ((k.length : Int) - 1).toNat = k.length - 1 by omega]
      simp only [hl, go_sem, ↓reduceIte, Nat.reduceEqDiff, Nat.reduceLT]
      refine WC.ret ?_
      simp only [go_sem, ↓reduceIte, Nat.reduceEqDiff, Nat.reduceLT]
      refine ⟨?_, trivial⟩
      simp only [rightK, h, hd, show k.length ≤ 24 by omega, Int.natCast_eq_zero, decide_true, decide_false, Bool.not_false, Bool.true_and]
    · simp only [h2, go_sem, ↓reduceIte, Nat.reduceEqDiff, Nat.reduceLT]
      refine WC.ret ?_
      simp only [go_sem, ↓reduceIte, Nat.reduceEqDiff, Nat.reduceLT]
      refine ⟨?_, trivial⟩
      simp only [rightK, h, show ¬ k.length ≤ 24 by omega, decide_true, decide_false, Bool.not_false, Bool.true_and, Bool.false_and]

def inK (k : List UInt8) : Bool := decide (k = []) || rightK k
def fineK (a b : List UInt8) : Bool := inK a && (inK b && (decide (a = []) || (decide (b = []) || strLess a b)))

theorem in_runs (k : List UInt8) (M : Mem) : Runs D2 28 [.str k] M fun v M' => v = .bool (inK k) ∧ M' = M := by
  refine Runs.of (F := A28) rfl (by rfl) (by rfl) ?_
  unfold A28
  refine WC.seq (WC.ops ?_)
  simp only [A28_0, go_sem]
  refine WC.seq (WC.ops ?_)
  simp only [A28_1, go_sem, ↓reduceIte, Nat.reduceEqDiff, Nat.reduceLT]
  by_cases h : k = []
  · simp only [h, go_sem, ↓reduceIte, Nat.reduceEqDiff, Nat.reduceLT]
    refine WC.ret ?_
    simp only [go_sem, ↓reduceIte, Nat.reduceEqDiff, Nat.reduceLT]
    exact ⟨rfl, trivial⟩
  · simp only [h, go_sem, ↓reduceIte, Nat.reduceEqDiff, Nat.reduceLT]
    refine callI_of (right_runs k M) ?_
    rintro v M' ⟨rfl, rfl⟩
    simp only [go_sem, ↓reduceIte, Nat.reduceEqDiff, Nat.reduceLT]
    refine WC.ret ?_
    simp only [go_sem, ↓reduceIte, Nat.reduceEqDiff, Nat.reduceLT]
    refine ⟨?_, trivial⟩
    simp only [inK, h, decide_false, Bool.false_or]

theorem fine_runs (a b : List UInt8) (M : Mem) : Runs D2 19 [.str a, .str b] M fun v M' => v = .bool (fineK a b) ∧ M' = M := by
  refine Runs.of (F := A19) rfl (by rfl) (by rfl) ?_
  unfold A19
  refine WC.seq (WC.ops ?_)
  simp only [A19_0, go_sem]
  refine WC.seq (WC.ops ?_)
  simp only [A19_1, go_sem, ↓reduceIte, Nat.reduceEqDiff, Nat.reduceLT]
  refine WC.seq (WC.ops ?_)
  simp only [A19_2, go_sem, ↓reduceIte, Nat.reduceEqDiff, Nat.reduceLT, List.nil_append, List.append_nil]
  refine callI_of (in_runs a M) ?_
  rintro v M' ⟨rfl, rfl⟩
  simp only [go_sem, ↓reduceIte, Nat.reduceEqDiff, Nat.reduceLT]
  cases hA : inK a with
  | false =>
    simp only [go_sem, ↓reduceIte, Nat.reduceEqDiff, Nat.reduceLT]
    refine WC.ret ?_
    simp only [go_sem, ↓reduceIte, Nat.reduceEqDiff, Nat.reduceLT]
    exact ⟨by simp only [fineK, hA, Bool.false_and], trivial⟩
  | true =>
    simp only [go_sem, ↓reduceIte, Nat.reduceEqDiff, Nat.reduceLT, List.nil_append, List.append_nil]
    refine callI_of (in_runs b M') ?_
    rintro v M'' ⟨rfl, rfl⟩
    simp only [go_sem, ↓reduceIte, Nat.reduceEqDiff, Nat.reduceLT]
    cases hB : inK b with
    | false =>
      simp only [go_sem, ↓reduceIte, Nat.reduceEqDiff, Nat.reduceLT]
      refine WC.ret ?_
      simp only [go_sem, ↓reduceIte, Nat.reduceEqDiff, Nat.reduceLT]
      exact ⟨by simp only [fineK, hA, hB, Bool.false_and, Bool.true_and], trivial⟩
    | true =>
      by_cases ha : a = []
      · simp only [ha, go_sem, ↓reduceIte, Nat.reduceEqDiff, Nat.reduceLT]
        refine WC.ret ?_
        simp only [go_sem, ↓reduceIte, Nat.reduceEqDiff, Nat.reduceLT]
        subst ha
        exact ⟨by simp only [fineK, hA, hB, Bool.true_and, decide_true, Bool.true_or], trivial⟩
      · by_cases hb : b = []
        · simp only [ha, hb, go_sem, ↓reduceIte, Nat.reduceEqDiff, Nat.reduceLT]
          refine WC.ret ?_
          simp only [go_sem, ↓reduceIte, Nat.reduceEqDiff, Nat.reduceLT]
          subst hb
          exact ⟨by simp only [fineK, hA, hB, ha, Bool.true_and, decide_true, decide_false, Bool.true_or, Bool.false_or], trivial⟩
        · simp only [ha, hb, go_sem, ↓reduceIte, Nat.reduceEqDiff, Nat.reduceLT]
          refine WC.ret ?_
          simp only [go_sem, ↓reduceIte, Nat.reduceEqDiff, Nat.reduceLT]
          exact ⟨by simp only [fineK, hA, hB, ha, hb, Bool.true_and, decide_true, decide_false, Bool.true_or, Bool.false_or], trivial⟩
end Go.Am.Try
