/- The reference's fine, carry and first, on the machine. -/
import Derived.Test.YtpkflnohagieiaaRef1
namespace Go.Am.Try
open Go Go.Am Go.Proofs
set_option maxRecDepth 100000
set_option linter.unusedSimpArgs false
set_option linter.unusedVariables false

theorem rfine_runs (a b : List UInt8) (ha : a.length < 2 ^ 63) (hb : b.length < 2 ^ 63) (M : Mem) : Runs D2 22 [.str a, .str b] M fun v M' => v = .bool (fineK a b) ∧ M' = M := by
  have hl : decide (cmpB a b < 0) = strLess a b := by
    rw [cmp_less]
    rcases cmp_three a b with h | h | h <;> rw [h] <;> rfl
  refine Runs.of (F := A22) rfl (by rfl) (by rfl) ?_
  unfold A22
  refine WC.seq (WC.ops ?_)
  simp only [A22_0, go_sem]
  have hno : ∀ (fr : Fr) (Q : AExit → Fr → Mem → Prop), (∀ fr, fr.rd 4 = .bool false → Q .ret fr M) → WC D2 33 (.seq (.ops A22_2) .ret) fr M Q := by
    intro fr Q hQ
    refine WC.seq (WC.ops ?_)
    simp only [A22_2, go_sem, ↓reduceIte, Nat.reduceEqDiff, Nat.reduceLT]
    exact WC.ret (hQ _ (by simp only [go_sem, ↓reduceIte, Nat.reduceEqDiff, Nat.reduceLT]))
  have hyes : ∀ (fr : Fr) (Q : AExit → Fr → Mem → Prop), fr.rd 0 = .str a → fr.rd 1 = .str b → (∀ fr, fr.rd 4 = .bool (decide (a = []) || (decide (b = []) || strLess a b)) → Q .ret fr M) → WC D2 33 (.seq (.ops A22_3) .ret) fr M Q := by
    intro fr Q h0 h1 hQ
    refine WC.seq (WC.ops ?_)
    simp only [A22_3, go_sem, ↓reduceIte, Nat.reduceEqDiff, Nat.reduceLT, h0, h1]
    by_cases hae : a = [] <;> by_cases hbe : b = []
    · simp only [hae, hbe, go_sem, ↓reduceIte, Nat.reduceEqDiff, Nat.reduceLT, h0, h1]
      refine WC.ret (hQ _ ?_)
      simp only [go_sem, ↓reduceIte, Nat.reduceEqDiff, Nat.reduceLT, hae] <;> simp
    · simp only [hae, hbe, go_sem, ↓reduceIte, Nat.reduceEqDiff, Nat.reduceLT, h0, h1]
      refine WC.ret (hQ _ ?_)
      simp only [go_sem, ↓reduceIte, Nat.reduceEqDiff, Nat.reduceLT, hae] <;> simp
    · simp only [hae, hbe, go_sem, ↓reduceIte, Nat.reduceEqDiff, Nat.reduceLT, h0, h1]
      refine WC.ret (hQ _ ?_)
      simp only [go_sem, ↓reduceIte, Nat.reduceEqDiff, Nat.reduceLT, hae, hbe] <;> simp
    · simp only [hae, hbe, go_sem, ↓reduceIte, Nat.reduceEqDiff, Nat.reduceLT, h0, h1]
      refine callI_eq (rcompare_runs a b ha hb M) ?_
      simp only [hae, hbe, hl, go_sem, ↓reduceIte, Nat.reduceEqDiff, Nat.reduceLT, h0, h1]
      refine WC.ret (hQ _ ?_)
      simp only [go_sem, ↓reduceIte, Nat.reduceEqDiff, Nat.reduceLT, hae, hbe] <;> simp
  refine WC.seq (WC.seq (WC.ops ?_))
  simp only [A22_1, go_sem, ↓reduceIte, Nat.reduceEqDiff, Nat.reduceLT]
  have hB : ∀ t, inK a = true → t = fineK a b → t = (inK b && (decide (a = []) || (decide (b = []) || strLess a b))) := fun t h e => by rw [e, fineK, h, Bool.true_and]
  have fin : ∀ (fr : Fr), fr.rd 0 = .str a → fr.rd 1 = .str b → inK a = true → inK b = true → nextQ (fun fr M_1 => WC D2 33 (.seq (.ops A22_3) .ret) fr M_1 (endQ [.tmp 4] fun v M' => v = .bool (fineK a b) ∧ M' = M)) (endQ [.tmp 4] fun v M' => v = .bool (fineK a b) ∧ M' = M) .normal fr M := by
    intro fr h0 h1 hia hib
    refine hyes fr _ h0 h1 fun fr h4 => ?_
    simp only [go_sem, h4]
    exact ⟨by simp only [fineK, hia, hib, Bool.true_and], trivial⟩
  by_cases hae : a = []
  · by_cases hbe : b = []
    · simp only [hae, hbe, go_sem, ↓reduceIte, Nat.reduceEqDiff, Nat.reduceLT]
      refine WC.test (t := false) (by simp only [go_sem, ↓reduceIte, Nat.reduceEqDiff, Nat.reduceLT]) (fun h => by cases h) (fun _ => WC.skip ?_)
      rw [hae, hbe] at fin
      refine fin _ ?_ ?_ rfl rfl
      all_goals simp only [go_sem, ↓reduceIte, Nat.reduceEqDiff, Nat.reduceLT]
    · simp only [hae, hbe, go_sem, ↓reduceIte, Nat.reduceEqDiff, Nat.reduceLT]
      refine callI_eq (rright_runs _ _) ?_
      have hia : inK a = true := by rw [hae]; rfl
      cases hr : rightK b with
      | false =>
        simp only [go_sem, ↓reduceIte, Nat.reduceEqDiff, Nat.reduceLT]
        refine WC.test (t := true) (by simp only [go_sem, ↓reduceIte, Nat.reduceEqDiff, Nat.reduceLT]) (fun _ => ?_) (fun h => by cases h)
        refine hno _ _ fun fr h4 => ?_
        simp only [go_sem, h4]
        exact ⟨by simp only [fineK, inK, hbe, hr, decide_false, Bool.false_or, Bool.false_and, Bool.and_false], trivial⟩
      | true =>
        simp only [go_sem, ↓reduceIte, Nat.reduceEqDiff, Nat.reduceLT]
        refine WC.test (t := false) (by simp only [go_sem, ↓reduceIte, Nat.reduceEqDiff, Nat.reduceLT]) (fun h => by cases h) (fun _ => WC.skip ?_)
        rw [hae] at fin
        refine fin _ ?_ ?_ rfl (by simp only [inK, hr, Bool.or_true])
        all_goals simp only [go_sem, ↓reduceIte, Nat.reduceEqDiff, Nat.reduceLT]
  · simp only [hae, go_sem, ↓reduceIte, Nat.reduceEqDiff, Nat.reduceLT]
    refine callI_eq (rright_runs _ _) ?_
    cases hr : rightK a with
    | false =>
      simp only [go_sem, ↓reduceIte, Nat.reduceEqDiff, Nat.reduceLT]
      refine WC.test (t := true) (by simp only [go_sem, ↓reduceIte, Nat.reduceEqDiff, Nat.reduceLT]) (fun _ => ?_) (fun h => by cases h)
      refine hno _ _ fun fr h4 => ?_
      simp only [go_sem, h4]
      exact ⟨by simp only [fineK, inK, hae, hr, decide_false, Bool.false_or, Bool.false_and], trivial⟩
    | true =>
      have hia : inK a = true := by simp only [inK, hr, Bool.or_true]
      simp only [go_sem, ↓reduceIte, Nat.reduceEqDiff, Nat.reduceLT]
      by_cases hbe : b = []
      · simp only [hbe, go_sem, ↓reduceIte, Nat.reduceEqDiff, Nat.reduceLT]
        refine WC.test (t := false) (by simp only [go_sem, ↓reduceIte, Nat.reduceEqDiff, Nat.reduceLT]) (fun h => by cases h) (fun _ => WC.skip ?_)
        rw [hbe] at fin
        refine fin _ ?_ ?_ hia rfl
        all_goals simp only [go_sem, ↓reduceIte, Nat.reduceEqDiff, Nat.reduceLT]
      · simp only [hbe, go_sem, ↓reduceIte, Nat.reduceEqDiff, Nat.reduceLT]
        refine callI_eq (rright_runs _ _) ?_
        cases hr2 : rightK b with
        | false =>
          simp only [go_sem, ↓reduceIte, Nat.reduceEqDiff, Nat.reduceLT]
          refine WC.test (t := true) (by simp only [go_sem, ↓reduceIte, Nat.reduceEqDiff, Nat.reduceLT]) (fun _ => ?_) (fun h => by cases h)
          refine hno _ _ fun fr h4 => ?_
          simp only [go_sem, h4]
          exact ⟨by simp only [fineK, inK, hbe, hr2, decide_false, Bool.false_or, Bool.false_and, Bool.and_false], trivial⟩
        | true =>
          simp only [go_sem, ↓reduceIte, Nat.reduceEqDiff, Nat.reduceLT]
          refine WC.test (t := false) (by simp only [go_sem, ↓reduceIte, Nat.reduceEqDiff, Nat.reduceLT]) (fun h => by cases h) (fun _ => WC.skip ?_)
          refine fin _ ?_ ?_ hia (by simp only [inK, hr2, Bool.or_true])
          all_goals simp only [go_sem, ↓reduceIte, Nat.reduceEqDiff, Nat.reduceLT]
end Go.Am.Try
