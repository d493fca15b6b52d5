/- The walk of the law PoskeyBetween on the machine. -/
import Derived.Test.YtpkflnohagieiaaRef8
namespace Go.Am.Try
open Go Go.Am Go.Proofs
set_option maxRecDepth 100000
set_option linter.unusedSimpArgs false
set_option linter.unusedVariables false

theorem law_between_runs (a b : List UInt8) (ha : a.length < 2 ^ 63) (hb : b.length < 2 ^ 63) (M : Mem) : Runs D2 3 [.str a, .str b] M fun v _ => v = .bool true := by
  refine Runs.of (F := A3) rfl (by rfl) (by rfl) ?_
  unfold A3
  refine WC.seq (WC.ops ?_)
  simp only [A3_0, go_sem]
  refine WC.seq (WC.ops ?_)
  simp only [A3_1, go_sem, ↓reduceIte, Nat.reduceEqDiff, Nat.reduceLT]
  refine callI_of (between_runs a b hb M) ?_
  intro v M1 hv1
  rw [hv1]
  obtain ⟨k, e, hv⟩ : ∃ k e, btwV a b = .tup [.str k, .int .i64 e] := by
    unfold btwV
    split
    · split <;> exact ⟨_, _, rfl⟩
    · exact ⟨_, _, rfl⟩
  simp only [hv, go_sem, ↓reduceIte, Nat.reduceEqDiff, Nat.reduceLT, List.getElem?_cons_zero, List.getElem?_cons_succ]
  refine WC.seq (WC.ops ?_)
  simp only [A3_2, go_sem, ↓reduceIte, Nat.reduceEqDiff, Nat.reduceLT]
  refine callI_of (rbetween_runs a b ha hb M1) ?_
  intro v M2 hv2
  rw [hv2]
  simp only [hv, go_sem, ↓reduceIte, Nat.reduceEqDiff, Nat.reduceLT, List.getElem?_cons_zero, List.getElem?_cons_succ]
  refine WC.seq (WC.ops ?_)
  simp only [A3_3, go_sem, ↓reduceIte, Nat.reduceEqDiff, Nat.reduceLT]
  refine callI_eq (num_runs _ _) ?_
  simp only [go_sem, ↓reduceIte, Nat.reduceEqDiff, Nat.reduceLT]
  refine callI_eq (right_runs _ _) ?_
  simp only [go_sem, ↓reduceIte, Nat.reduceEqDiff, Nat.reduceLT]
  refine callI_eq (rright_runs _ _) ?_
  simp only [go_sem, ↓reduceIte, Nat.reduceEqDiff, Nat.reduceLT]
  refine callI_eq (Compare_runs _ _ _) ?_
  simp only [go_sem, ↓reduceIte, Nat.reduceEqDiff, Nat.reduceLT]
  refine callI_eq (rcompare_runs _ _ ha hb _) ?_
  simp only [go_sem, ↓reduceIte, Nat.reduceEqDiff, Nat.reduceLT]
  refine callI_eq (knows_runs _) ?_
  simp only [go_sem, ↓reduceIte, Nat.reduceEqDiff, Nat.reduceLT]
  refine WC.ret ?_
  simp only [go_sem, ↓reduceIte, Nat.reduceEqDiff, Nat.reduceLT]
end Go.Am.Try
