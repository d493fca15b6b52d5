/- The walk of the law PoskeyDense on the machine. -/
import Derived.Test.YtpkflnohagieiaaLies
namespace Go.Am.Try
open Go Go.Am Go.Proofs
set_option maxRecDepth 100000
set_option linter.unusedSimpArgs false
set_option linter.unusedVariables false

theorem less_not {a b : List UInt8} (h : strLess a b = true) : strLess b a = false ∧ b ≠ a := by
  have h1 := cmp_less a b
  rw [h] at h1
  have h1 : cmpB a b = -1 := of_decide_eq_true h1.symm
  refine ⟨?_, fun e => ?_⟩
  · rw [cmp_less, cmp_neg a b, h1]; rfl
  · subst e; rw [cmp_self] at h1; cases h1

theorem dense_loop (wh : Int) : ∀ (f i : Nat) (fr : Fr) (M : Mem) (lo hi : List UInt8), i + f = 20 → fineK lo hi = true → lo.length ≤ 4 + i → hi.length ≤ 4 + i →
    fr.rd 1 = .int .i64 wh → fr.rd 5 = .str lo → fr.rd 6 = .str hi → fr.rd 7 = .int .i64 (i : Int) →
    WC D2 53 (.loop A5_14) fr M (blockQ 0 (nextQ (fun fr M => WC D2 53 (.seq (.ops A5_15) .ret) fr M (endQ [.tmp 4] fun v _ => v = .bool true)) (endQ [.tmp 4] fun v _ => v = .bool true))) := by
  intro f
  induction f with
  | zero =>
    intro i fr M lo hi hi20 hf hl1 hl2 h1 h5 h6 h7
    have : i = 20 := by omega
    subst this
    refine WC.loop ?_
    unfold A5_14
    refine WC.seq (WC.seq (WC.ops ?_))
    simp only [A5_6, go_sem, ↓reduceIte, Nat.reduceEqDiff, Nat.reduceLT, h7]
    refine WC.test (t := false) (by simp only [go_sem, ↓reduceIte, Nat.reduceEqDiff, Nat.reduceLT]; rfl) (fun h => by cases h) (fun _ => WC.exit ?_)
    simp only [go_sem]
    refine WC.seq (WC.ops ?_)
    simp only [A5_15, go_sem, ↓reduceIte, Nat.reduceEqDiff, Nat.reduceLT]
    refine callI_eq (knows_runs _) ?_
    simp only [go_sem, ↓reduceIte, Nat.reduceEqDiff, Nat.reduceLT]
    refine WC.ret ?_
    simp only [go_sem, ↓reduceIte, Nat.reduceEqDiff, Nat.reduceLT]
  | succ f ih =>
    intro i fr M lo hi hi20 hf hl1 hl2 h1 h5 h6 h7
    obtain ⟨k, hk, hkl⟩ := fine_found hf (by omega)
    obtain ⟨g1, g2, g3⟩ := btw_right hk
    have hv : btwV lo hi = .tup [.str k, .int .i64 0] := by simp only [btwV, hf, hk, if_true]
    have hfp : inK lo = true ∧ inK hi = true := by
      simp only [fineK, Bool.and_eq_true] at hf
      exact ⟨hf.1, hf.2.1⟩
    have hki : inK k = true := by simp only [inK, g1, Bool.or_true]
    refine WC.loop ?_
    unfold A5_14
    refine WC.seq (WC.seq (WC.ops ?_))
    simp only [A5_6, go_sem, ↓reduceIte, Nat.reduceEqDiff, Nat.reduceLT, h7]
    refine WC.test (t := true) (by simp only [go_sem, ↓reduceIte, Nat.reduceEqDiff, Nat.reduceLT]; rw [decide_eq_true (by omega)]) (fun _ => WC.skip ?_) (fun h => by cases h)
    simp only [go_sem]
    refine WC.seq (WC.block (WC.seq (WC.ops ?_)))
    simp only [A5_7, go_sem, ↓reduceIte, Nat.reduceEqDiff, Nat.reduceLT, h5, h6]
    refine callI_of (between_runs lo hi (by omega) M) ?_
    rintro v M1 rfl
    simp only [hv, go_sem, ↓reduceIte, Nat.reduceEqDiff, Nat.reduceLT, List.getElem?_cons_zero, List.getElem?_cons_succ]
    refine WC.seq (WC.seq (WC.ops ?_))
    simp only [A5_8, go_sem, ↓reduceIte, Nat.reduceEqDiff, Nat.reduceLT, h5, h6]
    refine callI_eq (num_runs _ _) ?_
    have hn := less_not g2
    simp only [go_sem, ↓reduceIte, Nat.reduceEqDiff, Nat.reduceLT, h5, h6, hn.1, decide_eq_false (Ne.symm hn.2), decide_eq_false hn.2, Bool.or_false, Bool.false_or]
    have hnext : ∀ (fr' : Fr) (M' : Mem) (lo' hi' : List UInt8), fineK lo' hi' = true → lo'.length ≤ 4 + (i + 1) → hi'.length ≤ 4 + (i + 1) → fr'.rd 1 = .int .i64 wh → fr'.rd 5 = .str lo' → fr'.rd 6 = .str hi' → fr'.rd 7 = .int .i64 (i : Int) →
        WC D2 53 (.ops A5_13) fr' M' (nextQ (fun fr M => WC D2 53 (.loop A5_14) fr M (blockQ 0 (nextQ (fun fr M => WC D2 53 (.seq (.ops A5_15) .ret) fr M (endQ [.tmp 4] fun v _ => v = .bool true)) (endQ [.tmp 4] fun v _ => v = .bool true)))) (blockQ 0 (nextQ (fun fr M => WC D2 53 (.seq (.ops A5_15) .ret) fr M (endQ [.tmp 4] fun v _ => v = .bool true)) (endQ [.tmp 4] fun v _ => v = .bool true)))) := by
      intro fr' M' lo' hi' q1 q2 q3 q4 q5 q6 q7
      refine WC.ops ?_
      simp only [A5_13, go_sem, ↓reduceIte, Nat.reduceEqDiff, Nat.reduceLT, q7]
      rw [IntWalk.i64_in _ (by omega)]
      exact ih (i + 1) _ M' lo' hi' (by omega) q1 q2 q3 (by simp only [go_sem, ↓reduceIte, Nat.reduceEqDiff, Nat.reduceLT, q4]) (by simp only [go_sem, ↓reduceIte, Nat.reduceEqDiff, Nat.reduceLT, q5]) (by simp only [go_sem, ↓reduceIte, Nat.reduceEqDiff, Nat.reduceLT, q6]) (by simp only [go_sem, ↓reduceIte, Nat.reduceEqDiff, Nat.reduceLT]; rfl)
    have hrest : ∀ (fr' : Fr) (M' : Mem), fr'.rd 1 = .int .i64 wh → fr'.rd 5 = .str lo → fr'.rd 6 = .str hi → fr'.rd 7 = .int .i64 (i : Int) → fr'.rd 8 = .str k →
        WC D2 53 (.seq (.ops A5_10) (.cond (r 49) (.ops A5_11) (.ops A5_12))) fr' M' (blockQ 1 (nextQ (fun fr M => WC D2 53 (.ops A5_13) fr M (nextQ (fun fr M => WC D2 53 (.loop A5_14) fr M (blockQ 0 (nextQ (fun fr M => WC D2 53 (.seq (.ops A5_15) .ret) fr M (endQ [.tmp 4] fun v _ => v = .bool true)) (endQ [.tmp 4] fun v _ => v = .bool true)))) (blockQ 0 (nextQ (fun fr M => WC D2 53 (.seq (.ops A5_15) .ret) fr M (endQ [.tmp 4] fun v _ => v = .bool true)) (endQ [.tmp 4] fun v _ => v = .bool true))))) (nextQ (fun fr M => WC D2 53 (.loop A5_14) fr M (blockQ 0 (nextQ (fun fr M => WC D2 53 (.seq (.ops A5_15) .ret) fr M (endQ [.tmp 4] fun v _ => v = .bool true)) (endQ [.tmp 4] fun v _ => v = .bool true)))) (blockQ 0 (nextQ (fun fr M => WC D2 53 (.seq (.ops A5_15) .ret) fr M (endQ [.tmp 4] fun v _ => v = .bool true)) (endQ [.tmp 4] fun v _ => v = .bool true)))))) := by
      intro fr' M' q1 q5 q6 q7 q8
      refine WC.seq (WC.ops ?_)
      simp only [A5_10, go_sem, ↓reduceIte, Nat.reduceEqDiff, Nat.reduceLT, q1, ne_eq, Int.reduceEq, not_false_eq_true]
      refine WC.test (by simp only [go_sem, ↓reduceIte, Nat.reduceEqDiff, Nat.reduceLT]; rfl) (fun _ => ?_) (fun _ => ?_)
      · refine WC.ops ?_
        simp only [A5_11, go_sem, ↓reduceIte, Nat.reduceEqDiff, Nat.reduceLT, q8]
        refine hnext _ _ k hi ?_ (by omega) (by omega) ?_ ?_ ?_ ?_
        · by_cases hh : hi = []
          · subst hh
            simp only [fineK, hki, hfp.2, decide_true, Bool.true_and, Bool.or_true, Bool.true_or]
          · simp only [fineK, hki, hfp.2, g3 hh, Bool.true_and, Bool.or_true]
        all_goals simp only [go_sem, ↓reduceIte, Nat.reduceEqDiff, Nat.reduceLT, q1, q5, q6, q7, q8]
      · refine WC.ops ?_
        simp only [A5_12, go_sem, ↓reduceIte, Nat.reduceEqDiff, Nat.reduceLT, q8]
        refine hnext _ _ lo k ?_ (by omega) (by omega) ?_ ?_ ?_ ?_
        · simp only [fineK, hki, hfp.1, g2, Bool.true_and, Bool.or_true]
        all_goals simp only [go_sem, ↓reduceIte, Nat.reduceEqDiff, Nat.reduceLT, q1, q5, q6, q7, q8]
    by_cases hh : hi = []
    · simp only [hh, go_sem, ↓reduceIte, Nat.reduceEqDiff, Nat.reduceLT, h5, h6]
      refine WC.test (t := false) (by simp only [go_sem, ↓reduceIte, Nat.reduceEqDiff, Nat.reduceLT]) (fun h => by cases h) (fun _ => WC.skip ?_)
      simp only [nextQ]
      refine hrest _ _ ?_ ?_ ?_ ?_ ?_
      all_goals simp only [go_sem, ↓reduceIte, Nat.reduceEqDiff, Nat.reduceLT, h1, h5, h6, h7, hh]
    · have g4 := g3 hh
      simp only [hh, go_sem, ↓reduceIte, Nat.reduceEqDiff, Nat.reduceLT, h5, h6, g4]
      refine WC.test (t := false) (by simp only [go_sem, ↓reduceIte, Nat.reduceEqDiff, Nat.reduceLT]) (fun h => by cases h) (fun _ => WC.skip ?_)
      simp only [nextQ]
      refine hrest _ _ ?_ ?_ ?_ ?_ ?_
      all_goals simp only [go_sem, ↓reduceIte, Nat.reduceEqDiff, Nat.reduceLT, h1, h5, h6, h7]

theorem dense_runs (a : List UInt8) (wh : Int) (M : Mem) : Runs D2 5 [.str a, .int .i64 wh] M fun v _ => v = .bool true := by
  refine Runs.of (F := A5) rfl (by rfl) (by rfl) ?_
  unfold A5
  refine WC.seq (WC.ops ?_)
  simp only [A5_0, go_sem]
  refine WC.seq (WC.seq (WC.ops ?_))
  simp only [A5_1, go_sem, ↓reduceIte, Nat.reduceEqDiff, Nat.reduceLT]
  refine callI_eq (right_runs _ _) ?_
  simp only [go_sem, ↓reduceIte, Nat.reduceEqDiff, Nat.reduceLT]
  have hout : ∀ (fr : Fr) (Q : AExit → Fr → Mem → Prop), (∀ fr, fr.rd 4 = .bool true → Q .ret fr M) → WC D2 53 (.seq (.ops A5_2) .ret) fr M Q := by
    intro fr Q hQ
    refine WC.seq (WC.ops ?_)
    simp only [A5_2, go_sem, ↓reduceIte, Nat.reduceEqDiff, Nat.reduceLT]
    refine callI_eq (knows_runs _) ?_
    simp only [go_sem, ↓reduceIte, Nat.reduceEqDiff, Nat.reduceLT]
    exact WC.ret (hQ _ (by simp only [go_sem, ↓reduceIte, Nat.reduceEqDiff, Nat.reduceLT]))
  cases hr : rightK a with
  | false =>
    simp only [go_sem, ↓reduceIte, Nat.reduceEqDiff, Nat.reduceLT]
    refine WC.test (t := true) (by simp only [go_sem, ↓reduceIte, Nat.reduceEqDiff, Nat.reduceLT]) (fun _ => ?_) (fun h => by cases h)
    refine hout _ _ fun fr h => ?_
    simp only [go_sem, h]
  | true =>
    simp only [go_sem, ↓reduceIte, Nat.reduceEqDiff, Nat.reduceLT]
    by_cases h4 : (4 : Int) < (a.length : Int)
    · simp only [h4, go_sem, ↓reduceIte, Nat.reduceEqDiff, Nat.reduceLT]
      refine WC.test (t := true) (by simp only [go_sem, ↓reduceIte, Nat.reduceEqDiff, Nat.reduceLT]) (fun _ => ?_) (fun h => by cases h)
      refine hout _ _ fun fr h => ?_
      simp only [go_sem, h]
    · simp only [h4, go_sem, ↓reduceIte, Nat.reduceEqDiff, Nat.reduceLT]
      refine WC.test (t := false) (by simp only [go_sem, ↓reduceIte, Nat.reduceEqDiff, Nat.reduceLT]) (fun h => by cases h) (fun _ => WC.skip ?_)
      simp only [nextQ]
      refine WC.seq (WC.ops ?_)
      simp only [A5_3, go_sem, ↓reduceIte, Nat.reduceEqDiff, Nat.reduceLT]
      refine WC.seq (WC.ops ?_)
      simp only [A5_4, go_sem, ↓reduceIte, Nat.reduceEqDiff, Nat.reduceLT]
      refine WC.seq (WC.seq (WC.ops ?_))
      simp only [A5_5, go_sem, ↓reduceIte, Nat.reduceEqDiff, Nat.reduceLT]
      refine WC.block (dense_loop wh 20 0 _ M a [] rfl ?_ (by omega) (by simp) ?_ ?_ ?_ ?_)
      · simp only [fineK, inK, hr, decide_true, Bool.or_true, Bool.true_or, Bool.true_and]
      all_goals simp only [go_sem, ↓reduceIte, Nat.reduceEqDiff, Nat.reduceLT]
      rfl
end Go.Am.Try
