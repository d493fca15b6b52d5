/- The reference's below, on the machine. -/
import Derived.Test.YtpkflnohagieiaaRef5
namespace Go.Am.Try
open Go Go.Am Go.Proofs
set_option maxRecDepth 100000
set_option linter.unusedSimpArgs false
set_option linter.unusedVariables false

def belAt (l b : List UInt8) : Nat → Nat → Bool
  | 0, _ => false
  | k + 1, i => if digitL l i = digitL b i then belAt l b k (i + 1) else decide (digitL l i < digitL b i)
def belowL (l b : List UInt8) : Bool := decide (b = []) || belAt l b (max l.length b.length) 0

theorem below_loop {Q : AExit → Fr → Mem → Prop} (l b : List UInt8) (c : Nat) (hl : l.length < 2 ^ 40) (hb : b.length < 2 ^ 40) (M : Mem) (hM : M.get c = some (.cells (numsC l) false)) (t : Bool) (hQ : ∀ fr, fr.rd 4 = .bool t → Q .ret fr M) (hQ2 : ∀ fr, t = false → Q (.exit 0) fr M) : ∀ (f i : Nat) (fr : Fr), i + f = max l.length b.length → belAt l b f i = t →
    fr.rd 0 = .slice (some (c, 0)) l.length (.exact l.length) → fr.rd 1 = .str b → fr.rd 5 = .int .i64 (i : Int) → WC D2 39 (.loop A24_11) fr M Q := by
  intro f
  induction f with
  | zero =>
    intro i fr hi ht h0 h1 h5
    have hia : ¬ (i : Int) < (l.length : Int) := by omega
    have hib : ¬ (i : Int) < (b.length : Int) := by omega
    refine WC.loop ?_
    unfold A24_11
    refine WC.seq (WC.seq (WC.ops ?_))
    simp only [A24_4, hia, hib, go_sem, ↓reduceIte, Nat.reduceEqDiff, Nat.reduceLT, h0, h1, h5]
    refine WC.test (t := false) (by simp only [go_sem, ↓reduceIte, Nat.reduceEqDiff, Nat.reduceLT]) (fun h => by cases h) (fun _ => WC.exit ?_)
    simp only [nextQ]
    exact hQ2 _ ht.symm
  | succ f ih =>
    intro i fr hi ht h0 h1 h5
    have hd := digit_lt b i
    have hd' := digit_lt l i
    simp only [belAt] at ht
    refine WC.loop ?_
    unfold A24_11
    refine WC.seq (WC.seq (WC.ops ?_))
    have hin : (i : Int) < (l.length : Int) ∨ (i : Int) < (b.length : Int) := by omega
    have hgo : ∀ fr' : Fr, fr'.rd 18 = .bool true → fr'.rd 0 = .slice (some (c, 0)) l.length (.exact l.length) → fr'.rd 1 = .str b → fr'.rd 5 = .int .i64 (i : Int) →
        WC D2 39 (.cond (r 18) .skip (.exit 0)) fr' M (nextQ (fun fr M => WC D2 39 (.seq (.block 1 (.seq (.ops A24_5) (.seq (.seq (.ops A24_6) (.cond (r 24) (.ops A24_7) .skip)) (.seq (.ops A24_8) (.cond (r 33) (.seq (.ops A24_9) .ret) .skip))))) (.ops A24_10)) fr M (nextQ (fun fr M => WC D2 39 (.loop A24_11) fr M Q) Q)) (nextQ (fun fr M => WC D2 39 (.loop A24_11) fr M Q) Q)) := by
      intro fr' q18 q0 q1 q5
      refine WC.test (t := true) (by simp only [go_sem, q18]) (fun _ => WC.skip ?_) (fun h => by cases h)
      simp only [nextQ]
      refine WC.seq (WC.block (WC.seq (WC.ops ?_)))
      simp only [A24_5, go_sem, ↓reduceIte, Nat.reduceEqDiff, Nat.reduceLT]
      have hmid : ∀ fr2 : Fr, fr2.rd 6 = .int .i64 (digitL l i : Int) → fr2.rd 0 = .slice (some (c, 0)) l.length (.exact l.length) → fr2.rd 1 = .str b → fr2.rd 5 = .int .i64 (i : Int) →
          WC D2 39 (.seq (.ops A24_8) (.cond (r 33) (.seq (.ops A24_9) .ret) .skip)) fr2 M (blockQ 1 (nextQ (fun fr M => WC D2 39 (.ops A24_10) fr M (nextQ (fun fr M => WC D2 39 (.loop A24_11) fr M Q) Q)) (nextQ (fun fr M => WC D2 39 (.loop A24_11) fr M Q) Q))) := by
        intro fr2 p6 p0 p1 p5
        refine WC.seq (WC.ops ?_)
        simp only [A24_8, go_sem, ↓reduceIte, Nat.reduceEqDiff, Nat.reduceLT, p6, p1, p5]
        refine callI_eq (rdigit_runs b i (by omega) M) ?_
        simp only [go_sem, ↓reduceIte, Nat.reduceEqDiff, Nat.reduceLT, p6, p1, p5]
        by_cases he : digitL l i = digitL b i
        · have he' : (digitL l i : Int) = (digitL b i : Int) := by omega
          rw [if_pos he] at ht
          refine WC.test (t := false) (by simp only [he', go_sem, ↓reduceIte, Nat.reduceEqDiff, Nat.reduceLT]) (fun h => by cases h) (fun _ => WC.skip ?_)
          simp only [nextQ, blockQ]
          refine WC.ops ?_
          simp only [A24_10, go_sem, ↓reduceIte, Nat.reduceEqDiff, Nat.reduceLT, p5]
          rw [IntWalk.i64_in _ (by omega)]
          exact ih (i + 1) _ (by omega) ht (by simp only [go_sem, ↓reduceIte, Nat.reduceEqDiff, Nat.reduceLT, p0]) (by simp only [go_sem, ↓reduceIte, Nat.reduceEqDiff, Nat.reduceLT, p1]) (by simp only [go_sem, ↓reduceIte, Nat.reduceEqDiff, Nat.reduceLT]; rfl)
        · have he' : ¬ (digitL l i : Int) = (digitL b i : Int) := by omega
          rw [if_neg he] at ht
          refine WC.test (t := true) (by simp only [he', go_sem, ↓reduceIte, Nat.reduceEqDiff, Nat.reduceLT]) (fun _ => ?_) (fun h => by cases h)
          refine WC.seq (WC.ops ?_)
          simp only [A24_9, go_sem, ↓reduceIte, Nat.reduceEqDiff, Nat.reduceLT, p6, p1, p5]
          refine callI_eq (rdigit_runs b i (by omega) M) ?_
          simp only [go_sem, ↓reduceIte, Nat.reduceEqDiff, Nat.reduceLT, p6, p1, p5]
          refine WC.ret ?_
          simp only [nextQ, blockQ]
          refine hQ _ ?_
          simp only [go_sem, ↓reduceIte, Nat.reduceEqDiff, Nat.reduceLT]
          rw [← ht]
          simp only [Int.ofNat_lt]
      refine WC.seq (WC.seq (WC.ops ?_))
      simp only [A24_6, go_sem, ↓reduceIte, Nat.reduceEqDiff, Nat.reduceLT, q0, q5]
      refine WC.test (by simp only [go_sem, ↓reduceIte, Nat.reduceEqDiff, Nat.reduceLT]; rfl) (fun h => WC.ops ?_) (fun h => WC.skip ?_)
      · have hil : i < l.length := by have := of_decide_eq_true h; omega
        have hg : (numsC l)[i]? = some (.int .i64 (l[i].toNat : Int)) := by rw [numsC_get, List.getElem?_eq_getElem hil]; rfl
        have hD : digitL l i = l[i].toNat := by simp [digitL, List.getD_eq_getElem?_getD, List.getElem?_eq_getElem hil]
        simp only [A24_7, go_sem, ↓reduceIte, Nat.reduceEqDiff, Nat.reduceLT, q0, q5, decide_eq_true (show i + 1 ≤ l.length by omega), vload, hM, hg, Nat.zero_add, Nat.mul_one]
        refine hmid _ ?_ ?_ ?_ ?_
        all_goals simp only [go_sem, ↓reduceIte, Nat.reduceEqDiff, Nat.reduceLT, q0, q1, q5, hD]
      · have hil : l.length ≤ i := by have := of_decide_eq_false h; omega
        simp only [nextQ]
        refine hmid _ ?_ ?_ ?_ ?_
        all_goals simp only [go_sem, ↓reduceIte, Nat.reduceEqDiff, Nat.reduceLT, q0, q1, q5, digit_out hil]
        rfl
    simp only [A24_4, go_sem, ↓reduceIte, Nat.reduceEqDiff, Nat.reduceLT, h0, h1, h5]
    by_cases hia : (i : Int) < (l.length : Int)
    · simp only [hia, go_sem, ↓reduceIte, Nat.reduceEqDiff, Nat.reduceLT, h0, h1, h5]
      refine hgo _ ?_ ?_ ?_ ?_
      all_goals simp only [go_sem, ↓reduceIte, Nat.reduceEqDiff, Nat.reduceLT, h0, h1, h5]
    · have hib := hin.resolve_left hia
      simp only [hia, hib, go_sem, ↓reduceIte, Nat.reduceEqDiff, Nat.reduceLT, h0, h1, h5]
      refine hgo _ ?_ ?_ ?_ ?_
      all_goals simp only [go_sem, ↓reduceIte, Nat.reduceEqDiff, Nat.reduceLT, h0, h1, h5]

theorem below_runs (l b : List UInt8) (c : Nat) (hl : l.length < 2 ^ 40) (hb : b.length < 2 ^ 40) (M : Mem) (hM : M.get c = some (.cells (numsC l) false)) : Runs D2 24 [.slice (some (c, 0)) l.length (.exact l.length), .str b] M fun v M' => v = .bool (belowL l b) ∧ M' = M := by
  refine Runs.of (F := A24) rfl (by rfl) (by rfl) ?_
  unfold A24
  refine WC.seq (WC.ops ?_)
  simp only [A24_0, go_sem]
  refine WC.seq (WC.seq (WC.ops ?_))
  simp only [A24_1, go_sem, ↓reduceIte, Nat.reduceEqDiff, Nat.reduceLT]
  by_cases hbe : b = []
  · refine WC.test (t := true) (by simp only [hbe, go_sem, ↓reduceIte, Nat.reduceEqDiff, Nat.reduceLT]) (fun _ => ?_) (fun h => by cases h)
    refine WC.seq (WC.ops ?_)
    simp only [A24_2, go_sem, ↓reduceIte, Nat.reduceEqDiff, Nat.reduceLT]
    refine WC.ret ?_
    simp only [go_sem, ↓reduceIte, Nat.reduceEqDiff, Nat.reduceLT]
    exact ⟨by simp [belowL, hbe], trivial⟩
  · refine WC.test (t := false) (by simp only [hbe, go_sem, ↓reduceIte, Nat.reduceEqDiff, Nat.reduceLT]) (fun h => by cases h) (fun _ => WC.skip ?_)
    simp only [nextQ]
    refine WC.seq (WC.seq (WC.ops ?_))
    simp only [A24_3, go_sem, ↓reduceIte, Nat.reduceEqDiff, Nat.reduceLT]
    have hB : belowL l b = belAt l b (max l.length b.length) 0 := by simp [belowL, hbe]
    refine WC.block (below_loop l b c hl hb M hM (belowL l b) ?_ ?_ (max l.length b.length) 0 _ (by omega) hB.symm ?_ ?_ ?_)
    · intro fr h4
      simp only [go_sem, h4]
      exact ⟨trivial, trivial⟩
    · intro fr hf
      simp only [go_sem]
      refine WC.seq (WC.ops ?_)
      simp only [A24_12, go_sem, ↓reduceIte, Nat.reduceEqDiff, Nat.reduceLT]
      refine WC.ret ?_
      simp only [go_sem, ↓reduceIte, Nat.reduceEqDiff, Nat.reduceLT]
      exact ⟨by rw [hf], trivial⟩
    all_goals simp only [go_sem, ↓reduceIte, Nat.reduceEqDiff, Nat.reduceLT]
    rfl
end Go.Am.Try
