/- The reference's first and text, on the machine. -/
import Derived.Test.YtpkflnohagieiaaRef3
namespace Go.Am.Try
open Go Go.Am Go.Proofs
set_option maxRecDepth 100000
set_option linter.unusedSimpArgs false
set_option linter.unusedVariables false

def stage (p : List UInt8) (i : Nat) : List UInt8 := p.take i ++ List.replicate (p.length - i) 0
theorem stage_len (p : List UInt8) (i : Nat) (h : i ≤ p.length) : (stage p i).length = p.length := by simp [stage]; omega
theorem stage_next (p : List UInt8) (i : Nat) (h : i < p.length) : (stage p i).set i p[i] = stage p (i + 1) := by
  unfold stage
  rw [List.set_append_right _ _ (by simp; omega)]
  have e : i - (p.take i).length = 0 := by simp; omega
  rw [e, show p.length - i = (p.length - (i + 1)) + 1 by omega, List.replicate_succ, List.set_cons_zero, List.take_succ_eq_append_getElem h, List.append_assoc]
  rfl
theorem stage_full (p : List UInt8) : stage p p.length = p := by simp [stage]

theorem first_loop {Q : AExit → Fr → Mem → Prop} (a : List UInt8) (b : Nat) (n : Nat) (hn : n < 2 ^ 40) : ∀ (f i : Nat) (fr : Fr) (M M0 : Mem), i + f = n → fr.rd 0 = .str a → fr.rd 1 = .int .i64 (n : Int) → fr.rd 5 = .slice (some (b, 0)) n (.exact n) → fr.rd 6 = .int .i64 (i : Int) →
    Upd M0 b (.cells (numsC (stage (padTo a n) i)) false) M →
    (∀ fr' M', fr'.rd 5 = .slice (some (b, 0)) n (.exact n) → Upd M0 b (.cells (numsC (padTo a n)) false) M' → Q (.exit 0) fr' M') → WC D2 24 (.loop A23_6) fr M Q := by
  have hp := padTo_len a n
  intro f
  induction f with
  | zero =>
    intro i fr M M0 hi h0 h1 h5 h6 hM hQ
    have : i = n := by omega
    subst this
    refine WC.loop ?_
    unfold A23_6
    refine WC.seq (WC.seq (WC.ops ?_))
    simp only [A23_3, go_sem, ↓reduceIte, Nat.reduceEqDiff, Nat.reduceLT, h6, h1]
    refine WC.test (t := false) (by simp only [go_sem, ↓reduceIte, Nat.reduceEqDiff, Nat.reduceLT]; simp) (fun h => by cases h) (fun _ => WC.exit ?_)
    simp only [nextQ]
    have := stage_full (padTo a i)
    rw [hp] at this
    rw [this] at hM
    exact hQ _ _ (by simp only [go_sem, ↓reduceIte, Nat.reduceEqDiff, Nat.reduceLT, h5]) hM
  | succ f ih =>
    intro i fr M M0 hi h0 h1 h5 h6 hM hQ
    refine WC.loop ?_
    unfold A23_6
    refine WC.seq (WC.seq (WC.ops ?_))
    simp only [A23_3, go_sem, ↓reduceIte, Nat.reduceEqDiff, Nat.reduceLT, h6, h1]
    refine WC.test (t := true) (by simp only [go_sem, ↓reduceIte, Nat.reduceEqDiff, Nat.reduceLT]; rw [decide_eq_true (by omega)]) (fun _ => WC.skip ?_) (fun h => by cases h)
    simp only [nextQ]
    refine WC.seq (WC.block (WC.ops ?_))
    simp only [A23_4, go_sem, ↓reduceIte, Nat.reduceEqDiff, Nat.reduceLT, h0, h5, h6]
    refine callI_eq (rdigit_runs a i (by omega) M) ?_
    have hpi : (digitL a i : Int) = ((padTo a n)[i]'(by omega)).toNat := by
      have := digit_pad a n i (by omega)
      rw [← this]
      simp [digitL, List.getD_eq_getElem?_getD, List.getElem?_eq_getElem (show i < (padTo a n).length by omega)]
    simp only [go_sem, ↓reduceIte, Nat.reduceEqDiff, Nat.reduceLT, h5, h6, decide_eq_true (show i + 1 ≤ n by omega), Nat.zero_add, Nat.mul_one, vstore, V.cells, List.length_cons, List.length_nil, hpi]
    rw [write_one hM.at_ (by rw [numsC_len, stage_len _ _ (by omega), hp]; omega) rfl, numsC_set, stage_next _ _ (by omega)]
    simp only [go_sem, ↓reduceIte, Nat.reduceEqDiff, Nat.reduceLT]
    have hu := hM.trans (Upd.set M b (.cells (numsC (stage (padTo a n) (i + 1))) false))
    generalize M.set b _ = M1 at hu
    refine WC.ops ?_
    simp only [A23_5, go_sem, ↓reduceIte, Nat.reduceEqDiff, Nat.reduceLT, h6]
    rw [IntWalk.i64_in _ (by omega)]
    exact ih (i + 1) _ M1 M0 (by omega) (by simp only [go_sem, ↓reduceIte, Nat.reduceEqDiff, Nat.reduceLT, h0]) (by simp only [go_sem, ↓reduceIte, Nat.reduceEqDiff, Nat.reduceLT, h1]) (by simp only [go_sem, ↓reduceIte, Nat.reduceEqDiff, Nat.reduceLT, h5]) (by simp only [go_sem, ↓reduceIte, Nat.reduceEqDiff, Nat.reduceLT]; rfl) hu hQ

theorem first_runs (a : List UInt8) (n : Nat) (h1n : 1 ≤ n) (hn : n < 2 ^ 40) (M : Mem) : Runs D2 23 [.str a, .int .i64 (n : Int)] M fun v M' => Grew M M' ∧
    ((∃ l, incFrom (padTo a n) n = some l ∧ l.length = n ∧ v = .slice (some (M.next, 0)) n (.exact n) ∧ M'.get M.next = some (.cells (numsC l) false) ∧ M.next < M'.next) ∨
     (incFrom (padTo a n) n = none ∧ v = .slice none 0 (.exact 0))) := by
  have hp := padTo_len a n
  refine Runs.of (F := A23) rfl (by rfl) (by rfl) ?_
  unfold A23
  refine WC.seq (WC.ops ?_)
  simp only [A23_0, go_sem]
  refine WC.seq (WC.ops ?_)
  simp only [A23_1, go_sem, ↓reduceIte, Nat.reduceEqDiff, Nat.reduceLT, Nat.le_refl, decide_eq_true (show n * 8 ≤ maxRoom by unfold maxRoom; omega), decide_eq_true (show n ≤ maxRoom by unfold maxRoom; omega)]
  refine WC.seq (WC.seq (WC.ops ?_))
  simp only [A23_2, go_sem, ↓reduceIte, Nat.reduceEqDiff, Nat.reduceLT]
  have h0 : (M.push (.cells (repl n [.int .i64 0]) false)).get M.next = some (.cells (numsC (stage (padTo a n) 0)) false) := by
    rw [Mem.get_push_same, repl_one]
    simp [numsC, stage, hp]
  have hg : Grew M (M.push (.cells (repl n [.int .i64 0]) false)) := Grew.push M _
  have hnx : M.next < (M.push (.cells (repl n [.int .i64 0]) false)).next := Nat.lt_succ_self _
  generalize M.push (.cells (repl n [.int .i64 0]) false) = M1 at h0 hg hnx
  refine WC.block (first_loop a M.next n hn n 0 _ M1 M1 (by omega) (by simp only [go_sem, ↓reduceIte, Nat.reduceEqDiff, Nat.reduceLT]) (by simp only [go_sem, ↓reduceIte, Nat.reduceEqDiff, Nat.reduceLT]) (by simp only [go_sem, ↓reduceIte, Nat.reduceEqDiff, Nat.reduceLT]) (by simp only [go_sem, ↓reduceIte, Nat.reduceEqDiff, Nat.reduceLT]; rfl) (Upd.same h0) ?_)
  intro fr M2 h5 hu
  simp only [go_sem]
  refine WC.seq (WC.seq (WC.ops ?_))
  simp only [A23_7, go_sem, ↓reduceIte, Nat.reduceEqDiff, Nat.reduceLT, h5]
  have hc := carry_runs M.next (padTo a n) (by omega) M2 hu.at_
  rw [hp] at hc
  refine callI_of hc ?_
  intro v M3 hv
  rcases hv with ⟨l, h1, h2, rfl, h4⟩ | ⟨l, h1, rfl, h4⟩
  · simp only [go_sem, ↓reduceIte, Nat.reduceEqDiff, Nat.reduceLT]
    refine WC.test (t := false) (by simp only [go_sem, ↓reduceIte, Nat.reduceEqDiff, Nat.reduceLT]) (fun h => by cases h) (fun _ => WC.skip ?_)
    simp only [nextQ]
    refine WC.seq (WC.ops ?_)
    simp only [A23_9, go_sem, ↓reduceIte, Nat.reduceEqDiff, Nat.reduceLT, h5]
    refine WC.ret ?_
    simp only [go_sem, ↓reduceIte, Nat.reduceEqDiff, Nat.reduceLT]
    exact ⟨hg.upd (Nat.le_refl _) (hu.trans h4), .inl ⟨l, h1, h2, trivial, h4.at_, by rw [(hu.trans h4).next]; exact hnx⟩⟩
  · simp only [go_sem, ↓reduceIte, Nat.reduceEqDiff, Nat.reduceLT]
    refine WC.test (t := true) (by simp only [go_sem, ↓reduceIte, Nat.reduceEqDiff, Nat.reduceLT]) (fun _ => ?_) (fun h => by cases h)
    refine WC.seq (WC.ops ?_)
    simp only [A23_8, go_sem, ↓reduceIte, Nat.reduceEqDiff, Nat.reduceLT, h5]
    refine WC.ret ?_
    simp only [go_sem, ↓reduceIte, Nat.reduceEqDiff, Nat.reduceLT]
    exact ⟨hg.upd (Nat.le_refl _) (hu.trans h4), .inr ⟨h1, trivial⟩⟩
end Go.Am.Try
