/- The reference's text, on the machine. -/
import Derived.Test.YtpkflnohagieiaaRef4
namespace Go.Am.Try
open Go Go.Am Go.Proofs
set_option maxRecDepth 100000
set_option linter.unusedSimpArgs false
set_option linter.unusedVariables false

theorem text_loop {Q : AExit → Fr → Mem → Prop} (l : List UInt8) (c b : Nat) (hcb : c ≠ b) (hn : l.length < 2 ^ 40) : ∀ (f i : Nat) (fr : Fr) (M M0 : Mem), i + f = l.length → fr.rd 0 = .slice (some (c, 0)) l.length (.exact l.length) → fr.rd 3 = .slice (some (b, 0)) l.length (.exact l.length) → fr.rd 4 = .int .i64 (i : Int) →
    M0.get c = some (.cells (numsC l) false) → Upd M0 b (.cells (bytesC (stage l i)) false) M →
    (∀ fr' M', fr'.rd 3 = .slice (some (b, 0)) l.length (.exact l.length) → Upd M0 b (.cells (bytesC l) false) M' → Q (.exit 0) fr' M') → WC D2 24 (.loop A25_6) fr M Q := by
  intro f
  induction f with
  | zero =>
    intro i fr M M0 hi h0 h3 h4 hc hM hQ
    have : i = l.length := by omega
    subst this
    refine WC.loop ?_
    unfold A25_6
    refine WC.seq (WC.seq (WC.ops ?_))
    simp only [A25_3, go_sem, ↓reduceIte, Nat.reduceEqDiff, Nat.reduceLT, h0, h4]
    refine WC.test (t := false) (by simp only [go_sem, ↓reduceIte, Nat.reduceEqDiff, Nat.reduceLT]; simp) (fun h => by cases h) (fun _ => WC.exit ?_)
    simp only [nextQ]
    rw [stage_full] at hM
    exact hQ _ _ (by simp only [go_sem, ↓reduceIte, Nat.reduceEqDiff, Nat.reduceLT, h3]) hM
  | succ f ih =>
    intro i fr M M0 hi h0 h3 h4 hc hM hQ
    have hil : i < l.length := by omega
    have hg : (numsC l)[i]? = some (.int .i64 (l[i].toNat : Int)) := by rw [numsC_get, List.getElem?_eq_getElem hil]; rfl
    have h8 := l[i].toNat_lt
    have hcM : M.get c = some (.cells (numsC l) false) := (hM.other c hcb).trans hc
    refine WC.loop ?_
    unfold A25_6
    refine WC.seq (WC.seq (WC.ops ?_))
    simp only [A25_3, go_sem, ↓reduceIte, Nat.reduceEqDiff, Nat.reduceLT, h0, h4]
    refine WC.test (t := true) (by simp only [go_sem, ↓reduceIte, Nat.reduceEqDiff, Nat.reduceLT]; rw [decide_eq_true (by omega)]) (fun _ => WC.skip ?_) (fun h => by cases h)
    simp only [nextQ]
    refine WC.seq (WC.block (WC.ops ?_))
    simp only [A25_4, go_sem, ↓reduceIte, Nat.reduceEqDiff, Nat.reduceLT, h0, h3, h4, decide_eq_true (show i + 1 ≤ l.length by omega), vload, hcM, hg, Nat.zero_add, Nat.mul_one, vstore, V.cells, List.length_cons, List.length_nil]
    rw [IntWalk.u8_in _ (by omega), write_one hM.at_ (by rw [bytesC_len, stage_len _ _ (by omega)]; omega) rfl, bytesC_set, stage_next _ _ hil]
    simp only [go_sem, ↓reduceIte, Nat.reduceEqDiff, Nat.reduceLT]
    have hu := hM.trans (Upd.set M b (.cells (bytesC (stage l (i + 1))) false))
    generalize M.set b _ = M1 at hu
    refine WC.ops ?_
    simp only [A25_5, go_sem, ↓reduceIte, Nat.reduceEqDiff, Nat.reduceLT, h4]
    rw [IntWalk.i64_in _ (by omega)]
    exact ih (i + 1) _ M1 M0 (by omega) (by simp only [go_sem, ↓reduceIte, Nat.reduceEqDiff, Nat.reduceLT, h0]) (by simp only [go_sem, ↓reduceIte, Nat.reduceEqDiff, Nat.reduceLT, h3]) (by simp only [go_sem, ↓reduceIte, Nat.reduceEqDiff, Nat.reduceLT]; rfl) hc hu hQ

theorem text_runs (l : List UInt8) (c : Nat) (h0l : 0 < l.length) (hn : l.length < 2 ^ 40) (M : Mem) (hM : M.get c = some (.cells (numsC l) false)) (hc : c < M.next) : Runs D2 25 [.slice (some (c, 0)) l.length (.exact l.length)] M fun v M' => v = .str l := by
  refine Runs.of (F := A25) rfl (by rfl) (by rfl) ?_
  unfold A25
  refine WC.seq (WC.ops ?_)
  simp only [A25_0, go_sem]
  refine WC.seq (WC.ops ?_)
  simp only [A25_1, go_sem, ↓reduceIte, Nat.reduceEqDiff, Nat.reduceLT, Nat.le_refl, Nat.mul_one, decide_eq_true (show l.length ≤ maxRoom by unfold maxRoom; omega)]
  refine WC.seq (WC.seq (WC.ops ?_))
  simp only [A25_2, go_sem, ↓reduceIte, Nat.reduceEqDiff, Nat.reduceLT]
  have h0 : (M.push (.cells (repl l.length [.int .u8 0]) false)).get M.next = some (.cells (bytesC (stage l 0)) false) := by
    rw [Mem.get_push_same, repl_one]
    simp [bytesC, stage]
  have hc1 : (M.push (.cells (repl l.length [.int .u8 0]) false)).get c = some (.cells (numsC l) false) := by
    rw [Mem.get_push_ne _ _ (by omega)]; exact hM
  generalize M.push (.cells (repl l.length [.int .u8 0]) false) = M1 at h0 hc1
  refine WC.block (text_loop l c M.next (by omega) hn l.length 0 _ M1 M1 (by omega) (by simp only [go_sem, ↓reduceIte, Nat.reduceEqDiff, Nat.reduceLT]) (by simp only [go_sem, ↓reduceIte, Nat.reduceEqDiff, Nat.reduceLT]) (by simp only [go_sem, ↓reduceIte, Nat.reduceEqDiff, Nat.reduceLT]; rfl) hc1 (Upd.same h0) ?_)
  intro fr M2 h3 hu
  simp only [go_sem]
  refine WC.seq (WC.ops ?_)
  have hr := read_all hu.at_
  rw [bytesC_len] at hr
  simp only [A25_7, go_sem, ↓reduceIte, Nat.reduceEqDiff, Nat.reduceLT, h3, show ¬ l.length = 0 by omega, hr, bytesOf_bytesC]
  refine WC.ret ?_
  simp only [go_sem, ↓reduceIte, Nat.reduceEqDiff, Nat.reduceLT]
end Go.Am.Try
