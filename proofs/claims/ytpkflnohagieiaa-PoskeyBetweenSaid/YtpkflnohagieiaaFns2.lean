/- The program's greatest, on the machine. -/
import Derived.Test.YtpkflnohagieiaaFns1
namespace Go.Am.Try
open Go Go.Am Go.Proofs
set_option maxRecDepth 100000
set_option linter.unusedSimpArgs false
set_option linter.unusedVariables false

def grEnd (b : List UInt8) (n : Nat) : Int := if b = [] then 255 else if n + 1 < b.length then digitL b n else (digitL b n : Int) - 1
def grAt (l b : List UInt8) (n : Nat) : Nat → Nat → Int
  | 0, _ => grEnd b n
  | k + 1, i => if b = [] then 255 else if (l.getD i 0).toNat < digitL b i then 255 else if digitL b i < (l.getD i 0).toNat then -1 else grAt l b n k (i + 1)
def greatL (l b : List UInt8) : Int := grAt l b (l.length - 1) (l.length - 1) 0
theorem digit_lt (b : List UInt8) (i : Nat) : digitL b i < 256 := (b.getD i 0).toNat_lt

theorem great_end (l b : List UInt8) (n : Nat) (hn : n < 2 ^ 40) (fr : Fr) (M : Mem) (h1 : fr.rd 1 = .str b) (h5 : fr.rd 5 = .int .i64 (n : Int)) (hb : b.length < 2 ^ 63) {R : V → Mem → Prop} (hR : R (.int .i64 (grEnd b n)) M) :
    WC D2 55 (.seq (.block 3 (.seq (.ops A21_12) (.cond (r 39) (.seq (.ops A21_13) .ret) (.seq (.ops A21_14) (.cond (r 42) (.seq (.ops A21_15) .ret) .skip))))) (.seq (.ops A21_16) .ret)) fr M (endQ [.tmp 4] R) := by
  refine WC.seq (WC.block (WC.seq (WC.ops ?_)))
  simp only [A21_12, go_sem, ↓reduceIte, Nat.reduceEqDiff, Nat.reduceLT, h1]
  refine WC.test (by simp only [go_sem, ↓reduceIte, Nat.reduceEqDiff, Nat.reduceLT]; rfl) (fun h => ?_) (fun h => ?_)
  · refine WC.seq (WC.ops ?_)
    simp only [A21_13, go_sem, ↓reduceIte, Nat.reduceEqDiff, Nat.reduceLT]
    refine WC.ret ?_
    simp only [go_sem, ↓reduceIte, Nat.reduceEqDiff, Nat.reduceLT]
    simpa only [grEnd, of_decide_eq_true h, if_true] using hR
  · have hne := of_decide_eq_false h
    refine WC.seq (WC.ops ?_)
    simp only [A21_14, go_sem, ↓reduceIte, Nat.reduceEqDiff, Nat.reduceLT, h1, h5]
    rw [IntWalk.i64_in _ (by omega)]
    refine WC.test (by simp only [go_sem, ↓reduceIte, Nat.reduceEqDiff, Nat.reduceLT]; rfl) (fun h => ?_) (fun h => ?_)
    · have hlt : n + 1 < b.length := by have := of_decide_eq_true h; omega
      refine WC.seq (WC.ops ?_)
      simp only [A21_15, go_sem, ↓reduceIte, Nat.reduceEqDiff, Nat.reduceLT, h1, h5]
      refine callI_of (digit_runs b n (by omega) M) ?_
      rintro v M' ⟨rfl, rfl⟩
      simp only [go_sem, ↓reduceIte, Nat.reduceEqDiff, Nat.reduceLT]
      refine WC.ret ?_
      simp only [go_sem, ↓reduceIte, Nat.reduceEqDiff, Nat.reduceLT]
      simpa only [grEnd, hne, hlt, if_true, if_false] using hR
    · have hlt : ¬ n + 1 < b.length := by have := of_decide_eq_false h; omega
      refine WC.skip ?_
      simp only [go_sem]
      refine WC.seq (WC.ops ?_)
      simp only [A21_16, go_sem, ↓reduceIte, Nat.reduceEqDiff, Nat.reduceLT, h1, h5]
      refine callI_of (digit_runs b n (by omega) M) ?_
      rintro v M' ⟨rfl, rfl⟩
      simp only [go_sem, ↓reduceIte, Nat.reduceEqDiff, Nat.reduceLT]
      refine WC.ret ?_
      simp only [go_sem, ↓reduceIte, Nat.reduceEqDiff, Nat.reduceLT]
      have := digit_lt b n
      rw [IntWalk.i64_in _ (by omega)]
      simpa only [grEnd, hne, hlt, if_false] using hR

theorem great_loop (l b : List UInt8) (c : Nat) (n : Nat) (hl : l.length = n + 1) (hn : n < 2 ^ 40) (hb : b.length < 2 ^ 63) (M : Mem) (hM : M.get c = some (.cells (bytesC l) false)) {R : V → Mem → Prop} {cap : Cap} : ∀ (k i : Nat) (fr : Fr), i + k = n →
    fr.rd 1 = .str b → fr.rd 5 = .int .i64 (n : Int) → fr.rd 14 = .slice (some (c, 0)) n cap → fr.rd 15 = .int .i64 (n : Int) → fr.rd 16 = .int .i64 (i : Int) → R (.int .i64 (grAt l b n k i)) M →
    WC D2 55 (.loop A21_11) fr M (blockQ 0 (nextQ (fun fr M => WC D2 55 (.seq (.block 3 (.seq (.ops A21_12) (.cond (r 39) (.seq (.ops A21_13) .ret) (.seq (.ops A21_14) (.cond (r 42) (.seq (.ops A21_15) .ret) .skip))))) (.seq (.ops A21_16) .ret)) fr M (endQ [.tmp 4] R)) (endQ [.tmp 4] R))) := by
  intro k
  induction k with
  | zero =>
    intro i fr hi h1 h5 h14 h15 h16 hR
    refine WC.loop ?_
    unfold A21_11
    refine WC.seq (WC.ops ?_)
    simp only [A21_3, go_sem, ↓reduceIte, Nat.reduceEqDiff, Nat.reduceLT, h15, h16]
    refine WC.seq (WC.test (t := false) (by simp only [go_sem, ↓reduceIte, Nat.reduceEqDiff, Nat.reduceLT]; rw [decide_eq_false (by omega)]) (fun h => by cases h) (fun _ => WC.exit ?_))
    simp only [go_sem]
    exact great_end l b n hn _ M (by simp only [go_sem, ↓reduceIte, Nat.reduceEqDiff, Nat.reduceLT, h1]) (by simp only [go_sem, ↓reduceIte, Nat.reduceEqDiff, Nat.reduceLT, h5]) hb hR
  | succ k ih =>
    intro i fr hi h1 h5 h14 h15 h16 hR
    refine WC.loop ?_
    unfold A21_11
    refine WC.seq (WC.ops ?_)
    simp only [A21_3, go_sem, ↓reduceIte, Nat.reduceEqDiff, Nat.reduceLT, h15, h16]
    refine WC.seq (WC.test (t := true) (by simp only [go_sem, ↓reduceIte, Nat.reduceEqDiff, Nat.reduceLT]; rw [decide_eq_true (by omega)]) (fun _ => WC.skip ?_) (fun h => by cases h))
    simp only [go_sem]
    refine WC.seq (WC.block (WC.seq (WC.ops ?_)))
    have hil : i < l.length := by omega
    have hg : l[i]? = some l[i] := List.getElem?_eq_getElem hil
    have hD : l.getD i 0 = l[i] := by rw [List.getD_eq_getElem?_getD, hg]; rfl
    have hc : (bytesC l)[i]? = some (.int .u8 (l[i].toNat : Int)) := by rw [bytesC_get, hg]; rfl
    have hd := digit_lt b i
    have h8 := l[i].toNat_lt
    simp only [A21_4, go_sem, ↓reduceIte, Nat.reduceEqDiff, Nat.reduceLT, h14, h16, decide_eq_true (show i + 1 ≤ n by omega), vload, hM, Nat.zero_add, Nat.mul_one, hc]
    refine WC.seq (WC.ops ?_)
    simp only [A21_5, go_sem, ↓reduceIte, Nat.reduceEqDiff, Nat.reduceLT, h1]
    refine callI_of (digit_runs b i (by omega) M) ?_
    rintro v M' ⟨rfl, rfl⟩
    simp only [go_sem, ↓reduceIte, Nat.reduceEqDiff, Nat.reduceLT]
    refine WC.block (WC.seq (WC.ops ?_))
    simp only [A21_6, go_sem, ↓reduceIte, Nat.reduceEqDiff, Nat.reduceLT, h1]
    by_cases hbe : b = []
    · simp only [hbe, go_sem, ↓reduceIte, Nat.reduceEqDiff, Nat.reduceLT]
      refine WC.test (t := true) (by simp only [go_sem, ↓reduceIte, Nat.reduceEqDiff, Nat.reduceLT]) (fun _ => ?_) (fun h => by cases h)
      refine WC.seq (WC.ops ?_)
      simp only [A21_7, go_sem, ↓reduceIte, Nat.reduceEqDiff, Nat.reduceLT]
      refine WC.ret ?_
      simp only [go_sem, ↓reduceIte, Nat.reduceEqDiff, Nat.reduceLT]
      simpa only [grAt, hbe, if_true] using hR
    · simp only [decide_eq_false hbe, go_sem, ↓reduceIte, Nat.reduceEqDiff, Nat.reduceLT]
      rw [IntWalk.i64_in _ (by omega)]
      refine WC.test (by simp only [go_sem, ↓reduceIte, Nat.reduceEqDiff, Nat.reduceLT]; rfl) (fun h => ?_) (fun h => ?_)
      · have hlt : l[i].toNat < digitL b i := by have := of_decide_eq_true h; omega
        refine WC.seq (WC.ops ?_)
        simp only [A21_7, go_sem, ↓reduceIte, Nat.reduceEqDiff, Nat.reduceLT]
        refine WC.ret ?_
        simp only [go_sem, ↓reduceIte, Nat.reduceEqDiff, Nat.reduceLT]
        simpa only [grAt, hbe, hD, hlt, if_true, if_false] using hR
      · have hlt : ¬ l[i].toNat < digitL b i := by have := of_decide_eq_false h; omega
        refine WC.seq (WC.ops ?_)
        simp only [A21_8, go_sem, ↓reduceIte, Nat.reduceEqDiff, Nat.reduceLT]
        rw [IntWalk.i64_in _ (by omega)]
        refine WC.test (by simp only [go_sem, ↓reduceIte, Nat.reduceEqDiff, Nat.reduceLT]; rfl) (fun h => ?_) (fun h => ?_)
        · have hgt : digitL b i < l[i].toNat := by have := of_decide_eq_true h; omega
          refine WC.seq (WC.ops ?_)
          simp only [A21_9, go_sem, ↓reduceIte, Nat.reduceEqDiff, Nat.reduceLT]
          refine WC.ret ?_
          simp only [go_sem, ↓reduceIte, Nat.reduceEqDiff, Nat.reduceLT]
          simpa only [grAt, hbe, hD, hlt, hgt, if_true, if_false] using hR
        · have hgt : ¬ digitL b i < l[i].toNat := by have := of_decide_eq_false h; omega
          refine WC.skip ?_
          simp only [go_sem]
          refine WC.ops ?_
          simp only [A21_10, go_sem, ↓reduceIte, Nat.reduceEqDiff, Nat.reduceLT, h16]
          rw [IntWalk.i64_in _ (by omega)]
          refine ih (i + 1) _ (by omega) (by simp only [go_sem, ↓reduceIte, Nat.reduceEqDiff, Nat.reduceLT, h1]) (by simp only [go_sem, ↓reduceIte, Nat.reduceEqDiff, Nat.reduceLT, h5]) (by simp only [go_sem, ↓reduceIte, Nat.reduceEqDiff, Nat.reduceLT, h14]) (by simp only [go_sem, ↓reduceIte, Nat.reduceEqDiff, Nat.reduceLT, h15]) (by simp only [go_sem, ↓reduceIte, Nat.reduceEqDiff, Nat.reduceLT]; rfl) ?_
          simpa only [grAt, hbe, hD, hlt, hgt, if_false] using hR

theorem greatest_runs (l b : List UInt8) (c : Nat) (n : Nat) (hl : l.length = n + 1) (hn : n < 2 ^ 40) (hb : b.length < 2 ^ 63) (M : Mem) (hM : M.get c = some (.cells (bytesC l) false)) :
    Runs D2 21 [.slice (some (c, 0)) (n + 1) (.exact (n + 1)), .str b] M fun v M' => v = .int .i64 (greatL l b) ∧ M' = M := by
  refine Runs.of (F := A21) rfl (by rfl) (by rfl) ?_
  unfold A21
  refine WC.seq (WC.ops ?_)
  simp only [A21_0, go_sem, ↓reduceIte, Nat.reduceEqDiff, Nat.reduceLT]
  refine WC.seq (WC.ops ?_)
  simp only [A21_1, go_sem, ↓reduceIte, Nat.reduceEqDiff, Nat.reduceLT]
  rw [IntWalk.i64_in _ (by omega), show (((n + 1 : Nat) : Int) - 1) = (n : Int) by omega]
  refine WC.seq (WC.seq (WC.ops ?_))
  simp only [A21_2, go_sem, ↓reduceIte, Nat.reduceEqDiff, Nat.reduceLT, vslice, Option.map_none, Option.bind_none, Option.getD_none, Option.getD_some, id, Nat.le_refl, decide_eq_true (show n ≤ n + 1 by omega), Nat.zero_le, Nat.zero_mul, Nat.add_zero, Nat.sub_zero, decide_eq_false (show ¬ n + 1 = 0 by omega)]
  refine WC.block (great_loop (cap := .exact (n + 1)) l b c n hl hn hb M hM n 0 _ (by omega) (by simp only [go_sem, ↓reduceIte, Nat.reduceEqDiff, Nat.reduceLT]) (by simp only [go_sem, ↓reduceIte, Nat.reduceEqDiff, Nat.reduceLT]) (by simp only [go_sem, ↓reduceIte, Nat.reduceEqDiff, Nat.reduceLT]) (by simp only [go_sem, ↓reduceIte, Nat.reduceEqDiff, Nat.reduceLT]) (by simp only [go_sem, ↓reduceIte, Nat.reduceEqDiff, Nat.reduceLT]; rfl) ?_)
  refine ⟨?_, rfl⟩
  simp only [greatL, hl, Nat.add_sub_cancel]
end Go.Am.Try
