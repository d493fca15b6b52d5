/- The reference's scan for the last byte, on the machine. -/
import Derived.Test.YtpkflnohagieiaaMath3
namespace Go.Am.Try
open Go Go.Am Go.Proofs
set_option maxRecDepth 100000
set_option linter.unusedSimpArgs false
set_option linter.unusedVariables false

theorem scan_loop {Q : AExit → Fr → Mem → Prop} (a b l : List UInt8) (p m lo : Nat) (hl : l.length = m + 1) (hm : m < 24) (hlo : 1 ≤ lo) (hlo2 : lo ≤ 255) (hb : b = [] ∨ rightK b = true) (hbl : b.length < 2 ^ 40) (M0 : Mem)
    (hQ : ∀ fr M x, fr.rd 0 = .str a → fr.rd 1 = .str b → fr.rd 6 = .int .i64 ((m + 1 : Nat) : Int) → fr.rd 7 = .slice (some (p, 0)) (m + 1) (.exact (m + 1)) → fr.rd 8 = .int .i64 (lo : Int) → fr.rd 9 = .int .i64 (if greatL l b < lo then (lo : Int) - 1 else greatL l b) →
      Upd M0 p (.cells (numsC (l.set m x)) false) M → Q (.exit 2) fr M) :
    ∀ (f c : Nat) (fr : Fr) (M : Mem) (x : UInt8), c + f = 256 → lo ≤ c → (c = lo ∨ (c : Int) - 1 ≤ greatL l b) → Upd M0 p (.cells (numsC (l.set m x)) false) M →
      fr.rd 0 = .str a → fr.rd 1 = .str b → fr.rd 6 = .int .i64 ((m + 1 : Nat) : Int) → fr.rd 7 = .slice (some (p, 0)) (m + 1) (.exact (m + 1)) → fr.rd 8 = .int .i64 (lo : Int) → fr.rd 9 = .int .i64 ((c : Int) - 1) → fr.rd 10 = .int .i64 (c : Int) →
      WC D2 60 (.loop A10_15) fr M Q := by
  have hG := greatL_le l b
  intro f
  induction f with
  | zero =>
    intro c fr M x hc hcl hinv hM h0 h1 h6 h7 h8 h9 h10
    have : c = 256 := by omega
    subst this
    refine WC.loop ?_
    unfold A10_15
    refine WC.seq (WC.seq (WC.ops ?_))
    simp only [A10_10, go_sem, ↓reduceIte, Nat.reduceEqDiff, Nat.reduceLT, h10]
    refine WC.test (t := false) (by simp only [go_sem, ↓reduceIte, Nat.reduceEqDiff, Nat.reduceLT]; rfl) (fun h => by cases h) (fun _ => WC.exit ?_)
    simp only [nextQ]
    refine hQ _ M x ?_ ?_ ?_ ?_ ?_ ?_ hM
    all_goals simp only [go_sem, ↓reduceIte, Nat.reduceEqDiff, Nat.reduceLT, h0, h1, h6, h7, h8, h9]
    rw [if_neg (by omega)]
    congr 1
    omega
  | succ f ih =>
    intro c fr M x hc hcl hinv hM h0 h1 h6 h7 h8 h9 h10
    have hcn : (UInt8.ofNat c).toNat = c := by simp only [UInt8.toNat_ofNat']; omega
    have hw : IntKind.i64.wrap (((m + 1 : Nat) : Int) - 1) = (m : Int) := by rw [IntWalk.i64_in _ (by omega)]; omega
    refine WC.loop ?_
    unfold A10_15
    refine WC.seq (WC.seq (WC.ops ?_))
    simp only [A10_10, go_sem, ↓reduceIte, Nat.reduceEqDiff, Nat.reduceLT, h10]
    refine WC.test (t := true) (by simp only [go_sem, ↓reduceIte, Nat.reduceEqDiff, Nat.reduceLT]; rw [decide_eq_true (by omega)]) (fun _ => WC.skip ?_) (fun h => by cases h)
    simp only [nextQ]
    refine WC.seq (WC.block (WC.seq (WC.ops ?_)))
    have hcell : (V.int .i64 (c : Int)) = .int .i64 ((UInt8.ofNat c).toNat : Int) := by rw [hcn]
    simp only [A10_11, go_sem, ↓reduceIte, Nat.reduceEqDiff, Nat.reduceLT, h6, h7, h10, hw, Nat.le_refl, vstore, V.cells, List.length_cons, List.length_nil, Nat.zero_add, Nat.mul_one]
    rw [hcell, write_one hM.at_ (by rw [numsC_len, List.length_set]; omega) rfl, numsC_set, List.set_set]
    simp only [go_sem, ↓reduceIte, Nat.reduceEqDiff, Nat.reduceLT]
    have hu := hM.trans (Upd.set M p (.cells (numsC (l.set m (UInt8.ofNat c))) false))
    generalize M.set p _ = M1 at hu
    refine WC.seq (WC.seq (WC.ops ?_))
    simp only [A10_12, go_sem, ↓reduceIte, Nat.reduceEqDiff, Nat.reduceLT, h7, h1]
    have hbr := below_runs (l.set m (UInt8.ofNat c)) b p (by rw [List.length_set]; omega) hbl M1 hu.at_
    rw [List.length_set, hl, below_great hl (by omega) (by omega) hb] at hbr
    refine callI_eq hbr ?_
    simp only [go_sem, ↓reduceIte, Nat.reduceEqDiff, Nat.reduceLT]
    refine WC.test (by simp only [go_sem, ↓reduceIte, Nat.reduceEqDiff, Nat.reduceLT]; rfl) (fun h => WC.exit ?_) (fun h => WC.skip ?_)
    · have hgt : ¬ (c : Int) ≤ greatL l b := by simpa using h
      simp only [nextQ, blockQ, Nat.reduceEqDiff, beq_dec, decide_false, cond_false]
      refine hQ _ M1 (UInt8.ofNat c) ?_ ?_ ?_ ?_ ?_ ?_ hu
      all_goals simp only [go_sem, ↓reduceIte, Nat.reduceEqDiff, Nat.reduceLT, h0, h1, h6, h7, h8, h9]
      congr 1
      split <;> omega
    · have hle : (c : Int) ≤ greatL l b := by simpa using h
      simp only [nextQ]
      refine WC.ops ?_
      simp only [A10_13, go_sem, ↓reduceIte, Nat.reduceEqDiff, Nat.reduceLT, h10]
      refine WC.ops ?_
      simp only [A10_14, go_sem, ↓reduceIte, Nat.reduceEqDiff, Nat.reduceLT, h10]
      rw [IntWalk.i64_in _ (by omega)]
      refine ih (c + 1) _ M1 (UInt8.ofNat c) (by omega) (by omega) (.inr (by omega)) hu ?_ ?_ ?_ ?_ ?_ ?_ ?_
      all_goals simp only [go_sem, ↓reduceIte, Nat.reduceEqDiff, Nat.reduceLT, h0, h1, h6, h7, h8, h9]
      · congr 1; omega
      · rfl
end Go.Am.Try
