/- Of texts: how they stand to each other; and the walk of the law PoskeyOrder on the machine. -/
import Derived.Test.YtpkflnohagieiaaTryKnows
import Derived.Test.YtpkflnohagieiaaAmSym
namespace Go.Am.Try
open Go Go.Am Go.Proofs
set_option maxRecDepth 100000
set_option linter.unusedSimpArgs false
set_option linter.unusedVariables false

abbrev cmpB := Lib.compareBytes
theorem cmp_self : ∀ a : List UInt8, cmpB a a = 0
  | [] => rfl
  | c :: a => by unfold cmpB Lib.compareBytes; simp [UInt8.lt_irrefl]; exact cmp_self a
theorem cmp_neg : ∀ a b : List UInt8, cmpB b a = - cmpB a b
  | [], [] => rfl
  | [], _ :: _ => rfl
  | _ :: _, [] => rfl
  | c :: a, d :: b => by
    unfold cmpB Lib.compareBytes
    by_cases h1 : c < d
    · have : ¬ d < c := fun h => absurd (UInt8.lt_trans h1 h) (UInt8.lt_irrefl _)
      simp [h1, this]
    · by_cases h2 : d < c
      · simp [h1, h2]
      · simp [h1, h2]; exact cmp_neg a b
theorem cmp_eq : ∀ {a b : List UInt8}, cmpB a b = 0 → a = b
  | [], [], _ => rfl
  | [], _ :: _, h => by cases h
  | _ :: _, [], h => by cases h
  | c :: a, d :: b, h => by
    unfold cmpB Lib.compareBytes at h
    split at h
    · cases h
    · split at h
      · cases h
      · rename_i h1 h2
        have : c = d := UInt8.le_antisymm (UInt8.not_lt.1 h2) (UInt8.not_lt.1 h1)
        rw [this, cmp_eq h]
theorem cmp_less : ∀ a b : List UInt8, strLess a b = decide (cmpB a b = -1)
  | [], [] => rfl
  | [], _ :: _ => rfl
  | _ :: _, [] => rfl
  | c :: a, d :: b => by
    unfold cmpB Lib.compareBytes
    simp only [strLess, ble_iff, beq_dec]
    by_cases h1 : c < d
    · have : c.toNat + 1 ≤ d.toNat := h1
      simp [h1, this]
    · have n1 : ¬ c.toNat + 1 ≤ d.toNat := h1
      by_cases h2 : d < c
      · have : ¬ c.toNat = d.toNat := by have : d.toNat < c.toNat := h2; omega
        simp [h1, h2, n1, this]
      · have e : c = d := UInt8.le_antisymm (UInt8.not_lt.1 h2) (UInt8.not_lt.1 h1)
        subst e
        simp only [h1, n1, decide_false, decide_true, cond_false, cond_true, if_false]
        exact cmp_less a b
theorem cmp_three : ∀ a b : List UInt8, cmpB a b = -1 ∨ cmpB a b = 0 ∨ cmpB a b = 1
  | [], [] => .inr (.inl rfl)
  | [], _ :: _ => .inl rfl
  | _ :: _, [] => .inr (.inr rfl)
  | c :: a, d :: b => by
    unfold cmpB Lib.compareBytes
    split
    · exact .inl rfl
    · split
      · exact .inr (.inr rfl)
      · exact cmp_three a b
theorem cmp_trans : ∀ {a b c : List UInt8}, cmpB a b = -1 → cmpB b c = -1 → cmpB a c = -1
  | [], _, [], _, h2 => by rename_i b _; cases b <;> cases h2
  | [], _, _ :: _, _, _ => rfl
  | _ :: _, [], _, h1, _ => by cases h1
  | _ :: _, _ :: _, [], _, h2 => by cases h2
  | x :: a, y :: b, z :: c, h1, h2 => by
    unfold cmpB Lib.compareBytes at h1 h2 ⊢
    by_cases xy : x < y
    · by_cases yz : y < z
      · rw [if_pos (UInt8.lt_trans xy yz)]
      · rw [if_neg yz] at h2
        by_cases zy : z < y
        · rw [if_pos zy] at h2; cases h2
        · have e : y = z := UInt8.le_antisymm (UInt8.not_lt.1 zy) (UInt8.not_lt.1 yz)
          subst e; rw [if_pos xy]
    · rw [if_neg xy] at h1
      by_cases yx : y < x
      · rw [if_pos yx] at h1; cases h1
      · have e : x = y := UInt8.le_antisymm (UInt8.not_lt.1 yx) (UInt8.not_lt.1 xy)
        subst e
        rw [if_neg yx] at h1
        by_cases yz : x < z
        · rw [if_pos yz]
        · rw [if_neg yz] at h2 ⊢
          by_cases zy : z < x
          · rw [if_pos zy] at h2; cases h2
          · rw [if_neg zy] at h2 ⊢
            exact cmp_trans h1 h2
theorem Compare_runs (a b : List UInt8) (M : Mem) : Runs D2 14 [.str a, .str b] M fun v M' => v = .int .i64 (cmpB a b) ∧ M' = M := by
  refine Runs.of (F := A14) rfl (by rfl) (by rfl) ?_
  unfold A14
  refine WC.seq (WC.ops ?_)
  simp only [A14_0, go_sem, ↓reduceIte, Nat.reduceEqDiff, Nat.reduceLT]
  refine WC.seq (WC.ops ?_)
  simp only [A14_1, go_sem, ↓reduceIte, Nat.reduceEqDiff, Nat.reduceLT]
  refine callI_of (compare_runs a b M) ?_
  rintro v M' ⟨rfl, rfl⟩
  simp only [go_sem, ↓reduceIte, Nat.reduceEqDiff, Nat.reduceLT]
  refine WC.ret ?_
  simp only [go_sem, ↓reduceIte, Nat.reduceEqDiff, Nat.reduceLT]
  exact ⟨trivial, trivial⟩

theorem order_runs (a b c : List UInt8) (M : Mem) : Runs D2 6 [.str a, .str b, .str c] M fun v M' => v = .bool true := by
  have hx := cmp_three a b
  have hy := cmp_three b c
  have hz := cmp_three a c
  have t1 : cmpB a b = -1 → cmpB b c = -1 → cmpB a c = -1 := cmp_trans
  have t2 : cmpB a b = 1 → cmpB b c = 1 → cmpB a c = 1 := fun h1 h2 => by
    have := cmp_trans (a := c) (b := b) (c := a) (by rw [cmp_neg b c, h2]) (by rw [cmp_neg a b, h1])
    rw [cmp_neg c a, this]
    rfl
  have hl := cmp_less a b
  have he : decide (a = b) = decide (cmpB a b = 0) := by
    by_cases h : a = b
    · subst h; simp [cmp_self]
    · rw [decide_eq_false h, decide_eq_false fun e => h (cmp_eq e)]
  have hn := cmp_neg a b
  refine Runs.of (F := A6) rfl (by rfl) (by rfl) ?_
  unfold A6
  refine WC.seq (WC.ops ?_)
  simp only [A6_0, go_sem, ↓reduceIte, Nat.reduceEqDiff, Nat.reduceLT]
  refine WC.seq (WC.ops ?_)
  simp only [A6_1, go_sem, ↓reduceIte, Nat.reduceEqDiff, Nat.reduceLT]
  refine callI_of (Compare_runs a b M) ?_
  rintro v M' ⟨rfl, rfl⟩
  simp only [go_sem, ↓reduceIte, Nat.reduceEqDiff, Nat.reduceLT]
  refine WC.seq (WC.ops ?_)
  simp only [A6_2, go_sem, ↓reduceIte, Nat.reduceEqDiff, Nat.reduceLT]
  refine callI_of (Compare_runs b c _) ?_
  rintro v M' ⟨rfl, rfl⟩
  simp only [go_sem, ↓reduceIte, Nat.reduceEqDiff, Nat.reduceLT]
  refine WC.seq (WC.ops ?_)
  simp only [A6_3, go_sem, ↓reduceIte, Nat.reduceEqDiff, Nat.reduceLT]
  refine callI_of (Compare_runs a c _) ?_
  rintro v M' ⟨rfl, rfl⟩
  simp only [go_sem, ↓reduceIte, Nat.reduceEqDiff, Nat.reduceLT]
  refine WC.seq (WC.seq (WC.ops ?_))
  have hb := Compare_runs b a M'
  rw [hn] at hb
  generalize cmpB a b = x at *
  generalize cmpB b c = y at *
  generalize cmpB a c = z at *
  rcases hx with rfl | rfl | rfl <;> rcases hy with rfl | rfl | rfl <;> rcases hz with rfl | rfl | rfl <;> (first | (exfalso; revert t1 t2; decide) | skip) <;> simp only [A6_4, go_sem, ↓reduceIte, Nat.reduceEqDiff, Nat.reduceLT, Int.reduceNeg, Int.reduceLT, Int.reduceLE, Int.reduceEq, reduceCtorEq]
  all_goals (refine WC.test (t := false) (by simp only [go_sem, ↓reduceIte, Nat.reduceEqDiff, Nat.reduceLT]) (fun h => by cases h) (fun _ => WC.skip ?_))
  all_goals simp only [go_sem]
  all_goals refine WC.seq (WC.ops ?_)
  all_goals simp only [A6_6, go_sem, ↓reduceIte, Nat.reduceEqDiff, Nat.reduceLT, Int.reduceNeg, Int.reduceLT, Int.reduceLE, Int.reduceEq, reduceCtorEq, hl, he]
  all_goals (refine callI_of hb ?_; rintro v M'' ⟨rfl, rfl⟩)
  all_goals simp only [go_sem, ↓reduceIte, Nat.reduceEqDiff, Nat.reduceLT, Int.reduceNeg, Int.reduceLT, Int.reduceLE, Int.reduceEq, Int.reduceSub, reduceCtorEq, hl, he]
  all_goals simp (disch := omega) only [go_sem, IntWalk.i64_in, Int.reduceNeg, Int.reduceEq, Int.reduceSub, reduceCtorEq]
  all_goals (refine callI_of (knows_runs _) ?_; rintro v Mk ⟨rfl, rfl⟩)
  all_goals simp only [go_sem, ↓reduceIte, Nat.reduceEqDiff, Nat.reduceLT]
  all_goals (refine WC.ret ?_; simp only [go_sem, ↓reduceIte, Nat.reduceEqDiff, Nat.reduceLT])
end Go.Am.Try
