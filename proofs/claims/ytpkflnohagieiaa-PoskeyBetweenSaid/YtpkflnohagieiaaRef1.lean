/- The reference's digit, Right, Compare and fine, on the machine. -/
import Derived.Test.YtpkflnohagieiaaDense
namespace Go.Am.Try
open Go Go.Am Go.Proofs
set_option maxRecDepth 100000
set_option linter.unusedSimpArgs false
set_option linter.unusedVariables false

theorem rdigit_runs (k : List UInt8) (i : Nat) (hi : i < 2 ^ 62) (M : Mem) : Runs D2 30 [.str k, .int .i64 (i : Int)] M fun v M' => v = .int .i64 (digitL k i : Int) ∧ M' = M := by
  refine Runs.of (F := A30) rfl (by rfl) (by rfl) ?_
  unfold A30
  refine WC.seq (WC.ops ?_)
  simp only [A30_0, go_sem, ↓reduceIte, Nat.reduceEqDiff, Nat.reduceLT]
  refine WC.seq (WC.seq (WC.ops ?_))
  simp only [A30_1, go_sem, ↓reduceIte, Nat.reduceEqDiff, Nat.reduceLT]
  refine WC.test (by simp only [go_sem, ↓reduceIte, Nat.reduceEqDiff, Nat.reduceLT]; rfl) (fun h => ?_) (fun h => ?_)
  · have h : i < k.length := by have := of_decide_eq_true h; omega
    refine WC.seq (WC.ops ?_)
    have hg : k[i]? = some k[i] := List.getElem?_eq_getElem h
    have hd : digitL k i = k[i].toNat := by simp [digitL, List.getD_eq_getElem?_getD, hg]
    have h8 : k[i].toNat < 256 := k[i].toNat_lt
    simp only [A30_2, go_sem, ↓reduceIte, Nat.reduceEqDiff, Nat.reduceLT, hg]
    refine WC.ret ?_
    simp only [go_sem, ↓reduceIte, Nat.reduceEqDiff, Nat.reduceLT]
    rw [IntWalk.i64_in _ (by omega), hd]
    exact ⟨rfl, trivial⟩
  · have h : k.length ≤ i := by have := of_decide_eq_false h; omega
    have hd : digitL k i = 0 := by simp [digitL, List.getD_eq_getElem?_getD, List.getElem?_eq_none h]
    refine WC.skip ?_
    simp only [go_sem]
    refine WC.seq (WC.ops ?_)
    simp only [A30_3, go_sem, ↓reduceIte, Nat.reduceEqDiff, Nat.reduceLT]
    refine WC.ret ?_
    simp only [go_sem, ↓reduceIte, Nat.reduceEqDiff, Nat.reduceLT]
    rw [hd]
    exact ⟨rfl, trivial⟩


theorem rright_runs (k : List UInt8) (M : Mem) : Runs D2 13 [.str k] M fun v M' => v = .bool (rightK k) ∧ M' = M := by
  refine Runs.of (F := A13) rfl (by rfl) (by rfl) ?_
  unfold A13
  refine WC.seq (WC.ops ?_)
  simp only [A13_0, go_sem]
  refine WC.seq (WC.ops ?_)
  simp only [A13_1, go_sem, ↓reduceIte, Nat.reduceEqDiff, Nat.reduceLT]
  by_cases h : k = []
  · subst h
    simp only [List.length_nil, Int.ofNat_zero, Int.reduceLE, go_sem, ↓reduceIte, Nat.reduceEqDiff, Nat.reduceLT, Int.natCast_zero, Int.cast_ofNat_Int]
    refine WC.ret ?_
    simp only [go_sem, ↓reduceIte, Nat.reduceEqDiff, Nat.reduceLT]
    exact ⟨rfl, trivial⟩
  · have hk : 0 < k.length := by cases k <;> simp at h ⊢
    have h1 : (1 : Int) ≤ (k.length : Int) := by omega
    simp only [h1, go_sem, ↓reduceIte, Nat.reduceEqDiff, Nat.reduceLT]
    by_cases h2 : (k.length : Int) ≤ 24
    · have hl : k[k.length - 1]? = some k[k.length - 1] := List.getElem?_eq_getElem (by omega)
      have hd : digitL k (k.length - 1) = k[k.length - 1].toNat := by simp [digitL, List.getD_eq_getElem?_getD, hl]
      simp only [h2, go_sem, ↓reduceIte, Nat.reduceEqDiff, Nat.reduceLT]
      rw [IntWalk.i64_in _ (by omega), as_nat _ _ (by omega), show ((k.length : Int) - 1).toNat = k.length - 1 by omega]
      simp only [hl, go_sem, ↓reduceIte, Nat.reduceEqDiff, Nat.reduceLT]
      refine WC.ret ?_
      simp only [go_sem, ↓reduceIte, Nat.reduceEqDiff, Nat.reduceLT]
      refine ⟨?_, trivial⟩
      simp only [rightK, h, hd, show k.length ≤ 24 by omega, Int.natCast_eq_zero, decide_true, decide_false, Bool.not_false, Bool.true_and]
    · simp only [h2, go_sem, ↓reduceIte, Nat.reduceEqDiff, Nat.reduceLT]
      refine WC.ret ?_
      simp only [go_sem, ↓reduceIte, Nat.reduceEqDiff, Nat.reduceLT]
      refine ⟨?_, trivial⟩
      simp only [rightK, h, show ¬ k.length ≤ 24 by omega, decide_true, decide_false, Bool.not_false, Bool.true_and, Bool.false_and]

/-- The order of texts, from a place on. -/
theorem cmp_drop_lt {a b : List UInt8} {i : Nat} (ha : i < a.length) (hb : i < b.length) : cmpB (a.drop i) (b.drop i) = if a[i] < b[i] then -1 else if b[i] < a[i] then 1 else cmpB (a.drop (i + 1)) (b.drop (i + 1)) := by
  rw [List.drop_eq_getElem_cons ha, List.drop_eq_getElem_cons hb]
  rfl
theorem cmp_loop (a b : List UInt8) (ha : a.length < 2 ^ 63) (hb : b.length < 2 ^ 63) {Q : AExit → Fr → Mem → Prop} (M : Mem) (hQ : ∀ fr, fr.rd 4 = .int .i64 (cmpB a b) → Q .ret fr M)
    (hQ2 : ∀ fr i, fr.rd 0 = .str a → fr.rd 1 = .str b → i ≤ a.length → i ≤ b.length → (i = a.length ∨ i = b.length) → cmpB a b = cmpB (a.drop i) (b.drop i) → Q (.exit 0) fr M) :
    ∀ (f i : Nat) (fr : Fr), i + f = min a.length b.length → cmpB a b = cmpB (a.drop i) (b.drop i) → fr.rd 0 = .str a → fr.rd 1 = .str b → fr.rd 5 = .int .i64 (i : Int) → WC D2 42 (.loop A15_8) fr M Q := by
  intro f
  induction f with
  | zero =>
    intro i fr hi hc h0 h1 h5
    refine WC.loop ?_
    unfold A15_8
    refine WC.seq (WC.seq (WC.ops ?_))
    simp only [A15_2, go_sem, ↓reduceIte, Nat.reduceEqDiff, Nat.reduceLT, h0, h1, h5]
    by_cases hia : (i : Int) < (a.length : Int)
    · have hib : ¬ (i : Int) < (b.length : Int) := by omega
      simp only [hia, hib, go_sem, ↓reduceIte, Nat.reduceEqDiff, Nat.reduceLT, h0, h1, h5]
      refine WC.test (t := false) (by simp only [go_sem, ↓reduceIte, Nat.reduceEqDiff, Nat.reduceLT]) (fun h => by cases h) (fun _ => WC.exit ?_)
      simp only [nextQ]
      exact hQ2 _ i (by simp only [go_sem, ↓reduceIte, Nat.reduceEqDiff, Nat.reduceLT, h0]) (by simp only [go_sem, ↓reduceIte, Nat.reduceEqDiff, Nat.reduceLT, h1]) (by omega) (by omega) (by omega) hc
    · simp only [hia, go_sem, ↓reduceIte, Nat.reduceEqDiff, Nat.reduceLT, h0, h1, h5]
      refine WC.test (t := false) (by simp only [go_sem, ↓reduceIte, Nat.reduceEqDiff, Nat.reduceLT]) (fun h => by cases h) (fun _ => WC.exit ?_)
      simp only [nextQ]
      exact hQ2 _ i (by simp only [go_sem, ↓reduceIte, Nat.reduceEqDiff, Nat.reduceLT, h0]) (by simp only [go_sem, ↓reduceIte, Nat.reduceEqDiff, Nat.reduceLT, h1]) (by omega) (by omega) (by omega) hc
  | succ f ih =>
    intro i fr hi hc h0 h1 h5
    have hia : (i : Int) < (a.length : Int) := by omega
    have hib : (i : Int) < (b.length : Int) := by omega
    have hla : i < a.length := by omega
    have hlb : i < b.length := by omega
    have ga : a[i]? = some a[i] := List.getElem?_eq_getElem hla
    have gb : b[i]? = some b[i] := List.getElem?_eq_getElem hlb
    rw [cmp_drop_lt hla hlb] at hc
    refine WC.loop ?_
    unfold A15_8
    refine WC.seq (WC.seq (WC.ops ?_))
    simp only [A15_2, hia, hib, go_sem, ↓reduceIte, Nat.reduceEqDiff, Nat.reduceLT, h0, h1, h5]
    refine WC.test (t := true) (by simp only [go_sem, ↓reduceIte, Nat.reduceEqDiff, Nat.reduceLT]) (fun _ => WC.skip ?_) (fun h => by cases h)
    simp only [nextQ]
    refine WC.seq (WC.block (WC.seq (WC.seq (WC.ops ?_))))
    simp only [A15_3, ga, gb, go_sem, ↓reduceIte, Nat.reduceEqDiff, Nat.reduceLT, h0, h1, h5]
    refine WC.test (by simp only [go_sem, ↓reduceIte, Nat.reduceEqDiff, Nat.reduceLT]; rfl) (fun h => ?_) (fun h => WC.skip ?_)
    · have hlt : a[i] < b[i] := by have := of_decide_eq_true h; exact UInt8.lt_iff_toNat_lt.2 (by omega)
      refine WC.seq (WC.ops ?_)
      simp only [A15_4, go_sem, ↓reduceIte, Nat.reduceEqDiff, Nat.reduceLT]
      refine WC.ret ?_
      simp only [nextQ, blockQ]
      refine hQ _ ?_
      simp only [go_sem, ↓reduceIte, Nat.reduceEqDiff, Nat.reduceLT]
      rw [hc, if_pos hlt]
    · have hlt : ¬ a[i] < b[i] := by
        have := of_decide_eq_false h
        intro e
        have := UInt8.lt_iff_toNat_lt.1 e
        omega
      simp only [nextQ]
      refine WC.seq (WC.ops ?_)
      simp only [A15_5, ga, gb, go_sem, ↓reduceIte, Nat.reduceEqDiff, Nat.reduceLT, h0, h1, h5]
      refine WC.test (by simp only [go_sem, ↓reduceIte, Nat.reduceEqDiff, Nat.reduceLT]; rfl) (fun h => ?_) (fun h => WC.skip ?_)
      · have hgt : b[i] < a[i] := by have := of_decide_eq_true h; exact UInt8.lt_iff_toNat_lt.2 (by omega)
        refine WC.seq (WC.ops ?_)
        simp only [A15_6, go_sem, ↓reduceIte, Nat.reduceEqDiff, Nat.reduceLT]
        refine WC.ret ?_
        simp only [nextQ, blockQ]
        refine hQ _ ?_
        simp only [go_sem, ↓reduceIte, Nat.reduceEqDiff, Nat.reduceLT]
        rw [hc, if_neg hlt, if_pos hgt]
      · have hgt : ¬ b[i] < a[i] := by
          have := of_decide_eq_false h
          intro e
          have := UInt8.lt_iff_toNat_lt.1 e
          omega
        simp only [nextQ, blockQ]
        refine WC.ops ?_
        simp only [A15_7, go_sem, ↓reduceIte, Nat.reduceEqDiff, Nat.reduceLT, h5]
        rw [IntWalk.i64_in _ (by omega)]
        rw [if_neg hlt, if_neg hgt] at hc
        exact ih (i + 1) _ (by omega) hc (by simp only [go_sem, ↓reduceIte, Nat.reduceEqDiff, Nat.reduceLT, h0]) (by simp only [go_sem, ↓reduceIte, Nat.reduceEqDiff, Nat.reduceLT, h1]) (by simp only [go_sem, ↓reduceIte, Nat.reduceEqDiff, Nat.reduceLT]; rfl)

theorem cmp_end (a b : List UInt8) (i : Nat) (h1 : i ≤ a.length) (h2 : i ≤ b.length) (h3 : i = a.length ∨ i = b.length) : cmpB (a.drop i) (b.drop i) = if a.length < b.length then -1 else if b.length < a.length then 1 else 0 := by
  rcases h3 with rfl | rfl
  · rw [List.drop_length]
    cases hd : b.drop a.length with
    | nil =>
      have := List.drop_eq_nil_iff.1 hd
      rw [if_neg (by omega), if_neg (by omega)]; rfl
    | cons y l =>
      have : a.length < b.length := by
        apply Nat.lt_of_not_le
        intro h
        rw [List.drop_eq_nil_of_le h] at hd; cases hd
      rw [if_pos this]; rfl
  · rw [List.drop_length]
    cases hd : a.drop b.length with
    | nil =>
      have := List.drop_eq_nil_iff.1 hd
      rw [if_neg (by omega), if_neg (by omega)]; rfl
    | cons y l =>
      have : b.length < a.length := by
        apply Nat.lt_of_not_le
        intro h
        rw [List.drop_eq_nil_of_le h] at hd; cases hd
      rw [if_neg (by omega), if_pos this]; rfl

theorem rcompare_runs (a b : List UInt8) (ha : a.length < 2 ^ 63) (hb : b.length < 2 ^ 63) (M : Mem) : Runs D2 15 [.str a, .str b] M fun v M' => v = .int .i64 (cmpB a b) ∧ M' = M := by
  refine Runs.of (F := A15) rfl (by rfl) (by rfl) ?_
  unfold A15
  refine WC.seq (WC.ops ?_)
  simp only [A15_0, go_sem]
  refine WC.seq (WC.seq (WC.ops ?_))
  simp only [A15_1, go_sem, ↓reduceIte, Nat.reduceEqDiff, Nat.reduceLT]
  refine WC.block (cmp_loop a b ha hb M ?_ ?_ (min a.length b.length) 0 _ (by omega) rfl (by simp only [go_sem, ↓reduceIte, Nat.reduceEqDiff, Nat.reduceLT]) (by simp only [go_sem, ↓reduceIte, Nat.reduceEqDiff, Nat.reduceLT]) (by simp only [go_sem, ↓reduceIte, Nat.reduceEqDiff, Nat.reduceLT]; rfl))
  · intro fr h
    simp only [go_sem, h]
    exact ⟨trivial, trivial⟩
  · intro fr i h0 h1 l1 l2 l3 hc
    rw [cmp_end a b i l1 l2 l3] at hc
    simp only [go_sem]
    refine WC.seq (WC.seq (WC.ops ?_))
    simp only [A15_9, go_sem, ↓reduceIte, Nat.reduceEqDiff, Nat.reduceLT, h0, h1]
    refine WC.test (by simp only [go_sem, ↓reduceIte, Nat.reduceEqDiff, Nat.reduceLT]; rfl) (fun h => ?_) (fun h => WC.skip ?_)
    · have hlt : a.length < b.length := by have := of_decide_eq_true h; omega
      refine WC.seq (WC.ops ?_)
      simp only [A15_10, go_sem, ↓reduceIte, Nat.reduceEqDiff, Nat.reduceLT]
      refine WC.ret ?_
      simp only [go_sem, ↓reduceIte, Nat.reduceEqDiff, Nat.reduceLT]
      rw [hc, if_pos hlt]
      exact ⟨rfl, trivial⟩
    · have hlt : ¬ a.length < b.length := by have := of_decide_eq_false h; omega
      simp only [nextQ]
      refine WC.seq (WC.seq (WC.ops ?_))
      simp only [A15_11, go_sem, ↓reduceIte, Nat.reduceEqDiff, Nat.reduceLT, h0, h1]
      refine WC.test (by simp only [go_sem, ↓reduceIte, Nat.reduceEqDiff, Nat.reduceLT]; rfl) (fun h => ?_) (fun h => WC.skip ?_)
      · have hgt : b.length < a.length := by have := of_decide_eq_true h; omega
        refine WC.seq (WC.ops ?_)
        simp only [A15_12, go_sem, ↓reduceIte, Nat.reduceEqDiff, Nat.reduceLT]
        refine WC.ret ?_
        simp only [go_sem, ↓reduceIte, Nat.reduceEqDiff, Nat.reduceLT]
        rw [hc, if_neg hlt, if_pos hgt]
        exact ⟨rfl, trivial⟩
      · have hgt : ¬ b.length < a.length := by have := of_decide_eq_false h; omega
        simp only [nextQ]
        refine WC.seq (WC.ops ?_)
        simp only [A15_13, go_sem, ↓reduceIte, Nat.reduceEqDiff, Nat.reduceLT]
        refine WC.ret ?_
        simp only [go_sem, ↓reduceIte, Nat.reduceEqDiff, Nat.reduceLT]
        rw [hc, if_neg hlt, if_neg hgt]
        exact ⟨rfl, trivial⟩
end Go.Am.Try
