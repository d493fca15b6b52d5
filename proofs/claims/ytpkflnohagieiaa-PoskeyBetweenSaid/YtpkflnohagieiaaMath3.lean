/- The plain law of the reference's scan: the last byte that is below is the greatest. -/
import Derived.Test.YtpkflnohagieiaaRef6
namespace Go.Am.Try
open Go Go.Am Go.Proofs
set_option maxRecDepth 100000
set_option linter.unusedSimpArgs false
set_option linter.unusedVariables false

/-- Behind the end of a number the other one has a digit that is not nought. -/
theorem bel_tail (l b : List UInt8) (hb : b ≠ []) (hr : digitL b (b.length - 1) ≠ 0) : ∀ (k i : Nat), l.length ≤ i → i + k = max l.length b.length → belAt l b k i = decide (i < b.length)
  | 0, i, hl, hi => by
    simp only [belAt]
    rw [decide_eq_false (by omega)]
  | k + 1, i, hl, hi => by
    simp only [belAt, digit_out hl]
    by_cases he : 0 = digitL b i
    · rw [if_pos he, bel_tail l b hb hr k (i + 1) (by omega) (by omega)]
      have : i ≠ b.length - 1 := by intro e; rw [e] at he; exact hr he.symm
      by_cases h : i < b.length
      · rw [decide_eq_true h, decide_eq_true (by omega)]
      · rw [decide_eq_false h, decide_eq_false (by omega)]
    · rw [if_neg he, decide_eq_true (by omega)]
      rw [decide_eq_true]
      apply Nat.lt_of_not_le
      intro h
      exact he (digit_out h).symm
theorem bel_great (l b : List UInt8) (m c : Nat) (hl : l.length = m + 1) (hc : 1 ≤ c) (hc2 : c ≤ 255) (hb : b ≠ []) (hr : digitL b (b.length - 1) ≠ 0) : ∀ (j i k : Nat), i + j = m → i + k = max (m + 1) b.length →
    belAt (l.set m (UInt8.ofNat c)) b k i = decide ((c : Int) ≤ grAt l b m j i)
  | 0, i, k, hi, hk => by
    have : i = m := by omega
    subst this
    obtain ⟨k, rfl⟩ : ∃ k', k = k' + 1 := ⟨k - 1, by omega⟩
    have hcn : (UInt8.ofNat c).toNat = c := by simp only [UInt8.toNat_ofNat']; omega
    have hd : digitL (l.set i (UInt8.ofNat c)) i = c := by rw [digit_set _ _ _ _ (by omega), if_pos rfl, hcn]
    simp only [belAt, hd, grAt, grEnd, hb, if_false]
    by_cases he : c = digitL b i
    · rw [if_pos he, bel_tail _ b hb hr k (i + 1) (by simp [hl]) (by simp only [List.length_set, hl]; omega)]
      by_cases h : i + 1 < b.length
      · rw [if_pos h, decide_eq_true h, decide_eq_true (by omega)]
      · rw [if_neg h, decide_eq_false h, decide_eq_false (by omega)]
    · rw [if_neg he]
      by_cases h : i + 1 < b.length
      · rw [if_pos h]
        by_cases h2 : c < digitL b i
        · rw [decide_eq_true h2, decide_eq_true (by omega)]
        · rw [decide_eq_false h2, decide_eq_false (by omega)]
      · rw [if_neg h]
        by_cases h2 : c < digitL b i
        · rw [decide_eq_true h2, decide_eq_true (by omega)]
        · rw [decide_eq_false h2, decide_eq_false (by omega)]
  | j + 1, i, k, hi, hk => by
    obtain ⟨k, rfl⟩ : ∃ k', k = k' + 1 := ⟨k - 1, by omega⟩
    have hd : digitL (l.set m (UInt8.ofNat c)) i = digitL l i := by rw [digit_set _ _ _ _ (by omega), if_neg (by omega)]
    have hl2 : (l.getD i 0).toNat = digitL l i := rfl
    simp only [belAt, hd, grAt, hb, if_false, hl2]
    by_cases he : digitL l i = digitL b i
    · rw [if_pos he, if_neg (by omega), if_neg (by omega)]
      exact bel_great l b m c hl hc hc2 hb hr j (i + 1) k (by omega) (by omega)
    · rw [if_neg he]
      by_cases h : digitL l i < digitL b i
      · rw [if_pos h, decide_eq_true h, decide_eq_true (by omega)]
      · rw [if_neg h, if_pos (by omega), decide_eq_false h, decide_eq_false (by omega)]
theorem below_great {l b : List UInt8} {m c : Nat} (hl : l.length = m + 1) (hc : 1 ≤ c) (hc2 : c ≤ 255) (hb : b = [] ∨ rightK b = true) : belowL (l.set m (UInt8.ofNat c)) b = decide ((c : Int) ≤ greatL l b) := by
  by_cases hbe : b = []
  · subst hbe
    simp only [belowL, decide_true, Bool.true_or]
    unfold greatL
    rw [gr_open, decide_eq_true (by omega)]
  · have hr := (right_last (hb.resolve_left hbe)).2.2
    simp only [belowL, hbe, decide_false, Bool.false_or, List.length_set, hl]
    rw [bel_great l b m c hl hc hc2 hbe hr m 0 _ (by omega) (by omega)]
    simp only [greatL, hl, Nat.add_sub_cancel]
end Go.Am.Try
