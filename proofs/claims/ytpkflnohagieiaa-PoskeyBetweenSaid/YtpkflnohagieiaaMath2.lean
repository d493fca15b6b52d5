/- The plain law of a key between: where both ends are short there is one. -/
import Derived.Test.YtpkflnohagieiaaMath1
namespace Go.Am.Try
open Go Go.Am Go.Proofs
set_option maxRecDepth 100000
set_option linter.unusedSimpArgs false
set_option linter.unusedVariables false

theorem first_digit : ∀ (b : List UInt8), b ≠ [] → digitL b (b.length - 1) ≠ 0 → ∃ i, i < b.length ∧ (∀ j, j < i → digitL b j = 0) ∧ 0 < digitL b i
  | [], h, _ => absurd rfl h
  | y :: b, _, h2 => by
    by_cases h0 : y.toNat = 0
    · cases b with
      | nil => exact absurd (by rw [List.length_cons, List.length_nil, Nat.zero_add, Nat.sub_self, digit_zero]; exact h0) h2
      | cons z b =>
        obtain ⟨i, h3, h4, h5⟩ := first_digit (z :: b) (by simp) (by
          have : (y :: z :: b).length - 1 = ((z :: b).length - 1) + 1 := by simp
          rw [this, digit_cons] at h2
          exact h2)
        refine ⟨i + 1, by simpa using h3, fun j hj => ?_, by rw [digit_cons]; exact h5⟩
        cases j with
        | zero => rw [digit_zero]; exact h0
        | succ j => rw [digit_cons]; exact h4 j (by omega)
    · exact ⟨0, by simp, fun j hj => by omega, by rw [digit_zero]; omega⟩
theorem digit_of_less : ∀ (a b : List UInt8), strLess a b = true → digitL b (b.length - 1) ≠ 0 → ∃ i, i < b.length ∧ (∀ j, j < i → digitL a j = digitL b j) ∧ digitL a i < digitL b i
  | _, [], h, _ => by cases ‹List UInt8› <;> simp [strLess] at h
  | [], y :: b, _, h2 => by
    obtain ⟨i, h3, h4, h5⟩ := first_digit (y :: b) (by simp) h2
    exact ⟨i, h3, fun j hj => by rw [digit_nil, h4 j hj], by rw [digit_nil]; exact h5⟩
  | x :: a, y :: b, h, h2 => by
    simp only [strLess, ble_iff, beq_dec] at h
    by_cases h1 : x.toNat + 1 ≤ y.toNat
    · exact ⟨0, by simp, fun j hj => by omega, by rw [digit_zero, digit_zero]; omega⟩
    · rw [decide_eq_false h1] at h
      by_cases h3 : x.toNat = y.toNat
      · rw [decide_eq_true h3] at h
        simp only [cond_false, cond_true] at h
        have hne : b ≠ [] := by intro e; subst e; cases a <;> simp [strLess] at h
        have hl : (y :: b).length - 1 = (b.length - 1) + 1 := by cases b <;> simp at hne ⊢
        rw [hl, digit_cons] at h2
        obtain ⟨i, h4, h5, h6⟩ := digit_of_less a b h h2
        refine ⟨i + 1, by simpa using h4, fun j hj => ?_, by rw [digit_cons, digit_cons]; exact h6⟩
        cases j with
        | zero => rw [digit_zero, digit_zero, h3]
        | succ j => rw [digit_cons, digit_cons]; exact h5 j (by omega)
      · rw [decide_eq_false h3] at h; cases h

theorem right_last {k : List UInt8} (h : rightK k = true) : k ≠ [] ∧ k.length ≤ 24 ∧ digitL k (k.length - 1) ≠ 0 := by
  simp only [rightK, Bool.and_eq_true, Bool.not_eq_true', decide_eq_false_iff_not, decide_eq_true_eq] at h
  exact ⟨h.1, h.2.1, h.2.2⟩
theorem fine_parts {a b : List UInt8} (h : fineK a b = true) : (a = [] ∨ rightK a = true) ∧ (b = [] ∨ rightK b = true) ∧ (a = [] ∨ b = [] ∨ strLess a b = true) := by
  simpa only [fineK, inK, Bool.and_eq_true, Bool.or_eq_true, decide_eq_true_eq] using h

theorem gr_less (l b : List UInt8) (hb : b ≠ []) (n i : Nat) (hi : i < n) (h1 : ∀ j, j < i → digitL l j = digitL b j) (h2 : digitL l i < digitL b i) : ∀ (k s : Nat), s + k = n → s ≤ i → grAt l b n k s = 255
  | 0, s, h, hs => by omega
  | k + 1, s, h, hs => by
    simp only [grAt, hb, if_false]
    have hd : (l.getD s 0).toNat = digitL l s := rfl
    rw [hd]
    by_cases e : s = i
    · subst e; rw [if_pos h2]
    · have := h1 s (by omega)
      rw [if_neg (by omega), if_neg (by omega)]
      exact gr_less l b hb n i hi h1 h2 k (s + 1) (by omega) (by omega)
theorem gr_open (l : List UInt8) (n : Nat) : ∀ (k s : Nat), grAt l [] n k s = 255
  | 0, _ => rfl
  | _ + 1, _ => rfl

theorem fine_found {a b : List UInt8} (h : fineK a b = true) (hl : max a.length b.length + 1 ≤ 24) : ∃ k, btwK a b = some k ∧ k.length ≤ max a.length b.length + 1 := by
  obtain ⟨ha, hb, hab⟩ := fine_parts h
  generalize hm : max a.length b.length = m at hl ⊢
  have hma : a.length ≤ m ∧ b.length ≤ m := by omega
  have hp := padTo_len a (m + 1)
  have hz : (padTo a (m + 1)).getD m 0 = 0 := by
    rw [padTo_get a _ _ (by omega), List.getD_eq_getElem?_getD, List.getElem?_eq_none (by omega)]; rfl
  have hi : incFrom (padTo a (m + 1)) (m + 1) = some ((padTo a (m + 1)).set m 1) := by
    simp only [incFrom, hz]
    rfl
  have hd : ∀ j, digitL ((padTo a (m + 1)).set m 1) j = if j = m then 1 else digitL (padTo a (m + 1)) j := fun j => digit_set _ m j 1 (by omega)
  have hg : ¬ greatL ((padTo a (m + 1)).set m 1) b < max (digitL ((padTo a (m + 1)).set m 1) m) 1 := by
    have h255 : greatL ((padTo a (m + 1)).set m 1) b = 255 := by
      unfold greatL
      have hlen : ((padTo a (m + 1)).set m 1).length - 1 = m := by rw [List.length_set, hp]; rfl
      rw [hlen]
      by_cases hbe : b = []
      · subst hbe; exact gr_open _ _ _ _
      · have hbr := right_last (hb.resolve_left hbe)
        have hs : strLess a b = true := by
          rcases hab with rfl | e | e
          · cases b with
            | nil => exact absurd rfl hbe
            | cons y b => rfl
          · exact absurd e hbe
          · exact e
        obtain ⟨i, h1, h2, h3⟩ := digit_of_less a b hs hbr.2.2
        refine gr_less _ b hbe m i (by omega) (fun j hj => ?_) ?_ m 0 (by omega) (Nat.zero_le _)
        · rw [hd, if_neg (by omega), digit_pad a _ _ (by omega)]; exact h2 j hj
        · rw [hd, if_neg (by omega), digit_pad a _ _ (by omega)]; exact h3
    rw [h255, hd, if_pos rfl]
    decide
  exact btw_found (m + 1) hi (by rw [Nat.add_sub_cancel]; exact hg) 24 1 (Nat.le_refl _) rfl (by omega) hl
theorem btw_right {a b k : List UInt8} (h : btwK a b = some k) : rightK k = true ∧ strLess a k = true ∧ (b ≠ [] → strLess k b = true) := btw_spec 24 1 k (Nat.le_refl _) rfl h
end Go.Am.Try
