/- The plain law of a key between: it stands between, and may be; where there is room there is one. -/
import Derived.Test.YtpkflnohagieiaaFns4
namespace Go.Am.Try
open Go Go.Am Go.Proofs
set_option maxRecDepth 100000
set_option linter.unusedSimpArgs false
set_option linter.unusedVariables false

theorem digit_cons (c : UInt8) (a : List UInt8) (i : Nat) : digitL (c :: a) (i + 1) = digitL a i := by simp [digitL]
theorem digit_zero (c : UInt8) (a : List UInt8) : digitL (c :: a) 0 = c.toNat := by simp [digitL]
theorem digit_nil (i : Nat) : digitL [] i = 0 := by simp [digitL]
theorem digit_out {a : List UInt8} {i : Nat} (h : a.length ≤ i) : digitL a i = 0 := by simp [digitL, List.getD_eq_getElem?_getD, List.getElem?_eq_none h]

/-- By the first digit in which they differ. -/
theorem less_of_digit : ∀ (i : Nat) (a k : List UInt8), i < k.length → (∀ j, j < i → digitL k j = digitL a j) → digitL a i < digitL k i → strLess a k = true
  | _, _, [], h, _, _ => by simp at h
  | _, [], _ :: _, _, _, _ => rfl
  | 0, x :: a, y :: k, _, _, h => by
    rw [digit_zero, digit_zero] at h
    simp only [strLess, ble_iff, decide_eq_true (show x.toNat + 1 ≤ y.toNat from h), cond_true]
  | i + 1, x :: a, y :: k, hk, hj, h => by
    have h0 := hj 0 (by omega)
    rw [digit_zero, digit_zero] at h0
    rw [digit_cons, digit_cons] at h
    have := less_of_digit i a k (by simpa using hk) (fun j hji => by have := hj (j + 1) (by omega); rwa [digit_cons, digit_cons] at this) h
    simp only [strLess, ble_iff, beq_dec, decide_eq_false (show ¬ x.toNat + 1 ≤ y.toNat by omega), decide_eq_true h0.symm, cond_false, cond_true, this]
/-- The beginning of another. -/
theorem less_of_begin : ∀ (a k : List UInt8), a.length < k.length → (∀ j, j < a.length → digitL k j = digitL a j) → strLess a k = true
  | _, [], h, _ => by simp at h
  | [], _ :: _, _, _ => rfl
  | x :: a, y :: k, hl, hj => by
    have h0 := hj 0 (by simp)
    rw [digit_zero, digit_zero] at h0
    have := less_of_begin a k (by simpa using hl) (fun j hji => by have := hj (j + 1) (by simpa using hji); rwa [digit_cons, digit_cons] at this)
    simp only [strLess, ble_iff, beq_dec, decide_eq_false (show ¬ x.toNat + 1 ≤ y.toNat by omega), decide_eq_true h0.symm, cond_false, cond_true, this]

theorem digit_set (l : List UInt8) (i j : Nat) (c : UInt8) (h : i < l.length) : digitL (l.set i c) j = if j = i then c.toNat else digitL l j := by
  unfold digitL
  simp only [List.getD_eq_getElem?_getD]
  by_cases e : j = i
  · subst e; rw [if_pos rfl, List.getElem?_set_self h]; rfl
  · rw [if_neg e, List.getElem?_set_ne (by omega)]
theorem digit_pad (a : List UInt8) (n i : Nat) (h : i < n) : digitL (padTo a n) i = digitL a i := by
  unfold digitL; rw [padTo_get a n i h]

/-- What one more is: one digit is more by one, those behind it nought. -/
theorem inc_spec : ∀ (m : Nat) (l l' : List UInt8), m ≤ l.length → incFrom l m = some l' → l'.length = l.length ∧ ∃ i, i < m ∧ (∀ j, j < i → digitL l' j = digitL l j) ∧ digitL l' i = digitL l i + 1 ∧ (∀ j, i < j → j < m → digitL l' j = 0 ∧ digitL l j = 255) ∧ (∀ j, m ≤ j → digitL l' j = digitL l j)
  | 0, _, _, _, h => by cases h
  | m + 1, l, l', hl, h => by
    simp only [incFrom] at h
    have hm : m < l.length := by omega
    have hc : (l.getD m 0).toNat = digitL l m := rfl
    by_cases hz : l.getD m 0 + 1 = 0
    · have h255 : digitL l m = 255 := by
        have : ((l.getD m 0) + 1).toNat = (0 : UInt8).toNat := by rw [hz]
        rw [UInt8.toNat_add] at this
        have h2 := (l.getD m 0).toNat_lt
        rw [← hc]
        simp at this
        simp at h2 ⊢
        omega
      rw [if_neg (by simpa using hz)] at h
      obtain ⟨h1, i, h2, h3, h4, h5, h6⟩ := inc_spec m (l.set m 0) l' (by simp; omega) h
      have hs : ∀ j, digitL (l.set m 0) j = if j = m then 0 else digitL l j := fun j => by rw [digit_set l m j 0 hm]; rfl
      refine ⟨by simpa using h1, i, by omega, fun j hj => ?_, ?_, fun j hij hjm => ?_, fun j hj => ?_⟩
      · rw [h3 j hj, hs, if_neg (by omega)]
      · rw [h4, hs, if_neg (by omega)]
      · by_cases e : j = m
        · subst e
          exact ⟨by rw [h6 j (Nat.le_refl _), hs, if_pos rfl], h255⟩
        · obtain ⟨q1, q2⟩ := h5 j hij (by omega)
          rw [hs, if_neg e] at q2
          exact ⟨q1, q2⟩
      · rw [h6 j (by omega), hs, if_neg (by omega)]
    · rw [if_pos (by simpa using hz)] at h
      cases h
      refine ⟨by simp, m, by omega, fun j hj => ?_, ?_, fun j hij hjm => by omega, fun j hj => ?_⟩
      · rw [digit_set _ _ _ _ hm, if_neg (by omega)]
      · rw [digit_set _ _ _ _ hm, if_pos rfl, UInt8.toNat_add, hc]
        have : digitL l m ≠ 255 := by
          intro e
          apply hz
          apply UInt8.toNat_inj.1
          rw [UInt8.toNat_add, hc, e]
          rfl
        have h2 := digit_lt l m
        simp
        omega
      · rw [digit_set _ _ _ _ hm, if_neg (by omega)]

/-- What the greatest last byte is. -/
theorem gr_spec (l b : List UInt8) (hb : b ≠ []) (n : Nat) (c : Nat) (hc : 1 ≤ c) : ∀ (k i : Nat), i + k = n → (∀ j, j < i → digitL l j = digitL b j) → (c : Int) ≤ grAt l b n k i →
    (∃ i, i < n ∧ (∀ j, j < i → digitL l j = digitL b j) ∧ digitL l i < digitL b i) ∨ ((∀ j, j < n → digitL l j = digitL b j) ∧ ((n + 1 < b.length ∧ c ≤ digitL b n) ∨ c < digitL b n))
  | 0, i, hi, hj, h => by
    have : i = n := by omega
    subst this
    simp only [grAt, grEnd, hb, if_false] at h
    refine .inr ⟨hj, ?_⟩
    split at h
    · rename_i h1; exact .inl ⟨h1, by omega⟩
    · exact .inr (by omega)
  | k + 1, i, hi, hj, h => by
    simp only [grAt, hb, if_false] at h
    have hd : (l.getD i 0).toNat = digitL l i := rfl
    rw [hd] at h
    by_cases h1 : digitL l i < digitL b i
    · exact .inl ⟨i, by omega, hj, h1⟩
    · rw [if_neg h1] at h
      by_cases h2 : digitL b i < digitL l i
      · rw [if_pos h2] at h; omega
      · rw [if_neg h2] at h
        exact gr_spec l b hb n c hc k (i + 1) (by omega) (fun j hj' => by
          by_cases e : j = i
          · subst e; omega
          · exact hj j (by omega)) h

/-- The key that is found. -/
theorem btw_one {a b l : List UInt8} {n : Nat} (hn : 1 ≤ n) (hn2 : n ≤ 24) (hi : incFrom (padTo a n) n = some l) (hg : ¬ greatL l b < max (digitL l (n - 1)) 1) :
    let k := l.set (n - 1) (UInt8.ofNat ((max (digitL l (n - 1)) 1 + (greatL l b).toNat) / 2))
    k.length = n ∧ rightK k = true ∧ strLess a k = true ∧ (b ≠ [] → strLess k b = true) := by
  intro k
  obtain ⟨m, rfl⟩ : ∃ m, n = m + 1 := ⟨n - 1, by omega⟩
  have hgl := greatL_le l b
  have hpl := padTo_len a (m + 1)
  obtain ⟨hl, i, hi1, hi2, hi3, hi4, _⟩ := inc_spec (m + 1) _ _ (by rw [hpl]; exact Nat.le_refl _) hi
  rw [hpl] at hl
  have h8 := digit_lt l m
  simp only [Nat.add_sub_cancel] at hg
  generalize hc : (max (digitL l m) 1 + (greatL l b).toNat) / 2 = c
  have hc1 : max (digitL l m) 1 ≤ c ∧ c ≤ 255 ∧ (c : Int) ≤ greatL l b := by omega
  have hk : k = l.set m (UInt8.ofNat c) := by simp only [k, Nat.add_sub_cancel, hc]
  have hcn : (UInt8.ofNat c).toNat = c := by simp only [UInt8.toNat_ofNat']; omega
  have hd : ∀ j, digitL k j = if j = m then c else digitL l j := fun j => by rw [hk, digit_set l m j _ (by omega), hcn]
  have hkl : k.length = m + 1 := by rw [hk, List.length_set, hl]
  have hp : ∀ j, j < m + 1 → digitL (padTo a (m + 1)) j = digitL a j := fun j hj => digit_pad a (m + 1) j hj
  refine ⟨hkl, ?_, ?_, fun hb => ?_⟩
  · have e1 : k ≠ [] := by intro e; rw [e] at hkl; simp at hkl
    have e2 : digitL k (k.length - 1) ≠ 0 := by rw [hkl, hd]; simp; omega
    simp only [rightK, e1, e2, show k.length ≤ 24 by omega, decide_true, decide_false, Bool.not_false, Bool.true_and]
  · refine less_of_digit i a k (by omega) (fun j hj => ?_) ?_
    · rw [hd, if_neg (by omega), hi2 j hj, hp j (by omega)]
    · rw [hd]
      rw [hp i hi1] at hi3
      split
      · rename_i e; subst e; omega
      · omega
  · have hgs := gr_spec l b hb m c (by omega) m 0 (by omega) (fun j hj => by omega) (by have := hc1.2.2; simpa only [greatL, hl, Nat.add_sub_cancel] using this)
    rcases hgs with ⟨i, h1, h2, h3⟩ | ⟨h1, h2⟩
    · have hib : i < b.length := by
        apply Nat.lt_of_not_le
        intro h
        rw [digit_out h] at h3
        omega
      exact less_of_digit i k b hib (fun j hj => by rw [hd, if_neg (by omega)]; exact (h2 j hj).symm) (by rw [hd, if_neg (by omega)]; exact h3)
    · have hpre : ∀ j, j < m → digitL b j = digitL k j := fun j hj => by rw [hd, if_neg (by omega)]; exact (h1 j hj).symm
      by_cases hlt : c < digitL b m
      · have hib : m < b.length := by
          apply Nat.lt_of_not_le
          intro h
          rw [digit_out h] at hlt
          omega
        exact less_of_digit m k b hib hpre (by rw [hd, if_pos rfl]; exact hlt)
      · rcases h2 with ⟨h2, h3⟩ | h2
        · refine less_of_begin k b (by omega) fun j hj => ?_
          by_cases e : j = m
          · subst e; rw [hd, if_pos rfl]; omega
          · exact hpre j (by omega)
        · exact absurd h2 hlt

theorem btw_spec {a b : List UInt8} : ∀ (f n : Nat) (k : List UInt8), 1 ≤ n → n + f = 25 → btwAt a b f n = some k → rightK k = true ∧ strLess a k = true ∧ (b ≠ [] → strLess k b = true)
  | 0, _, _, _, _, h => by cases h
  | f + 1, n, k, h1, h2, h => by
    simp only [btwAt] at h
    cases hi : incFrom (padTo a n) n with
    | none => rw [hi] at h; exact btw_spec f (n + 1) k (by omega) (by omega) h
    | some l =>
      rw [hi] at h
      simp only at h
      by_cases hg : greatL l b < max (digitL l (n - 1)) 1
      · rw [if_pos hg] at h; exact btw_spec f (n + 1) k (by omega) (by omega) h
      · rw [if_neg hg] at h
        cases h
        exact (btw_one h1 (by omega) hi hg).2
/-- Where a length will do, one is found, of that length at most. -/
theorem btw_found {a b l : List UInt8} (n0 : Nat) (hi0 : incFrom (padTo a n0) n0 = some l) (hg0 : ¬ greatL l b < max (digitL l (n0 - 1)) 1) : ∀ (f n : Nat), 1 ≤ n → n + f = 25 → n ≤ n0 → n0 ≤ 24 → ∃ k, btwAt a b f n = some k ∧ k.length ≤ n0
  | 0, n, h1, h2, h3, h4 => by omega
  | f + 1, n, h1, h2, h3, h4 => by
    simp only [btwAt]
    by_cases e : n = n0
    · subst e
      rw [hi0]
      simp only
      rw [if_neg hg0]
      exact ⟨_, rfl, Nat.le_of_eq (btw_one h1 h4 hi0 hg0).1⟩
    · cases hi : incFrom (padTo a n) n with
      | none => exact btw_found n0 hi0 hg0 f (n + 1) (by omega) (by omega) (by omega) h4
      | some l' =>
        simp only
        by_cases hg : greatL l' b < max (digitL l' (n - 1)) 1
        · rw [if_pos hg]; exact btw_found n0 hi0 hg0 f (n + 1) (by omega) (by omega) (by omega) h4
        · rw [if_neg hg]
          exact ⟨_, rfl, by rw [(btw_one h1 (by omega) hi hg).1]; omega⟩
end Go.Am.Try
