/- A statement that draws its order: whatever order is drawn. -/
import Derived.Test.YtpkflnohagieiaaAmSnd15
set_option linter.unusedSimpArgs false
set_option linter.unusedVariables false
namespace Go.Am
open Go Go.RowKit

theorem any_beq {i : Nat} {l : List Nat} : l.any (Nat.beq i ·) = true ↔ i ∈ l := by
  rw [List.any_eq_true]
  constructor
  · rintro ⟨x, hx, h⟩; rw [Nat.eq_of_beq_eq_true h]; exact hx
  · intro h; exact ⟨i, h, Nat.beq_refl i⟩

section
variable {aops : List AOper} {bits : List Nat} {N : Nat}

/-- What the order's look tells of one operation. -/
theorem order_split {i : Nat} {l2 : List Nat} : ∀ {l1 ahead : List Nat}, orderOk aops bits N ahead (l1 ++ i :: l2) = true →
    i < N ∧ i ∉ l1.reverse ++ ahead ∧ (∀ j, needs bits i j = true → j ∈ l1.reverse ++ ahead) ∧
    (∀ k ∈ l2, needs bits k i = true ∨ (apartA (opA aops i) (opA aops k) = true ∧ (clsA aops i).isW = false)) ∧
    ((clsA aops i).isW = true → betweenOk aops bits i [] (l1.reverse ++ ahead) = true)
  | [], ahead, h => by
    simp only [List.nil_append, orderOk, Bool.and_eq_true] at h
    obtain ⟨⟨⟨⟨⟨⟨h1, h2⟩, h3⟩, h4⟩, h5⟩, h6⟩, h7⟩ := h
    rw [ble_iff] at h1 h3
    have h1 := of_decide_eq_true h1
    have h3 := of_decide_eq_true h3
    refine ⟨h1, ?_, ?_, ?_, ?_⟩
    · intro hm
      rw [List.reverse_nil, List.nil_append] at hm
      rw [any_beq.2 hm] at h2
      cases h2
    · intro j hj
      have hlt : j < N := by
        rcases Nat.lt_or_ge j N with hl | hl
        · exact hl
        · unfold needs at hj
          have : (bits.getD i 0) < 2 ^ j := Nat.lt_of_lt_of_le h3 (Nat.pow_le_pow_right (by omega) hl)
          rw [Nat.testBit_lt_two_pow this] at hj
          cases hj
      have := List.all_eq_true.1 h4 j (List.mem_range.2 hlt)
      rw [hj] at this
      simp only [Bool.not_true, Bool.false_or] at this
      simpa using any_beq.1 this
    · intro k hk
      have := List.all_eq_true.1 h5 k hk
      simp only [Bool.or_eq_true, Bool.and_eq_true, Bool.not_eq_true'] at this
      exact this
    · intro hw
      rw [hw, cond_true] at h6
      simpa using h6
  | a :: l1, ahead, h => by
    simp only [List.cons_append, orderOk, Bool.and_eq_true] at h
    have := order_split (l1 := l1) (ahead := a :: ahead) h.2
    simpa using this

theorem order_all : ∀ {l ahead : List Nat}, orderOk aops bits N ahead l = true → ∀ j, j < N → j ∈ l ∨ j ∈ ahead
  | [], ahead, h, j, hj => by
    simp only [orderOk] at h
    exact .inr (any_beq.1 (List.all_eq_true.1 h j (List.mem_range.2 hj)))
  | a :: l, ahead, h, j, hj => by
    simp only [orderOk, Bool.and_eq_true] at h
    rcases order_all h.2 j hj with h1 | h1
    · exact .inl (List.mem_cons_of_mem _ h1)
    · cases h1 with
      | head => exact .inl (List.mem_cons_self ..)
      | tail _ h1 => exact .inr h1

theorem between_spec {i : Nat} {mid l : List Nat} (h : betweenOk aops bits i mid l = true) {j : Nat} {p q : List Nat} (hl : l = p ++ j :: q) (hj : (clsA aops j).isP = false ∧ (clsA aops j).isW = false) (hn : needs bits i j = false) :
    (∀ k ∈ p ++ mid, leaves (opA aops k) (opA aops j) = true) ∧ dstIn (opA aops j) (opA aops j).looks = false := by
  induction l generalizing mid p with
  | nil => cases p <;> cases hl
  | cons x l ih =>
    simp only [betweenOk] at h
    obtain ⟨h1, h2⟩ := cond_true_iff.1 h
    cases p with
    | nil =>
      simp only [List.nil_append, List.cons.injEq] at hl
      obtain ⟨rfl, rfl⟩ := hl
      rw [hj.1, hj.2, hn] at h1
      simp only [Bool.not_false, Bool.and_self, cond_true, Bool.and_eq_true, Bool.not_eq_true'] at h1
      exact ⟨fun k hk => List.all_eq_true.1 h1.1 k (by simpa using hk), h1.2⟩
    | cons y p =>
      simp only [List.cons_append, List.cons.injEq] at hl
      obtain ⟨rfl, hl⟩ := hl
      obtain ⟨h3, h4⟩ := ih h2 hl
      refine ⟨fun k hk => h3 k ?_, h4⟩
      simp only [List.cons_append, List.mem_cons, List.mem_append] at hk ⊢
      rcases hk with hk | hk | hk
      · exact .inr (.inl hk)
      · exact .inl hk
      · exact .inr (.inr hk)

theorem again_mem {i j : Nat} : ∀ {l : List Nat}, j ∈ l → (clsA aops j).isP = false → (clsA aops j).isW = false → needs bits i j = false → j ∈ againIs aops bits i l
  | x :: l, h, h1, h2, h3 => by
    simp only [againIs]
    cases h with
    | head => rw [h1, h2, h3]; exact List.mem_cons_self ..
    | tail _ h =>
      have := again_mem h h1 h2 h3
      cases (!(clsA aops x).isP && !(clsA aops x).isW && !needs bits i x)
      · exact this
      · exact List.mem_cons_of_mem _ this
end

/-! ### slots behind some operations -/
section
variable (aops : List AOper) (n : Nat) (val : Nat → V)
def putAll (l : List Nat) (fr : Fr) : Fr := l.foldl (fun f j => f.put n (opA aops j).dst (val j)) fr
end
section
variable {aops : List AOper} {n : Nat} {val : Nat → V}
theorem putAll_append (l l' : List Nat) (fr : Fr) : putAll aops n val (l ++ l') fr = putAll aops n val l' (putAll aops n val l fr) := List.foldl_append ..
theorem putAll_congr (t : Nat) : ∀ (l : List Nat) (fr fr' : Fr), fr.rd t = fr'.rd t → (putAll aops n val l fr).rd t = (putAll aops n val l fr').rd t
  | [], _, _, h => h
  | j :: l, fr, fr', h => by
    show (putAll aops n val l (fr.put n _ _)).rd t = (putAll aops n val l (fr'.put n _ _)).rd t
    refine putAll_congr t l _ _ ?_
    rw [rd_put, rd_put, h]
def writesT (aops : List AOper) (t : Nat) (j : Nat) : Bool := (opA aops j).dst == some t
theorem putAll_filter (t : Nat) : ∀ (l : List Nat) (fr : Fr), (putAll aops n val l fr).rd t = (putAll aops n val (l.filter (writesT aops t)) fr).rd t
  | [], _ => rfl
  | j :: l, fr => by
    show (putAll aops n val l (fr.put n _ _)).rd t = _
    rw [List.filter_cons]
    split
    · exact putAll_filter t l _
    · rename_i h
      rw [← putAll_filter t l fr]
      refine putAll_congr t l _ _ ?_
      rw [rd_put, if_neg]
      rintro ⟨h1, _⟩
      exact h (by unfold writesT; rw [h1]; simp)
theorem putAll_none {t : Nat} {l : List Nat} (h : ∀ j ∈ l, (opA aops j).dst ≠ some t) (fr : Fr) : (putAll aops n val l fr).rd t = fr.rd t := by
  rw [putAll_filter]
  have : l.filter (writesT aops t) = [] := by
    rw [List.filter_eq_nil_iff]
    intro j hj hw
    exact h j hj (by simpa [writesT] using hw)
  rw [this]; rfl
end

theorem dstIn_iff {o : AOper} {l : List Nat} : dstIn o l = true ↔ ∃ t ∈ l, o.dst = some t := by
  unfold dstIn
  cases h : o.dst with
  | none => simp
  | some d =>
    simp only [any_beq]
    constructor
    · intro hd; exact ⟨d, hd, rfl⟩
    · rintro ⟨t, ht, e⟩; cases e; exact ht
theorem sameDst_iff {o p : AOper} {t : Nat} (h1 : o.dst = some t) (h2 : p.dst = some t) : sameDst o p = true := by
  unfold sameDst; rw [h1, h2]; exact Nat.beq_refl t
theorem apart_spec {o p : AOper} (h : apartA o p = true) : (∀ t ∈ p.looks, o.dst ≠ some t) ∧ (∀ t, o.dst = some t → p.dst ≠ some t) ∧ ∀ t ∈ o.looks, p.dst ≠ some t := by
  simp only [apartA, Bool.and_eq_true, Bool.not_eq_true'] at h
  obtain ⟨⟨h1, h2⟩, h3⟩ := h
  refine ⟨fun t ht e => ?_, fun t e1 e2 => ?_, fun t ht e => ?_⟩
  · rw [dstIn_iff.2 ⟨t, ht, e⟩] at h1; cases h1
  · rw [sameDst_iff e1 e2] at h2; cases h2
  · rw [dstIn_iff.2 ⟨t, ht, e⟩] at h3; cases h3
theorem leaves_spec {o p : AOper} (h : leaves o p = true) : (∀ t ∈ p.looks, o.dst ≠ some t) ∧ ∀ t, p.dst = some t → o.dst ≠ some t := by
  simp only [leaves, Bool.and_eq_true, Bool.not_eq_true'] at h
  refine ⟨fun t ht e => ?_, fun t e1 e2 => ?_⟩
  · rw [dstIn_iff.2 ⟨t, ht, e⟩] at h; cases h.1
  · rw [sameDst_iff e2 e1] at h; cases h.2

section
variable {aops : List AOper} {bits : List Nat} {N n : Nat} {val : Nat → V} {L : List Nat}
/-- The slots that an operation looks at, behind all that must have run and whatever else has: as behind all ahead of it. -/
theorem looks_agree (hO : orderOk aops bits N [] L = true) {S : Nat → Bool} {i : Nat} {l1 l2 : List Nat} (hL : L = l1 ++ i :: l2) (hi : S i = false) (hneed : ∀ j, needs bits i j = true → S j = true) (hdesc : ∀ j, S j = true → needs bits j i = false)
    (fr0 : Fr) {t : Nat} (ht : t ∈ (opA aops i).looks) : (putAll aops n val (L.filter S) fr0).rd t = (putAll aops n val l1 fr0).rd t := by
  rw [putAll_filter t, putAll_filter t l1]
  congr 1
  congr 1
  subst hL
  obtain ⟨_, _, _, hafter, _⟩ := order_split hO
  rw [List.filter_append, List.filter_cons, hi, List.filter_append]
  have h2 : ((l2.filter S).filter (writesT aops t)) = [] := by
    rw [List.filter_eq_nil_iff]
    intro j hj hw
    rw [List.mem_filter] at hj
    rcases hafter j hj.1 with h | ⟨h, _⟩
    · rw [hdesc j hj.2] at h; cases h
    · exact (apart_spec h).2.2 t ht (by simpa [writesT] using hw)
  have h1 : (l1.filter S).filter (writesT aops t) = l1.filter (writesT aops t) := by
    rw [List.filter_filter]
    apply List.filter_congr
    intro j hj
    cases hw : writesT aops t j with
    | false => simp
    | true =>
      obtain ⟨p, q, rfl⟩ := List.append_of_mem hj
      have hO' : orderOk aops bits N [] (p ++ j :: (q ++ i :: l2)) = true := by simpa using hO
      obtain ⟨_, _, _, haf, _⟩ := order_split hO'
      rcases haf i (by simp) with h | ⟨h, _⟩
      · simp [hneed j h]
      · exact absurd (by simpa [writesT] using hw) ((apart_spec h).1 t ht)
  simp only [Bool.false_eq_true, if_false]
  rw [h1, h2, List.append_nil]

/-- One operation more. -/
theorem put_more (hO : orderOk aops bits N [] L = true) {S S' : Nat → Bool} {i : Nat} (hiL : i ∈ L) (hi : S i = false) (hS' : ∀ j, S' j = (Nat.beq j i || S j)) (hdesc : ∀ j, S j = true → needs bits j i = false)
    (fr0 : Fr) (t : Nat) : (putAll aops n val (L.filter S') fr0).rd t = ((putAll aops n val (L.filter S) fr0).put n (opA aops i).dst (val i)).rd t := by
  obtain ⟨l1, l2, rfl⟩ := List.append_of_mem hiL
  obtain ⟨_, hnotin, _, hafter, _⟩ := order_split hO
  have e1 : l1.filter S' = l1.filter S := by
    apply List.filter_congr
    intro j hj
    rw [hS']
    have : Nat.beq j i = false := by
      cases h : Nat.beq j i with
      | false => rfl
      | true =>
        have := Nat.eq_of_beq_eq_true h
        subst this
        exact absurd (by simpa using hj) hnotin
    rw [this]; rfl
  have e2 : l2.filter S' = l2.filter S ∨ ∃ j ∈ l2, j = i := by
    by_cases h : ∃ j ∈ l2, j = i
    · exact .inr h
    · left
      apply List.filter_congr
      intro j hj
      rw [hS']
      have : Nat.beq j i = false := by
        cases hb : Nat.beq j i with
        | false => rfl
        | true => exact absurd ⟨j, hj, Nat.eq_of_beq_eq_true hb⟩ h
      rw [this]; rfl
  have hno : ¬ ∃ j ∈ l2, j = i := by
    rintro ⟨j, hj, rfl⟩
    obtain ⟨p, q, rfl⟩ := List.append_of_mem hj
    have hO' : orderOk aops bits N [] ((l1 ++ j :: p) ++ j :: q) = true := by simpa using hO
    have := (order_split hO').2.1
    exact this (by simp)
  have e2 := e2.resolve_right hno
  have hSi : S' i = true := by rw [hS']; simp
  rw [List.filter_append, List.filter_cons, hSi, e1, e2, List.filter_append, List.filter_cons, hi]
  simp only [if_true, Bool.false_eq_true, if_false]
  rw [putAll_append, putAll_append, rd_put]
  show (putAll aops n val (l2.filter S) ((putAll aops n val (l1.filter S) fr0).put n _ _)).rd t = _
  by_cases ht : (opA aops i).dst = some t ∧ t < n
  · rw [if_pos ht, putAll_none, rd_put, if_pos ht]
    intro j hj
    rw [List.mem_filter] at hj
    rcases hafter j hj.1 with h | ⟨h, _⟩
    · rw [hdesc j hj.2] at h; cases h
    · exact (apart_spec h).2.1 t ht.1
  · rw [if_neg ht]
    refine putAll_congr t _ _ _ ?_
    rw [rd_put, if_neg ht]
end
end Go.Am
