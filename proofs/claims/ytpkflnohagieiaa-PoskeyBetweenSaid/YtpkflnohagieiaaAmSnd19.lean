/- The machine's code against the program's own. -/
import Derived.Test.YtpkflnohagieiaaAmSnd18
import Derived.LoopN
import Derived.Scope
set_option linter.unusedSimpArgs false
set_option linter.unusedVariables false
namespace Go.Am
open Go Go.RowKit

section
variable {P : Program} {gl : Nat → Bool} {ops : Array Oper} {aops : List AOper} {L : List Nat} {call : CallF} {n : Nat} {val : Nat → V} {fr0 : Fr}
variable {E0 : Emb} {M0 : Mem} {w0 : World} {frE : Fr} {ME : Mem} {ds : List Deferred}

theorem foldl_bits_keep (acc : List Nat) : ∀ (es : List Edge) (s j : Nat), s.testBit j = true → (es.foldl (fun s e => cond (Region.binds .any e) (s ||| 2 ^ e.on ||| acc.getD e.on 0) s) s).testBit j = true
  | [], _, _, h => h
  | e :: es, s, j, h => by
    simp only [List.foldl_cons]
    refine foldl_bits_keep acc es _ j ?_
    cases Region.binds .any e
    · exact h
    · rw [cond_true, Nat.testBit_or, Nat.testBit_or, h]; rfl
theorem foldl_bits_has (acc : List Nat) : ∀ (es : List Edge) (s : Nat) (e : Edge), e ∈ es → Region.binds .any e = true → (es.foldl (fun s e => cond (Region.binds .any e) (s ||| 2 ^ e.on ||| acc.getD e.on 0) s) s).testBit e.on = true
  | x :: es, s, e, he, hb => by
    simp only [List.foldl_cons]
    cases he with
    | head =>
      refine foldl_bits_keep acc es _ _ ?_
      rw [hb, cond_true, Nat.testBit_or, Nat.testBit_or, Nat.testBit_two_pow_self]
      simp
    | tail _ he => exact foldl_bits_has acc es _ e he hb
theorem needs_direct {i j : Nat} (h : j ∈ preds ops i) : needs (bitsOf ops.toList []) i j = true := by
  unfold preds at h
  cases ho : ops[i]? with
  | none => rw [ho] at h; cases h
  | some o =>
    rw [ho] at h
    obtain ⟨e, he, rfl⟩ := List.mem_map.1 h
    rw [List.mem_filter] at he
    have ho' : ops.toList[i]? = some o := by simpa using ho
    obtain ⟨acc', a1, _, _⟩ := (bitsOf_spec ops.toList []).2 i o ho'
    rw [show ([] : List Nat).length + i = i from by simp] at a1
    unfold needs
    rw [List.getD_eq_getElem?_getD, a1]
    exact foldl_bits_has acc' _ 0 e he.1 he.2

def listedS (listed : Array Bool) : Nat → Bool := fun i => listed.getD i false

theorem mem_ready {listed : Array Bool} {i : Nat} (hs : listed.size = ops.size) : i ∈ Region.ready .any ops listed ↔ i < ops.size ∧ listedS listed i = false ∧ ∀ j ∈ preds ops i, listedS listed j = true := by
  unfold Region.ready
  rw [List.mem_filter, List.mem_range]
  constructor
  · rintro ⟨h1, h2⟩
    simp only [Bool.and_eq_true, Bool.not_eq_true'] at h2
    refine ⟨h1, ?_, fun j hj => ?_⟩
    · have := h2.1
      unfold listedS
      rw [Array.getD_eq_getD_getElem?] at this ⊢
      have hlt : i < listed.size := by omega
      rw [Array.getElem?_eq_getElem hlt] at this ⊢
      exact this
    · unfold preds at hj
      rw [Array.getElem?_eq_getElem h1] at hj h2
      simp only [Option.map_some, Option.getD_some] at h2
      obtain ⟨e, he, rfl⟩ := List.mem_map.1 hj
      rw [List.mem_filter] at he
      have := Array.all_eq_true'.1 h2.2 e (Array.mem_toList_iff.1 he.1)
      rw [he.2] at this
      have h' : (listed[e.on]?.getD false) = true := by simpa using this
      unfold listedS; rw [Array.getD_eq_getD_getElem?]; exact h'
  · rintro ⟨h1, h2, h3⟩
    refine ⟨h1, ?_⟩
    simp only [Bool.and_eq_true, Bool.not_eq_true']
    constructor
    · unfold listedS at h2
      rw [Array.getD_eq_getD_getElem?] at h2 ⊢
      have hlt : i < listed.size := by omega
      rw [Array.getElem?_eq_getElem hlt] at h2 ⊢
      exact h2
    · rw [Array.getElem?_eq_getElem h1]
      simp only [Option.map_some, Option.getD_some]
      rw [Array.all_eq_true']
      intro e he
      cases hb : Region.binds .any e with
      | false => rfl
      | true =>
        have : listedS listed e.on = true := h3 e.on (by
          unfold preds
          rw [Array.getElem?_eq_getElem h1]
          exact List.mem_map.2 ⟨e, List.mem_filter.2 ⟨Array.mem_toList_iff.2 he, hb⟩, rfl⟩)
        have h' : (listed[e.on]?.getD false) = true := by unfold listedS at this; rw [Array.getD_eq_getD_getElem?] at this; exact this
        simpa using h'

theorem listed_set {listed : Array Bool} {i : Nat} (hi : i < listed.size) : (fun j => listedS (listed.setIfInBounds i true) j) = fun j => Nat.beq j i || listedS listed j := by
  funext j
  unfold listedS
  rw [Array.getD_eq_getD_getElem?, Array.getD_eq_getD_getElem?]
  by_cases e : i = j
  · subst e
    rw [Array.getElem?_setIfInBounds_self_of_lt hi]
    simp
  · rw [Array.getElem?_setIfInBounds_ne e]
    have : Nat.beq j i = false := by
      cases h : Nat.beq j i with
      | false => rfl
      | true => exact absurd (Nat.eq_of_beq_eq_true h).symm e
    rw [this]; rfl

theorem first_not {S : Nat → Bool} : ∀ {l : List Nat}, (∃ i ∈ l, S i = false) → ∃ l1 i l2, l = l1 ++ i :: l2 ∧ S i = false ∧ ∀ j ∈ l1, S j = true
  | [], h => by obtain ⟨_, h, _⟩ := h; cases h
  | x :: l, h => by
    cases hx : S x with
    | false => exact ⟨[], x, l, rfl, hx, fun j hj => by cases hj⟩
    | true =>
      have : ∃ i ∈ l, S i = false := by
        obtain ⟨i, hi, hs⟩ := h
        cases hi with
        | head => rw [hx] at hs; cases hs
        | tail _ hi => exact ⟨i, hi, hs⟩
      obtain ⟨l1, i, l2, rfl, h1, h2⟩ := first_not this
      exact ⟨x :: l1, i, l2, rfl, h1, fun j hj => by cases hj with | head => exact hx | tail _ hj => exact h2 j hj⟩

theorem any_run (hcall : CallOK P gl call) (hG0 : GOK gl E0) (hcops : cOpers P gl ops ops.toList = some aops) (hO : orderOk aops (bitsOf ops.toList []) ops.size [] L = true) {Q : Exit → Act → World → Prop}
    (hQ : ∀ E' a' w', FrR E' n frE a' → Rel E' ME w' → Ext E0 M0 w0 E' ME w' → a'.defers = ds → Q .normal a' w') :
    ∀ (fuel : Nat) (listed : Array Bool) {pre rest : List Nat} {E : Emb} {M : Mem} {a : Act} {w : World}, listed.size = ops.size →
      Inv ops aops L call n val fr0 (bitsOf ops.toList []) E0 M0 w0 frE ME ds (listedS listed) pre rest E M a w → (∀ e t, rest = e :: t → (clsA aops e).isW = true) → (L.filter fun i => !listedS listed i).length ≤ fuel → wpAny P .any ops Q fuel listed a w := by
  have hend : ∀ (listed : Array Bool) {pre rest : List Nat} {E : Emb} {M : Mem} {a : Act} {w : World}, listed.size = ops.size →
      Inv ops aops L call n val fr0 (bitsOf ops.toList []) E0 M0 w0 frE ME ds (listedS listed) pre rest E M a w → Region.ready .any ops listed = [] → Q .normal a w := by
    intro listed pre rest E M a w hs h hr
    have hall : ∀ i ∈ L, listedS listed i = true := by
      intro i hi
      cases hq : listedS listed i with
      | true => rfl
      | false =>
        exfalso
        obtain ⟨l1, k, l2, hL, hk, h1⟩ := first_not ⟨i, hi, hq⟩
        have hO2 := hO
        rw [hL] at hO2
        obtain ⟨hlt, _, hneed, _⟩ := order_split hO2
        have : k ∈ Region.ready .any ops listed := by
          rw [mem_ready hs]
          refine ⟨hlt, hk, fun j hj => h1 j ?_⟩
          have := hneed j (needs_direct hj)
          simpa using this
        rw [hr] at this
        cases this
    have hrest : rest = [] := by
      cases hq : rest with
      | nil => rfl
      | cons e t =>
        have h1 := h.rest0 e (by rw [hq]; exact List.mem_cons_self ..)
        have h2 := hall e (by rw [h.hL, hq]; simp)
        rw [h1] at h2; cases h2
    have hpre : L = pre := by rw [h.hL, hrest, List.append_nil]
    have hg := h.good
    rw [hrest] at hg
    obtain ⟨e1, e2⟩ := hg
    have hf : L.filter (listedS listed) = L := List.filter_eq_self.2 hall
    have hF := h.hF
    rw [hf, hpre, ← e1] at hF
    have hR := h.hR
    have hX := h.hX
    rw [← e2] at hR hX
    exact hQ E a w hF hR hX h.defers
  intro fuel
  induction fuel with
  | zero =>
    intro listed pre rest E M a w hs h _ hf
    have hr : Region.ready .any ops listed = [] := by
      cases hq : Region.ready .any ops listed with
      | nil => rfl
      | cons i t =>
        exfalso
        have hi : i ∈ Region.ready .any ops listed := by rw [hq]; exact List.mem_cons_self ..
        obtain ⟨h1, h2, _⟩ := (mem_ready hs).1 hi
        have hiL : i ∈ L := (order_all hO i h1).resolve_right (by simp)
        have : i ∈ L.filter fun i => !listedS listed i := List.mem_filter.2 ⟨hiL, by simp [h2]⟩
        rw [List.eq_nil_of_length_eq_zero (Nat.le_zero.1 hf)] at this
        cases this
    exact ⟨hr, hend listed hs h hr⟩
  | succ fuel ih =>
    intro listed pre rest E M a w hs h hh hf
    refine ⟨hend listed hs h, fun i hi => ?_⟩
    obtain ⟨h1, h2, h3⟩ := (mem_ready hs).1 hi
    refine run_ready hcall hG0 hcops hO h hh h1 h2 h3 fun S' pre' rest' E' M' a' w' hS' hinv hh' => ?_
    have hSe : S' = listedS (listed.setIfInBounds i true) := by
      rw [show listedS (listed.setIfInBounds i true) = fun j => listedS (listed.setIfInBounds i true) j from rfl, listed_set (by omega)]
      funext j; exact hS' j
    subst hSe
    refine ih _ (by simpa using hs) hinv hh' ?_
    have hiL : i ∈ L := (order_all hO i h1).resolve_right (by simp)
    have hlt : (L.filter fun j => !listedS (listed.setIfInBounds i true) j).length < (L.filter fun j => !listedS listed j).length := by
      have e : (L.filter fun j => !listedS (listed.setIfInBounds i true) j) = (L.filter fun j => !listedS listed j).filter fun j => !Nat.beq j i := by
        rw [List.filter_filter]
        apply List.filter_congr
        intro j _
        have := congrFun (listed_set (listed := listed) (i := i) (by omega)) j
        rw [this, Bool.not_or]
      rw [e]
      obtain ⟨p, q, hpq⟩ := List.append_of_mem (List.mem_filter.2 ⟨hiL, by simp [h2]⟩ : i ∈ L.filter fun j => !listedS listed j)
      rw [hpq, List.filter_append, List.filter_cons]
      simp only [Nat.beq_refl, Bool.not_true, Bool.false_eq_true, if_false, List.length_append, List.length_cons]
      have a1 := List.length_filter_le (fun j => !Nat.beq j i) p
      have a2 := List.length_filter_le (fun j => !Nat.beq j i) q
      omega
    omega

theorem nodup_len : ∀ (n : Nat) (L : List Nat), L.Nodup → (∀ i ∈ L, i < n) → L.length ≤ n
  | 0, L, _, h => by
    cases L with
    | nil => exact Nat.le_refl _
    | cons i _ => exact absurd (h i (List.mem_cons_self ..)) (Nat.not_lt_zero i)
  | n + 1, L, hn, h => by
    by_cases hm : n ∈ L
    · obtain ⟨p, q, rfl⟩ := List.append_of_mem hm
      have hp : (p ++ q).Nodup := by
        have := hn
        rw [List.nodup_append] at this ⊢
        obtain ⟨a, b, c⟩ := this
        exact ⟨a, (List.nodup_cons.1 b).2, fun x hx y hy => c x hx y (List.mem_cons_of_mem _ hy)⟩
      have hne : ∀ i ∈ p ++ q, i ≠ n := by
        intro i hi e
        subst e
        have := hn
        rw [List.nodup_append] at this
        obtain ⟨a, b, c⟩ := this
        rcases List.mem_append.1 hi with h1 | h1
        · exact c _ h1 _ (List.mem_cons_self ..) rfl
        · exact (List.nodup_cons.1 b).1 h1
      have := nodup_len n (p ++ q) hp (fun i hi => by
        have h1 := h i (by rcases List.mem_append.1 hi with h1 | h1 <;> simp [h1])
        have h2 := hne i hi
        omega)
      simp only [List.length_append, List.length_cons] at this ⊢
      omega
    · have := nodup_len n L hn (fun i hi => by
        have h1 := h i hi
        have h2 : i ≠ n := fun e => hm (e ▸ hi)
        omega)
      omega

/-- A statement. -/
theorem region_run (hcall : CallOK P gl call) (hm : P.follows .mixedOrders = true) {draw : Bool} {id : Nat} {items : List Item} (hc : cRegion P gl ops draw = some items) {E : Emb} {M M' : Mem} {w : World} {fr fr' : Fr} {a : Act}
    (hR : Rel E M w) (hG : GOK gl E) (hF : FrR E n fr a) (he : execItems call n items fr M = some (fr', M')) {Q : Exit → Act → World → Prop}
    (hQ : ∀ E' a' w', FrR E' n fr' a' → Rel E' M' w' → Ext E M w E' M' w' → a'.defers = a.defers → Q .normal a' w') : (Code.region id ops draw).wp P Q a w := by
  unfold cRegion at hc
  simp only [Option.bind_eq_some_iff] at hc
  obtain ⟨aops, hcops, hc⟩ := hc
  cases draw with
  | false =>
    simp only [cond_false, Option.some.injEq] at hc
    subst hc
    refine wp_region ?_
    rw [List.range_eq_range']
    have := ops_run (P := P) (gl := gl) hcall (ops := ops) (Q := Q) (os := ops.toList) (as := aops) (i := 0) (fun j o h => by rw [Nat.zero_add]; simpa using h) hcops hR hG hF he hQ
    simpa using this
  | true =>
    simp only [cond_true] at hc
    obtain ⟨hO, hc⟩ := cond_some hc
    cases hc
    obtain ⟨val, hg⟩ := good_of hO he
    refine wp_region_any hm ?_
    have hw : ({ w with drawn := w.drawn + 1 } : World) = w.drew := rfl
    rw [hw]
    obtain ⟨hR1, hX1⟩ := hR.drew
    generalize orderOf _ _ _ _ _ = L at hO hg
    have hS0 : ∀ j, listedS (Array.replicate ops.size false) j = false := by
      intro j
      unfold listedS
      rw [Array.getD_eq_getD_getElem?, Array.getElem?_replicate]
      split <;> rfl
    have hf0 : L.filter (listedS (Array.replicate ops.size false)) = [] := by
      rw [List.filter_eq_nil_iff]
      intro j _ h
      rw [hS0 j] at h; cases h
    have h0 : Inv ops aops L call n val fr (bitsOf ops.toList []) E M w.drew fr' M' a.defers (listedS (Array.replicate ops.size false)) [] L E M a w.drew :=
      ⟨rfl, hg, fun j _ => hS0 j, fun j hj => (by cases hj), (by rw [hf0]; exact hF), hR1, Ext.refl E M _, fun j hj => (by cases hj), fun j hj => (by cases hj), fun j hj => (by rw [hS0 j] at hj; cases hj), rfl⟩
    obtain ⟨pre', rest', M1, hinv, hh⟩ := advance hO h0
    refine any_run hcall hG hcops hO (fun E' a' w' h1 h2 h3 h4 => hQ E' a' w' h1 h2 (hX1.trans h3) h4) ops.size _ (by simp) hinv hh ?_
    have hnd : L.length ≤ ops.size := by
      have hnod : L.Nodup := by
        rw [List.nodup_iff_pairwise_ne, List.pairwise_iff_forall_sublist]
        intro x y hxy e
        subst e
        obtain ⟨p, q, hpq⟩ : ∃ p q, L = p ++ x :: q ∧ x ∈ q := by
          have := List.cons_sublist_iff.1 hxy
          obtain ⟨r1, r2, e1, e2, e3⟩ := this
          obtain ⟨s, t, rfl⟩ := List.append_of_mem e2
          exact ⟨s, t ++ r2, by rw [e1]; simp, by
            have := List.singleton_sublist.1 e3
            simp [this]⟩
        obtain ⟨hL, hx⟩ := hpq
        obtain ⟨u, v, rfl⟩ := List.append_of_mem hx
        have hO2 : orderOk aops (bitsOf ops.toList []) ops.size [] ((p ++ x :: u) ++ x :: v) = true := by rw [hL] at hO; simpa using hO
        have := (order_split hO2).2.1
        exact this (by simp)
      refine nodup_len _ L hnod fun i hi => ?_
      obtain ⟨p, q, hpq⟩ := List.append_of_mem hi
      have hO2 := hO
      rw [hpq] at hO2
      exact (order_split hO2).1
    exact Nat.le_trans (List.length_filter_le ..) hnd
end
end Go.Am
