/- The machine and what is proved of its runs, part 5: what each part says stands at its head. -/
import Derived.Test.YtefigbdkennhaaaDoorJ4
import Derived.Shelf.SlSortCmp.NoneTotal
import Derived.Deep.Slices
import Derived.Below
import Derived.Shelf.SlGeneric
set_option linter.unusedSimpArgs false
set_option linter.unusedVariables false
set_option linter.unusedSectionVars false
/- slices.SortFunc as a part of the machine: by the kit's contract, at elements of some cells. -/
namespace Go.Am
open Go Go.RowKit Go.Sort

/-- How elements stand in cells. -/
structure Elem (α : Type) where
  k : Nat
  cv : α → List V
  enc : α → List Value
  dec : List V → Option α
  k_pos : 0 < k
  len : ∀ x, (cv x).length = k
  elen : ∀ x, (enc x).length = k
  dec_some : ∀ cs x, dec cs = some x → cs = cv x
  dec_cv : ∀ x, dec (cv x) = some x
  rel : ∀ E x, VRs E (cv x) (enc x)
  rel_eq : ∀ E x us, VRs E (cv x) us → us = enc x
  one : ∀ x, ∀ v ∈ enc x, v.oneCell' = true
  one' : ∀ x, allOne (cv x) = true
  flat : ∀ x, V.flats (cv x) = true

section
variable {α : Type} (e : Elem α)
def Elem.all (l : List α) : List V := l.flatMap e.cv
def Elem.encs (l : List α) : List Value := l.flatMap e.enc
def Elem.decs : Nat → List V → Option (List α)
  | 0, [] => some []
  | 0, _ :: _ => none
  | n + 1, cs => (e.dec (cs.take e.k)).bind fun x => (Elem.decs n (cs.drop e.k)).map (x :: ·)
theorem Elem.all_len (l : List α) : (e.all l).length = l.length * e.k := by
  induction l with
  | nil => simp [Elem.all]
  | cons x l ih => simp only [Elem.all, List.flatMap_cons, List.length_append, List.length_cons, e.len, Nat.add_mul, Nat.one_mul] at ih ⊢; omega
theorem Elem.encs_len (l : List α) : (e.encs l).length = l.length * e.k := by
  induction l with
  | nil => simp [Elem.encs]
  | cons x l ih => simp only [Elem.encs, List.flatMap_cons, List.length_append, List.length_cons, e.elen, Nat.add_mul, Nat.one_mul] at ih ⊢; omega
theorem Elem.decs_some : ∀ {n : Nat} {cs : List V} {l : List α}, e.decs n cs = some l → l.length = n ∧ cs = e.all l
  | 0, [], l, h => by cases h; exact ⟨rfl, rfl⟩
  | 0, _ :: _, l, h => by cases h
  | n + 1, cs, l, h => by
    simp only [Elem.decs, Option.bind_eq_some_iff, Option.map_eq_some_iff] at h
    obtain ⟨x, hx, l', hl, rfl⟩ := h
    obtain ⟨h1, h2⟩ := Elem.decs_some hl
    refine ⟨by simp [h1], ?_⟩
    show cs = e.cv x ++ l'.flatMap e.cv
    rw [← e.dec_some _ _ hx, show l'.flatMap e.cv = e.all l' from rfl, ← h2, List.take_append_drop]
theorem Elem.decs_all : ∀ (l : List α), e.decs l.length (e.all l) = some l
  | [] => rfl
  | x :: l => by
    have h1 : (e.all (x :: l)).take e.k = e.cv x := by
      show (e.cv x ++ l.flatMap e.cv).take e.k = _
      rw [← e.len x, List.take_left]
    have h2 : (e.all (x :: l)).drop e.k = e.all l := by
      show (e.cv x ++ l.flatMap e.cv).drop e.k = _
      rw [← e.len x, List.drop_left]; rfl
    simp only [List.length_cons, Elem.decs, h1, h2, e.dec_cv, Option.bind_some, Elem.decs_all l, Option.map_some]
theorem Elem.rels (E : Emb) : ∀ l : List α, VRs E (e.all l) (e.encs l)
  | [] => .nil
  | x :: l => (e.rel E x).app (Elem.rels E l)
theorem VRs.split {E : Emb} : ∀ {xs ys : List V} {us : List Value}, VRs E (xs ++ ys) us → ∃ u1 u2, us = u1 ++ u2 ∧ VRs E xs u1 ∧ VRs E ys u2
  | [], ys, us, h => ⟨[], us, rfl, .nil, h⟩
  | x :: xs, ys, _, .cons h t => by
    obtain ⟨u1, u2, rfl, h1, h2⟩ := VRs.split t
    exact ⟨_ :: u1, u2, rfl, .cons h h1, h2⟩
theorem Elem.rels_eq (E : Emb) : ∀ (l : List α) (us : List Value), VRs E (e.all l) us → us = e.encs l
  | [], us, h => by cases h; rfl
  | x :: l, us, h => by
    obtain ⟨u1, u2, rfl, h1, h2⟩ := VRs.split h
    rw [e.rel_eq E x u1 h1, Elem.rels_eq E l u2 h2]
    rfl
theorem Elem.all_one : ∀ l : List α, allOne (e.all l) = true
  | [] => rfl
  | x :: l => by
    have : ∀ (a b : List V), allOne a = true → allOne b = true → allOne (a ++ b) = true := by
      intro a b ha hb
      induction a with
      | nil => exact hb
      | cons v a ih =>
        simp only [allOne, cond_true_iff] at ha
        simp only [List.cons_append, allOne, ha.1, cond_true]
        exact ih ha.2
    exact this _ _ (e.one' x) (Elem.all_one l)
theorem Elem.all_flat : ∀ l : List α, V.flats (e.all l) = true
  | [] => rfl
  | x :: l => by
    have : ∀ (a b : List V), V.flats a = true → V.flats b = true → V.flats (a ++ b) = true := by
      intro a b ha hb
      induction a with
      | nil => exact hb
      | cons v a ih =>
        simp only [V.flats, Bool.and_eq_true] at ha
        simp only [List.cons_append, V.flats, ha.1, Bool.true_and]
        exact ih ha.2
    exact this _ _ (e.flat x) (Elem.all_flat l)

/-- A slice that is read: its elements. -/
def SlR (M : Mem) (s : V) (xs : List α) : Prop := ∃ a cap, s = .slice a xs.length cap ∧ (xs = [] ∨ ∃ b o cs ro, a = some (b, o) ∧ M.get b = some (.cells cs ro) ∧ ∀ (i : Nat) (h : i < xs.length), rdCells cs (o + i * e.k) e.k = some (e.cv xs[i]))
theorem SlR.keep {e : Elem α} {M M' : Mem} {s : V} {xs : List α} (h : SlR e M s xs) (hk : ∀ b, s.blk = some b → M'.get b = M.get b) : SlR e M' s xs := by
  obtain ⟨a, cap, rfl, h⟩ := h
  refine ⟨a, cap, rfl, ?_⟩
  rcases h with h | ⟨b, o, cs, ro, rfl, h1, h2⟩
  · exact .inl h
  · exact .inr ⟨b, o, cs, ro, rfl, (hk b rfl).trans h1, h2⟩
theorem Elem.rd (e : Elem α) : ∀ (xs : List α) (i : Nat) (h : i < xs.length), rdCells (e.all xs) (i * e.k) e.k = some (e.cv xs[i])
  | [], i, h => by simp at h
  | x :: xs, 0, h => by
    simp only [Nat.zero_mul, rdCells, Nat.zero_add, ble_iff]
    have hl : (e.all (x :: xs)) = e.cv x ++ e.all xs := rfl
    rw [hl, List.length_append, e.len, decide_eq_true (by omega)]
    simp only [cond_true, List.drop_zero, List.getElem_cons_zero, Option.some.injEq]
    rw [← e.len x, List.take_left]
  | x :: xs, i + 1, h => by
    have ih := Elem.rd e xs i (by simpa using h)
    have hl : (e.all (x :: xs)) = e.cv x ++ e.all xs := rfl
    simp only [rdCells, ble_iff] at ih ⊢
    have hlen := e.all_len xs
    have hi : i < xs.length := by simpa using h
    have h1 : i * e.k + e.k ≤ (e.all xs).length := by
      rw [hlen]
      have := Nat.mul_le_mul_right e.k (show i + 1 ≤ xs.length from hi)
      rw [Nat.add_mul, Nat.one_mul] at this
      exact this
    rw [decide_eq_true h1] at ih
    simp only [cond_true, Option.some.injEq] at ih
    have h2 : (i + 1) * e.k + e.k ≤ (e.all (x :: xs)).length := by
      rw [hl, List.length_append, e.len, Nat.add_mul, Nat.one_mul]
      omega
    rw [decide_eq_true h2]
    simp only [cond_true, Option.some.injEq, List.getElem_cons_succ]
    rw [hl, Nat.add_mul, Nat.one_mul, Nat.add_comm (i * e.k) e.k, ← List.drop_drop, show e.k = (e.cv x).length from (e.len x).symm, List.drop_left]
    rw [e.len]
    exact ih
theorem Hold.slR {e : Elem α} {lo : Nat} {M : Mem} {s : V} {xs : List α} (h : Hold lo M e.k s xs.length (e.all xs)) : SlR e M s xs := by
  generalize hn : xs.length = n at h
  generalize hc : e.all xs = cs at h
  cases h with
  | nil => exact ⟨_, _, by rw [hn], .inl (List.eq_nil_of_length_eq_zero hn)⟩
  | row h1 h2 h3 h4 => exact ⟨_, _, by rw [hn], .inr ⟨_, 0, cs, false, rfl, h1, fun i hi => by rw [← hc, Nat.zero_add]; exact e.rd xs i hi⟩⟩
theorem rd_cell {cs l : List V} {p k : Nat} (h : rdCells cs p k = some l) (j : Nat) (hj : j < k) : cs[p + j]? = l[j]? := by
  unfold rdCells at h
  obtain ⟨h1, h⟩ := cond_some h
  rw [ble_iff, decide_eq_true_eq] at h1
  cases h
  rw [List.getElem?_take, if_pos hj, List.getElem?_drop]
theorem rd_part {cs l : List V} {p k : Nat} (h : rdCells cs p k = some l) (j m : Nat) (hj : j + m ≤ k) : rdCells cs (p + j) m = some ((l.drop j).take m) := by
  unfold rdCells at h ⊢
  obtain ⟨h1, h⟩ := cond_some h
  rw [ble_iff, decide_eq_true_eq] at h1
  cases h
  rw [ble_iff, decide_eq_true (by omega)]
  simp only [cond_true, Option.some.injEq]
  rw [List.drop_take, List.take_take, List.drop_drop, Nat.min_eq_left (by omega)]
/-- The elements of a slice, read. -/
def readSl (M : Mem) (s : V) : Option (List α) :=
  match s with
  | .slice none 0 (.exact 0) => some []
  | .slice (some (b, o)) n _ => match M.get b with
    | some (.cells cs _) => cond (Nat.ble n maxRoom) ((rdCells cs o (n * e.k)).bind fun l => e.decs n l) none
    | _ => none
  | _ => none
theorem readSl_is {e : Elem α} {M : Mem} {s : V} {xs : List α} (h : readSl e M s = some xs) : SlR e M s xs ∧ xs.length ≤ maxRoom := by
  unfold readSl at h
  split at h
  · cases h; exact ⟨⟨_, _, rfl, .inl rfl⟩, by simp⟩
  · rename_i b o n cap
    split at h
    · rename_i cs ro hM
      obtain ⟨hn, h⟩ := cond_some h
      simp only [Option.bind_eq_some_iff] at h
      obtain ⟨l, hl, h⟩ := h
      obtain ⟨h1, rfl⟩ := e.decs_some h
      refine ⟨⟨_, _, by rw [h1], .inr ⟨b, o, cs, ro, rfl, hM, fun i hi => ?_⟩⟩, by rw [h1]; exact Nat.le_of_ble_eq_true hn⟩
      have hr := e.rd xs i hi
      unfold rdCells at hl hr ⊢
      obtain ⟨c1, hl⟩ := cond_some hl
      obtain ⟨c2, hr⟩ := cond_some hr
      rw [ble_iff, decide_eq_true_eq] at c1 c2
      simp only [Option.some.injEq] at hl hr
      have hlen := e.all_len xs
      rw [h1] at hlen
      rw [ble_iff, decide_eq_true (by omega)]
      simp only [cond_true, Option.some.injEq]
      rw [← hr, ← hl, List.drop_take, List.take_take, List.drop_drop, Nat.min_eq_left (by omega)]
    · cases h
  · cases h
theorem readSl_of {e : Elem α} {lo : Nat} {M : Mem} {s : V} {xs : List α} (h : Hold lo M e.k s xs.length (e.all xs)) (hn : xs.length ≤ maxRoom) : readSl e M s = some xs := by
  have hd := e.decs_all xs
  have hl := e.all_len xs
  generalize hq : xs.length = n at h hd hl
  generalize hc : e.all xs = cs at h hd hl
  cases h with
  | nil => simp only [readSl]; rw [List.eq_nil_of_length_eq_zero hq]
  | row h1 h2 h3 h4 =>
    simp only [readSl, h1, rdCells, Nat.zero_add, ble_iff]
    rw [decide_eq_true (by omega), decide_eq_true (by omega)]
    simp only [cond_true, Option.bind_some, List.drop_zero]
    rw [← h2, List.take_length]
    exact hd
/-! ### sorting -/
def ins (lt : α → α → Bool) (x : α) : List α → List α
  | [] => [x]
  | y :: l => cond (lt y x) (y :: ins lt x l) (x :: y :: l)
def isort (lt : α → α → Bool) : List α → List α
  | [] => []
  | x :: l => ins lt x (isort lt l)
theorem ins_perm (lt : α → α → Bool) (x : α) : ∀ l : List α, (ins lt x l).Perm (x :: l)
  | [] => .refl _
  | y :: l => by
    simp only [ins]
    cases lt y x
    · exact .refl _
    · exact ((ins_perm lt x l).cons y).trans (.swap x y l)
theorem isort_perm (lt : α → α → Bool) : ∀ l : List α, (isort lt l).Perm l
  | [] => .refl _
  | x :: l => (ins_perm lt x _).trans ((isort_perm lt l).cons x)
theorem isort_len (lt : α → α → Bool) (l : List α) : (isort lt l).length = l.length := (isort_perm lt l).length_eq
variable [Inhabited α]
theorem ins_sorted {lt : α → α → Bool} (hO : SWO lt) (x : α) : ∀ l : List α, l.Pairwise (fun a b => lt b a = false) → (ins lt x l).Pairwise (fun a b => lt b a = false)
  | [], _ => by simp [ins]
  | y :: l, h => by
    rw [List.pairwise_cons] at h
    simp only [ins]
    cases hxy : lt y x with
    | true =>
      simp only [cond_true]
      rw [List.pairwise_cons]
      refine ⟨fun z hz => ?_, ins_sorted hO x l h.2⟩
      rcases List.mem_cons.1 ((ins_perm lt x l).mem_iff.1 hz) with rfl | hz
      · cases hq : lt z y with
        | false => rfl
        | true => have := hO.trans _ _ _ hq hxy; rw [hO.irrefl] at this; cases this
      · exact h.1 z hz
    | false =>
      simp only [cond_false]
      rw [List.pairwise_cons]
      refine ⟨fun z hz => ?_, List.pairwise_cons.2 h⟩
      rcases List.mem_cons.1 hz with rfl | hz
      · exact hxy
      · exact hO.ntrans _ _ _ (h.1 z hz) hxy
theorem isort_sorted {lt : α → α → Bool} (hO : SWO lt) : ∀ l : List α, (isort lt l).Pairwise (fun a b => lt b a = false)
  | [] => .nil
  | x :: l => ins_sorted hO x _ (isort_sorted hO l)
theorem sorted_is_isort {lt : α → α → Bool} (hO : SWO lt) (hT : ∀ x y, lt x y = false → lt y x = false → x = y) {l : List α} {d' : Array α} (hp : PermIn 0 l.toArray.size l.toArray d') (hs : SortedIn lt 0 l.toArray.size d') : d' = (isort lt l).toArray := by
  have h1 := sorted_unique_holds hO hT l.toArray d' hp hs
  have h2 := sorted_unique_holds hO hT l.toArray (isort lt l).toArray
    ⟨by simp [isort_len], fun i hi => by
      rcases hi with hi | hi
      · omega
      · rw [getElem!_neg _ _ (by simp [isort_len]; simpa using hi), getElem!_neg _ _ (by simpa using hi)], by
      have e1 : (isort lt l).toArray.extract 0 l.toArray.size = (isort lt l).toArray := by
        rw [show l.toArray.size = (isort lt l).toArray.size by simp [isort_len]]; exact Array.extract_size
      rw [e1, Array.extract_size]
      exact isort_perm lt l⟩
    (fun i j _ hij hj => by
      have := isort_sorted hO l
      rw [List.pairwise_iff_getElem] at this
      have hj' : j < (isort lt l).length := by rw [isort_len]; simpa using hj
      have := this i j (by omega) hj' hij
      simpa [hj', show i < (isort lt l).length by omega] using this)
  exact Array.toList_inj.1 (h1.trans h2.symm)
end
end Go.Am

/- slices.SortFunc as a part of the machine. -/
namespace Go.Am
open Go Go.RowKit Go.Sort Go.Proofs Go.Shelf

section
variable {P : Program} {gl : Nat → Bool} {α : Type} [Inhabited α]

theorem flatK_encs (e : Elem α) (l : List α) : (flatK e.enc e.k l.toArray).toList = e.encs l := by
  apply List.ext_getElem?
  intro t
  by_cases ht : t < l.length * e.k
  · have hk := e.k_pos
    have hq : t / e.k < l.length := (Nat.div_lt_iff_lt_mul hk).2 ht
    have hr : t % e.k < e.k := Nat.mod_lt _ hk
    have h1 : (flatK e.enc e.k l.toArray)[t]! = (e.enc l.toArray[t / e.k]!)[t % e.k]! := get_flatK _ _ _ _ (by simpa using ht)
    have hsz : t < (flatK e.enc e.k l.toArray).size := by simpa using ht
    rw [getElem!_pos (flatK e.enc e.k l.toArray) t hsz] at h1
    have h2 : l.toArray[t / e.k]! = l[t / e.k] := by simp [hq]
    rw [h2] at h1
    have h3 : (e.enc l[t / e.k])[t % e.k]! = (e.enc l[t / e.k])[t % e.k]'(by rw [e.elen]; exact hr) := by rw [getElem!_pos]
    rw [h3] at h1
    rw [Array.getElem?_toList, Array.getElem?_eq_getElem hsz, h1]
    -- the flat list at t
    have key : ∀ (l : List α) (t : Nat) (hq : t / e.k < l.length), (e.encs l)[t]? = some ((e.enc l[t / e.k])[t % e.k]'(by rw [e.elen]; exact Nat.mod_lt _ hk)) := by
      intro l
      induction l with
      | nil => intro t hq; simp at hq
      | cons x l ih =>
        intro t hq
        show (e.enc x ++ e.encs l)[t]? = _
        by_cases hlt : t < e.k
        · have h0 : t / e.k = 0 := Nat.div_eq_of_lt hlt
          have hm : t % e.k = t := Nat.mod_eq_of_lt hlt
          rw [List.getElem?_append_left (by rw [e.elen]; exact hlt)]
          simp [h0, hm, e.elen, hlt]
        · obtain ⟨u, rfl⟩ : ∃ u, t = u + e.k := ⟨t - e.k, by omega⟩
          have h0 : (u + e.k) / e.k = u / e.k + 1 := Nat.add_div_right u hk
          have hm : (u + e.k) % e.k = u % e.k := Nat.add_mod_right u e.k
          rw [List.getElem?_append_right (by rw [e.elen]; omega), e.elen, Nat.add_sub_cancel]
          have := ih u (by rw [h0] at hq; simpa using hq)
          rw [this]
          simp [h0, hm]
    exact (key l t hq).symm
  · rw [Array.getElem?_toList, Array.getElem?_eq_none (by simp; omega), List.getElem?_eq_none (by rw [e.encs_len]; omega)]

/-- What the sort does to a row. -/
def sortP (e : Elem α) (g : FuncId) (lt : α → α → Bool) (args : List V) (M : Mem) : Option (V × Mem) :=
  match args with
  | [.slice none 0 (.exact 0), .fn g' [] []] => cond (Nat.beq g' g) (some (.tup [], M)) none
  | [.slice (some (b, 0)) n _, .fn g' [] []] => cond (Nat.beq g' g) (cond (Nat.ble n maxRoom) (match M.get b with
      | some (.cells cs false) => (e.decs n cs).map fun l => (.tup [], M.set b (.cells (e.all (isort lt l)) false))
      | _ => none) none) none
  | _ => none

theorem Rel.heapEq {E : Emb} {M : Mem} {w w' : World} (h : Rel E M w) (hh : w'.heap = w.heap) : Rel E M w' := ⟨fun b c d k hb => by rw [hh]; exact h.at_ b c d k hb, fun b c d k hb => by rw [hh]; exact h.lt b c d k hb, h.inj, h.wf⟩
theorem Rel.grow {E : Emb} {M : Mem} {w : World} (h : Rel E M w) (os : Array Obj) : Rel E M (Go.Sort.grow w os) ∧ Ext E M w E M (Go.Sort.grow w os) := by
  have hk : ∀ c, c < w.heap.size → (w.heap ++ os)[c]? = w.heap[c]? := fun c hc => Array.getElem?_append_left hc
  refine ⟨⟨fun b c d k hb => ?_, fun b c d k hb => ?_, h.inj, h.wf⟩, ⟨Emb.le_refl E, rfl, rfl, rfl, ?_, Nat.le_refl _, fun c hc _ => hk c hc, fun b c d k h1 h2 => by (rw [h1] at h2; cases h2), fun _ _ => rfl, Nat.le_refl _⟩⟩
  · obtain ⟨o, ho, hr⟩ := h.at_ b c d k hb
    exact ⟨o, ho, by show OR E o (w.heap ++ os)[c]? d k; rw [hk c (h.lt b c d k hb)]; exact hr⟩
  · show c < (w.heap ++ os).size
    have := h.lt b c d k hb
    simp
    omega
  · show w.heap.size ≤ (w.heap ++ os).size
    simp

theorem sort_callOK {ρ : Ren} (L : SlLaysF0.n6 P ρ) (e : Elem α) (aE : ∀ w, (isAgg (ρ.t 24)).run P w = .ok true w) (zE : ∀ w, (Go.sizeOf (ρ.t 24)).run P w = .ok e.k w) (cf : α → α → Int) (hO : SWO (ltOf cf)) (hT : ∀ x y, (ltOf cf) x y = false → (ltOf cf) y x = false → x = y) (g : FuncId)
    (hg : Callable P g) (hc : Callable P (ρ.f 6))
    (hcmp : ∀ (x y : α) (w : World), Calls P g #[.agg (e.enc x).toArray, .agg (e.enc y).toArray] w fun r w' => r = .returned (.int .i64 (cf x y)) ∧ ∃ q os, w' = Go.Sort.grow (w.drewN q) os) :
    CallOK P gl fun f' args M => if f' = ρ.f 6 then sortP e g (ltOf cf) args M else none := by
  intro f' args M v M' he
  simp only at he
  split at he
  · rename_i ef
    subst ef
    refine ⟨hc, fun E w args' hR hG hA => ?_⟩
    unfold sortP at he
    split at he
    · rename_i g'
      obtain ⟨h1, he⟩ := cond_some he
      cases he
      have : ∃ fv, args' = #[.slice none 0 0, fv] := by
        obtain ⟨l⟩ := args'
        simp only at hA
        cases hA with
        | cons h1 t => cases h1 with | sliceNil => cases t with | cons h2 t => cases t; exact ⟨_, rfl⟩
      obtain ⟨fv, rfl⟩ := this
      refine (AnyF.slices_SortFunc_none L none 0 fv w).mono ?_
      rintro r w' ⟨rfl, rfl⟩
      exact ⟨E, _, rfl, .tup (cs' := #[]) .nil, hR, Ext.refl E M w'⟩
    · rename_i b n cap g'
      obtain ⟨h1, he1⟩ := cond_some he
      clear he
      have : g' = g := Nat.eq_of_beq_eq_true h1
      subst this
      obtain ⟨h2, he⟩ := cond_some he1
      have hn : n ≤ maxRoom := Nat.le_of_ble_eq_true h2
      split at he
      · rename_i cs hM
        simp only [Option.map_eq_some_iff] at he
        obtain ⟨l, hl, he⟩ := he
        cases he
        obtain ⟨hln, rfl⟩ := e.decs_some hl
        -- the arguments
        have : ∃ sv, args' = #[sv, .func (.func g') #[] #[]] ∧ VR E (.slice (some (b, 0)) n cap) sv := by
          obtain ⟨l⟩ := args'
          simp only at hA
          cases hA with
          | cons h1 t => cases t with
            | cons h2 t => cases t; cases h2 with
              | fn ha hb =>
                rename_i a' b'
                cases ha' : a' with | mk la => cases hb' : b' with | mk lb =>
                rw [ha'] at ha; rw [hb'] at hb
                cases ha; cases hb
                exact ⟨_, rfl, h1⟩
        obtain ⟨sv, rfl, hsv⟩ := this
        have hown : own M b := by unfold own; rw [hM]; trivial
        by_cases hn0 : n = 0
        · have hl0 : l = [] := List.eq_nil_of_length_eq_zero (by omega)
          subst hl0
          subst hn0
          have : ∃ p c, sv = .slice p 0 c := by
            cases hsv with
            | slice => exact ⟨_, _, rfl⟩
            | sliceZero => exact ⟨_, _, rfl⟩
          obtain ⟨p, c, rfl⟩ := this
          refine (AnyF.slices_SortFunc_none L p c _ w).mono ?_
          rintro r w' ⟨rfl, rfl⟩
          cases hsv with
          | slice hE _ _ =>
            obtain ⟨o, ho, hor⟩ := hR.at_ b _ _ _ hE
            rw [hM] at ho
            cases ho
            obtain ⟨arr, elem, fz, hx, hrest⟩ := hor
            obtain ⟨p1, p2⟩ := hR.setBlock (o' := .cells (e.all (isort (ltOf cf) [])) false) (w' := w') hE hown trivial rfl rfl rfl (Nat.le_refl _) rfl hx (fun _ _ => rfl) ⟨arr, elem, fz, rfl, hrest⟩
            exact ⟨E, _, rfl, .tup (cs' := #[]) .nil, p1, p2⟩
          | sliceZero hE _ _ =>
            obtain ⟨o, ho, hor⟩ := hR.at_ b _ _ _ hE
            rw [hM] at ho
            cases ho
            obtain ⟨arr, elem, fz, hx, hrest⟩ := hor
            obtain ⟨p1, p2⟩ := hR.setBlock (o' := .cells (e.all (isort (ltOf cf) [])) false) (w' := w') hE hown trivial rfl rfl rfl (Nat.le_refl _) rfl hx (fun _ _ => rfl) ⟨arr, elem, fz, rfl, hrest⟩
            exact ⟨E, _, rfl, .tup (cs' := #[]) .nil, p1, p2⟩
        · cases hsv with
          | sliceZero => exact absurd rfl hn0
          | slice hE hcap hnc =>
            rename_i c d kk c'
            obtain ⟨o, ho, hor⟩ := hR.at_ b c d kk hE
            rw [hM] at ho
            cases ho
            obtain ⟨arr, elem, fz, hx, hcr, hk, hfree⟩ := hor
            have hfree := hfree rfl
            have hlen := e.all_len l
            have hcell : ∀ t, t < l.length * e.k → ∃ u, arr[d + t]? = some u ∧ (e.encs l)[t]? = some u := by
              intro t ht
              have hv : (e.all l)[t]? = some (e.all l)[t] := List.getElem?_eq_getElem (by omega)
              obtain ⟨u, hu, hvu⟩ := hcr t _ hv
              obtain ⟨u2, hu2, hvu2⟩ := (e.rels E l).get t _ hv
              refine ⟨u, hu, ?_⟩
              -- both stand for the one cell
              have hF := (e.all_flat l)
              have hone : ∀ {x : V} {y z : Value}, x.flat = true → VR E x y → VR E x z → (∃ q : V, True) := fun _ _ _ => ⟨.nilFn, trivial⟩
              have : u2 = u := by
                have hall : VRs E (e.all l) ((e.encs l).set t u) := by
                  refine VRs.of_get (by rw [List.length_set]; exact (e.rels E l).length) fun i v hi => ?_
                  obtain ⟨y, hy, hvy⟩ := (e.rels E l).get i v hi
                  by_cases hit : i = t
                  · subst hit
                    rw [hv] at hi
                    cases hi
                    exact ⟨u, by rw [List.getElem?_set_self (by rw [e.encs_len]; exact ht)], hvu⟩
                  · exact ⟨y, by rw [List.getElem?_set_ne (Ne.symm hit)]; exact hy, hvy⟩
                have := e.rels_eq E l _ hall
                have h3 : ((e.encs l).set t u)[t]? = some u := List.getElem?_set_self (by rw [e.encs_len]; exact ht)
                rw [this, hu2] at h3
                exact Option.some.inj h3
              rw [← this]; exact hu2
            have hsz : ∀ t, t < l.length * e.k → d + t < arr.size := fun t ht => by
              obtain ⟨u, hu, _⟩ := hcell t ht
              exact (Array.getElem?_eq_some_iff.1 hu).1
            have hflat := flatK_encs e l
            have hH : HoldsK e.enc e.k w c d l.toArray := by
              intro j hj
              have hj' : j < l.length * e.k := by simpa using hj
              obtain ⟨u, hu, hu2⟩ := hcell j hj'
              rw [← hflat, Array.getElem?_toList] at hu2
              have hq : (flatK e.enc e.k l.toArray)[j]! = u := by
                rw [getElem!_pos (flatK e.enc e.k l.toArray) j hj]
                rw [Array.getElem?_eq_getElem hj] at hu2
                exact Option.some.inj hu2
              refine ⟨?_, ?_⟩
              · rw [hq]
                simp only [World.cell?, hx]
                exact hu
              · simp only [World.frozen?, hx]
                have := hfree (d + j) (hsz j hj')
                simpa using this
            have hclt := hR.lt b c d kk hE
            have hgE : ∀ args w, (callFunc g' args).run P w = .ok (.enter g' args) w := fun args w => run_callFunc hg args w
            have hcl : CmpLays P g' #[] e.enc e.k cf c d l.toArray.size w := fun m os dk _ x y => by
              have := hcmp x y (sortWorldK e.enc e.k w c d m dk os)
              simpa using this
            have hcall := AnyQ.slices_SortFunc L e.k aE zE e.enc e.elen e.one cf hO g' #[] c d c' l.toArray w hgE hcl hH hclt (by simp; unfold maxRoom at hn; omega)
            rw [show (⟨c, d + 0, none⟩ : Addr) = ⟨c, d, none⟩ from rfl, show n = l.toArray.size by simp [hln]]
            refine hcall.mono ?_
            rintro r w' ⟨rfl, d', q, os, hp, hs, rfl⟩
            have hd' := sorted_is_isort hO hT hp hs
            subst hd'
            -- the row laid anew
            have hR1 : Rel E M (Go.Sort.ahead w q) := hR.heapEq rfl
            have hX1 : Ext E M w E M (Go.Sort.ahead w q) := ⟨Emb.le_refl E, rfl, rfl, rfl, Nat.le_refl _, Nat.le_refl _, fun _ _ _ => rfl, fun b c d k h1 h2 => by (rw [h1] at h2; cases h2), fun _ _ => rfl, Nat.le_add_right _ _⟩
            have hflat2 := flatK_encs e (isort (ltOf cf) l)
            have hl2 := isort_len (ltOf cf) l
            generalize isort (ltOf cf) l = l2 at *
            have hx2 : (putRowK e.enc e.k (Go.Sort.ahead w q) c d l2.toArray).heap[c]? = some (.cells (putCells id d (flatK e.enc e.k l2.toArray) arr) elem fz) := by
              show (w.heap.modify c _)[c]? = _
              rw [Array.getElem?_modify, if_pos rfl, hx]
              rfl
            have hoth : ∀ i, i ≠ c → (putRowK e.enc e.k (Go.Sort.ahead w q) c d l2.toArray).heap[i]? = (Go.Sort.ahead w q).heap[i]? := by
              intro i hi
              show (w.heap.modify c _)[i]? = _
              rw [Array.getElem?_modify, if_neg (Ne.symm hi)]
              rfl
            have hps : (putCells id d (flatK e.enc e.k l2.toArray) arr).size = arr.size := by simp [putCells]
            obtain ⟨p1, p2⟩ := hR1.setBlock (o' := .cells (e.all l2) false) (w' := putRowK e.enc e.k (Go.Sort.ahead w q) c d l2.toArray) hE hown trivial rfl rfl rfl (Nat.le_refl _) (by simp [putRowK]) hx2 hoth
              ⟨_, elem, fz, rfl, fun i v hi => by
                have hil := (List.getElem?_eq_some_iff.1 hi).1
                rw [e.all_len] at hil
                obtain ⟨u, hu, hvu⟩ := (e.rels E l2).get i v hi
                refine ⟨u, ?_, hvu⟩
                have hii := hsz i (by rw [← hl2]; exact hil)
                rw [← hflat2, Array.getElem?_toList] at hu
                have hF : i < (flatK e.enc e.k l2.toArray).size := by simpa using hil
                simp only [putCells, Array.getElem?_mapIdx, Array.getElem?_eq_getElem hii, Option.map_some, id]
                rw [if_pos ⟨by omega, by omega⟩, Nat.add_sub_cancel_left, getElem!_pos (flatK e.enc e.k l2.toArray) i hF]
                rw [Array.getElem?_eq_getElem hF] at hu
                exact hu, by rw [hps]; exact hk, fun _ => by rw [hps]; exact hfree⟩
            obtain ⟨p3, p4⟩ := p1.grow os
            exact ⟨E, _, rfl, .tup (cs' := #[]) .nil, p3, (hX1.trans p2).trans p4⟩
      · cases he
    · cases he
  · cases he
end
end Go.Am

/- The row: slices of flat elements handed in; a law's run from memory in which they stand. -/
namespace Go.Am
open Go Go.RowKit Go.ChangeShapes Go.WideShapes

/-! ### memory that is only read -/
/-- Blocks only read: their cells; where they stand in the world. -/
abbrev Env := List (List V × Nat × Nat × Nat)
def Env.mem : Env → Mem
  | l => l.foldl (fun M x => M.push (.cells x.1 true)) mem0
def Env.emb (l : Env) : Emb := fun b => l[b]?.map (·.2)
def Env.ok (l : Env) (w : World) : Prop := ∀ x ∈ l, ∃ arr elem fz, w.heap[x.2.1]? = some (.cells arr elem fz) ∧ (∀ E, CR E x.1 arr x.2.2.1) ∧ x.2.2.1 + x.2.2.2 = arr.size

theorem env_fold : ∀ (l : Env) (M : Mem), (∀ b, M.next ≤ b → M.get b = none) →
    (l.foldl (fun M x => M.push (.cells x.1 true)) M).next = M.next + l.length ∧ (∀ b, b < M.next → (l.foldl (fun M x => M.push (.cells x.1 true)) M).get b = M.get b) ∧
    (∀ i, (l.foldl (fun M x => M.push (.cells x.1 true)) M).get (M.next + i) = l[i]?.map fun x => .cells x.1 true)
  | [], M, hM => ⟨rfl, fun _ _ => rfl, fun i => by simpa using hM _ (by omega)⟩
  | x :: l, M, hM => by
    have h1 : ∀ b, (M.push (.cells x.1 true)).next ≤ b → (M.push (.cells x.1 true)).get b = none := fun b hb => by
      rw [Mem.next_push] at hb
      rw [Mem.get_push_ne _ _ (by omega)]
      exact hM b (by omega)
    obtain ⟨a, b, c⟩ := env_fold l (M.push (.cells x.1 true)) h1
    simp only [List.foldl_cons]
    refine ⟨by rw [a, Mem.next_push, List.length_cons]; omega, fun d hd => ?_, fun i => ?_⟩
    · rw [b d (by rw [Mem.next_push]; omega), Mem.get_push_ne _ _ (by omega)]
    · cases i with
      | zero => rw [Nat.add_zero, b _ (by rw [Mem.next_push]; omega), Mem.get_push_same]; rfl
      | succ i =>
        have := c i
        rw [Mem.next_push] at this
        rw [show M.next + (i + 1) = M.next + 1 + i from by omega, this]
        rfl
theorem Env.next_mem (l : Env) : l.mem.next = l.length := by
  have := (env_fold l mem0 (fun b _ => rfl)).1
  simpa [Env.mem, mem0] using this
theorem Env.get_mem (l : Env) (i : Nat) : l.mem.get i = l[i]?.map fun x => .cells x.1 true := by
  have := (env_fold l mem0 (fun b _ => rfl)).2.2 i
  simpa [Env.mem, mem0] using this

theorem Env.rel {l : Env} {w : World} (h : l.ok w) : Rel l.emb l.mem w := by
  have hat : ∀ b c d k, l.emb b = some (c, d, k) → ∃ x, l[b]? = some x ∧ x.2 = (c, d, k) := fun b c d k hb => by
    simp only [Env.emb, Option.map_eq_some_iff] at hb
    exact hb
  refine ⟨fun b c d k hb => ?_, fun b c d k hb => ?_, fun b b' c d k d' k' hb _ ho _ => ?_, fun b hb => ?_⟩
  · obtain ⟨⟨cs, c', d', k'⟩, hx, he⟩ := hat b c d k hb
    cases he
    obtain ⟨arr, elem, fz, h1, h2, h3⟩ := h _ (List.mem_of_getElem? hx)
    exact ⟨.cells cs true, by rw [l.get_mem, hx]; rfl, arr, elem, fz, h1, h2 _, h3, fun hf => by cases hf⟩
  · obtain ⟨⟨cs, c', d', k'⟩, hx, he⟩ := hat b c d k hb
    cases he
    obtain ⟨arr, elem, fz, h1, _⟩ := h _ (List.mem_of_getElem? hx)
    exact (Array.getElem?_eq_some_iff.mp h1).1
  · obtain ⟨x, hx, _⟩ := hat b c d k hb
    have : l.mem.get b = some (.cells x.1 true) := by rw [l.get_mem, hx]; rfl
    simp only [own, this] at ho
  · rw [l.next_mem] at hb
    rw [l.get_mem, List.getElem?_eq_none hb]
    rfl

/-- A law that is true, of arguments some of which are only read. -/
theorem law_env {P : Program} {gl : Nat → Bool} {D : Decls} (hD : DOK P gl D) (hg : ∀ x, gl x = false) {f : FuncId} {args : List V} {args' : Array Value} {w : World} {l : Env} (hl : l.ok w) (hA : VRs l.emb args args'.toList) (h : Runs D f args l.mem fun v _ => v = .bool true) :
    Calls P f args' w fun e w' => e = .returned (.bool true) ∧ Below w.heap.size w w' := by
  obtain ⟨k, v, M', hr, rfl⟩ := h
  obtain ⟨_, hs⟩ := callN_sound hD k f args l.mem _ M' hr
  refine (hs l.emb w args' (Env.rel hl) (fun x hx => by rw [hg x] at hx; cases hx) hA).mono fun e w' ⟨E', v', he, hv', _, hX⟩ => ?_
  cases hv'
  refine ⟨he, hX.os, hX.tape, hX.output, hX.size, fun c hc => hX.keep c hc fun b d k hb => ?_⟩
  simp only [Env.emb, Option.map_eq_some_iff] at hb
  obtain ⟨x, hx, _⟩ := hb
  exact ⟨_, by rw [l.get_mem, hx]; rfl, rfl⟩

/-! ### what is read of a slice -/
theorem flat_at {arr : Array Value} {es : Nat} : ∀ (rows : List (List Value)) (off : Nat), (∀ r ∈ rows, r.length = es) → (∀ i (h : i < rows.length), ∀ j, j < es → arr[off + i * es + j]? = rows[i][j]?) → ∀ (j : Nat) (u : Value), rows.flatten[j]? = some u → arr[off + j]? = some u
  | [], _, _, _, j, u, h => by simp at h
  | r :: rs, off, hr, ha, j, u, h => by
    have hrl := hr r (List.mem_cons_self ..)
    rw [List.flatten_cons] at h
    rcases Nat.lt_or_ge j es with hj | hj
    · rw [List.getElem?_append_left (by omega)] at h
      have := ha 0 (by simp) j hj
      rw [Nat.zero_mul, Nat.add_zero] at this
      rw [this]
      exact h
    · rw [List.getElem?_append_right (by omega), hrl] at h
      have := flat_at rs (off + es) (fun r hr' => hr r (List.mem_cons_of_mem _ hr')) (fun i hi j hj => by
        have := ha (i + 1) (by simp; omega) j hj
        rw [List.getElem_cons_succ] at this
        rw [← this]
        congr 1
        rw [Nat.add_mul]; omega) (j - es) u h
      rw [← this]
      congr 1
      omega

section
variable {H : Type} {enc : TypeId × Value → H} {P : Program} {W : World}

theorem cells_at {w : World} {a : Addr} {n : Nat} {cs : List Value} (h : w.cells? 0 a n = some cs) : cs.length = n ∧ ∀ i, i < n → w.cell? (a.add i) = cs[i]? := by
  unfold World.cells? at h
  rw [if_pos (Nat.zero_le _)] at h
  have hl := mapM_some_length h
  rw [List.length_range] at hl
  refine ⟨hl, fun i hi => ?_⟩
  have := mapM_some_get h i i (by rw [List.getElem?_range hi])
  exact this

theorem cells_keep {w w' : World} (hb : ∀ c, c < w.heap.size → w'.heap[c]? = w.heap[c]?) {a : Addr} {n : Nat} {cs : List Value} (hn : 0 < n) (h : w.cells? 0 a n = some cs) : w'.cells? 0 a n = some cs ∧ a.block < w.heap.size := by
  obtain ⟨hl, hc⟩ := cells_at h
  have h0 := hc 0 hn
  rw [List.getElem?_eq_getElem (by omega)] at h0
  have hlt : a.block < w.heap.size := by
    unfold World.cell? at h0
    split at h0
    · rename_i c _ _ hh
      have := (Array.getElem?_eq_some_iff.mp hh).1
      simpa [Addr.add] using this
    · cases h0
  refine ⟨?_, hlt⟩
  rw [← h]
  unfold World.cells?
  rw [if_pos (Nat.zero_le _), if_pos (Nat.zero_le _)]
  congr 1
  funext i
  unfold World.cell?
  have : (a.add i).block = a.block := by unfold Addr.add; split <;> rfl
  rw [this, hb _ hlt]

theorem add_spec {a : Addr} (hs : a.spot = none) (n : Nat) : a.add n = ⟨a.block, a.off + n, none⟩ := by
  unfold Addr.add
  split
  · rename_i h
    subst h
    obtain ⟨b, o, s⟩ := a
    simp only at hs
    subst hs
    rfl
  · rfl

theorem ok_slice {r : Reach} {t e : TypeId} {b0 : Nat} {v : Value} (hu : P.underlying t = some (.slice e)) (hok : Cell.ok P W r b0 t v) : v = .slice none 0 0 ∨ ∃ a len cap, v = .slice (some a) len cap ∧ len ≤ cap ∧ W.has P r b0 a e cap := by
  unfold Cell.ok at hok
  rw [hu] at hok
  split at hok
  all_goals first | (rename_i hh; cases hh; done) | (rename_i hh _; cases hh; done) | skip
  · exact .inl rfl
  · rename_i e' a len cap he
    cases he
    exact .inr ⟨a, len, cap, rfl, hok.1, hok.2.2⟩
  · exact hok.elim

/-- A slice of flat elements handed in: nil, or the elements, where they stand, and its reading behind a run that keeps what was. -/
theorem open_rows {α : Type} (el : Elem α) {t e : TypeId} {ks : List CK} {n b0 : Nat} {v : Value} {d : DataW H} {p : List MemPlace} (hu : P.underlying t = some (.slice e)) (hk : shape P n e = some ks) (hc : P.cellsOf e = el.k)
    (hfit : ∀ r, Fits ks r → ∃ x, el.enc x = r) (hv : Value.okWide P W .any b0 t v) (h : DataW.Trod enc P W 0 (fun _ => true) true t v d p) :
    (∀ W', Below W.heap.size W W' → DataW.Trod enc P W' 0 (fun b => decide (b < W.heap.size)) true t v d p) ∧
    (v = .slice none 0 0 ∨ ∃ (a : Addr) (len cap : Nat) (xs : List α) (c o k : Nat), v = .slice (some a) len cap ∧ len ≤ cap ∧ cap ≤ maxLen ∧ xs.length = cap ∧ (∀ r ∈ xs, Fits ks (el.enc r)) ∧ Env.ok [(el.all xs, c, o, k)] W ∧
      ∀ E b, E b = some (c, o, k) → VR E (.slice (some (b, 0)) len (.exact cap)) v) := by
  have hkp := el.k_pos
  obtain ⟨fuel, hf⟩ := h
  have hok : Cell.ok P W .any b0 t v := by
    have := hv
    unfold Value.okWide Cell.okWide at this
    rw [hu] at this
    exact this
  rcases ok_slice hu hok with rfl | ⟨a, len, cap, rfl, hlc, hhas⟩
  · rcases Go.Deep.open_slice hu hf with ⟨_, hx⟩ | ⟨a, len, cap, m, n', D, Pl, he, _⟩
    · cases hx
      exact ⟨fun W' _ => shut_slice_nil hu, .inl rfl⟩
    · simp [Value.cells] at he
  · obtain ⟨_, hspot, row, ncells, hsh, _⟩ := hhas
    have hblk : ∃ arr fz, W.heap[a.block]? = some (.cells arr row fz) := by
      unfold World.shape? at hsh
      split at hsh
      · rename_i c el' fz hh
        cases hsh
        exact ⟨c, fz, hh⟩
      · cases hsh
    obtain ⟨arr, fz, harr⟩ := hblk
    have hlt : a.block < W.heap.size := (Array.getElem?_eq_some_iff.mp harr).1
    rcases Go.Deep.open_slice hu hf with ⟨he, _⟩ | ⟨a', len', cap', m, n', D, Pl, he, _, _, hcm, hm, hx, hall⟩
    · simp [Value.cells] at he
    · simp only [Value.cells, List.cons.injEq, Value.slice.injEq, Option.some.injEq, and_true] at he
      obtain ⟨rfl, rfl, rfl⟩ := he
      simp only [if_true] at hm
      subst hm
      rw [hc] at hall
      refine ⟨fun W' bel => ?_, .inr ?_⟩
      · obtain ⟨k, hk'⟩ := Go.Deep.shut_slice_whole_cells (enc := enc) (w := W') (base := 0) (spare := fun b => decide (b < W.heap.size)) (held := true) hu (Nat.zero_le _) hlc hcm (by simpa using hlt) D Pl (fun i hi => by
          rw [hc]
          obtain ⟨cs', h1, h2⟩ := hall i hi
          exact ⟨cs', n', (cells_keep bel.block hkp h1).1, (flat_trod n e ks hk n' cs' _ h2).2.2 _ _ _⟩)
        refine ⟨k, ?_⟩
        rw [hx]
        exact hk'
      · have hX : ∀ i : Fin m, ∃ x : α, W.cells? 0 (a.add (i.1 * el.k)) el.k = some (el.enc x) ∧ Fits ks (el.enc x) := fun i => by
          obtain ⟨cs', h1, h2⟩ := hall i.1 i.2
          have hf' := (flat_trod n e ks hk n' cs' _ h2).1
          obtain ⟨x, rfl⟩ := hfit _ hf'
          exact ⟨x, h1, hf'⟩
        obtain ⟨X, hX⟩ := Classical.axiomOfChoice hX
        have hat : ∀ i (h : i < m) j, j < el.k → arr[a.off + i * el.k + j]? = (el.enc (X ⟨i, h⟩))[j]? := fun i h j hj => by
          obtain ⟨_, h2⟩ := cells_at (hX ⟨i, h⟩).1
          rw [← h2 j hj, add_spec hspot, add_spec rfl]
          unfold World.cell?
          simp only [harr]
          rfl
        have hflat : ∀ j u, (el.encs (List.ofFn X))[j]? = some u → arr[a.off + j]? = some u := fun j u hu' => by
          refine flat_at (es := el.k) ((List.ofFn X).map el.enc) a.off ?_ ?_ j u ?_
          · intro r hr
            obtain ⟨x, _, rfl⟩ := List.mem_map.mp hr
            exact el.elen x
          · intro i hi j' hj'
            have hi' : i < m := by simpa using hi
            rw [hat i hi' j' hj']
            simp
          · rw [← List.flatMap_def]; exact hu'
        have hfits : ∀ r ∈ List.ofFn X, Fits ks (el.enc r) := fun r hr => by
          obtain ⟨i, rfl⟩ := List.mem_ofFn.mp hr
          exact (hX i).2
        rcases Nat.eq_zero_or_pos m with hz | hz
        · subst hz
          have hl0 : len = 0 := by omega
          subst hl0
          refine ⟨a, 0, 0, [], a.block, 0, arr.size, rfl, Nat.le_refl _, hcm, rfl, fun r hr => absurd hr (by simp), ?_, fun E b hb => .sliceZero hb hspot rfl⟩
          intro x hx'
          simp only [List.mem_singleton] at hx'
          subst hx'
          exact ⟨arr, row, fz, harr, fun E i v hv => by simp [Elem.all] at hv, by simp⟩
        · have hoff : a.off < arr.size := by
            have h0 := hat 0 hz 0 hkp
            rw [List.getElem?_eq_getElem (by rw [el.elen]; exact hkp)] at h0
            have := (Array.getElem?_eq_some_iff.mp h0).1
            omega
          refine ⟨a, len, m, List.ofFn X, a.block, a.off, arr.size - a.off, rfl, hlc, hcm, by simp, hfits, ?_, fun E b hb => ?_⟩
          · intro x hx'
            simp only [List.mem_singleton] at hx'
            subst hx'
            refine ⟨arr, row, fz, harr, fun E i v hv => ?_, by simp only; omega⟩
            obtain ⟨u, hu', hr⟩ := VRs.get (el.rels E (List.ofFn X)) i v hv
            exact ⟨u, hflat i u hu', hr⟩
          · have : a = ⟨a.block, a.off + 0, none⟩ := by rw [← add_spec hspot 0]; rfl
            rw [this]
            exact .slice hb rfl hlc
end
end Go.Am

/- Stamps: how they stand in cells, how they are compared, sorted. -/
namespace Go.Proofs
open Go.Shelf
def Tryd.sortSt_ren : Go.Shelf.Ren := ⟨fun | 6 => 74 | 15 => 101 | 14 => 100 | 28 => 118 | 29 => 119 | 20 => 110 | 21 => 111 | 22 => 112 | 23 => 113 | 24 => 114 | 25 => 115 | 26 => 116 | 27 => 117 | 46 => 122 | 47 => 123 | 48 => 124 | 49 => 125 | 50 => 126 | 57 => 127 | n => n, fun | 22 => 34 | 24 => 29 | 25 => 92 | 3 => 3 | 39 => 139 | 0 => 0 | 53 => 151 | 55 => 153 | 4 => 4 | 46 => 145 | 45 => 144 | 50 => 109 | 5 => 5 | 9 => 9 | 66 => 155 | 70 => 159 | 76 => 162 | 77 => 163 | n => n, fun | n => n⟩
theorem Tryd.sortSt : Go.Proofs.SlLaysF0.n6 Tryd.prog Tryd.sortSt_ren := {
  mixed := by kernel_rfl
  f6 := ⟨Tryd.f74.name, by decide, Tryd.func74.trans (congrArg some (by kernel_rfl))⟩
  f14 := ⟨Tryd.f100.name, by decide, Tryd.func100.trans (congrArg some (by kernel_rfl))⟩
  f15 := Tryd.func101.trans (congrArg some (by kernel_rfl))
  f20 := ⟨Tryd.f110.name, by decide, Tryd.func110.trans (congrArg some (by kernel_rfl))⟩
  f21 := ⟨Tryd.f111.name, by decide, Tryd.func111.trans (congrArg some (by kernel_rfl))⟩
  f22 := ⟨Tryd.f112.name, by decide, Tryd.func112.trans (congrArg some (by kernel_rfl))⟩
  f23 := ⟨Tryd.f113.name, by decide, Tryd.func113.trans (congrArg some (by kernel_rfl))⟩
  f24 := ⟨Tryd.f114.name, by decide, Tryd.func114.trans (congrArg some (by kernel_rfl))⟩
  f25 := ⟨Tryd.f115.name, by decide, Tryd.func115.trans (congrArg some (by kernel_rfl))⟩
  f26 := ⟨Tryd.f116.name, by decide, Tryd.func116.trans (congrArg some (by kernel_rfl))⟩
  f27 := ⟨Tryd.f117.name, by decide, Tryd.func117.trans (congrArg some (by kernel_rfl))⟩
  f28 := Tryd.func118.trans (congrArg some (by kernel_rfl))
  f29 := Tryd.func119.trans (congrArg some (by kernel_rfl))
  f46 := ⟨Tryd.f122.name, by decide, Tryd.func122.trans (congrArg some (by kernel_rfl))⟩
  f47 := Tryd.func123.trans (congrArg some (by kernel_rfl))
  f48 := Tryd.func124.trans (congrArg some (by kernel_rfl))
  f49 := ⟨Tryd.f125.name, by decide, Tryd.func125.trans (congrArg some (by kernel_rfl))⟩
  f50 := ⟨Tryd.f126.name, by decide, Tryd.func126.trans (congrArg some (by kernel_rfl))⟩
  f57 := ⟨Tryd.f127.name, by decide, Tryd.func127.trans (congrArg some (by kernel_rfl))⟩
  t0 := Tryd.underlying0
  a0 := Tryd.isAgg0
  z0 := Tryd.sizeOf0
  v0 := Tryd.zeroValue0
  t3 := Tryd.underlying3
  a3 := Tryd.isAgg3
  z3 := Tryd.sizeOf3
  v3 := Tryd.zeroValue3
  t4 := Tryd.underlying4
  a4 := Tryd.isAgg4
  z4 := Tryd.sizeOf4
  v4 := Tryd.zeroValue4
  t5 := Tryd.underlying5
  a5 := Tryd.isAgg5
  z5 := Tryd.sizeOf5
  v5 := Tryd.zeroValue5
  t9 := Tryd.underlying9
  a9 := Tryd.isAgg9
  z9 := Tryd.sizeOf9
  v9 := Tryd.zeroValue9
  t22 := Tryd.underlying34
  a22 := Tryd.isAgg34
  z22 := Tryd.sizeOf34
  v22 := Tryd.zeroValue34
  t25 := Tryd.underlying92
  a25 := Tryd.isAgg92
  z25 := Tryd.sizeOf92
  v25 := Tryd.zeroValue92
  t39 := Tryd.underlying139
  a39 := Tryd.isAgg139
  z39 := Tryd.sizeOf139
  v39 := Tryd.zeroValue139
  t45 := Tryd.underlying144
  a45 := Tryd.isAgg144
  z45 := Tryd.sizeOf144
  v45 := Tryd.zeroValue144
  t46 := Tryd.underlying145
  a46 := Tryd.isAgg145
  z46 := Tryd.sizeOf145
  v46 := Tryd.zeroValue145
  t50 := Tryd.underlying109
  a50 := Tryd.isAgg109
  z50 := Tryd.sizeOf109
  v50 := Tryd.zeroValue109
  t53 := Tryd.underlying151
  a53 := Tryd.isAgg151
  z53 := Tryd.sizeOf151
  v53 := Tryd.zeroValue151
  t55 := Tryd.underlying153
  a55 := Tryd.isAgg153
  z55 := Tryd.sizeOf153
  v55 := Tryd.zeroValue153
  t66 := Tryd.underlying155
  a66 := Tryd.isAgg155
  z66 := Tryd.sizeOf155
  v66 := Tryd.zeroValue155
  t70 := Tryd.underlying159
  a70 := Tryd.isAgg159
  z70 := Tryd.sizeOf159
  v70 := Tryd.zeroValue159
  t76 := Tryd.underlying162
  a76 := Tryd.isAgg162
  z76 := Tryd.sizeOf162
  v76 := Tryd.zeroValue162
  t77 := Tryd.underlying163
  a77 := Tryd.isAgg163
  z77 := Tryd.sizeOf163
  v77 := Tryd.zeroValue163 }
end Go.Proofs
namespace Go.Am.Tryd
open Go Go.Am Go.Proofs Go.Sort Go.Shelf
set_option maxRecDepth 100000
set_option linter.unusedSimpArgs false
set_option linter.unusedVariables false

def D0 : Decls := ⟨codeOf codes, fun _ => none⟩
theorem dok0 : DOK Tryd.prog gl0 D0 := dok_codes mixed codes_ok

/-! ### stamps -/
abbrev St := Int × Int
def stC (s : St) : List V := [.int .i64 s.1, .int .i64 s.2]
def cmpSt (a b : St) : Int := if a = b then 0 else if a.1 < b.1 ∨ a.1 = b.1 ∧ a.2 < b.2 then -1 else 1

theorem stamp_Compare_runs (D : Decls) (hp : D.prim F_stamp_Compare = none) (hc : D.code.get F_stamp_Compare = some A_stamp_Compare) (a b : St) (M : Mem) : Runs D F_stamp_Compare [.agg (stC a), .agg (stC b)] M fun v M' => v = .int .i64 (cmpSt a b) ∧ Grew M M' := by
  refine Runs.walk (F := A_stamp_Compare) hp hc (by rfl) ?_
  unfold A_stamp_Compare
  obtain ⟨a1, a2⟩ := a
  obtain ⟨b1, b2⟩ := b
  simp only [stC]
  have hG : Grew M ((M.push (.cells [.int .i64 a1, .int .i64 a2] false)).push (.cells [.int .i64 b1, .int .i64 b2] false)) := (Grew.push M _).trans (Grew.push _ _)
  by_cases h1 : a1 = b1 ∧ a2 = b2
  · obtain ⟨rfl, rfl⟩ := h1
    simp -dsimp only [↓w_seq, ↓w_ops, ↓w_skip, ↓w_ret, ↓w_exit, ↓w_scope, ↓w_block, ↓w_cond, cond_true', cond_false', ↓t_nil, ↓t_plain, ↓t_guard, ↓t_gagain, ↓t_again, t_val, t_call, g_true, g_false, ga_true, ga_false, a_val, a_call, ↓n_normal, ↓n_ret, ↓n_exit, ↓b_normal, ↓b_ret, ↓b_exit, ↓e_normal, ↓e_ret, e_some, go_sem, ↓reduceIte, Nat.reduceEqDiff, Nat.reduceLT, Nat.reduceSub, A_stamp_Compare_0, A_stamp_Compare_1, A_stamp_Compare_2, A_stamp_Compare_3, A_stamp_Compare_4, A_stamp_Compare_5, Int.lt_irrefl, true_and, and_true, false_and, and_false, and_self, same_two, same_sib, same_spot, vload, vptr, vof, V.cells, Mem.read, rdCells, Mem.get_push, Mem.next_push, Nat.left_eq_add, Nat.add_eq_left, Nat.add_left_cancel_iff, Nat.add_right_cancel_iff, Nat.reduceAdd, Nat.add_zero, Nat.zero_add, Nat.add_assoc, Nat.reduceLeDiff, Nat.reduceBEq, List.length_cons, List.length_nil, List.drop_zero, List.drop_succ_cons, List.take_succ_cons, List.take_zero, List.take_nil, List.drop_nil, List.getElem?_cons_zero, List.getElem?_cons_succ, reduceCtorEq, Nat.succ_ne_self, Nat.one_ne_zero, Nat.le_refl, ne_eq, not_false_eq_true, and_self]
    exact ⟨by simp [cmpSt], hG⟩
  · have hne : ¬ ((a1, a2) : St) = (b1, b2) := fun e => h1 (by cases e; exact ⟨rfl, rfl⟩)
    by_cases h2 : a1 < b1
    · simp -dsimp only [↓w_seq, ↓w_ops, ↓w_skip, ↓w_ret, ↓w_exit, ↓w_scope, ↓w_block, ↓w_cond, cond_true', cond_false', ↓t_nil, ↓t_plain, ↓t_guard, ↓t_gagain, ↓t_again, t_val, t_call, g_true, g_false, ga_true, ga_false, a_val, a_call, ↓n_normal, ↓n_ret, ↓n_exit, ↓b_normal, ↓b_ret, ↓b_exit, ↓e_normal, ↓e_ret, e_some, go_sem, ↓reduceIte, Nat.reduceEqDiff, Nat.reduceLT, Nat.reduceSub, A_stamp_Compare_0, A_stamp_Compare_1, A_stamp_Compare_2, A_stamp_Compare_3, A_stamp_Compare_4, A_stamp_Compare_5, Int.lt_irrefl, true_and, and_true, false_and, and_false, and_self, same_two, same_sib, same_spot, vload, vptr, vof, V.cells, Mem.read, rdCells, Mem.get_push, Mem.next_push, Nat.left_eq_add, Nat.add_eq_left, Nat.add_left_cancel_iff, Nat.add_right_cancel_iff, Nat.reduceAdd, Nat.add_zero, Nat.zero_add, Nat.add_assoc, Nat.reduceLeDiff, Nat.reduceBEq, List.length_cons, List.length_nil, List.drop_zero, List.drop_succ_cons, List.take_succ_cons, List.take_zero, List.take_nil, List.drop_nil, List.getElem?_cons_zero, List.getElem?_cons_succ, reduceCtorEq, Nat.succ_ne_self, Nat.one_ne_zero, Nat.le_refl, ne_eq, not_false_eq_true, h1, h2]
      exact ⟨by simp [cmpSt, hne, h2], hG⟩
    · by_cases h3 : a1 = b1
      · have h5 : ¬ a2 = b2 := fun e => h1 ⟨h3, e⟩
        subst h3
        by_cases h4 : a2 < b2
        · simp -dsimp only [↓w_seq, ↓w_ops, ↓w_skip, ↓w_ret, ↓w_exit, ↓w_scope, ↓w_block, ↓w_cond, cond_true', cond_false', ↓t_nil, ↓t_plain, ↓t_guard, ↓t_gagain, ↓t_again, t_val, t_call, g_true, g_false, ga_true, ga_false, a_val, a_call, ↓n_normal, ↓n_ret, ↓n_exit, ↓b_normal, ↓b_ret, ↓b_exit, ↓e_normal, ↓e_ret, e_some, go_sem, ↓reduceIte, Nat.reduceEqDiff, Nat.reduceLT, Nat.reduceSub, A_stamp_Compare_0, A_stamp_Compare_1, A_stamp_Compare_2, A_stamp_Compare_3, A_stamp_Compare_4, A_stamp_Compare_5, Int.lt_irrefl, true_and, and_true, false_and, and_false, and_self, same_two, same_sib, same_spot, vload, vptr, vof, V.cells, Mem.read, rdCells, Mem.get_push, Mem.next_push, Nat.left_eq_add, Nat.add_eq_left, Nat.add_left_cancel_iff, Nat.add_right_cancel_iff, Nat.reduceAdd, Nat.add_zero, Nat.zero_add, Nat.add_assoc, Nat.reduceLeDiff, Nat.reduceBEq, List.length_cons, List.length_nil, List.drop_zero, List.drop_succ_cons, List.take_succ_cons, List.take_zero, List.take_nil, List.drop_nil, List.getElem?_cons_zero, List.getElem?_cons_succ, reduceCtorEq, Nat.succ_ne_self, Nat.one_ne_zero, Nat.le_refl, ne_eq, not_false_eq_true, h5, h2, h4]
          exact ⟨by simp [cmpSt, h5, h4], hG⟩
        · simp -dsimp only [↓w_seq, ↓w_ops, ↓w_skip, ↓w_ret, ↓w_exit, ↓w_scope, ↓w_block, ↓w_cond, cond_true', cond_false', ↓t_nil, ↓t_plain, ↓t_guard, ↓t_gagain, ↓t_again, t_val, t_call, g_true, g_false, ga_true, ga_false, a_val, a_call, ↓n_normal, ↓n_ret, ↓n_exit, ↓b_normal, ↓b_ret, ↓b_exit, ↓e_normal, ↓e_ret, e_some, go_sem, ↓reduceIte, Nat.reduceEqDiff, Nat.reduceLT, Nat.reduceSub, A_stamp_Compare_0, A_stamp_Compare_1, A_stamp_Compare_2, A_stamp_Compare_3, A_stamp_Compare_4, A_stamp_Compare_5, Int.lt_irrefl, true_and, and_true, false_and, and_false, and_self, same_two, same_sib, same_spot, vload, vptr, vof, V.cells, Mem.read, rdCells, Mem.get_push, Mem.next_push, Nat.left_eq_add, Nat.add_eq_left, Nat.add_left_cancel_iff, Nat.add_right_cancel_iff, Nat.reduceAdd, Nat.add_zero, Nat.zero_add, Nat.add_assoc, Nat.reduceLeDiff, Nat.reduceBEq, List.length_cons, List.length_nil, List.drop_zero, List.drop_succ_cons, List.take_succ_cons, List.take_zero, List.take_nil, List.drop_nil, List.getElem?_cons_zero, List.getElem?_cons_succ, reduceCtorEq, Nat.succ_ne_self, Nat.one_ne_zero, Nat.le_refl, ne_eq, not_false_eq_true, h5, h2, h4]
          exact ⟨by simp [cmpSt, h5, h4], hG⟩
      · simp -dsimp only [↓w_seq, ↓w_ops, ↓w_skip, ↓w_ret, ↓w_exit, ↓w_scope, ↓w_block, ↓w_cond, cond_true', cond_false', ↓t_nil, ↓t_plain, ↓t_guard, ↓t_gagain, ↓t_again, t_val, t_call, g_true, g_false, ga_true, ga_false, a_val, a_call, ↓n_normal, ↓n_ret, ↓n_exit, ↓b_normal, ↓b_ret, ↓b_exit, ↓e_normal, ↓e_ret, e_some, go_sem, ↓reduceIte, Nat.reduceEqDiff, Nat.reduceLT, Nat.reduceSub, A_stamp_Compare_0, A_stamp_Compare_1, A_stamp_Compare_2, A_stamp_Compare_3, A_stamp_Compare_4, A_stamp_Compare_5, Int.lt_irrefl, true_and, and_true, false_and, and_false, and_self, same_two, same_sib, same_spot, vload, vptr, vof, V.cells, Mem.read, rdCells, Mem.get_push, Mem.next_push, Nat.left_eq_add, Nat.add_eq_left, Nat.add_left_cancel_iff, Nat.add_right_cancel_iff, Nat.reduceAdd, Nat.add_zero, Nat.zero_add, Nat.add_assoc, Nat.reduceLeDiff, Nat.reduceBEq, List.length_cons, List.length_nil, List.drop_zero, List.drop_succ_cons, List.take_succ_cons, List.take_zero, List.take_nil, List.drop_nil, List.getElem?_cons_zero, List.getElem?_cons_succ, reduceCtorEq, Nat.succ_ne_self, Nat.one_ne_zero, Nat.le_refl, ne_eq, not_false_eq_true, h1, h2, h3]
        exact ⟨by simp [cmpSt, hne, h2, h3], hG⟩

def ltSt (a b : St) : Bool := decide (a.1 < b.1 ∨ a.1 = b.1 ∧ a.2 < b.2)
theorem ltOf_St (a b : St) : ltOf cmpSt a b = ltSt a b := by
  unfold ltOf cmpSt ltSt
  by_cases h : a = b
  · subst h; simp
  · by_cases h2 : a.1 < b.1 ∨ a.1 = b.1 ∧ a.2 < b.2
    · simp [h, h2]
    · simp [h, h2]
theorem swo_St : SWO ltSt where
  irrefl x := by unfold ltSt; simp
  trans x y z h1 h2 := by
    unfold ltSt at *
    simp only [decide_eq_true_eq] at *
    omega
  ntrans x y z h1 h2 := by
    unfold ltSt at *
    simp only [decide_eq_false_iff_not] at *
    omega
theorem tot_St (x y : St) (h1 : ltSt x y = false) (h2 : ltSt y x = false) : x = y := by
  obtain ⟨a, b⟩ := x
  obtain ⟨c, d⟩ := y
  unfold ltSt at h1 h2
  simp only [decide_eq_false_iff_not] at h1 h2
  have : a = c := by omega
  have : b = d := by omega
  simp [*]

def elSt : Elem St where
  k := 2
  cv := stC
  enc x := [.int .i64 x.1, .int .i64 x.2]
  dec := fun | [.int .i64 a, .int .i64 b] => some (a, b) | _ => none
  k_pos := by omega
  len _ := rfl
  elen _ := rfl
  dec_some cs x h := by
    split at h <;> cases h
    rfl
  dec_cv _ := rfl
  rel E x := .cons (.int _ _) (.cons (.int _ _) .nil)
  rel_eq E x us h := by
    cases h with
    | cons h1 t => cases t with
      | cons h2 t => cases t; cases h1; cases h2; rfl
  one x v hv := by simp at hv; rcases hv with rfl | rfl <;> rfl
  one' _ := rfl
  flat _ := rfl

/-! ### the sort: the compare alone, no variable in sight -/
def gln : Nat → Bool := fun _ => false
theorem cmp_code : cFunc Tryd.prog gln Tryd.f47 = some A_stamp_Compare := by kernel_rfl
def Dc : Decls := ⟨codeOf [(F_stamp_Compare, A_stamp_Compare)], fun _ => none⟩
theorem dokc : DOK Tryd.prog gln Dc := dok_codes mixed (by
  intro x hx
  simp only [List.mem_singleton] at hx
  subst hx
  exact ⟨_, Tryd.func47, (by kernel_rfl), cmp_code⟩)
theorem sortSt_ok : CallOK Tryd.prog gl0 fun f' args M => if f' = F_slices_SortFunc_Stamp then sortP elSt F_stamp_Compare ltSt args M else none := by
  have h := sort_callOK (P := Tryd.prog) (gl := gl0) (α := St) Tryd.sortSt elSt Tryd.isAgg29 Tryd.sizeOf29 cmpSt (by rw [show ltOf cmpSt = ltSt from funext fun a => funext fun b => ltOf_St a b]; exact swo_St)
    (by rw [show ltOf cmpSt = ltSt from funext fun a => funext fun b => ltOf_St a b]; exact tot_St) F_stamp_Compare ⟨_, Tryd.func47, (by kernel_rfl), (by kernel_rfl)⟩ ⟨_, Tryd.func74, (by kernel_rfl), (by kernel_rfl)⟩ (by
      intro x y w
      obtain ⟨k, v, M', hr, rfl, _⟩ := stamp_Compare_runs Dc rfl (by rfl) x y mem0
      obtain ⟨_, hs⟩ := callN_sound dokc k _ _ mem0 _ M' hr
      refine (hs emb0 w #[.agg (elSt.enc x).toArray, .agg (elSt.enc y).toArray] (rel0 w) (fun x hx => by cases hx) (.cons (.agg (elSt.rel _ x)) (.cons (.agg (elSt.rel _ y)) .nil))).mono ?_
      rintro e w' ⟨E', v', rfl, hv', _, hX⟩
      cases hv'
      exact ⟨rfl, grown_of hX⟩)
  rw [show ltOf cmpSt = ltSt from funext fun a => funext fun b => ltOf_St a b] at h
  exact h
def D1 : Decls := D0.addM F_slices_SortFunc_Stamp (sortP elSt F_stamp_Compare ltSt)
theorem dok1 : DOK Tryd.prog gl0 D1 := dok0.addM sortSt_ok
end Go.Am.Tryd

/- Stamps that a function hands on, one by one, collected: slices.AppendSeq, slices.Collect. -/
namespace Go.Am.Tryd
open Go Go.Am Go.Proofs Go.Sort Go.Shelf
set_option maxRecDepth 100000
set_option linter.unusedSimpArgs false
set_option linter.unusedVariables false

abbrev XP := XRuns Tryd.prog gl0
/-- What is so while stamps come. -/
structure CollJ (M : Mem) (lp : LoopState → Option Code → O) (pre : List St) (M' : Mem) : Prop where
  old : ∀ c, c < M.next → M'.get c = M.get c
  next : M.next + 2 ≤ M'.next
  loop : M'.get (M.next + 1) = some (lp .ready none)
  box : ∃ s, M'.get M.next = some (.cells [s] false) ∧ Hold (M.next + 2) M' 2 s pre.length (elSt.all pre) ∧ (pre = [] → s = .slice none 0 (.exact 0))

theorem CollJ.other {M : Mem} {lp : LoopState → Option Code → O} {pre : List St} {M1 M2 : Mem} (h : CollJ M lp pre M1) (hn : M1.next ≤ M2.next) (hk : ∀ c, c < M1.next → (∀ b s k l, M1.get c ≠ some (.mapIter b s k l)) → M2.get c = M1.get c) (hold : ∀ c, c < M.next → M2.get c = M1.get c)
    (hlp : ∀ st p b s k l, lp st p ≠ .mapIter b s k l) : CollJ M lp pre M2 := by
  obtain ⟨a, b, c, s, d, e, e'⟩ := h
  refine ⟨fun q hq => (hold q hq).trans (a q hq), by omega, ?_, s, ?_, e.keep (fun q hq => hk q (e.blk_le hq).2.1 ?_) hn, e'⟩
  · rw [hk _ (by omega) (fun b s k l => by rw [c]; intro h; exact hlp _ _ _ _ _ _ (Option.some.inj h))]; exact c
  · rw [hk _ (by omega) (fun b s k l => by rw [d]; intro h; cases h)]; exact d
  · intro b s k l
    rw [(e.blk_le hq).2.2]
    intro h; cases h

/-- A variable that holds a spot. -/
def isSpot (M : Mem) (c : Nat) : Prop := ∃ a b t, M.get c = some (.cells [.int .i64 a, .int .i64 b, .str t] false)
/-- A function that is ranged over, with such a variable of its own. -/
def SeqP {α : Type} (f : FuncId) (first captured : List V) (cv : α → V) (G : Mem → Prop) (S Sp : List α → Prop) (N : Nat) : Prop :=
  ∀ (b : Nat) (J Jx : List α → Mem → Prop) (M : Mem),
    (∀ pre M, J pre M → G M) →
    (∀ pre M o, J pre M → J pre (M.push o)) →
    (∀ pre M o o', J pre M → J pre ((M.push o).set M.next o')) →
    (∀ pre M' c b s n l, J pre M' → M.next ≤ c → isIter M' c → J pre (M'.set c (.mapIter b s n l))) →
    (∀ pre M' c x y t, J pre M' → M.next ≤ c → isSpot M' c → J pre (M'.set c (.cells [.int .i64 x, .int .i64 y, .str t] false))) →
    (∀ pre x M', J pre M' → pre.length < N → XYield Tryd.prog gl0 b [cv x] M' fun v M'' => (v = .bool true ∧ J (pre ++ [x]) M'' ∧ M'.next ≤ M''.next ∧ (∀ c, c < M'.next → isIter M' c → M''.get c = M'.get c) ∧ ∀ c, M.next ≤ c → c < M'.next → isSpot M' c → M''.get c = M'.get c) ∨ (v = .bool false ∧ Jx (pre ++ [x]) M'')) →
    J [] M →
    XRuns Tryd.prog gl0 f (first ++ [.yld b] ++ captured) M fun _ M' => (∃ xs, S xs ∧ J xs M') ∨ ∃ pre, Sp pre ∧ Jx pre M'
theorem SeqP.of {α : Type} {f : FuncId} {first captured : List V} {cv : α → V} {G : Mem → Prop} {S Sp : List α → Prop} {N : Nat} (h : SeqX Tryd.prog gl0 f first captured cv G S Sp N) : SeqP f first captured cv G S Sp N :=
  fun b J Jx M hG hp hps hi _ hY hJ => h b J Jx M hG hp hps hi (fun pre x M' h1 h2 => (hY pre x M' h1 h2).mono fun v M'' h => by
    rcases h with ⟨a, b, c, d, _⟩ | h
    · exact .inl ⟨a, b, c, d⟩
    · exact .inr h) hJ

theorem stC_len (x : St) : (stC x).length = 2 := rfl
theorem AppendSeq_runs {f : FuncId} {first captured : List V} {G : Mem → Prop} {S Sp : List St → Prop} {N : Nat} (hseq : SeqP f first captured (fun x => .agg (stC x)) G S Sp N) (hN : (N + 1) * 16 ≤ maxRoom) (M : Mem)
    (hG : ∀ M', (∀ c, c < M.next → M'.get c = M.get c) → M.next ≤ M'.next → G M') :
    XP F_slices_AppendSeq_Stamp [.slice none 0 (.exact 0), .fn f first captured] M fun v M' => ∃ xs, S xs ∧ (∀ c, c < M.next → M'.get c = M.get c) ∧ Hold M.next M' 2 v xs.length (elSt.all xs) ∧ (xs = [] → v = .slice none 0 (.exact 0)) := by
  refine XRuns.walk mixed Tryd.func76 b_slices_AppendSeq_Stamp n_slices_AppendSeq_Stamp r_slices_AppendSeq_Stamp (by rfl) ?_
  unfold X_slices_AppendSeq_Stamp
  simp -dsimp only [↓x_seq', ↓x_ops, ↓x_skip, ↓x_ret, ↓x_exit, ↓x_block', ↓x_cond', cond_true', cond_false', ↓i_nil, ↓i_plain, ↓i_guard, xs_val, xs_call, xs_yield, xg_true, xg_false, ↓n_normal, ↓n_ret, ↓n_exit, ↓b_normal, ↓b_ret, ↓b_exit, ↓xe_normal, ↓xe_ret, e_some, yieldOf, go_sem, ↓reduceIte, Nat.reduceEqDiff, Nat.reduceLT, Nat.reduceSub, X_slices_AppendSeq_Stamp_0, X_slices_AppendSeq_Stamp_1, X_slices_AppendSeq_Stamp_2, X_slices_AppendSeq_Stamp_3, X_slices_AppendSeq_Stamp_6, Int.lt_irrefl, true_and, and_true, false_and, and_false, and_self, same_two, same_sib, same_spot, vload, vptr, vof, V.cells, Mem.read, rdCells, Mem.get_push, Mem.next_push, Nat.left_eq_add, Nat.add_eq_left, Nat.add_left_cancel_iff, Nat.add_right_cancel_iff, Nat.reduceAdd, Nat.add_zero, Nat.zero_add, Nat.add_assoc, Nat.reduceLeDiff, Nat.reduceBEq, List.length_cons, List.length_nil, List.drop_zero, List.drop_succ_cons, List.take_succ_cons, List.take_zero, List.take_nil, List.drop_nil, List.getElem?_cons_zero, List.getElem?_cons_succ, reduceCtorEq, Nat.succ_ne_self, Nat.one_ne_zero, Nat.le_refl, ne_eq, not_false_eq_true]
  refine x_range' _ _ _ _ _ (f := f) (first := first) (captured := captured) (by simp only [go_sem, ↓reduceIte, Nat.reduceEqDiff, Nat.reduceLT, Nat.reduceSub]) ?_
  intro lp hlp hY
  have hb0 : (M.push (.cells [.slice none 0 (.exact 0)] false)).next = M.next + 1 := rfl
  rw [hb0] at hY ⊢
  have hst : CollJ M lp [] ((M.push (.cells [.slice none 0 (.exact 0)] false)).push (lp .ready none)) := by
    refine ⟨fun c hc => ?_, by simp, ?_, .slice none 0 (.exact 0), ?_, .nil, fun _ => rfl⟩
    · rw [Mem.get_push_ne _ _ (by simp; omega), Mem.get_push_ne _ _ (by omega)]
    · rw [← hb0, Mem.get_push_same]
    · rw [Mem.get_push_ne _ _ (by simp), Mem.get_push_same]
  refine (hseq (M.next + 1) (CollJ M lp) (fun _ _ => False) _ (fun pre M' h => hG M' h.old (by have := h.next; omega)) (fun pre M' o h => ?_) (fun pre M' o o' h => ?_) (fun pre M' c b s k l h hcn hi => ?_) (fun pre M' c a b t h hcn hi => ?_) (fun pre x M' h hlen => ?_) hst).mono ?_
  · exact h.other (by simp) (fun c hc _ => Mem.get_push_ne _ _ (by omega)) (fun c hc => Mem.get_push_ne _ _ (by have := h.next; omega)) hlp
  · have hn : ∀ c, c ≠ M'.next → ((M'.push o).set M'.next o').get c = M'.get c := fun c hc => by rw [Mem.get_set_ne _ _ hc, Mem.get_push_ne _ _ hc]
    exact h.other (by simp) (fun c hc _ => hn c (by omega)) (fun c hc => hn c (by have := h.next; omega)) hlp
  · obtain ⟨b', s', k', l', hi⟩ := hi
    refine h.other (by simp) (fun c' _ hc' => Mem.get_set_ne _ _ (fun e => hc' b' s' k' l' (by rw [e]; exact hi))) (fun c' hc' => Mem.get_set_ne _ _ (by simp at hcn; omega)) hlp
  · obtain ⟨p1, p2, p3, hi⟩ := hi
    obtain ⟨a1, a2, a3, s1, a4, a5, a6⟩ := h
    have hc : M.next + 2 ≤ c := hcn
    refine ⟨fun c' hc' => (Mem.get_set_ne _ _ (by omega)).trans (a1 c' hc'), a2, (Mem.get_set_ne _ _ (by omega)).trans a3, s1, (Mem.get_set_ne _ _ (by omega)).trans a4, a5.keep (fun c' hc' => Mem.get_set_ne _ _ (fun e => ?_)) (Nat.le_refl _), a6⟩
    subst e
    have hh := (a5.blk_le hc').2.2
    rw [hi] at hh
    have hlen := a5.len
    simp only [Option.some.injEq, O.cells.injEq, and_true] at hh
    rw [← hh] at hlen
    simp at hlen
    omega
  · -- a round
    refine hY [.agg (stC x)] M' _ h.loop rfl ?_
    unfold X_slices_AppendSeq_Stamp_4 X_slices_AppendSeq_Stamp_5
    obtain ⟨s, hbox, hH, _⟩ := h.box
    have hnx := h.next
    have hw0 := write_full (M := M'.push (.cells [.int .i64 0, .int .i64 0] false)) (b := M'.next) (vs := stC x) (Mem.get_push_same _ _) rfl rfl
    simp -dsimp only [↓x_seq', ↓x_ops, ↓x_skip, ↓x_ret, ↓x_exit, ↓x_block', ↓x_cond', cond_true', cond_false', ↓i_nil, ↓i_plain, ↓i_guard, xs_val, xs_call, xs_yield, xg_true, xg_false, ↓n_normal, ↓n_ret, ↓n_exit, ↓b_normal, ↓b_ret, ↓b_exit, ↓xe_normal, ↓xe_ret, e_some, yieldOf, go_sem, ↓reduceIte, Nat.reduceEqDiff, Nat.reduceLT, Nat.reduceSub, X_slices_AppendSeq_Stamp_0, X_slices_AppendSeq_Stamp_1, X_slices_AppendSeq_Stamp_2, X_slices_AppendSeq_Stamp_3, X_slices_AppendSeq_Stamp_6, Int.lt_irrefl, true_and, and_true, false_and, and_false, and_self, same_two, same_sib, same_spot, vload, vptr, vof, V.cells, Mem.read, rdCells, Mem.get_push, Mem.next_push, Nat.left_eq_add, Nat.add_eq_left, Nat.add_left_cancel_iff, Nat.add_right_cancel_iff, Nat.reduceAdd, Nat.add_zero, Nat.zero_add, Nat.add_assoc, Nat.reduceLeDiff, Nat.reduceBEq, List.length_cons, List.length_nil, List.drop_zero, List.drop_succ_cons, List.take_succ_cons, List.take_zero, List.take_nil, List.drop_nil, List.getElem?_cons_zero, List.getElem?_cons_succ, reduceCtorEq, Nat.succ_ne_self, Nat.one_ne_zero, Nat.le_refl, ne_eq, not_false_eq_true, putAll', List.zip_cons_cons, List.zip_nil_right, List.foldl_cons, List.foldl_nil, vstore, hw0, stC_len]
    -- the memory with the round's own variable
    have k1 : ∀ c, c ≠ M'.next → ((M'.push (.cells [.int .i64 0, .int .i64 0] false)).set M'.next (.cells (stC x) false)).get c = M'.get c := fun c hc => by rw [Mem.get_set_ne _ _ hc, Mem.get_push_ne _ _ hc]
    have k2 : ((M'.push (.cells [.int .i64 0, .int .i64 0] false)).set M'.next (.cells (stC x) false)).get M'.next = some (.cells (stC x) false) := Mem.get_set_same _ _ _
    have k3 : ((M'.push (.cells [.int .i64 0, .int .i64 0] false)).set M'.next (.cells (stC x) false)).next = M'.next + 1 := rfl
    generalize (M'.push (.cells [.int .i64 0, .int .i64 0] false)).set M'.next (.cells (stC x) false) = M1 at *
    refine ⟨rfl, (k1 _ (by omega)).trans h.loop, ?_⟩
    have l1 : ∀ c, c ≠ M.next + 1 → (M1.set (M.next + 1) (lp .busy none)).get c = M1.get c := fun c hc => Mem.get_set_ne _ _ hc
    have l2 : (M1.set (M.next + 1) (lp .busy none)).get (M.next + 1) = some (lp .busy none) := Mem.get_set_same _ _ _
    have l3 : (M1.set (M.next + 1) (lp .busy none)).next = M'.next + 1 := k3
    generalize M1.set (M.next + 1) (lp .busy none) = M2 at *
    have hb2 : M2.get M.next = some (.cells [s] false) := by rw [l1 _ (by omega), k1 _ (by omega)]; exact hbox
    have hx2 : M2.get M'.next = some (.cells (stC x) false) := by rw [l1 _ (by omega)]; exact k2
    have hH2 : Hold (M.next + 2) M2 2 s pre.length (elSt.all pre) := hH.keep (fun c hc => by have := hH.blk_le hc; rw [l1 _ (by omega), k1 _ (by omega)]) (by omega)
    simp -dsimp only [↓x_seq', ↓x_ops, ↓x_skip, ↓x_ret, ↓x_exit, ↓x_block', ↓x_cond', cond_true', cond_false', ↓i_nil, ↓i_plain, ↓i_guard, xs_val, xs_call, xs_yield, xg_true, xg_false, ↓n_normal, ↓n_ret, ↓n_exit, ↓b_normal, ↓b_ret, ↓b_exit, ↓xe_normal, ↓xe_ret, e_some, yieldOf, go_sem, ↓reduceIte, Nat.reduceEqDiff, Nat.reduceLT, Nat.reduceSub, X_slices_AppendSeq_Stamp_0, X_slices_AppendSeq_Stamp_1, X_slices_AppendSeq_Stamp_2, X_slices_AppendSeq_Stamp_3, X_slices_AppendSeq_Stamp_6, Int.lt_irrefl, true_and, and_true, false_and, and_false, and_self, same_two, same_sib, same_spot, vload, vptr, vof, V.cells, Mem.read, rdCells, Mem.get_push, Mem.next_push, Nat.left_eq_add, Nat.add_eq_left, Nat.add_left_cancel_iff, Nat.add_right_cancel_iff, Nat.reduceAdd, Nat.add_zero, Nat.zero_add, Nat.add_assoc, Nat.reduceLeDiff, Nat.reduceBEq, List.length_cons, List.length_nil, List.drop_zero, List.drop_succ_cons, List.take_succ_cons, List.take_zero, List.take_nil, List.drop_nil, List.getElem?_cons_zero, List.getElem?_cons_succ, reduceCtorEq, Nat.succ_ne_self, Nat.one_ne_zero, Nat.le_refl, ne_eq, not_false_eq_true, hb2, hx2, stC, fillCells, repl, wrCells, List.append_nil]
    have hH3 : Hold (M.next + 2) (M2.push (.cells (stC x) false)) 2 s pre.length (elSt.all pre) := hH2.keep (fun c hc => Mem.get_push_ne _ _ (by have := hH2.blk_le hc; omega)) (by simp)
    obtain ⟨M4, hap, hH4, hn4, ho4⟩ := hH3.append (bytes := 16) (m := 1) (x := .slice (some (M2.next, 0)) 1 (.exact 1)) (new := stC x) (by simp; omega) rfl
      (by
        have := read_all (Mem.get_push_same M2 (.cells (stC x) false))
        simp only [srcCells, beq_dec, Nat.one_mul, Nat.reduceEqDiff, decide_false, cond_false]
        exact this) (by omega) rfl (by omega) rfl
    simp only [stC] at hap
    rw [hap]
    have hne4 : ∀ c, c < M'.next → s.blk ≠ some c → c ≠ M.next + 1 → M4.get c = M'.get c := fun c hc hs hl => by
      rw [ho4 c (by simp; omega) hs, Mem.get_push_ne _ _ (by omega), l1 _ hl, k1 _ (by omega)]
    have hsn : s.blk ≠ some M.next := fun e => by have := (hH.blk_le e).1; omega
    have hsl : s.blk ≠ some (M.next + 1) := fun e => by have := (hH.blk_le e).1; omega
    have hb4 : M4.get M.next = some (.cells [s] false) := by rw [hne4 _ (by omega) hsn (by omega)]; exact hbox
    simp only [Mem.next_push] at hap hH4 hn4 ho4
    have hw4 := write_one (v := .slice (some (M2.next + 1, 0)) (pre.length + 1) (.upto 2)) hb4 (show 0 < 1 by omega) rfl
    simp -dsimp only [↓x_seq', ↓x_ops, ↓x_skip, ↓x_ret, ↓x_exit, ↓x_block', ↓x_cond', cond_true', cond_false', ↓i_nil, ↓i_plain, ↓i_guard, xs_val, xs_call, xs_yield, xg_true, xg_false, ↓n_normal, ↓n_ret, ↓n_exit, ↓b_normal, ↓b_ret, ↓b_exit, ↓xe_normal, ↓xe_ret, e_some, yieldOf, go_sem, ↓reduceIte, Nat.reduceEqDiff, Nat.reduceLT, Nat.reduceSub, X_slices_AppendSeq_Stamp_0, X_slices_AppendSeq_Stamp_1, X_slices_AppendSeq_Stamp_2, X_slices_AppendSeq_Stamp_3, X_slices_AppendSeq_Stamp_6, Int.lt_irrefl, true_and, and_true, false_and, and_false, and_self, same_two, same_sib, same_spot, vload, vptr, vof, V.cells, Mem.read, rdCells, Mem.get_push, Mem.next_push, Nat.left_eq_add, Nat.add_eq_left, Nat.add_left_cancel_iff, Nat.add_right_cancel_iff, Nat.reduceAdd, Nat.add_zero, Nat.zero_add, Nat.add_assoc, Nat.reduceLeDiff, Nat.reduceBEq, List.length_cons, List.length_nil, List.drop_zero, List.drop_succ_cons, List.take_succ_cons, List.take_zero, List.take_nil, List.drop_nil, List.getElem?_cons_zero, List.getElem?_cons_succ, reduceCtorEq, Nat.succ_ne_self, Nat.one_ne_zero, Nat.le_refl, ne_eq, not_false_eq_true, vstore, hw4, List.set_cons_zero]
    have u := Upd.set M4 M.next (.cells [.slice (some (M2.next + 1, 0)) (pre.length + 1) (.upto 2)] false)
    generalize M4.set M.next (.cells [.slice (some (M2.next + 1, 0)) (pre.length + 1) (.upto 2)] false) = M5 at *
    have hl5 : M5.get (M.next + 1) = some (lp .busy none) := by
      rw [u.other _ (by omega), ho4 _ (by omega) hsl, Mem.get_push_ne _ _ (by omega)]; exact l2
    refine ⟨hl5, .inl ⟨rfl, ⟨fun c hc => ?_, ?_, Mem.get_set_same _ _ _, ?_⟩, by simp only [Mem.next_set]; rw [u.next, hn4]; omega, fun c hc hi => ?_, fun c hcl hc hi => ?_⟩⟩
    · rw [Mem.get_set_ne _ _ (by omega), u.other _ (by omega), hne4 c (by omega) (fun e => by have := (hH.blk_le e).1; omega) (by omega)]
      exact h.old c hc
    · simp only [Mem.next_set]; rw [u.next, hn4]; omega
    · refine ⟨.slice (some (M2.next + 1, 0)) (pre.length + 1) (.upto 2), ?_, ?_, fun h => by simp at h⟩
      · rw [Mem.get_set_ne _ _ (by omega)]; exact u.at_
      · have e1 : elSt.all (pre ++ [x]) = elSt.all pre ++ stC x := by simp [Elem.all, elSt]
        rw [e1, List.length_append, List.length_cons, List.length_nil]
        refine hH4.keep (fun c hc => ?_) (by simp only [Mem.next_set]; rw [u.next]; exact Nat.le_refl _)
        have := hH4.blk_le hc
        simp only [V.blk, Option.some.injEq] at hc
        rw [Mem.get_set_ne _ _ (by omega), u.other _ (by omega)]
    · obtain ⟨b', s', k', l', hi⟩ := hi
      have c1 : c ≠ M.next + 1 := fun e => by
        rw [e] at hi; rw [h.loop] at hi; exact hlp _ _ _ _ _ _ (Option.some.inj hi)
      have c2 : c ≠ M.next := fun e => by rw [e] at hi; rw [hbox] at hi; cases hi
      rw [Mem.get_set_ne _ _ c1, u.other _ c2]
      exact hne4 c hc (fun e => by rw [(hH.blk_le e).2.2] at hi; cases hi) c1
    · have hcl' : M.next + 2 ≤ c := hcl
      obtain ⟨p1, p2, p3, hi⟩ := hi
      rw [Mem.get_set_ne _ _ (by omega), u.other _ (by omega)]
      refine hne4 c hc (fun e => ?_) (by omega)
      have hh := (hH.blk_le e).2.2
      rw [hi] at hh
      have hlen := hH.len
      simp only [Option.some.injEq, O.cells.injEq, and_true] at hh
      rw [← hh] at hlen
      simp at hlen
      omega
  · -- all have come
    intro v M' h
    rcases h with ⟨xs, hS, hJ⟩ | ⟨pre, _, hS⟩
    · refine .inl ⟨hJ.loop, ?_⟩
      obtain ⟨s, hbox, hH, hnil⟩ := hJ.box
      have hnx := hJ.next
      have k1 : ∀ c, c ≠ M.next + 1 → (M'.set (M.next + 1) (lp .exhausted none)).get c = M'.get c := fun c hc => Mem.get_set_ne _ _ hc
      have k2 : (M'.set (M.next + 1) (lp .exhausted none)).next = M'.next := rfl
      generalize M'.set (M.next + 1) (lp .exhausted none) = M2 at *
      have hb2 : M2.get M.next = some (.cells [s] false) := (k1 _ (by omega)).trans hbox
      simp -dsimp only [↓x_seq', ↓x_ops, ↓x_skip, ↓x_ret, ↓x_exit, ↓x_block', ↓x_cond', cond_true', cond_false', ↓i_nil, ↓i_plain, ↓i_guard, xs_val, xs_call, xs_yield, xg_true, xg_false, ↓n_normal, ↓n_ret, ↓n_exit, ↓b_normal, ↓b_ret, ↓b_exit, ↓xe_normal, ↓xe_ret, e_some, yieldOf, go_sem, ↓reduceIte, Nat.reduceEqDiff, Nat.reduceLT, Nat.reduceSub, X_slices_AppendSeq_Stamp_0, X_slices_AppendSeq_Stamp_1, X_slices_AppendSeq_Stamp_2, X_slices_AppendSeq_Stamp_3, X_slices_AppendSeq_Stamp_6, Int.lt_irrefl, true_and, and_true, false_and, and_false, and_self, same_two, same_sib, same_spot, vload, vptr, vof, V.cells, Mem.read, rdCells, Mem.get_push, Mem.next_push, Nat.left_eq_add, Nat.add_eq_left, Nat.add_left_cancel_iff, Nat.add_right_cancel_iff, Nat.reduceAdd, Nat.add_zero, Nat.zero_add, Nat.add_assoc, Nat.reduceLeDiff, Nat.reduceBEq, List.length_cons, List.length_nil, List.drop_zero, List.drop_succ_cons, List.take_succ_cons, List.take_zero, List.take_nil, List.drop_nil, List.getElem?_cons_zero, List.getElem?_cons_succ, reduceCtorEq, Nat.succ_ne_self, Nat.one_ne_zero, Nat.le_refl, ne_eq, not_false_eq_true, hb2]
      refine ⟨xs, hS, fun c hc => (k1 c (by omega)).trans (hJ.old c hc), ?_, hnil⟩
      exact (hH.keep (fun c hc => k1 c (by have := (hH.blk_le hc).1; omega)) (by omega)).lower (by omega)
    · exact hS.elim

theorem Collect_runs {f : FuncId} {first captured : List V} {G : Mem → Prop} {S Sp : List St → Prop} {N : Nat} (hseq : SeqP f first captured (fun x => .agg (stC x)) G S Sp N) (hN : (N + 1) * 16 ≤ maxRoom) (M : Mem)
    (hG : ∀ M', (∀ c, c < M.next → M'.get c = M.get c) → M.next ≤ M'.next → G M') :
    XP F_slices_Collect_Stamp [.fn f first captured] M fun v M' => ∃ xs, S xs ∧ (∀ c, c < M.next → M'.get c = M.get c) ∧ Hold M.next M' 2 v xs.length (elSt.all xs) ∧ (xs = [] → v = .slice none 0 (.exact 0)) := by
  refine XRuns.walk mixed Tryd.func48 b_slices_Collect_Stamp n_slices_Collect_Stamp r_slices_Collect_Stamp (by rfl) ?_
  unfold X_slices_Collect_Stamp
  simp -dsimp only [↓x_seq', ↓x_ops, ↓x_skip, ↓x_ret, ↓x_exit, ↓x_block', ↓x_cond', cond_true', cond_false', ↓i_nil, ↓i_plain, ↓i_guard, xs_val, xs_call, xs_yield, xg_true, xg_false, ↓n_normal, ↓n_ret, ↓n_exit, ↓b_normal, ↓b_ret, ↓b_exit, ↓xe_normal, ↓xe_ret, e_some, yieldOf, go_sem, ↓reduceIte, Nat.reduceEqDiff, Nat.reduceLT, Nat.reduceSub, X_slices_Collect_Stamp_0, X_slices_Collect_Stamp_1, Int.lt_irrefl, true_and, and_true, false_and, and_false, and_self, same_two, same_sib, same_spot, vload, vptr, vof, V.cells, Mem.read, rdCells, Mem.get_push, Mem.next_push, Nat.left_eq_add, Nat.add_eq_left, Nat.add_left_cancel_iff, Nat.add_right_cancel_iff, Nat.reduceAdd, Nat.add_zero, Nat.zero_add, Nat.add_assoc, Nat.reduceLeDiff, Nat.reduceBEq, List.length_cons, List.length_nil, List.drop_zero, List.drop_succ_cons, List.take_succ_cons, List.take_zero, List.take_nil, List.drop_nil, List.getElem?_cons_zero, List.getElem?_cons_succ, reduceCtorEq, Nat.succ_ne_self, Nat.one_ne_zero, Nat.le_refl, ne_eq, not_false_eq_true]
  refine xcall_of (AppendSeq_runs hseq hN M hG) ?_
  intro v M' h
  simp -dsimp only [↓x_seq', ↓x_ops, ↓x_skip, ↓x_ret, ↓x_exit, ↓x_block', ↓x_cond', cond_true', cond_false', ↓i_nil, ↓i_plain, ↓i_guard, xs_val, xs_call, xs_yield, xg_true, xg_false, ↓n_normal, ↓n_ret, ↓n_exit, ↓b_normal, ↓b_ret, ↓b_exit, ↓xe_normal, ↓xe_ret, e_some, yieldOf, go_sem, ↓reduceIte, Nat.reduceEqDiff, Nat.reduceLT, Nat.reduceSub, X_slices_Collect_Stamp_0, X_slices_Collect_Stamp_1, Int.lt_irrefl, true_and, and_true, false_and, and_false, and_self, same_two, same_sib, same_spot, vload, vptr, vof, V.cells, Mem.read, rdCells, Mem.get_push, Mem.next_push, Nat.left_eq_add, Nat.add_eq_left, Nat.add_left_cancel_iff, Nat.add_right_cancel_iff, Nat.reduceAdd, Nat.add_zero, Nat.zero_add, Nat.add_assoc, Nat.reduceLeDiff, Nat.reduceBEq, List.length_cons, List.length_nil, List.drop_zero, List.drop_succ_cons, List.take_succ_cons, List.take_zero, List.take_nil, List.drop_nil, List.getElem?_cons_zero, List.getElem?_cons_succ, reduceCtorEq, Nat.succ_ne_self, Nat.one_ne_zero, Nat.le_refl, ne_eq, not_false_eq_true]
  exact h
end Go.Am.Tryd

/- A map's keys handed on, in whatever order; slices.SortedFunc of them as a part. -/
namespace Go.Am.Tryd
open Go Go.Am Go.Proofs Go.Sort Go.Shelf
set_option maxRecDepth 100000
set_option linter.unusedSimpArgs false
set_option linter.unusedVariables false

/-- Which entries have come: their places; those that have not. -/
structure Came (ents : List MapEntry) (ks : List St) (seen : Array Nat) (pre : List St) (idx rest : List Nat) : Prop where
  perm : (idx ++ rest).Perm (List.range ks.length)
  pre_ : pre = idx.map fun i => ks.getD i (0, 0)
  seen_ : seen.toList = idx.map fun i => (ents[i]?.map (·.born)).getD 0

theorem born_inj {ents : List MapEntry} {clock : Nat} (h : Born ents clock) {i j : Nat} {e e' : MapEntry} (hi : ents[i]? = some e) (hj : ents[j]? = some e') (he : e.born = e'.born) : i = j := by
  obtain ⟨hil, rfl⟩ := List.getElem?_eq_some_iff.mp hi
  obtain ⟨hjl, rfl⟩ := List.getElem?_eq_some_iff.mp hj
  have hp := h.1
  rw [List.pairwise_iff_getElem] at hp
  rcases Nat.lt_trichotomy i j with h1 | h1 | h1
  · have := hp i j (by simpa using hil) (by simpa using hjl) h1
    simp only [List.getElem_map] at this
    omega
  · exact h1
  · have := hp j i (by simpa using hjl) (by simpa using hil) h1
    simp only [List.getElem_map] at this
    omega

theorem Came.done {ents : List MapEntry} {clock : Nat} {ks : List St} {seen : Array Nat} {pre : List St} {idx rest : List Nat} (h : Came ents ks seen pre idx rest) (hb : Born ents clock) (hl : ents.length = ks.length) (hf : ents.filter (notSeen seen) = []) : pre.Perm ks := by
  have hr : rest = [] := by
    cases hrr : rest with
    | nil => rfl
    | cons j rs =>
      exfalso
      have hp := h.perm
      rw [hrr] at hp
      have hj : j < ents.length := by
        have : j ∈ List.range ks.length := hp.mem_iff.mp (by simp)
        rw [hl]; simpa using this
      have hnd : (idx ++ j :: rs).Nodup := hp.nodup_iff.mpr List.nodup_range
      have : ents[j] ∈ ents.filter (notSeen seen) := by
        rw [List.mem_filter]
        refine ⟨List.getElem_mem hj, ?_⟩
        unfold notSeen
        rw [Bool.not_eq_true', ← Bool.not_eq_true]
        intro hc
        rw [Array.contains_iff_mem, ← Array.mem_toList_iff, h.seen_, List.mem_map] at hc
        obtain ⟨i, hi, hie⟩ := hc
        have hil : i < ents.length := by
          have : i ∈ List.range ks.length := hp.mem_iff.mp (by simp [hi])
          rw [hl]; simpa using this
        rw [List.getElem?_eq_getElem hil] at hie
        simp only [Option.map_some, Option.getD_some] at hie
        have := born_inj hb (List.getElem?_eq_getElem hil) (List.getElem?_eq_getElem hj) hie
        subst this
        rw [List.nodup_append] at hnd
        exact hnd.2.2 _ hi _ (List.mem_cons_self ..) rfl
      rw [hf] at this
      cases this
  have hp := h.perm
  rw [hr, List.append_nil] at hp
  rw [h.pre_]
  have h2 := hp.map fun i => ks.getD i (0, 0)
  refine h2.trans (List.Perm.of_eq ?_)
  apply List.ext_getElem
  · simp
  · intro i h1 h2
    simp [List.getD_eq_getElem?_getD, List.getElem?_eq_getElem (show i < ks.length by simpa using h2)]

theorem Came.step {ents : List MapEntry} {ks : List St} {seen : Array Nat} {pre : List St} {idx rest : List Nat} (h : Came ents ks seen pre idx rest) (hl : ents.length = ks.length) {i : Nat} {e : MapEntry} (hi : ents[i]? = some e) (hn : notSeen seen e = true) :
    i ∈ rest ∧ Came ents ks (seen.push e.born) (pre ++ [ks.getD i (0, 0)]) (idx ++ [i]) (rest.erase i) := by
  obtain ⟨hil, hie⟩ := List.getElem?_eq_some_iff.mp hi
  have hr : i ∈ rest := by
    have hm : i ∈ idx ++ rest := h.perm.mem_iff.mpr (by simp; omega)
    rcases List.mem_append.mp hm with hm | hm
    · exfalso
      unfold notSeen at hn
      rw [Bool.not_eq_true', ← Bool.not_eq_true] at hn
      apply hn
      rw [Array.contains_iff_mem, ← Array.mem_toList_iff, h.seen_, List.mem_map]
      exact ⟨i, hm, by rw [hi]; rfl⟩
    · exact hm
  refine ⟨hr, ?_, by rw [h.pre_]; simp, by rw [Array.toList_push, h.seen_]; simp [hi]⟩
  refine List.Perm.trans ?_ h.perm
  rw [List.append_assoc]
  exact List.Perm.append_left idx (List.perm_cons_erase hr).symm

theorem Keys_loop (b bx bm it : Nat) (ro : Bool) (es : List (V × V)) (ents : List MapEntry) (clock : Nat) (ks : List St) (hks : ∀ (i : Nat) (kv : V × V), es[i]? = some kv → kv.1 = V.agg (stC (ks.getD i (0, 0)))) (hl : ents.length = ks.length) (hborn : Born ents clock) (J Jx : List St → Mem → Prop) (M0 : Mem)
    (hG : ∀ pre M, J pre M → M.get bx = some (.cells [.map (some bm)] ro) ∧ M.get bm = some (.rmap es ents clock)) (hps : ∀ pre M o o', J pre M → J pre ((M.push o).set M.next o')) (hit0 : M0.next ≤ it)
    (hset : ∀ pre M' c b s n l, J pre M' → M0.next ≤ c → isIter M' c → J pre (M'.set c (.mapIter b s n l)))
    (hY : ∀ pre x M', J pre M' → pre.length < ks.length → XYield Tryd.prog gl0 b [.agg (stC x)] M' fun v M'' => (v = .bool true ∧ J (pre ++ [x]) M'' ∧ M'.next ≤ M''.next ∧ ∀ c, c < M'.next → isIter M' c → M''.get c = M'.get c) ∨ (v = .bool false ∧ Jx (pre ++ [x]) M''))
    (Q : XQ) (hQ : ∀ fr M xs, xs.Perm ks → J xs M → Q (.exit 0) fr M) (hQx : ∀ pre fr M, Jx pre M → Q .ret fr M) :
    ∀ (f : Nat) (idx rest : List Nat) (seen : Array Nat) (pre : List St) (fr : Fr) (M : Mem), rest.length = f → Came ents ks seen pre idx rest → J pre M → it < M.next → M.get it = some (.mapIter (some bm) clock seen clock) → fr.rd 0 = .yld b → fr.rd 5 = .ptr (some (it, 0)) →
    roundsX (WX Tryd.prog gl0 14 X_maps_Keys_Stamp_Spot_c1_4 false) (f + 1) fr M Q := by
  intro f
  induction f with
  | zero =>
    intro idx rest seen pre fr M hf hC hJ hlt hit h0 h5
    rw [rounds_x_succ]
    refine xw_of ?_
    unfold X_maps_Keys_Stamp_Spot_c1_4
    simp -dsimp only [↓x_seq', ↓x_ops, ↓x_skip, ↓x_ret, ↓x_exit, ↓x_block', ↓x_cond', cond_true', cond_false', ↓i_nil, ↓i_plain, ↓i_guard, xs_val, xs_call, xs_yield, xg_true, xg_false, ↓n_normal, ↓n_ret, ↓n_exit, ↓b_normal, ↓b_ret, ↓b_exit, ↓xe_normal, ↓xe_ret, e_some, yieldOf, go_sem, ↓reduceIte, Nat.reduceEqDiff, Nat.reduceLT, Nat.reduceSub, X_maps_Keys_Stamp_Spot_c1_0, X_maps_Keys_Stamp_Spot_c1_1, X_maps_Keys_Stamp_Spot_c1_2, X_maps_Keys_Stamp_Spot_c1_3]
    refine i_next (it := it) (b := bm) (clock := clock) (seen := seen) (show fr.rd 5 = _ from h5) hit (hG _ _ hJ).2 ?_ ?_
    · intro hfil
      simp -dsimp only [↓x_seq', ↓x_ops, ↓x_skip, ↓x_ret, ↓x_exit, ↓x_block', ↓x_cond', cond_true', cond_false', ↓i_nil, ↓i_plain, ↓i_guard, xs_val, xs_call, xs_yield, xg_true, xg_false, ↓n_normal, ↓n_ret, ↓n_exit, ↓b_normal, ↓b_ret, ↓b_exit, ↓xe_normal, ↓xe_ret, e_some, yieldOf, go_sem, ↓reduceIte, Nat.reduceEqDiff, Nat.reduceLT, Nat.reduceSub, X_maps_Keys_Stamp_Spot_c1_0, X_maps_Keys_Stamp_Spot_c1_1, X_maps_Keys_Stamp_Spot_c1_2, X_maps_Keys_Stamp_Spot_c1_3, List.getElem?_cons_zero]
      exact hQ _ _ _ (hC.done hborn hl hfil) hJ
    · intro i e kv hi hn hkv
      have := (hC.step hl hi hn).1
      rw [List.eq_nil_of_length_eq_zero hf] at this
      cases this
  | succ f ih =>
    intro idx rest seen pre fr M hf hC hJ hlt hit h0 h5
    rw [rounds_x_succ]
    refine xw_of ?_
    unfold X_maps_Keys_Stamp_Spot_c1_4
    simp -dsimp only [↓x_seq', ↓x_ops, ↓x_skip, ↓x_ret, ↓x_exit, ↓x_block', ↓x_cond', cond_true', cond_false', ↓i_nil, ↓i_plain, ↓i_guard, xs_val, xs_call, xs_yield, xg_true, xg_false, ↓n_normal, ↓n_ret, ↓n_exit, ↓b_normal, ↓b_ret, ↓b_exit, ↓xe_normal, ↓xe_ret, e_some, yieldOf, go_sem, ↓reduceIte, Nat.reduceEqDiff, Nat.reduceLT, Nat.reduceSub, X_maps_Keys_Stamp_Spot_c1_0, X_maps_Keys_Stamp_Spot_c1_1, X_maps_Keys_Stamp_Spot_c1_2, X_maps_Keys_Stamp_Spot_c1_3]
    refine i_next (it := it) (b := bm) (clock := clock) (seen := seen) (show fr.rd 5 = _ from h5) hit (hG _ _ hJ).2 ?_ ?_
    · intro hfil
      simp -dsimp only [↓x_seq', ↓x_ops, ↓x_skip, ↓x_ret, ↓x_exit, ↓x_block', ↓x_cond', cond_true', cond_false', ↓i_nil, ↓i_plain, ↓i_guard, xs_val, xs_call, xs_yield, xg_true, xg_false, ↓n_normal, ↓n_ret, ↓n_exit, ↓b_normal, ↓b_ret, ↓b_exit, ↓xe_normal, ↓xe_ret, e_some, yieldOf, go_sem, ↓reduceIte, Nat.reduceEqDiff, Nat.reduceLT, Nat.reduceSub, X_maps_Keys_Stamp_Spot_c1_0, X_maps_Keys_Stamp_Spot_c1_1, X_maps_Keys_Stamp_Spot_c1_2, X_maps_Keys_Stamp_Spot_c1_3, List.getElem?_cons_zero]
      exact hQ _ _ _ (hC.done hborn hl hfil) hJ
    · intro i e kv hi hn hkv
      obtain ⟨hir, hC'⟩ := hC.step hl hi hn
      have hk1 := hks i kv hkv
      have hJ1 := hset pre M it (some bm) clock (seen.push e.born) clock hJ hit0 ⟨_, _, _, _, hit⟩
      have hit1 : (M.set it (.mapIter (some bm) clock (seen.push e.born) clock)).get it = some (.mapIter (some bm) clock (seen.push e.born) clock) := Mem.get_set_same _ _ _
      have hn1 : (M.set it (.mapIter (some bm) clock (seen.push e.born) clock)).next = M.next := rfl
      generalize M.set it (.mapIter (some bm) clock (seen.push e.born) clock) = M1 at *
      simp -dsimp only [↓x_seq', ↓x_ops, ↓x_skip, ↓x_ret, ↓x_exit, ↓x_block', ↓x_cond', cond_true', cond_false', ↓i_nil, ↓i_plain, ↓i_guard, xs_val, xs_call, xs_yield, xg_true, xg_false, ↓n_normal, ↓n_ret, ↓n_exit, ↓b_normal, ↓b_ret, ↓b_exit, ↓xe_normal, ↓xe_ret, e_some, yieldOf, go_sem, ↓reduceIte, Nat.reduceEqDiff, Nat.reduceLT, Nat.reduceSub, X_maps_Keys_Stamp_Spot_c1_0, X_maps_Keys_Stamp_Spot_c1_1, X_maps_Keys_Stamp_Spot_c1_2, X_maps_Keys_Stamp_Spot_c1_3, List.getElem?_cons_zero]
      refine i_entry (it := it) (b := bm) (since := clock) (clock := clock) (seen := seen.push e.born) (by simp only [go_sem, ↓reduceIte, Nat.reduceEqDiff, Nat.reduceLT, Nat.reduceSub, h5]) hit1 (hG _ _ hJ1).2 i e kv hi (by simp) hkv ?_
      rw [hk1]
      have hw0 := write_full (M := M1.push (.cells [.int .i64 0, .int .i64 0] false)) (b := M1.next) (vs := stC (ks.getD i (0, 0))) (Mem.get_push_same _ _) rfl rfl
      have hrd2 : rdCells (stC (ks.getD i (0, 0))) 0 2 = some (stC (ks.getD i (0, 0))) := rfl
      simp -dsimp only [↓x_seq', ↓x_ops, ↓x_skip, ↓x_ret, ↓x_exit, ↓x_block', ↓x_cond', cond_true', cond_false', ↓i_nil, ↓i_plain, ↓i_guard, xs_val, xs_call, xs_yield, xg_true, xg_false, ↓n_normal, ↓n_ret, ↓n_exit, ↓b_normal, ↓b_ret, ↓b_exit, ↓xe_normal, ↓xe_ret, e_some, yieldOf, go_sem, ↓reduceIte, Nat.reduceEqDiff, Nat.reduceLT, Nat.reduceSub, X_maps_Keys_Stamp_Spot_c1_0, X_maps_Keys_Stamp_Spot_c1_1, X_maps_Keys_Stamp_Spot_c1_2, X_maps_Keys_Stamp_Spot_c1_3, h0, List.getElem?_cons_zero, vstore, V.cells, stC_len, hw0, vload, Mem.read, Mem.get_set_same, hrd2, Nat.reduceEqDiff]
      have hJ2 := hps _ _ (.cells [.int .i64 0, .int .i64 0] false) (.cells (stC (ks.getD i (0, 0))) false) hJ1
      have hti : pre.length < ks.length := by
        have h1 := hC.perm.length_eq
        have h2 : rest.length = f + 1 := hf
        rw [hC.pre_, List.length_map]
        simp at h1
        omega
      refine xyield_of (hY _ (ks.getD i (0, 0)) _ hJ2 hti) ?_
      have hit2 : ((M1.push (.cells [.int .i64 0, .int .i64 0] false)).set M1.next (.cells (stC (ks.getD i (0, 0))) false)).get it = some (.mapIter (some bm) clock (seen.push e.born) clock) := by
        rw [Mem.get_set_ne _ _ (by omega), Mem.get_push_ne _ _ (by omega)]; exact hit1
      rintro v M2 (⟨rfl, hJ3, hn3, hk3⟩ | ⟨rfl, hJ3⟩)
      · simp -dsimp only [↓x_seq', ↓x_ops, ↓x_skip, ↓x_ret, ↓x_exit, ↓x_block', ↓x_cond', cond_true', cond_false', ↓i_nil, ↓i_plain, ↓i_guard, xs_val, xs_call, xs_yield, xg_true, xg_false, ↓n_normal, ↓n_ret, ↓n_exit, ↓b_normal, ↓b_ret, ↓b_exit, ↓xe_normal, ↓xe_ret, e_some, yieldOf, go_sem, ↓reduceIte, Nat.reduceEqDiff, Nat.reduceLT, Nat.reduceSub, X_maps_Keys_Stamp_Spot_c1_0, X_maps_Keys_Stamp_Spot_c1_1, X_maps_Keys_Stamp_Spot_c1_2, X_maps_Keys_Stamp_Spot_c1_3]
        have hnn : ((M1.push (.cells [.int .i64 0, .int .i64 0] false)).set M1.next (.cells (stC (ks.getD i (0, 0))) false)).next = M1.next + 1 := rfl
        rw [hnn] at hn3 hk3
        refine ih (idx ++ [i]) (rest.erase i) (seen.push e.born) _ _ M2 (by rw [List.length_erase_of_mem hir]; omega) hC' hJ3 (by omega) ((hk3 it (by omega) ⟨_, _, _, _, hit2⟩).trans hit2) ?_ ?_
        all_goals simp only [go_sem, ↓reduceIte, Nat.reduceEqDiff, Nat.reduceLT, Nat.reduceSub, h0, h5]
      · simp -dsimp only [↓x_seq', ↓x_ops, ↓x_skip, ↓x_ret, ↓x_exit, ↓x_block', ↓x_cond', cond_true', cond_false', ↓i_nil, ↓i_plain, ↓i_guard, xs_val, xs_call, xs_yield, xg_true, xg_false, ↓n_normal, ↓n_ret, ↓n_exit, ↓b_normal, ↓b_ret, ↓b_exit, ↓xe_normal, ↓xe_ret, e_some, yieldOf, go_sem, ↓reduceIte, Nat.reduceEqDiff, Nat.reduceLT, Nat.reduceSub, X_maps_Keys_Stamp_Spot_c1_0, X_maps_Keys_Stamp_Spot_c1_1, X_maps_Keys_Stamp_Spot_c1_2, X_maps_Keys_Stamp_Spot_c1_3]
        exact hQx _ _ _ hJ3
end Go.Am.Tryd

/- slices.SortedFunc of a map's keys, as a part. -/
namespace Go.Am.Tryd
open Go Go.Am Go.Proofs Go.Sort Go.Shelf
set_option maxRecDepth 100000
set_option linter.unusedSimpArgs false
set_option linter.unusedVariables false

theorem Keys_seq (bx bm : Nat) (ro : Bool) (es : List (V × V)) (ents : List MapEntry) (clock : Nat) (ks : List St) (hks : ∀ (i : Nat) (kv : V × V), es[i]? = some kv → kv.1 = V.agg (stC (ks.getD i (0, 0)))) (hl : ents.length = ks.length) (hborn : Born ents clock) :
    SeqX Tryd.prog gl0 F_maps_Keys_Stamp_Spot_c1 [] [.ptr (some (bx, 0))] (fun x => .agg (stC x)) (fun M => M.get bx = some (.cells [.map (some bm)] ro) ∧ M.get bm = some (.rmap es ents clock)) (fun ys => ys.Perm ks) (fun _ => True) ks.length := by
  intro b J Jx M hG hp hps hi hY hJ
  refine XRuns.walk mixed Tryd.func75 b_maps_Keys_Stamp_Spot_c1 n_maps_Keys_Stamp_Spot_c1 r_maps_Keys_Stamp_Spot_c1 (by rfl) ?_
  unfold X_maps_Keys_Stamp_Spot_c1
  obtain ⟨h1, h2⟩ := hG _ _ hJ
  simp -dsimp only [↓x_seq', ↓x_ops, ↓x_skip, ↓x_ret, ↓x_exit, ↓x_block', ↓x_cond', cond_true', cond_false', ↓i_nil, ↓i_plain, ↓i_guard, xs_val, xs_call, xs_yield, xg_true, xg_false, ↓n_normal, ↓n_ret, ↓n_exit, ↓b_normal, ↓b_ret, ↓b_exit, ↓xe_normal, ↓xe_ret, e_some, yieldOf, go_sem, ↓reduceIte, Nat.reduceEqDiff, Nat.reduceLT, Nat.reduceSub, X_maps_Keys_Stamp_Spot_c1_0, X_maps_Keys_Stamp_Spot_c1_1, X_maps_Keys_Stamp_Spot_c1_2, X_maps_Keys_Stamp_Spot_c1_3, Int.lt_irrefl, true_and, and_true, false_and, and_false, and_self, same_two, same_sib, same_spot, vload, vptr, vof, V.cells, Mem.read, rdCells, Mem.get_push, Mem.next_push, Nat.left_eq_add, Nat.add_eq_left, Nat.add_left_cancel_iff, Nat.add_right_cancel_iff, Nat.reduceAdd, Nat.add_zero, Nat.zero_add, Nat.add_assoc, Nat.reduceLeDiff, Nat.reduceBEq, List.length_cons, List.length_nil, List.drop_zero, List.drop_succ_cons, List.take_succ_cons, List.take_zero, List.take_nil, List.drop_nil, List.getElem?_cons_zero, List.getElem?_cons_succ, reduceCtorEq, Nat.succ_ne_self, Nat.one_ne_zero, Nat.le_refl, ne_eq, not_false_eq_true, List.singleton_append, h1]
  refine i_range (b := bm) (clock := clock) (by simp only [go_sem, ↓reduceIte, Nat.reduceEqDiff, Nat.reduceLT, Nat.reduceSub]) h2 ?_
  have hJ1 := hp [] M (.mapIter (some bm) clock #[] clock) hJ
  have hit : (M.push (.mapIter (some bm) clock #[] clock)).get M.next = some (.mapIter (some bm) clock #[] clock) := Mem.get_push_same _ _
  simp -dsimp only [↓x_seq', ↓x_ops, ↓x_skip, ↓x_ret, ↓x_exit, ↓x_block', ↓x_cond', cond_true', cond_false', ↓i_nil, ↓i_plain, ↓i_guard, xs_val, xs_call, xs_yield, xg_true, xg_false, ↓n_normal, ↓n_ret, ↓n_exit, ↓b_normal, ↓b_ret, ↓b_exit, ↓xe_normal, ↓xe_ret, e_some, yieldOf, go_sem, ↓reduceIte, Nat.reduceEqDiff, Nat.reduceLT, Nat.reduceSub]
  refine ⟨ks.length + 1, Keys_loop b bx bm M.next ro es ents clock ks hks hl hborn J Jx M hG hps (Nat.le_refl _) hi hY _ ?_ ?_ ks.length [] (List.range ks.length) #[] [] _ _ (by simp) ⟨by simp, rfl, rfl⟩ hJ1 (by simp) hit ?_ ?_⟩
  · intro fr M' xs hx h
    simp -dsimp only [↓x_seq', ↓x_ops, ↓x_skip, ↓x_ret, ↓x_exit, ↓x_block', ↓x_cond', cond_true', cond_false', ↓i_nil, ↓i_plain, ↓i_guard, xs_val, xs_call, xs_yield, xg_true, xg_false, ↓n_normal, ↓n_ret, ↓n_exit, ↓b_normal, ↓b_ret, ↓b_exit, ↓xe_normal, ↓xe_ret, e_some, yieldOf, go_sem, ↓reduceIte, Nat.reduceEqDiff, Nat.reduceLT, Nat.reduceSub]
    exact .inl ⟨xs, hx, h⟩
  · intro pre fr M' h
    simp -dsimp only [↓x_seq', ↓x_ops, ↓x_skip, ↓x_ret, ↓x_exit, ↓x_block', ↓x_cond', cond_true', cond_false', ↓i_nil, ↓i_plain, ↓i_guard, xs_val, xs_call, xs_yield, xg_true, xg_false, ↓n_normal, ↓n_ret, ↓n_exit, ↓b_normal, ↓b_ret, ↓b_exit, ↓xe_normal, ↓xe_ret, e_some, yieldOf, go_sem, ↓reduceIte, Nat.reduceEqDiff, Nat.reduceLT, Nat.reduceSub]
    exact .inr ⟨pre, trivial, h⟩
  all_goals simp only [go_sem, ↓reduceIte, Nat.reduceEqDiff, Nat.reduceLT, Nat.reduceSub]

theorem SortFunc_hold {lo : Nat} {M : Mem} {s : V} {xs : List St} (h : Hold lo M 2 s xs.length (elSt.all xs)) (hn : xs.length ≤ maxRoom) :
    Runs D1 F_slices_SortFunc_Stamp [s, .fn F_stamp_Compare [] []] M fun v M' => Hold lo M' 2 s xs.length (elSt.all (isort ltSt xs)) ∧ (∀ c, c < lo → M'.get c = M.get c) := by
  have hd := elSt.decs_all xs
  have hl := elSt.all_len (isort ltSt xs)
  rw [isort_len] at hl
  generalize hq : xs.length = n at *
  generalize hc : elSt.all xs = cs at *
  cases h with
  | nil =>
    have : xs = [] := List.eq_nil_of_length_eq_zero hq
    subst this
    exact Runs.prim rfl rfl ⟨.nil, fun _ _ => rfl⟩
  | row h1 h2 h3 h4 =>
    rename_i b
    refine Runs.prim (v := .tup []) (M' := M.set b (.cells (elSt.all (isort ltSt xs)) false)) rfl ?_ ⟨.row (Mem.get_set_same _ _ _) hl h3 (by simpa using h4), fun c hc => Mem.get_set_ne _ _ (by omega)⟩
    simp only [sortP, Nat.beq_refl, cond_true, ble_iff, decide_eq_true hn, h1, hd, Option.map_some]

theorem SortedFunc_runs {f : FuncId} {first captured : List V} {G : Mem → Prop} {S Sp : List St → Prop} {N : Nat} (hseq : SeqP f first captured (fun x => .agg (stC x)) G S Sp N) (hN : (N + 1) * 16 ≤ maxRoom) (hS : ∀ xs, S xs → xs.length ≤ maxRoom) (M : Mem)
    (hG : ∀ M', (∀ c, c < M.next → M'.get c = M.get c) → M.next ≤ M'.next → G M') :
    XP F_slices_SortedFunc_Stamp [.fn f first captured, .fn F_stamp_Compare [] []] M fun v M' => ∃ xs, S xs ∧ (∀ c, c < M.next → M'.get c = M.get c) ∧ Hold M.next M' 2 v xs.length (elSt.all (isort ltSt xs)) ∧ (xs = [] → v = .slice none 0 (.exact 0)) := by
  refine XRuns.walk mixed Tryd.func45 b_slices_SortedFunc_Stamp n_slices_SortedFunc_Stamp r_slices_SortedFunc_Stamp (by rfl) ?_
  unfold X_slices_SortedFunc_Stamp
  simp -dsimp only [↓x_seq', ↓x_ops, ↓x_skip, ↓x_ret, ↓x_exit, ↓x_block', ↓x_cond', cond_true', cond_false', ↓i_nil, ↓i_plain, ↓i_guard, xs_val, xs_call, xs_yield, xg_true, xg_false, ↓n_normal, ↓n_ret, ↓n_exit, ↓b_normal, ↓b_ret, ↓b_exit, ↓xe_normal, ↓xe_ret, e_some, yieldOf, go_sem, ↓reduceIte, Nat.reduceEqDiff, Nat.reduceLT, Nat.reduceSub, X_slices_SortedFunc_Stamp_0, X_slices_SortedFunc_Stamp_1, X_slices_SortedFunc_Stamp_2, X_slices_SortedFunc_Stamp_3, Int.lt_irrefl, true_and, and_true, false_and, and_false, and_self, same_two, same_sib, same_spot, vload, vptr, vof, V.cells, Mem.read, rdCells, Mem.get_push, Mem.next_push, Nat.left_eq_add, Nat.add_eq_left, Nat.add_left_cancel_iff, Nat.add_right_cancel_iff, Nat.reduceAdd, Nat.add_zero, Nat.zero_add, Nat.add_assoc, Nat.reduceLeDiff, Nat.reduceBEq, List.length_cons, List.length_nil, List.drop_zero, List.drop_succ_cons, List.take_succ_cons, List.take_zero, List.take_nil, List.drop_nil, List.getElem?_cons_zero, List.getElem?_cons_succ, reduceCtorEq, Nat.succ_ne_self, Nat.one_ne_zero, Nat.le_refl, ne_eq, not_false_eq_true]
  refine xcall_of (Collect_runs hseq hN M hG) ?_
  rintro v M1 ⟨xs, h1, h2, h3, h6⟩
  simp -dsimp only [↓x_seq', ↓x_ops, ↓x_skip, ↓x_ret, ↓x_exit, ↓x_block', ↓x_cond', cond_true', cond_false', ↓i_nil, ↓i_plain, ↓i_guard, xs_val, xs_call, xs_yield, xg_true, xg_false, ↓n_normal, ↓n_ret, ↓n_exit, ↓b_normal, ↓b_ret, ↓b_exit, ↓xe_normal, ↓xe_ret, e_some, yieldOf, go_sem, ↓reduceIte, Nat.reduceEqDiff, Nat.reduceLT, Nat.reduceSub, X_slices_SortedFunc_Stamp_0, X_slices_SortedFunc_Stamp_1, X_slices_SortedFunc_Stamp_2, X_slices_SortedFunc_Stamp_3, Int.lt_irrefl, true_and, and_true, false_and, and_false, and_self, same_two, same_sib, same_spot, vload, vptr, vof, V.cells, Mem.read, rdCells, Mem.get_push, Mem.next_push, Nat.left_eq_add, Nat.add_eq_left, Nat.add_left_cancel_iff, Nat.add_right_cancel_iff, Nat.reduceAdd, Nat.add_zero, Nat.zero_add, Nat.add_assoc, Nat.reduceLeDiff, Nat.reduceBEq, List.length_cons, List.length_nil, List.drop_zero, List.drop_succ_cons, List.take_succ_cons, List.take_zero, List.take_nil, List.drop_nil, List.getElem?_cons_zero, List.getElem?_cons_succ, reduceCtorEq, Nat.succ_ne_self, Nat.one_ne_zero, Nat.le_refl, ne_eq, not_false_eq_true]
  refine xcall_of (XRuns.of_runs dok1 (SortFunc_hold h3 (hS xs h1))) ?_
  rintro v2 M2 ⟨h4, h5⟩
  simp -dsimp only [↓x_seq', ↓x_ops, ↓x_skip, ↓x_ret, ↓x_exit, ↓x_block', ↓x_cond', cond_true', cond_false', ↓i_nil, ↓i_plain, ↓i_guard, xs_val, xs_call, xs_yield, xg_true, xg_false, ↓n_normal, ↓n_ret, ↓n_exit, ↓b_normal, ↓b_ret, ↓b_exit, ↓xe_normal, ↓xe_ret, e_some, yieldOf, go_sem, ↓reduceIte, Nat.reduceEqDiff, Nat.reduceLT, Nat.reduceSub, X_slices_SortedFunc_Stamp_0, X_slices_SortedFunc_Stamp_1, X_slices_SortedFunc_Stamp_2, X_slices_SortedFunc_Stamp_3, Int.lt_irrefl, true_and, and_true, false_and, and_false, and_self, same_two, same_sib, same_spot, vload, vptr, vof, V.cells, Mem.read, rdCells, Mem.get_push, Mem.next_push, Nat.left_eq_add, Nat.add_eq_left, Nat.add_left_cancel_iff, Nat.add_right_cancel_iff, Nat.reduceAdd, Nat.add_zero, Nat.zero_add, Nat.add_assoc, Nat.reduceLeDiff, Nat.reduceBEq, List.length_cons, List.length_nil, List.drop_zero, List.drop_succ_cons, List.take_succ_cons, List.take_zero, List.take_nil, List.drop_nil, List.getElem?_cons_zero, List.getElem?_cons_succ, reduceCtorEq, Nat.succ_ne_self, Nat.one_ne_zero, Nat.le_refl, ne_eq, not_false_eq_true]
  exact ⟨xs, h1, fun c hc => (h5 c hc).trans (h2 c hc), h4, h6⟩


theorem sorted_unique : ∀ {l l' : List St}, l.Pairwise (fun a b => ltSt b a = false) → l'.Pairwise (fun a b => ltSt b a = false) → l.Perm l' → l = l'
  | [], l', _, _, hp => hp.nil_eq
  | a :: l, [], _, _, hp => absurd hp.length_eq (by simp)
  | a :: l, b :: l', h, h', hp => by
    have hab : a = b := by
      have ha : a ∈ b :: l' := hp.mem_iff.mp (List.mem_cons_self ..)
      have hb : b ∈ a :: l := hp.mem_iff.mpr (List.mem_cons_self ..)
      rcases List.mem_cons.mp ha with e | ha
      · exact e
      rcases List.mem_cons.mp hb with e | hb
      · exact e.symm
      exact tot_St _ _ ((List.pairwise_cons.mp h').1 a ha) ((List.pairwise_cons.mp h).1 b hb)
    subst hab
    rw [sorted_unique (List.pairwise_cons.mp h).2 (List.pairwise_cons.mp h').2 (List.Perm.cons_inv hp)]
theorem isort_perm_eq {l l' : List St} (h : l.Perm l') : isort ltSt l = isort ltSt l' :=
  sorted_unique (isort_sorted swo_St l) (isort_sorted swo_St l') (((isort_perm ltSt l).trans h).trans (isort_perm ltSt l').symm)

/-- A map's keys, as stamps. -/
def keysOf : List (V × V) → Option (List St)
  | [] => some []
  | (.agg [.int .i64 a, .int .i64 b], _) :: r => (keysOf r).map ((a, b) :: ·)
  | _ :: _ => none
theorem keysOf_is : ∀ {es : List (V × V)} {ks : List St}, keysOf es = some ks → ks.length = es.length ∧ ∀ (i : Nat) (kv : V × V), es[i]? = some kv → kv.1 = V.agg (stC (ks.getD i (0, 0)))
  | [], ks, h => by
    cases h
    exact ⟨rfl, fun i kv h => by simp at h⟩
  | x :: r, ks, h => by
    unfold keysOf at h
    split at h
    · rename_i h'; cases h'
    · rename_i a b v r' he
      cases he
      simp only [Option.map_eq_some_iff] at h
      obtain ⟨ks', h1, rfl⟩ := h
      obtain ⟨h2, h3⟩ := keysOf_is h1
      refine ⟨by simp [h2], fun i kv hi => ?_⟩
      cases i with
      | zero => simp at hi; subst hi; rfl
      | succ i =>
        simp only [List.getElem?_cons_succ] at hi
        have := h3 i kv hi
        rw [this]
        simp [List.getD_eq_getElem?_getD]
    · cases h

/-- What a map's keys come to, sorted. -/
def pSortedK (args : List V) (M : Mem) : Option KeepR :=
  match args with
  | [.fn f1 [] [.ptr (some (bx, 0))], .fn f2 [] []] => cond (Nat.beq f1 F_maps_Keys_Stamp_Spot_c1) (cond (Nat.beq f2 F_stamp_Compare) (match M.get bx with
    | some (.cells [.map (some bm)] _) => (match M.get bm with
      | some (.map es) => (keysOf es).bind fun ks => cond (Nat.ble ((ks.length + 1) * 16) maxRoom) (some (match ks with
        | [] => .flat (.slice none 0 (.exact 0))
        | x :: xs => .row (xs.length + 1) 2 (elSt.all (isort ltSt (x :: xs))))) none
      | _ => none)
    | _ => none) none) none
  | _ => none
end Go.Am.Tryd

/- The keys sorted, as a part of the machine. -/
namespace Go.Am.Tryd
open Go Go.Am Go.Proofs Go.Sort Go.Shelf
set_option maxRecDepth 100000
set_option linter.unusedSimpArgs false
set_option linter.unusedVariables false

theorem pSortedK_ok : CallOK Tryd.prog gl0 fun f' args M => if f' = F_slices_SortedFunc_Stamp then (pSortedK args M).map fun r => r.res M else none := by
  refine callOK_keep ⟨_, Tryd.func45, (by kernel_rfl), (by kernel_rfl)⟩ ?_
  intro args M r h hwf
  unfold pSortedK at h
  split at h
  · rename_i f1 bx f2
    obtain ⟨e1, h1⟩ := cond_some h
    clear h
    obtain ⟨e2, h⟩ := cond_some h1
    clear h1
    obtain rfl : f1 = F_maps_Keys_Stamp_Spot_c1 := Nat.eq_of_beq_eq_true e1
    obtain rfl : f2 = F_stamp_Compare := Nat.eq_of_beq_eq_true e2
    split at h
    · rename_i bm ro hbx
      split at h
      · rename_i es hbm
        simp only [Option.bind_eq_some_iff] at h
        obtain ⟨ks, hks, h⟩ := h
        obtain ⟨hl, h⟩ := cond_some h
        rw [ble_iff, decide_eq_true_eq] at hl
        obtain ⟨hlen, hkey⟩ := keysOf_is hks
        have hne : bx ≠ bm := by rintro rfl; rw [hbx] at hbm; cases hbm
        refine ⟨[bm], fun E w us hR hA b hb => ?_, fun Mz hz => ?_⟩
        · simp only [List.mem_singleton] at hb
          subst hb
          refine ⟨⟨es, hbm⟩, ?_⟩
          cases hA with
          | cons h1 t =>
            cases h1 with
            | fn ha hb =>
              rename_i b'
              generalize hq : b'.toList = q at hb
              cases hb with
              | cons h2 t2 =>
                cases h2 with
                | ptr hE =>
                  obtain ⟨o, ho, hr⟩ := hR.at_ _ _ _ _ hE
                  rw [hbx] at ho
                  cases ho
                  obtain ⟨arr, elem, fz, hx, hCR, _⟩ := hr
                  obtain ⟨u, hu, hv⟩ := hCR 0 _ rfl
                  cases hv with
                  | map hE2 => exact ⟨_, hE2⟩
        · obtain ⟨es', ents, clock, hz1, hz2, hz3, hz4⟩ := hz.at_ bm (by simp)
          rw [hbm] at hz1
          cases hz1
          have hlt : ∀ c o, Mz.get c = some o → c < Mz.next := fun c o hc => by
            rcases Nat.lt_or_ge c Mz.next with h1 | h1
            · exact h1
            · by_cases hcb : c = bm
              · subst hcb
                rw [hwf c (by rw [← hz.next]; exact h1)] at hbm; cases hbm
              · rw [hz.other c (by simpa using hcb), hwf c (by rw [← hz.next]; exact h1)] at hc; cases hc
          have hbz : Mz.get bx = some (.cells [.map (some bm)] ro) := (hz.other bx (by simpa using hne)).trans hbx
          have hle : ks.length ≤ maxRoom := Nat.le_trans (by omega) hl
          refine (SortedFunc_runs (SeqP.of (Keys_seq bx bm ro es ents clock ks hkey (by omega) hz4)) hl (fun ys h => by rw [h.length_eq]; exact hle) Mz ?_).mono ?_
          · intro M' hk _
            exact ⟨(hk bx (hlt _ _ hbz)).trans hbz, (hk bm (hlt _ _ hz2)).trans hz2⟩
          · rintro v M' ⟨ys, hp, h1, h2, h6⟩
            rw [isort_perm_eq hp, hp.length_eq] at h2
            cases h
            refine ⟨fun c hc => h1 c (by rw [hz.next]; exact hc), ?_⟩
            cases hx : ks with
            | nil =>
              subst hx
              exact ⟨rfl, h6 (List.Perm.eq_nil hp)⟩
            | cons x l =>
              subst hx
              refine ⟨elSt.all_flat _, ?_⟩
              generalize hq : elSt.all (isort ltSt (x :: l)) = cs at h2
              generalize hn : (x :: l).length = n at h2
              cases h2 with
              | nil => simp at hn
              | row a b c d => exact ⟨_, by rw [← hz.next]; exact c, by rw [← hn]; rfl, a⟩
      · cases h
    · cases h
  · cases h

def D1t : Decls := D1.addM F_slices_SortedFunc_Stamp (fun args M => (pSortedK args M).map fun r => r.res M)
theorem dok1t : DOK Tryd.prog gl0 D1t := dok1.addM pSortedK_ok
end Go.Am.Tryd

/- Nodes' spots in a map; what stands above. -/
namespace Go.Am.Tryd
open Go Go.Am Go.Proofs Go.Sort Go.Shelf
set_option maxRecDepth 100000
set_option linter.unusedSimpArgs false
set_option linter.unusedVariables false

abbrev Spot := St × List UInt8
def spC (s : Spot) : List V := [.int .i64 s.1.1, .int .i64 s.1.2, .str s.2]
def sp0 : Spot := ((0, 0), [])
/-- A tree's map. -/
abbrev Tr := List (St × Spot)
def encM (l : Tr) : List (V × V) := l.map fun p => (.agg (stC p.1), .agg (spC p.2))
def getS : Tr → St → Option Spot
  | [], _ => none
  | p :: r, k => if k = p.1 then some p.2 else getS r k
def idxS : Tr → St → Option Nat
  | [], _ => none
  | p :: r, k => if k = p.1 then some 0 else (idxS r k).map (· + 1)

theorem st_same (a b : St) : vsame ⟨true, [.int .i64, .int .i64]⟩ (.agg (stC a)) (.agg (stC b)) = some (decide (a = b)) := by
  obtain ⟨a1, a2⟩ := a
  obtain ⟨b1, b2⟩ := b
  simp only [stC]
  rw [same_two]
  simp [Prod.ext_iff]

theorem mapIdx_is (k : St) : ∀ l : Tr, mapIdx ⟨true, [.int .i64, .int .i64]⟩ (.agg (stC k)) (encM l) = some (idxS l k)
  | [] => rfl
  | p :: r => by
    show (match vsame _ (.agg (stC k)) (.agg (stC p.1)) with | some true => _ | some false => _ | none => _) = _
    rw [st_same]
    unfold idxS
    by_cases h : k = p.1
    · simp only [h, decide_true, if_true]
    · simp only [h, decide_false, if_false]
      have := mapIdx_is k r
      unfold encM at this
      rw [this]
      rfl
theorem idx_get (k : St) : ∀ l : Tr, ((idxS l k).bind fun i => (encM l)[i]?.map (·.2)) = (getS l k).map fun s => .agg (spC s)
  | [] => rfl
  | p :: r => by
    unfold idxS getS
    by_cases h : k = p.1
    · simp only [h, if_true]; rfl
    · simp only [h, if_false]
      rw [← idx_get k r]
      cases idxS r k <;> rfl

/-- What a look tells. -/
def lookV (o : Option Spot) : V := match o with
  | some s => .tup [.agg (spC s), .bool true]
  | none => .tup [.agg (spC sp0), .bool false]
theorem look_is {M : Mem} {b : Nat} {l : Tr} (h : mapAt M b = some (encM l)) (k : St) : vlookup ⟨true, [.int .i64, .int .i64]⟩ (.agg [.int .i64 0, .int .i64 0, .str []]) true M (.map (some b)) (.agg (stC k)) = some (lookV (getS l k)) := by
  have hok : Sh.ok ⟨true, [.int .i64, .int .i64]⟩ (.agg (stC k)) = true := rfl
  simp only [vlookup, h, Option.bind_some, hok, cond_true, mapIdx_is, Option.map_some, idx_get]
  cases getS l k <;> rfl

def upL (l : Tr) : Nat → St → Option (List St)
  | 0, _ => none
  | f + 1, n => match getS l n with
    | none => some []
    | some s => (upL l f s.1).map (s.1 :: ·)

theorem x_dops {P : Program} {gl : Nat → Bool} {n : Nat} {fr : Fr} {M : Mem} {Q : XQ} {D : Decls} (hD : DOK P gl D) {l : List Item} {q : Tg Q} (h : W D n (.ops l) fr M (Q := Q) ⟨⟩) : xw P gl n (.dops l) false fr M q := by
  obtain ⟨k, e, fr', M', hx, hq⟩ := h
  show WX P gl n (.dops l) false fr M Q
  simp only [exec, Option.map_eq_some_iff] at hx
  obtain ⟨⟨f2, m2⟩, h1, h2⟩ := hx
  cases h2
  exact ⟨rfl, callN D k, _, _, callN_sound hD k, h1, hq⟩
end Go.Am.Tryd

/- What stands above a node, handed on. -/
namespace Go.Am.Tryd
open Go Go.Am Go.Proofs Go.Sort Go.Shelf
set_option maxRecDepth 100000
set_option linter.unusedSimpArgs false
set_option linter.unusedVariables false

def PathN (l : Tr) (n : St) (r : List St) : Prop := ∃ f, upL l f n = some r
def PathO (l : Tr) : Option Spot → List St → Prop
  | none, ys => ys = []
  | some s, ys => ∃ r, ys = s.1 :: r ∧ PathN l s.1 r
theorem PathN.look {l : Tr} {n : St} {r : List St} (h : PathN l n r) : PathO l (getS l n) r := by
  obtain ⟨f, h⟩ := h
  cases f with
  | zero => cases h
  | succ f =>
    unfold upL at h
    cases hg : getS l n with
    | none => rw [hg] at h; cases h; rfl
    | some s =>
      rw [hg] at h
      simp only [Option.map_eq_some_iff] at h
      obtain ⟨r', h1, rfl⟩ := h
      exact ⟨r', rfl, f, h1⟩

theorem spC_len (s : Spot) : (spC s).length = 3 := rfl
theorem lookV_parts (o : Option Spot) : lookV o = .tup [.agg (spC (o.getD sp0)), .bool o.isSome] := by cases o <;> rfl

set_option maxHeartbeats 1000000 in
theorem Up_loop (b bt tc bm : Nat) (rt rc : Bool) (l : Tr) (N : Nat) (J Jx : List St → Mem → Prop) (M0 : Mem) (path : List St)
    (hG : ∀ pre M, J pre M → M.get bt = some (.cells [.ptr (some (tc, 0))] rt) ∧ M.get tc = some (.cells [.map (some bm)] rc) ∧ mapAt M bm = some (encM l))
    (hps : ∀ pre M o o', J pre M → J pre ((M.push o).set M.next o'))
    (hsp : ∀ pre M' c x y t, J pre M' → M0.next ≤ c → isSpot M' c → J pre (M'.set c (.cells [.int .i64 x, .int .i64 y, .str t] false)))
    (hY : ∀ pre x M', J pre M' → pre.length < N → XYield Tryd.prog gl0 b [.agg (stC x)] M' fun v M'' => (v = .bool true ∧ J (pre ++ [x]) M'' ∧ M'.next ≤ M''.next ∧ (∀ c, c < M'.next → isIter M' c → M''.get c = M'.get c) ∧ ∀ c, M0.next ≤ c → c < M'.next → isSpot M' c → M''.get c = M'.get c) ∨ (v = .bool false ∧ Jx (pre ++ [x]) M''))
    (Q : XQ) (hQ : ∀ fr M, J path M → Q (.exit 0) fr M) (hQx : ∀ pre fr M, pre <+: path → Jx pre M → Q .ret fr M) :
    ∀ (ys pre : List St) (os : Option Spot) (c4 : Nat) (fr : Fr) (M : Mem), PathO l os ys → pre ++ ys = path → path.length ≤ N → J pre M → M0.next ≤ M.next → M0.next ≤ c4 → c4 < M.next → M.get c4 = some (.cells (spC (os.getD sp0)) false) →
      fr.rd 0 = .yld b → fr.rd 1 = .ptr (some (bt, 0)) → fr.rd 4 = .ptr (some (c4, 0)) → fr.rd 5 = .bool os.isSome → roundsX (WX Tryd.prog gl0 32 X_tree_Tree_up_c1_6 false) (ys.length + 1) fr M Q := by
  intro ys
  induction ys with
  | nil =>
    intro pre os c4 fr M hp hpre hN hJ hMn hc0 hc1 hc h0 h1 h4 h5
    have ho : os = none := by
      cases os with
      | none => rfl
      | some s => obtain ⟨r, e, _⟩ := hp; cases e
    subst ho
    rw [rounds_x_succ]
    refine xw_of ?_
    unfold X_tree_Tree_up_c1_6
    simp only [Option.isSome_none] at h5
    simp -dsimp only [↓x_seq', ↓x_ops, ↓x_skip, ↓x_ret, ↓x_exit, ↓x_block', ↓x_cond', cond_true', cond_false', ↓i_nil, ↓i_plain, ↓i_guard, xs_val, xs_call, xs_yield, xg_true, xg_false, ↓n_normal, ↓n_ret, ↓n_exit, ↓b_normal, ↓b_ret, ↓b_exit, ↓xe_normal, ↓xe_ret, e_some, yieldOf, go_sem, ↓reduceIte, Nat.reduceEqDiff, Nat.reduceLT, Nat.reduceSub, X_tree_Tree_up_c1_0, X_tree_Tree_up_c1_1, X_tree_Tree_up_c1_2, X_tree_Tree_up_c1_3, X_tree_Tree_up_c1_4, X_tree_Tree_up_c1_5, h5]
    rw [List.append_nil] at hpre
    subst hpre
    exact hQ _ _ hJ
  | cons y r ih =>
    intro pre os c4 fr M hp hpre hN hJ hMn hc0 hc1 hc h0 h1 h4 h5
    obtain ⟨s, rfl⟩ : ∃ s, os = some s := by
      cases os with
      | none => cases hp
      | some s => exact ⟨s, rfl⟩
    obtain ⟨r', e, hpath⟩ := hp
    cases e
    simp only [Option.isSome_some] at h5
    simp only [Option.getD_some] at hc
    rw [rounds_x_succ]
    refine xw_of ?_
    unfold X_tree_Tree_up_c1_6
    have hrd2 : rdCells (spC s) 0 2 = some (stC s.1) := rfl
    have hrd3 : rdCells (spC s) 0 3 = some (spC s) := rfl
    simp -dsimp only [↓x_seq', ↓x_ops, ↓x_skip, ↓x_ret, ↓x_exit, ↓x_block', ↓x_cond', cond_true', cond_false', ↓i_nil, ↓i_plain, ↓i_guard, xs_val, xs_call, xs_yield, xg_true, xg_false, ↓n_normal, ↓n_ret, ↓n_exit, ↓b_normal, ↓b_ret, ↓b_exit, ↓xe_normal, ↓xe_ret, e_some, yieldOf, go_sem, ↓reduceIte, Nat.reduceEqDiff, Nat.reduceLT, Nat.reduceSub, X_tree_Tree_up_c1_0, X_tree_Tree_up_c1_1, X_tree_Tree_up_c1_2, X_tree_Tree_up_c1_3, X_tree_Tree_up_c1_4, X_tree_Tree_up_c1_5, h0, h4, h5, vload, vptr, Mem.read, hc, hrd2, Nat.add_zero]
    have hlen : pre.length < N := by
      have := congrArg List.length hpre
      simp at this
      omega
    refine xyield_of (hY pre s.1 M hJ hlen) ?_
    rintro v M2 (⟨rfl, hJ2, hn2, _, hk2⟩ | ⟨rfl, hJ2⟩)
    · have hc2 : M2.get c4 = some (.cells (spC s) false) := (hk2 c4 hc0 hc1 ⟨_, _, _, hc⟩).trans hc
      have hw0 := write_full (M := M2.push (.cells [.int .i64 0, .int .i64 0, .str []] false)) (b := M2.next) (vs := spC s) (Mem.get_push_same _ _) rfl rfl
      simp -dsimp only [↓x_seq', ↓x_ops, ↓x_skip, ↓x_ret, ↓x_exit, ↓x_block', ↓x_cond', cond_true', cond_false', ↓i_nil, ↓i_plain, ↓i_guard, xs_val, xs_call, xs_yield, xg_true, xg_false, ↓n_normal, ↓n_ret, ↓n_exit, ↓b_normal, ↓b_ret, ↓b_exit, ↓xe_normal, ↓xe_ret, e_some, yieldOf, go_sem, ↓reduceIte, Nat.reduceEqDiff, Nat.reduceLT, Nat.reduceSub, X_tree_Tree_up_c1_0, X_tree_Tree_up_c1_1, X_tree_Tree_up_c1_2, X_tree_Tree_up_c1_3, X_tree_Tree_up_c1_4, X_tree_Tree_up_c1_5, h4, vload, vptr, Mem.read, hc2, hrd3, Nat.add_zero, vstore, V.cells, spC_len, hw0, Nat.reduceEqDiff]
      have hJ3 := hps _ _ (.cells [.int .i64 0, .int .i64 0, .str []] false) (.cells (spC s) false) hJ2
      have hc3 : ((M2.push (.cells [.int .i64 0, .int .i64 0, .str []] false)).set M2.next (.cells (spC s) false)).get M2.next = some (.cells (spC s) false) := Mem.get_set_same _ _ _
      have hn3 : ((M2.push (.cells [.int .i64 0, .int .i64 0, .str []] false)).set M2.next (.cells (spC s) false)).next = M2.next + 1 := rfl
      generalize (M2.push (.cells [.int .i64 0, .int .i64 0, .str []] false)).set M2.next (.cells (spC s) false) = M3 at *
      obtain ⟨g1, g2, g3⟩ := hG _ _ hJ3
      refine x_dops dok0 ?_
      have hlk := look_is g3 s.1
      have hw3 := write_full (M := M3) (b := M2.next) (vs := spC ((getS l s.1).getD sp0)) hc3 rfl rfl
      have hJ4 : J (pre ++ [s.1]) (M3.set M2.next (.cells (spC ((getS l s.1).getD sp0)) false)) := hsp _ M3 M2.next ((getS l s.1).getD sp0).1.1 ((getS l s.1).getD sp0).1.2 ((getS l s.1).getD sp0).2 hJ3 (by omega) ⟨_, _, _, hc3⟩
      simp -dsimp only [↓w_seq, ↓w_ops, ↓w_skip, ↓w_ret, ↓w_exit, ↓w_scope, ↓w_block, ↓w_cond, cond_true', cond_false', ↓t_nil, ↓t_plain, ↓t_guard, ↓t_gagain, ↓t_again, t_val, t_call, g_true, g_false, ga_true, ga_false, a_val, a_call, ↓n_normal, ↓n_ret, ↓n_exit, ↓b_normal, ↓b_ret, ↓b_exit, ↓e_normal, ↓e_ret, e_some, go_sem, ↓reduceIte, Nat.reduceEqDiff, Nat.reduceLT, Nat.reduceSub, X_tree_Tree_up_c1_0, X_tree_Tree_up_c1_1, X_tree_Tree_up_c1_2, X_tree_Tree_up_c1_3, X_tree_Tree_up_c1_4, X_tree_Tree_up_c1_5, h1, vload, vptr, Mem.read, g1, g2, hc3, hrd2, Nat.add_zero, List.getElem?_cons_zero, List.getElem?_cons_succ, hlk, lookV_parts, vstore, V.cells, spC_len, hw3, Nat.reduceEqDiff]
      have hc4 : (M3.set M2.next (.cells (spC ((getS l s.1).getD sp0)) false)).get M2.next = some (.cells (spC ((getS l s.1).getD sp0)) false) := Mem.get_set_same _ _ _
      have hn4 : (M3.set M2.next (.cells (spC ((getS l s.1).getD sp0)) false)).next = M2.next + 1 := hn3
      generalize M3.set M2.next (.cells (spC ((getS l s.1).getD sp0)) false) = M4 at *
      have q1 : M0.next ≤ M2.next := by omega
      have q2 : M0.next ≤ M4.next := by rw [hn4]; omega
      have q3 : M2.next < M4.next := by rw [hn4]; exact Nat.lt_succ_self _
      have q4 : pre ++ [s.1] ++ r = path := by rw [← hpre]; simp
      have q5 := hpath.look
      clear hw3 hw0 hlk hG hY hsp hps hQ hQx
      have ih' := ih (pre ++ [s.1]) (getS l s.1) M2.next
      have ih2 := fun fr => ih' fr M4 q5 q4 hN hJ4 q2 q1 q3 hc4
      refine ih2 _ ?_ ?_ ?_ ?_
      all_goals simp only [go_sem, ↓reduceIte, Nat.reduceEqDiff, Nat.reduceLT, Nat.reduceSub, h0, h1]
    · simp -dsimp only [↓x_seq', ↓x_ops, ↓x_skip, ↓x_ret, ↓x_exit, ↓x_block', ↓x_cond', cond_true', cond_false', ↓i_nil, ↓i_plain, ↓i_guard, xs_val, xs_call, xs_yield, xg_true, xg_false, ↓n_normal, ↓n_ret, ↓n_exit, ↓b_normal, ↓b_ret, ↓b_exit, ↓xe_normal, ↓xe_ret, e_some, yieldOf, go_sem, ↓reduceIte, Nat.reduceEqDiff, Nat.reduceLT, Nat.reduceSub, X_tree_Tree_up_c1_0, X_tree_Tree_up_c1_1, X_tree_Tree_up_c1_2, X_tree_Tree_up_c1_3, X_tree_Tree_up_c1_4, X_tree_Tree_up_c1_5]
      refine hQx _ _ _ ⟨r, ?_⟩ hJ2
      rw [← hpre]; simp
end Go.Am.Tryd

/- tree.up's function, as one that is ranged over. -/
namespace Go.Am.Tryd
open Go Go.Am Go.Proofs Go.Sort Go.Shelf
set_option maxRecDepth 100000
set_option linter.unusedSimpArgs false
set_option linter.unusedVariables false

set_option maxHeartbeats 1000000 in
theorem Up_seq (bt bn tc bm : Nat) (rt rn rc : Bool) (l : Tr) (n : St) (path : List St) (hp : PathN l n path) :
    SeqP F_tree_Tree_up_c1 [] [.ptr (some (bt, 0)), .ptr (some (bn, 0))] (fun x => .agg (stC x))
      (fun M => (M.get bt = some (.cells [.ptr (some (tc, 0))] rt) ∧ M.get tc = some (.cells [.map (some bm)] rc) ∧ mapAt M bm = some (encM l)) ∧ M.get bn = some (.cells (stC n) rn)) (fun ys => ys = path) (fun pre => pre <+: path) path.length := by
  intro b J Jx M hG hpu hps hi hsp hY hJ
  refine XRuns.walk mixed Tryd.func77 b_tree_Tree_up_c1 n_tree_Tree_up_c1 r_tree_Tree_up_c1 (by rfl) ?_
  unfold X_tree_Tree_up_c1
  obtain ⟨⟨g1, g2, g3⟩, g4⟩ := hG _ _ hJ
  have hlk := look_is g3 n
  have hrd2 : rdCells (stC n) 0 2 = some (stC n) := rfl
  have hw0 := write_full (M := M.push (.cells [.int .i64 0, .int .i64 0, .str []] false)) (b := M.next) (vs := spC ((getS l n).getD sp0)) (Mem.get_push_same _ _) rfl rfl
  simp -dsimp only [↓x_seq', ↓x_ops, ↓x_skip, ↓x_ret, ↓x_exit, ↓x_block', ↓x_cond', cond_true', cond_false', ↓i_nil, ↓i_plain, ↓i_guard, xs_val, xs_call, xs_yield, xg_true, xg_false, ↓n_normal, ↓n_ret, ↓n_exit, ↓b_normal, ↓b_ret, ↓b_exit, ↓xe_normal, ↓xe_ret, e_some, yieldOf, go_sem, ↓reduceIte, Nat.reduceEqDiff, Nat.reduceLT, Nat.reduceSub, List.singleton_append, List.cons_append, List.nil_append]
  refine x_dops dok0 ?_
  simp -dsimp only [↓w_seq, ↓w_ops, ↓w_skip, ↓w_ret, ↓w_exit, ↓w_scope, ↓w_block, ↓w_cond, cond_true', cond_false', ↓t_nil, ↓t_plain, ↓t_guard, ↓t_gagain, ↓t_again, t_val, t_call, g_true, g_false, ga_true, ga_false, a_val, a_call, ↓n_normal, ↓n_ret, ↓n_exit, ↓b_normal, ↓b_ret, ↓b_exit, ↓e_normal, ↓e_ret, e_some, go_sem, ↓reduceIte, Nat.reduceEqDiff, Nat.reduceLT, Nat.reduceSub, X_tree_Tree_up_c1_0, X_tree_Tree_up_c1_1, X_tree_Tree_up_c1_2, X_tree_Tree_up_c1_3, X_tree_Tree_up_c1_4, X_tree_Tree_up_c1_5, vload, vptr, Mem.read, g1, g2, g4, hrd2, Nat.add_zero, List.getElem?_cons_zero, List.getElem?_cons_succ, hlk, lookV_parts, vstore, V.cells, spC_len, hw0, Nat.reduceEqDiff, List.singleton_append, List.cons_append, List.nil_append]
  have hJ1 := hps _ _ (.cells [.int .i64 0, .int .i64 0, .str []] false) (.cells (spC ((getS l n).getD sp0)) false) hJ
  have hc1 : ((M.push (.cells [.int .i64 0, .int .i64 0, .str []] false)).set M.next (.cells (spC ((getS l n).getD sp0)) false)).get M.next = some (.cells (spC ((getS l n).getD sp0)) false) := Mem.get_set_same _ _ _
  have hn1 : ((M.push (.cells [.int .i64 0, .int .i64 0, .str []] false)).set M.next (.cells (spC ((getS l n).getD sp0)) false)).next = M.next + 1 := rfl
  generalize (M.push (.cells [.int .i64 0, .int .i64 0, .str []] false)).set M.next (.cells (spC ((getS l n).getD sp0)) false) = M1 at *
  have q3 : M.next < M1.next := by rw [hn1]; exact Nat.lt_succ_self _
  have q2 : M.next ≤ M1.next := Nat.le_of_lt q3
  have q5 := hp.look
  have hG' : ∀ pre M, J pre M → M.get bt = some (.cells [.ptr (some (tc, 0))] rt) ∧ M.get tc = some (.cells [.map (some bm)] rc) ∧ mapAt M bm = some (encM l) := fun pre M h => (hG pre M h).1
  clear hw0 hlk hpu hi
  simp -dsimp only [↓x_seq', ↓x_ops, ↓x_skip, ↓x_ret, ↓x_exit, ↓x_block', ↓x_cond', cond_true', cond_false', ↓i_nil, ↓i_plain, ↓i_guard, xs_val, xs_call, xs_yield, xg_true, xg_false, ↓n_normal, ↓n_ret, ↓n_exit, ↓b_normal, ↓b_ret, ↓b_exit, ↓xe_normal, ↓xe_ret, e_some, yieldOf, go_sem, ↓reduceIte, Nat.reduceEqDiff, Nat.reduceLT, Nat.reduceSub]
  refine ⟨path.length + 1, ?_⟩
  have key := fun Q hQ hQx => Up_loop b bt tc bm rt rc l path.length J Jx M path hG' hps hsp hY Q hQ hQx path [] (getS l n) M.next
  have key2 := fun Q hQ hQx fr => key Q hQ hQx fr M1 q5 rfl (Nat.le_refl _) hJ1 q2 (Nat.le_refl _) q3 hc1
  refine key2 _ ?_ ?_ _ ?_ ?_ ?_ ?_
  · intro fr M' h
    simp -dsimp only [↓x_seq', ↓x_ops, ↓x_skip, ↓x_ret, ↓x_exit, ↓x_block', ↓x_cond', cond_true', cond_false', ↓i_nil, ↓i_plain, ↓i_guard, xs_val, xs_call, xs_yield, xg_true, xg_false, ↓n_normal, ↓n_ret, ↓n_exit, ↓b_normal, ↓b_ret, ↓b_exit, ↓xe_normal, ↓xe_ret, e_some, yieldOf, go_sem, ↓reduceIte, Nat.reduceEqDiff, Nat.reduceLT, Nat.reduceSub]
    exact .inl ⟨path, rfl, h⟩
  · intro pre fr M' hpre h
    simp -dsimp only [↓x_seq', ↓x_ops, ↓x_skip, ↓x_ret, ↓x_exit, ↓x_block', ↓x_cond', cond_true', cond_false', ↓i_nil, ↓i_plain, ↓i_guard, xs_val, xs_call, xs_yield, xg_true, xg_false, ↓n_normal, ↓n_ret, ↓n_exit, ↓b_normal, ↓b_ret, ↓b_exit, ↓xe_normal, ↓xe_ret, e_some, yieldOf, go_sem, ↓reduceIte, Nat.reduceEqDiff, Nat.reduceLT, Nat.reduceSub]
    exact .inr ⟨pre, hpre, h⟩
  all_goals simp only [go_sem, ↓reduceIte, Nat.reduceEqDiff, Nat.reduceLT, Nat.reduceSub]
end Go.Am.Tryd

/- Small functions of the tree: none, node, up; Above. -/
namespace Go.Am.Tryd
open Go Go.Am Go.Proofs Go.Sort Go.Shelf
set_option maxRecDepth 100000
set_option linter.unusedSimpArgs false
set_option linter.unusedVariables false

theorem nil_ptr : vnil .ptr (.ptr none) (.ptr none) = some true := rfl
theorem nil_ptr' (x : Nat × Nat) : vnil .ptr (.ptr (some x)) (.ptr none) = some false := rfl
theorem nil_map : vnil .map (.map none) (.map none) = some true := rfl
theorem nil_map' (x : Nat) : vnil .map (.map (some x)) (.map none) = some false := rfl

theorem none_nil (D : Decls) (hp : D.prim F_tree_Tree_none = none) (hc : D.code.get F_tree_Tree_none = some A_tree_Tree_none) (M : Mem) : Runs D F_tree_Tree_none [.ptr none] M fun v M' => v = .bool true ∧ M' = M := by
  refine Runs.walk (F := A_tree_Tree_none) hp hc (by rfl) ?_
  unfold A_tree_Tree_none
  simp -dsimp only [↓w_seq, ↓w_ops, ↓w_skip, ↓w_ret, ↓w_exit, ↓w_scope, ↓w_block, ↓w_cond, cond_true', cond_false', ↓t_nil, ↓t_plain, ↓t_guard, ↓t_gagain, ↓t_again, t_val, t_call, g_true, g_false, ga_true, ga_false, a_val, a_call, ↓n_normal, ↓n_ret, ↓n_exit, ↓b_normal, ↓b_ret, ↓b_exit, ↓e_normal, ↓e_ret, e_some, go_sem, ↓reduceIte, Nat.reduceEqDiff, Nat.reduceLT, Nat.reduceSub, A_tree_Tree_none_0, A_tree_Tree_none_1, nil_ptr, nil_ptr', nil_map, nil_map', Option.map_some]
  exact ⟨trivial, trivial⟩
theorem none_empty (D : Decls) (hp : D.prim F_tree_Tree_none = none) (hc : D.code.get F_tree_Tree_none = some A_tree_Tree_none) (M : Mem) (tc : Nat) (rc : Bool) (h : M.get tc = some (.cells [.map none] rc)) : Runs D F_tree_Tree_none [.ptr (some (tc, 0))] M fun v M' => v = .bool true ∧ M' = M := by
  refine Runs.walk (F := A_tree_Tree_none) hp hc (by rfl) ?_
  unfold A_tree_Tree_none
  simp -dsimp only [↓w_seq, ↓w_ops, ↓w_skip, ↓w_ret, ↓w_exit, ↓w_scope, ↓w_block, ↓w_cond, cond_true', cond_false', ↓t_nil, ↓t_plain, ↓t_guard, ↓t_gagain, ↓t_again, t_val, t_call, g_true, g_false, ga_true, ga_false, a_val, a_call, ↓n_normal, ↓n_ret, ↓n_exit, ↓b_normal, ↓b_ret, ↓b_exit, ↓e_normal, ↓e_ret, e_some, go_sem, ↓reduceIte, Nat.reduceEqDiff, Nat.reduceLT, Nat.reduceSub, A_tree_Tree_none_0, A_tree_Tree_none_1, nil_ptr, nil_ptr', nil_map, nil_map', Option.map_some, vload, vptr, Mem.read, h, Nat.add_zero, List.getElem?_cons_zero]
  exact ⟨trivial, trivial⟩
theorem none_some (D : Decls) (hp : D.prim F_tree_Tree_none = none) (hc : D.code.get F_tree_Tree_none = some A_tree_Tree_none) (M : Mem) (tc bm : Nat) (rc : Bool) (h : M.get tc = some (.cells [.map (some bm)] rc)) : Runs D F_tree_Tree_none [.ptr (some (tc, 0))] M fun v M' => v = .bool false ∧ M' = M := by
  refine Runs.walk (F := A_tree_Tree_none) hp hc (by rfl) ?_
  unfold A_tree_Tree_none
  simp -dsimp only [↓w_seq, ↓w_ops, ↓w_skip, ↓w_ret, ↓w_exit, ↓w_scope, ↓w_block, ↓w_cond, cond_true', cond_false', ↓t_nil, ↓t_plain, ↓t_guard, ↓t_gagain, ↓t_again, t_val, t_call, g_true, g_false, ga_true, ga_false, a_val, a_call, ↓n_normal, ↓n_ret, ↓n_exit, ↓b_normal, ↓b_ret, ↓b_exit, ↓e_normal, ↓e_ret, e_some, go_sem, ↓reduceIte, Nat.reduceEqDiff, Nat.reduceLT, Nat.reduceSub, A_tree_Tree_none_0, A_tree_Tree_none_1, nil_ptr, nil_ptr', nil_map, nil_map', Option.map_some, vload, vptr, Mem.read, h, Nat.add_zero, List.getElem?_cons_zero]
  exact ⟨trivial, trivial⟩

theorem node_runs (D : Decls) (hp : D.prim F_tree_Tree_node = none) (hc : D.code.get F_tree_Tree_node = some A_tree_Tree_node) (M : Mem) (tc bm : Nat) (rc : Bool) (l : Tr) (n : St) (htc : tc < M.next) (hbm : bm < M.next) (h : M.get tc = some (.cells [.map (some bm)] rc)) (h2 : mapAt M bm = some (encM l)) :
    Runs D F_tree_Tree_node [.ptr (some (tc, 0)), .agg (stC n)] M fun v M' => v = .bool (getS l n).isSome ∧ Grew M M' := by
  refine Runs.walk (F := A_tree_Tree_node) hp hc (by rfl) ?_
  unfold A_tree_Tree_node
  have k1 : (M.push (.cells (stC n) false)).get tc = some (.cells [.map (some bm)] rc) := (Mem.get_push_ne _ _ (by omega)).trans h
  have k2 : mapAt (M.push (.cells (stC n) false)) bm = some (encM l) := by
    unfold mapAt at h2 ⊢
    rw [Mem.get_push_ne _ _ (by omega)]
    exact h2
  have k3 : (M.push (.cells (stC n) false)).get M.next = some (.cells (stC n) false) := Mem.get_push_same _ _
  have hn1 : (M.push (.cells (stC n) false)).next = M.next + 1 := rfl
  have hG1 : Grew M (M.push (.cells (stC n) false)) := Grew.push _ _
  simp -dsimp only [↓w_seq, ↓w_ops, ↓w_skip, ↓w_ret, ↓w_exit, ↓w_scope, ↓w_block, ↓w_cond, cond_true', cond_false', ↓t_nil, ↓t_plain, ↓t_guard, ↓t_gagain, ↓t_again, t_val, t_call, g_true, g_false, ga_true, ga_false, a_val, a_call, ↓n_normal, ↓n_ret, ↓n_exit, ↓b_normal, ↓b_ret, ↓b_exit, ↓e_normal, ↓e_ret, e_some, go_sem, ↓reduceIte, Nat.reduceEqDiff, Nat.reduceLT, Nat.reduceSub, A_tree_Tree_node_0, A_tree_Tree_node_1, A_tree_Tree_node_2, V.cells]
  generalize M.push (.cells (stC n) false) = M1 at *
  have hlk := look_is k2 n
  have hrd2 : rdCells (stC n) 0 2 = some (stC n) := rfl
  have hw0 := write_full (M := M1.push (.cells [.int .i64 0, .int .i64 0, .str []] false)) (b := M1.next) (vs := spC ((getS l n).getD sp0)) (Mem.get_push_same _ _) rfl rfl
  simp -dsimp only [↓w_seq, ↓w_ops, ↓w_skip, ↓w_ret, ↓w_exit, ↓w_scope, ↓w_block, ↓w_cond, cond_true', cond_false', ↓t_nil, ↓t_plain, ↓t_guard, ↓t_gagain, ↓t_again, t_val, t_call, g_true, g_false, ga_true, ga_false, a_val, a_call, ↓n_normal, ↓n_ret, ↓n_exit, ↓b_normal, ↓b_ret, ↓b_exit, ↓e_normal, ↓e_ret, e_some, go_sem, ↓reduceIte, Nat.reduceEqDiff, Nat.reduceLT, Nat.reduceSub, A_tree_Tree_node_0, A_tree_Tree_node_1, A_tree_Tree_node_2, vload, vptr, Mem.read, k1, k3, hrd2, Nat.add_zero, List.getElem?_cons_zero, List.getElem?_cons_succ, hlk, lookV_parts, vstore, V.cells, spC_len, hw0, Nat.reduceEqDiff]
  have hu := Upd.set (M1.push (.cells [.int .i64 0, .int .i64 0, .str []] false)) M1.next (.cells (spC ((getS l n).getD sp0)) false)
  exact ⟨trivial, (hG1.trans (Grew.push _ _)).upd (by omega) hu⟩

theorem up_runs (D : Decls) (hp : D.prim F_tree_Tree_up = none) (hc : D.code.get F_tree_Tree_up = some A_tree_Tree_up) (M : Mem) (t : V) (ht : t.one = true) (htc : t.cells = [t]) (n : St) :
    Runs D F_tree_Tree_up [t, .agg (stC n)] M fun v M' => v = .fn F_tree_Tree_up_c1 [] [.ptr (some (M.next, 0)), .ptr (some (M.next + 1, 0))] ∧ M' = (M.push (.cells [t] false)).push (.cells (stC n) false) := by
  refine Runs.walk (F := A_tree_Tree_up) hp hc (by rfl) ?_
  unfold A_tree_Tree_up
  have hcn : V.cells (.agg (stC n)) = stC n := rfl
  simp -dsimp only [↓w_seq, ↓w_ops, ↓w_skip, ↓w_ret, ↓w_exit, ↓w_scope, ↓w_block, ↓w_cond, cond_true', cond_false', ↓t_nil, ↓t_plain, ↓t_guard, ↓t_gagain, ↓t_again, t_val, t_call, g_true, g_false, ga_true, ga_false, a_val, a_call, ↓n_normal, ↓n_ret, ↓n_exit, ↓b_normal, ↓b_ret, ↓b_exit, ↓e_normal, ↓e_ret, e_some, go_sem, ↓reduceIte, Nat.reduceEqDiff, Nat.reduceLT, Nat.reduceSub, A_tree_Tree_up_0, A_tree_Tree_up_1, htc, hcn, Mem.next_push]
  exact ⟨trivial, trivial⟩
end Go.Am.Tryd

/- tree.Above. -/
namespace Go.Am.Tryd
open Go Go.Am Go.Proofs Go.Sort Go.Shelf
set_option maxRecDepth 100000
set_option linter.unusedSimpArgs false
set_option linter.unusedVariables false

theorem mapAt_keep {M M' : Mem} {b : Nat} {es : List (V × V)} (h : mapAt M b = some es) (hk : M'.get b = M.get b) : mapAt M' b = some es := by
  unfold mapAt at h ⊢
  rw [hk]
  exact h
theorem mapAt_lt {M : Mem} {b : Nat} {es : List (V × V)} (h : mapAt M b = some es) : ∃ o, M.get b = some o := by
  unfold mapAt at h
  split at h
  · exact ⟨_, by assumption⟩
  · exact ⟨_, by assumption⟩
  · cases h

set_option maxHeartbeats 1000000 in
theorem Above_runs (M : Mem) (tc bm : Nat) (rc : Bool) (l : Tr) (n : St) (path : List St) (htc : tc < M.next) (hbm : bm < M.next) (h : M.get tc = some (.cells [.map (some bm)] rc)) (h2 : mapAt M bm = some (encM l)) (hp : PathN l n path) (hN : (path.length + 1) * 16 ≤ maxRoom) :
    XP F_tree_Tree_Above [.ptr (some (tc, 0)), .agg (stC n)] M fun v M' => (∀ c, c < M.next → M'.get c = M.get c) ∧ Hold M.next M' 2 v path.length (elSt.all path) ∧ (path = [] → v = .slice none 0 (.exact 0)) := by
  refine XRuns.walk mixed Tryd.func15 b_tree_Tree_Above n_tree_Tree_Above r_tree_Tree_Above (by rfl) ?_
  unfold X_tree_Tree_Above
  have k1 : (M.push (.cells (stC n) false)).get tc = some (.cells [.map (some bm)] rc) := (Mem.get_push_ne _ _ (by omega)).trans h
  have k2 : mapAt (M.push (.cells (stC n) false)) bm = some (encM l) := mapAt_keep h2 (Mem.get_push_ne _ _ (by omega))
  have k3 : (M.push (.cells (stC n) false)).get M.next = some (.cells (stC n) false) := Mem.get_push_same _ _
  have hn1 : (M.push (.cells (stC n) false)).next = M.next + 1 := rfl
  have hG1 : Grew M (M.push (.cells (stC n) false)) := Grew.push _ _
  have hcn : V.cells (.agg (stC n)) = stC n := rfl
  have hrd2 : rdCells (stC n) 0 2 = some (stC n) := rfl
  simp -dsimp only [↓x_seq', ↓x_ops, ↓x_skip, ↓x_ret, ↓x_exit, ↓x_block', ↓x_cond', cond_true', cond_false', ↓i_nil, ↓i_plain, ↓i_guard, xs_val, xs_call, xs_yield, xg_true, xg_false, ↓n_normal, ↓n_ret, ↓n_exit, ↓b_normal, ↓b_ret, ↓b_exit, ↓xe_normal, ↓xe_ret, e_some, yieldOf, go_sem, ↓reduceIte, Nat.reduceEqDiff, Nat.reduceLT, Nat.reduceSub, X_tree_Tree_Above_0, X_tree_Tree_Above_1, X_tree_Tree_Above_2, X_tree_Tree_Above_3, hcn]
  generalize M.push (.cells (stC n) false) = M1 at *
  refine xcall_of (XRuns.of_runs dok0 (none_some D0 rfl (by rfl) M1 tc bm rc k1)) ?_
  intro v M2 hv
  rw [hv.1, hv.2]
  simp -dsimp only [↓x_seq', ↓x_ops, ↓x_skip, ↓x_ret, ↓x_exit, ↓x_block', ↓x_cond', cond_true', cond_false', ↓i_nil, ↓i_plain, ↓i_guard, xs_val, xs_call, xs_yield, xg_true, xg_false, ↓n_normal, ↓n_ret, ↓n_exit, ↓b_normal, ↓b_ret, ↓b_exit, ↓xe_normal, ↓xe_ret, e_some, yieldOf, go_sem, ↓reduceIte, Nat.reduceEqDiff, Nat.reduceLT, Nat.reduceSub, X_tree_Tree_Above_0, X_tree_Tree_Above_1, X_tree_Tree_Above_2, X_tree_Tree_Above_3, vload, Mem.read, k3, hrd2]
  refine xcall_of (XRuns.of_runs dok0 (up_runs D0 rfl (by rfl) M1 (.ptr (some (tc, 0))) rfl rfl n)) ?_
  intro v M2 hv
  rw [hv.1]
  have hG2 : Grew M1 M2 := by rw [hv.2]; exact (Grew.push _ _).trans (Grew.push _ _)
  have b1 : M2.get M1.next = some (.cells [.ptr (some (tc, 0))] false) := by rw [hv.2, Mem.get_push_ne _ _ (by simp), Mem.get_push_same]
  have b2 : M2.get (M1.next + 1) = some (.cells (stC n) false) := by rw [hv.2]; exact Mem.get_push_same (M1.push _) _
  have hn2 : M2.next = M1.next + 2 := by rw [hv.2]; rfl
  clear hv
  simp -dsimp only [↓x_seq', ↓x_ops, ↓x_skip, ↓x_ret, ↓x_exit, ↓x_block', ↓x_cond', cond_true', cond_false', ↓i_nil, ↓i_plain, ↓i_guard, xs_val, xs_call, xs_yield, xg_true, xg_false, ↓n_normal, ↓n_ret, ↓n_exit, ↓b_normal, ↓b_ret, ↓b_exit, ↓xe_normal, ↓xe_ret, e_some, yieldOf, go_sem, ↓reduceIte, Nat.reduceEqDiff, Nat.reduceLT, Nat.reduceSub, X_tree_Tree_Above_0, X_tree_Tree_Above_1, X_tree_Tree_Above_2, X_tree_Tree_Above_3]
  have c1 : M2.get tc = some (.cells [.map (some bm)] rc) := (hG2.old _ (by omega)).trans k1
  have c2 : mapAt M2 bm = some (encM l) := mapAt_keep k2 (hG2.old _ (by omega))
  refine xcall_of (Collect_runs (Up_seq M1.next (M1.next + 1) tc bm false false rc l n path hp) hN M2 ?_) ?_
  · intro M' hk _
    exact ⟨⟨(hk _ (by omega)).trans b1, (hk _ (by omega)).trans c1, mapAt_keep c2 (hk _ (by omega))⟩, (hk _ (by omega)).trans b2⟩
  · intro v M3 hv
    obtain ⟨xs, rfl, ho, hH, hnil⟩ := hv
    simp -dsimp only [↓x_seq', ↓x_ops, ↓x_skip, ↓x_ret, ↓x_exit, ↓x_block', ↓x_cond', cond_true', cond_false', ↓i_nil, ↓i_plain, ↓i_guard, xs_val, xs_call, xs_yield, xg_true, xg_false, ↓n_normal, ↓n_ret, ↓n_exit, ↓b_normal, ↓b_ret, ↓b_exit, ↓xe_normal, ↓xe_ret, e_some, yieldOf, go_sem, ↓reduceIte, Nat.reduceEqDiff, Nat.reduceLT, Nat.reduceSub, X_tree_Tree_Above_0, X_tree_Tree_Above_1, X_tree_Tree_Above_2, X_tree_Tree_Above_3]
    refine ⟨fun c hc => ?_, hH.lower (by omega), hnil⟩
    rw [ho c (by omega), hG2.old c (by omega)]
    exact hG1.old c hc
end Go.Am.Tryd

/- tree.Above as a part. -/
namespace Go.Am.Tryd
open Go Go.Am Go.Proofs Go.Sort Go.Shelf
set_option maxRecDepth 100000
set_option linter.unusedSimpArgs false
set_option linter.unusedVariables false

def decM : List (V × V) → Option Tr
  | [] => some []
  | (.agg [.int .i64 a, .int .i64 b], .agg [.int .i64 c, .int .i64 d, .str k]) :: r => (decM r).map (((a, b), ((c, d), k)) :: ·)
  | _ :: _ => none
theorem decM_is : ∀ {es : List (V × V)} {l : Tr}, decM es = some l → es = encM l
  | [], l, h => by cases h; rfl
  | x :: r, l, h => by
    unfold decM at h
    split at h
    · rename_i h'; cases h'
    · rename_i a b c d k r' he
      cases he
      simp only [Option.map_eq_some_iff] at h
      obtain ⟨l', h1, rfl⟩ := h
      rw [decM_is h1]
      rfl
    · cases h

theorem Above_nil (M : Mem) (n : St) : XP F_tree_Tree_Above [.ptr none, .agg (stC n)] M fun v M' => v = .slice none 0 (.exact 0) ∧ ∀ c, c < M.next → M'.get c = M.get c := by
  refine XRuns.walk mixed Tryd.func15 b_tree_Tree_Above n_tree_Tree_Above r_tree_Tree_Above (by rfl) ?_
  unfold X_tree_Tree_Above
  have hcn : V.cells (.agg (stC n)) = stC n := rfl
  simp -dsimp only [↓x_seq', ↓x_ops, ↓x_skip, ↓x_ret, ↓x_exit, ↓x_block', ↓x_cond', cond_true', cond_false', ↓i_nil, ↓i_plain, ↓i_guard, xs_val, xs_call, xs_yield, xg_true, xg_false, ↓n_normal, ↓n_ret, ↓n_exit, ↓b_normal, ↓b_ret, ↓b_exit, ↓xe_normal, ↓xe_ret, e_some, yieldOf, go_sem, ↓reduceIte, Nat.reduceEqDiff, Nat.reduceLT, Nat.reduceSub, X_tree_Tree_Above_0, X_tree_Tree_Above_1, X_tree_Tree_Above_2, X_tree_Tree_Above_3, hcn]
  refine xcall_of (XRuns.of_runs dok0 (none_nil D0 rfl (by rfl) _)) ?_
  intro v M2 hv
  rw [hv.1, hv.2]
  simp -dsimp only [↓x_seq', ↓x_ops, ↓x_skip, ↓x_ret, ↓x_exit, ↓x_block', ↓x_cond', cond_true', cond_false', ↓i_nil, ↓i_plain, ↓i_guard, xs_val, xs_call, xs_yield, xg_true, xg_false, ↓n_normal, ↓n_ret, ↓n_exit, ↓b_normal, ↓b_ret, ↓b_exit, ↓xe_normal, ↓xe_ret, e_some, yieldOf, go_sem, ↓reduceIte, Nat.reduceEqDiff, Nat.reduceLT, Nat.reduceSub, X_tree_Tree_Above_0, X_tree_Tree_Above_1, X_tree_Tree_Above_2, X_tree_Tree_Above_3]
  exact ⟨trivial, fun c hc => Mem.get_push_ne _ _ (by omega)⟩
theorem Above_empty (M : Mem) (n : St) (tc : Nat) (rc : Bool) (htc : tc < M.next) (h : M.get tc = some (.cells [.map none] rc)) : XP F_tree_Tree_Above [.ptr (some (tc, 0)), .agg (stC n)] M fun v M' => v = .slice none 0 (.exact 0) ∧ ∀ c, c < M.next → M'.get c = M.get c := by
  refine XRuns.walk mixed Tryd.func15 b_tree_Tree_Above n_tree_Tree_Above r_tree_Tree_Above (by rfl) ?_
  unfold X_tree_Tree_Above
  have hcn : V.cells (.agg (stC n)) = stC n := rfl
  have k1 : (M.push (.cells (stC n) false)).get tc = some (.cells [.map none] rc) := (Mem.get_push_ne _ _ (by omega)).trans h
  simp -dsimp only [↓x_seq', ↓x_ops, ↓x_skip, ↓x_ret, ↓x_exit, ↓x_block', ↓x_cond', cond_true', cond_false', ↓i_nil, ↓i_plain, ↓i_guard, xs_val, xs_call, xs_yield, xg_true, xg_false, ↓n_normal, ↓n_ret, ↓n_exit, ↓b_normal, ↓b_ret, ↓b_exit, ↓xe_normal, ↓xe_ret, e_some, yieldOf, go_sem, ↓reduceIte, Nat.reduceEqDiff, Nat.reduceLT, Nat.reduceSub, X_tree_Tree_Above_0, X_tree_Tree_Above_1, X_tree_Tree_Above_2, X_tree_Tree_Above_3, hcn]
  refine xcall_of (XRuns.of_runs dok0 (none_empty D0 rfl (by rfl) _ tc rc k1)) ?_
  intro v M2 hv
  rw [hv.1, hv.2]
  simp -dsimp only [↓x_seq', ↓x_ops, ↓x_skip, ↓x_ret, ↓x_exit, ↓x_block', ↓x_cond', cond_true', cond_false', ↓i_nil, ↓i_plain, ↓i_guard, xs_val, xs_call, xs_yield, xg_true, xg_false, ↓n_normal, ↓n_ret, ↓n_exit, ↓b_normal, ↓b_ret, ↓b_exit, ↓xe_normal, ↓xe_ret, e_some, yieldOf, go_sem, ↓reduceIte, Nat.reduceEqDiff, Nat.reduceLT, Nat.reduceSub, X_tree_Tree_Above_0, X_tree_Tree_Above_1, X_tree_Tree_Above_2, X_tree_Tree_Above_3]
  exact ⟨trivial, fun c hc => Mem.get_push_ne _ _ (by omega)⟩

/-- What stands above, read off memory. -/
def pAbove (args : List V) (M : Mem) : Option KeepR :=
  match args with
  | [.ptr none, .agg [.int .i64 a, .int .i64 b]] => some (.flat (.slice none 0 (.exact 0)))
  | [.ptr (some (tc, 0)), .agg [.int .i64 a, .int .i64 b]] => (match M.get tc with
    | some (.cells [.map none] _) => some (.flat (.slice none 0 (.exact 0)))
    | some (.cells [.map (some bm)] _) => (match M.get bm with
      | some (.map es) => (decM es).bind fun l => (upL l (l.length + 1) (a, b)).bind fun path => cond (Nat.ble ((path.length + 1) * 16) maxRoom) (some (match path with
        | [] => .flat (.slice none 0 (.exact 0))
        | x :: xs => .row (xs.length + 1) 2 (elSt.all (x :: xs)))) none
      | _ => none)
    | _ => none)
  | _ => none

theorem pAbove_ok : CallOK Tryd.prog gl0 fun f' args M => if f' = F_tree_Tree_Above then (pAbove args M).map fun r => r.res M else none := by
  refine callOK_keep ⟨_, Tryd.func15, (by kernel_rfl), (by kernel_rfl)⟩ ?_
  intro args M r h hwf
  refine ⟨[], fun _ _ _ _ _ b hb => absurd hb (by simp), fun Mz hz => ?_⟩
  have hMz : ∀ c, Mz.get c = M.get c := fun c => hz.other c (by simp)
  have hlt : ∀ c o, Mz.get c = some o → c < Mz.next := fun c o hc => by
    rcases Nat.lt_or_ge c Mz.next with h1 | h1
    · exact h1
    · rw [hMz, hwf c (by rw [← hz.next]; exact h1)] at hc; cases hc
  unfold pAbove at h
  split at h
  · rename_i a b
    cases h
    refine (Above_nil Mz (a, b)).mono ?_
    intro v M' hv
    exact ⟨fun c hc => hv.2 c (by rw [hz.next]; exact hc), rfl, hv.1⟩
  · rename_i tc a b
    split at h
    · rename_i rc htc
      cases h
      have htz : Mz.get tc = some (.cells [.map none] rc) := (hMz tc).trans htc
      refine (Above_empty Mz (a, b) tc rc (hlt _ _ htz) htz).mono ?_
      intro v M' hv
      exact ⟨fun c hc => hv.2 c (by rw [hz.next]; exact hc), rfl, hv.1⟩
    · rename_i bm rc htc
      split at h
      · rename_i es hbm
        simp only [Option.bind_eq_some_iff] at h
        obtain ⟨l, hl, path, hp, h⟩ := h
        obtain ⟨hN, h⟩ := cond_some h
        rw [ble_iff, decide_eq_true_eq] at hN
        have he := decM_is hl
        subst he
        have htz : Mz.get tc = some (.cells [.map (some bm)] rc) := (hMz tc).trans htc
        have hbz : Mz.get bm = some (.map (encM l)) := (hMz bm).trans hbm
        refine (Above_runs Mz tc bm rc l (a, b) path (hlt _ _ htz) (hlt _ _ hbz) htz (by unfold mapAt; rw [hbz]) ⟨_, hp⟩ hN).mono ?_
        rintro v M' ⟨h1, h2, h6⟩
        cases h
        refine ⟨fun c hc => h1 c (by rw [hz.next]; exact hc), ?_⟩
        cases hx : path with
        | nil => exact ⟨rfl, h6 hx⟩
        | cons x xs =>
          subst hx
          refine ⟨elSt.all_flat _, ?_⟩
          generalize hq : elSt.all (x :: xs) = cs at h2
          generalize hn : (x :: xs).length = n at h2
          cases h2 with
          | nil => simp at hn
          | row a b c d => exact ⟨_, by rw [← hz.next]; exact c, by rw [← hn]; rfl, a⟩
      · cases h
    · cases h
  · cases h
def D1u : Decls := D1t.addM F_tree_Tree_Above (fun args M => (pAbove args M).map fun r => r.res M)
theorem dok1u : DOK Tryd.prog gl0 D1u := dok1t.addM pAbove_ok
end Go.Am.Tryd

/- tree.Within. -/
namespace Go.Am.Tryd
open Go Go.Am Go.Proofs Go.Sort Go.Shelf
set_option maxRecDepth 100000
set_option linter.unusedSimpArgs false
set_option linter.unusedVariables false

structure WinJ (M5 : Mem) (lp : LoopState → Option Code → O) (p : St) (pre : List St) (M' : Mem) : Prop where
  old : ∀ c, c < M5.next → M'.get c = M5.get c
  loop : M'.get M5.next = some (lp .ready none)
  next : M5.next + 1 ≤ M'.next
  not_ : p ∉ pre

/-- The way up, looked through: whether one is met. -/
theorem Win_range (M5 : Mem) (p n : St) (b4 b5 b6 : Nat) (fv : V) (fr : Fr) (tc bm bt bn : Nat) (rc : Bool) (l : Tr) (path : List St) (hp : PathN l n path) (Q : XQ)
    (h4 : M5.get b4 = some (.cells (stC p) false)) (h5 : M5.get b5 = some (.cells (stC n) false)) (h6 : M5.get b6 = some (.cells [.bool false] false)) (l4 : b4 < M5.next) (l5 : b5 < M5.next) (l6 : b6 < M5.next)
    (g1 : M5.get bt = some (.cells [.ptr (some (tc, 0))] false)) (g2 : M5.get tc = some (.cells [.map (some bm)] rc)) (g3 : mapAt M5 bm = some (encM l)) (g4 : M5.get bn = some (.cells (stC n) false)) (q1 : bt < M5.next) (q2 : tc < M5.next) (q3 : bm < M5.next) (q4 : bn < M5.next)
    (f4 : fr.rd 4 = .ptr (some (b4, 0))) (f6 : fr.rd 6 = .ptr (some (b6, 0))) (f18 : fr.rd 18 = .fn F_tree_Tree_up_c1 [] [.ptr (some (bt, 0)), .ptr (some (bn, 0))])
    (hQ : ∀ M', p ∉ path → (∀ c, c < M5.next → M'.get c = M5.get c) → M5.next ≤ M'.next → Q .normal fr M') (hQr : ∀ M', p ∈ path → (∀ c, c < M5.next → c ≠ b6 → M'.get c = M5.get c) → M'.get b6 = some (.cells [.bool true] false) → Q .ret fr M') :
    xw Tryd.prog gl0 26 (.range (.tmp 18) [19] X_tree_Tree_Within_7 X_tree_Tree_Within_8) false fr M5 (Q := Q) ⟨⟩ := by
  refine x_range' _ _ _ _ _ (f := F_tree_Tree_up_c1) (first := []) (captured := [.ptr (some (bt, 0)), .ptr (some (bn, 0))]) f18 ?_
  intro lp hlp hY
  have hst : WinJ M5 lp p [] (M5.push (lp .ready none)) := ⟨fun c hc => Mem.get_push_ne _ _ (by omega), Mem.get_push_same _ _, by simp, by simp⟩
  refine (Up_seq bt bn tc bm false false rc l n path hp M5.next (WinJ M5 lp p) (fun pre M' => p ∈ pre ∧ (∀ c, c < M5.next → c ≠ b6 → M'.get c = M5.get c) ∧ M'.get b6 = some (.cells [.bool true] false) ∧ M'.get M5.next = some (lp .done (some .ret))) _ (fun pre M' h => ?_) (fun pre M' o h => ?_) (fun pre M' o o' h => ?_) (fun pre M' c b s k l h hcn hi => ?_) (fun pre M' c a b t h hcn hi => ?_) (fun pre x M' h hlen => ?_) hst).mono ?_
  · exact ⟨⟨(h.old _ q1).trans g1, (h.old _ q2).trans g2, mapAt_keep g3 (h.old _ q3)⟩, (h.old _ q4).trans g4⟩
  · have hn := h.next
    exact ⟨fun c hc => (Mem.get_push_ne _ _ (by omega)).trans (h.old c hc), (Mem.get_push_ne _ _ (by omega)).trans h.loop, by simp; omega, h.not_⟩
  · have hn := h.next
    have hk : ∀ c, c ≠ M'.next → ((M'.push o).set M'.next o').get c = M'.get c := fun c hc => by rw [Mem.get_set_ne _ _ hc, Mem.get_push_ne _ _ hc]
    exact ⟨fun c hc => (hk c (by omega)).trans (h.old c hc), (hk _ (by omega)).trans h.loop, by simp; omega, h.not_⟩
  · have hc : M5.next + 1 ≤ c := hcn
    exact ⟨fun c' hc' => (Mem.get_set_ne _ _ (by omega)).trans (h.old c' hc'), (Mem.get_set_ne _ _ (by omega)).trans h.loop, h.next, h.not_⟩
  · have hc : M5.next + 1 ≤ c := hcn
    exact ⟨fun c' hc' => (Mem.get_set_ne _ _ (by omega)).trans (h.old c' hc'), (Mem.get_set_ne _ _ (by omega)).trans h.loop, h.next, h.not_⟩
  · refine hY [.agg (stC x)] M' _ h.loop rfl ?_
    unfold X_tree_Tree_Within_7 X_tree_Tree_Within_8
    have hnx := h.next
    have hrx : rdCells (stC x) 0 2 = some (stC x) := rfl
    have hrp : rdCells (stC p) 0 2 = some (stC p) := rfl
    have hw0 := write_full (M := M'.push (.cells [.int .i64 0, .int .i64 0] false)) (b := M'.next) (vs := stC x) (Mem.get_push_same _ _) rfl rfl
    simp -dsimp only [↓x_seq', ↓x_ops, ↓x_skip, ↓x_ret, ↓x_exit, ↓x_block', ↓x_cond', cond_true', cond_false', ↓i_nil, ↓i_plain, ↓i_guard, xs_val, xs_call, xs_yield, xg_true, xg_false, ↓n_normal, ↓n_ret, ↓n_exit, ↓b_normal, ↓b_ret, ↓b_exit, ↓xe_normal, ↓xe_ret, e_some, yieldOf, go_sem, ↓reduceIte, Nat.reduceEqDiff, Nat.reduceLT, Nat.reduceSub, X_tree_Tree_Within_0, X_tree_Tree_Within_1, X_tree_Tree_Within_2, X_tree_Tree_Within_3, X_tree_Tree_Within_4, X_tree_Tree_Within_5, X_tree_Tree_Within_6, X_tree_Tree_Within_9, putAll', List.zip_cons_cons, List.zip_nil_right, List.foldl_cons, List.foldl_nil, vstore, V.cells, stC_len, hw0, Nat.reduceEqDiff]
    have k1 : ∀ c, c ≠ M'.next → ((M'.push (.cells [.int .i64 0, .int .i64 0] false)).set M'.next (.cells (stC x) false)).get c = M'.get c := fun c hc => by rw [Mem.get_set_ne _ _ hc, Mem.get_push_ne _ _ hc]
    have k2 : ((M'.push (.cells [.int .i64 0, .int .i64 0] false)).set M'.next (.cells (stC x) false)).get M'.next = some (.cells (stC x) false) := Mem.get_set_same _ _ _
    have k3 : ((M'.push (.cells [.int .i64 0, .int .i64 0] false)).set M'.next (.cells (stC x) false)).next = M'.next + 1 := rfl
    generalize (M'.push (.cells [.int .i64 0, .int .i64 0] false)).set M'.next (.cells (stC x) false) = M1 at *
    refine ⟨rfl, (k1 _ (by omega)).trans h.loop, ?_⟩
    have l1 : ∀ c, c ≠ M5.next → (M1.set M5.next (lp .busy none)).get c = M1.get c := fun c hc => Mem.get_set_ne _ _ hc
    have l2 : (M1.set M5.next (lp .busy none)).get M5.next = some (lp .busy none) := Mem.get_set_same _ _ _
    have l3 : (M1.set M5.next (lp .busy none)).next = M'.next + 1 := k3
    generalize M1.set M5.next (lp .busy none) = M2 at *
    have hx2 : M2.get M'.next = some (.cells (stC x) false) := by rw [l1 _ (by omega)]; exact k2
    have hkeep : ∀ c, c < M5.next → M2.get c = M5.get c := fun c hc => by rw [l1 _ (by omega), k1 _ (by omega)]; exact h.old c hc
    have h42 := (hkeep _ l4).trans h4
    have h62 := (hkeep _ l6).trans h6
    by_cases hxp : x = p
    · have hw6 := write_one (v := .bool true) h62 (show 0 < 1 by omega) rfl
      simp -dsimp only [↓x_seq', ↓x_ops, ↓x_skip, ↓x_ret, ↓x_exit, ↓x_block', ↓x_cond', cond_true', cond_false', ↓i_nil, ↓i_plain, ↓i_guard, xs_val, xs_call, xs_yield, xg_true, xg_false, ↓n_normal, ↓n_ret, ↓n_exit, ↓b_normal, ↓b_ret, ↓b_exit, ↓xe_normal, ↓xe_ret, e_some, yieldOf, go_sem, ↓reduceIte, Nat.reduceEqDiff, Nat.reduceLT, Nat.reduceSub, X_tree_Tree_Within_0, X_tree_Tree_Within_1, X_tree_Tree_Within_2, X_tree_Tree_Within_3, X_tree_Tree_Within_4, X_tree_Tree_Within_5, X_tree_Tree_Within_6, X_tree_Tree_Within_9, f4, f6, vload, Mem.read, hx2, h42, hrx, hrp, st_same, hxp, decide_true, vstore, V.cells, List.length_cons, List.length_nil, Nat.zero_add, hw6, List.set_cons_zero]
      have u := Upd.set M2 b6 (.cells [.bool true] false)
      generalize M2.set b6 (.cells [.bool true] false) = M6 at *
      refine ⟨(u.other _ (by omega)).trans l2, .inr ⟨rfl, by simp [hxp], fun c hc hne => ?_, ?_, Mem.get_set_same _ _ _⟩⟩
      · rw [Mem.get_set_ne _ _ (by omega), u.other _ hne]; exact hkeep c hc
      · rw [Mem.get_set_ne _ _ (by omega)]; exact u.at_
    · simp -dsimp only [↓x_seq', ↓x_ops, ↓x_skip, ↓x_ret, ↓x_exit, ↓x_block', ↓x_cond', cond_true', cond_false', ↓i_nil, ↓i_plain, ↓i_guard, xs_val, xs_call, xs_yield, xg_true, xg_false, ↓n_normal, ↓n_ret, ↓n_exit, ↓b_normal, ↓b_ret, ↓b_exit, ↓xe_normal, ↓xe_ret, e_some, yieldOf, go_sem, ↓reduceIte, Nat.reduceEqDiff, Nat.reduceLT, Nat.reduceSub, X_tree_Tree_Within_0, X_tree_Tree_Within_1, X_tree_Tree_Within_2, X_tree_Tree_Within_3, X_tree_Tree_Within_4, X_tree_Tree_Within_5, X_tree_Tree_Within_6, X_tree_Tree_Within_9, f4, f6, vload, Mem.read, hx2, h42, hrx, hrp, st_same, hxp, decide_false]
      have hq : ∀ c, c ≠ M5.next → c ≠ M'.next → (M2.set M5.next (lp .ready none)).get c = M'.get c := fun c h1 h2 => by rw [Mem.get_set_ne _ _ h1, l1 _ h1, k1 _ h2]
      refine ⟨l2, .inl ⟨rfl, ⟨fun c hc => (hq c (by omega) (by omega)).trans (h.old c hc), Mem.get_set_same _ _ _, by simp only [Mem.next_set]; omega, ?_⟩, by simp only [Mem.next_set]; omega, fun c hc hi => ?_, fun c hcl hc hi => ?_⟩⟩
      · intro hm
        rcases List.mem_append.mp hm with hm | hm
        · exact h.not_ hm
        · simp only [List.mem_singleton] at hm
          exact hxp hm.symm
      · refine hq c (fun e => ?_) (by omega)
        obtain ⟨b', s', k', l', hi⟩ := hi
        rw [e, h.loop] at hi
        exact hlp _ _ _ _ _ _ (Option.some.inj hi)
      · have hcl' : M5.next + 1 ≤ c := hcl
        exact hq c (by omega) (by omega)
  · intro v M' h
    rcases h with ⟨xs, rfl, hJ⟩ | ⟨pre, hpre, hin, ho, h6', hl'⟩
    · refine .inl ⟨hJ.loop, ?_⟩
      have hn := hJ.next
      exact hQ _ hJ.not_ (fun c hc => (Mem.get_set_ne _ _ (by omega)).trans (hJ.old c hc)) (by simp only [Mem.next_set]; omega)
    · refine .inr (.inl ⟨hl', ?_⟩)
      exact hQr _ (hpre.subset hin) (fun c hc hne => (Mem.get_set_ne _ _ (by omega)).trans (ho c hc hne)) ((Mem.get_set_ne _ _ (by omega)).trans h6')
end Go.Am.Tryd

/- tree.Within, whole. -/
namespace Go.Am.Tryd
open Go Go.Am Go.Proofs Go.Sort Go.Shelf
set_option maxRecDepth 100000
set_option linter.unusedSimpArgs false
set_option linter.unusedVariables false

theorem XR_opq {P : Program} {gl : Nat → Bool} {f : FuncId} {args : List V} {M : Mem} {R : V → Mem → Prop} (h : ∀ R' : V → Mem → Prop, (∀ v M', R v M' → R' v M') → XRuns P gl f args M R') : XRuns P gl f args M R := h R fun _ _ h => h
theorem R_opq {D : Decls} {f : FuncId} {args : List V} {M : Mem} {R : V → Mem → Prop} (h : ∀ R' : V → Mem → Prop, (∀ v M', R v M' → R' v M') → Runs D f args M R') : Runs D f args M R := h R fun _ _ h => h

set_option maxHeartbeats 1000000 in
theorem Within_runs (M : Mem) (tc bm : Nat) (rc : Bool) (l : Tr) (p n : St) (path : List St) (htc : tc < M.next) (hbm : bm < M.next) (h : M.get tc = some (.cells [.map (some bm)] rc)) (h2 : mapAt M bm = some (encM l)) (hp : PathN l n path) :
    XP F_tree_Tree_Within [.ptr (some (tc, 0)), .agg (stC p), .agg (stC n)] M fun v M' => (∀ c, c < M.next → M'.get c = M.get c) ∧ v = .bool ((getS l n).isSome && (decide (p ∈ path) || decide (p = n))) := by
  refine XR_opq fun R hR => ?_
  refine XRuns.walk mixed Tryd.func18 b_tree_Tree_Within n_tree_Tree_Within r_tree_Tree_Within (by rfl) ?_
  unfold X_tree_Tree_Within
  have hcn : ∀ x : St, V.cells (.agg (stC x)) = stC x := fun _ => rfl
  have hrn : rdCells (stC n) 0 2 = some (stC n) := rfl
  have hrp : rdCells (stC p) 0 2 = some (stC p) := rfl
  simp -dsimp only [↓x_seq', ↓x_ops, ↓x_skip, ↓x_ret, ↓x_exit, ↓x_block', ↓x_cond', cond_true', cond_false', ↓i_nil, ↓i_plain, ↓i_guard, xs_val, xs_call, xs_yield, xg_true, xg_false, ↓n_normal, ↓n_ret, ↓n_exit, ↓b_normal, ↓b_ret, ↓b_exit, ↓xe_normal, ↓xe_ret, e_some, yieldOf, go_sem, ↓reduceIte, Nat.reduceEqDiff, Nat.reduceLT, Nat.reduceSub, X_tree_Tree_Within_0, X_tree_Tree_Within_1, X_tree_Tree_Within_2, X_tree_Tree_Within_3, X_tree_Tree_Within_4, X_tree_Tree_Within_5, X_tree_Tree_Within_6, X_tree_Tree_Within_9, hcn, Mem.next_push]
  have g4 : (((M.push (.cells (stC p) false)).push (.cells (stC n) false)).push (.cells [.bool false] false)).get M.next = some (.cells (stC p) false) := by
    rw [Mem.get_push_ne _ _ (by simp; omega), Mem.get_push_ne _ _ (by simp), Mem.get_push_same]
  have g5 : (((M.push (.cells (stC p) false)).push (.cells (stC n) false)).push (.cells [.bool false] false)).get (M.next + 1) = some (.cells (stC n) false) := by
    rw [Mem.get_push_ne _ _ (by simp)]; exact Mem.get_push_same (M.push _) _
  have g6 : (((M.push (.cells (stC p) false)).push (.cells (stC n) false)).push (.cells [.bool false] false)).get (M.next + 1 + 1) = some (.cells [.bool false] false) := Mem.get_push_same ((M.push _).push _) _
  have gk : Grew M (((M.push (.cells (stC p) false)).push (.cells (stC n) false)).push (.cells [.bool false] false)) := ((Grew.push _ _).trans (Grew.push _ _)).trans (Grew.push _ _)
  have hn1 : (((M.push (.cells (stC p) false)).push (.cells (stC n) false)).push (.cells [.bool false] false)).next = M.next + 3 := rfl
  generalize ((M.push (.cells (stC p) false)).push (.cells (stC n) false)).push (.cells [.bool false] false) = M1 at *
  have k1 : M1.get tc = some (.cells [.map (some bm)] rc) := (gk.old _ htc).trans h
  have k2 : mapAt M1 bm = some (encM l) := mapAt_keep h2 (gk.old _ hbm)
  refine xcall_of (XRuns.of_runs dok0 (none_some D0 rfl (by rfl) M1 tc bm rc k1)) ?_
  intro v M2 hv
  rw [hv.1, hv.2]
  clear hv
  simp -dsimp only [↓x_seq', ↓x_ops, ↓x_skip, ↓x_ret, ↓x_exit, ↓x_block', ↓x_cond', cond_true', cond_false', ↓i_nil, ↓i_plain, ↓i_guard, xs_val, xs_call, xs_yield, xg_true, xg_false, ↓n_normal, ↓n_ret, ↓n_exit, ↓b_normal, ↓b_ret, ↓b_exit, ↓xe_normal, ↓xe_ret, e_some, yieldOf, go_sem, ↓reduceIte, Nat.reduceEqDiff, Nat.reduceLT, Nat.reduceSub, X_tree_Tree_Within_0, X_tree_Tree_Within_1, X_tree_Tree_Within_2, X_tree_Tree_Within_3, X_tree_Tree_Within_4, X_tree_Tree_Within_5, X_tree_Tree_Within_6, X_tree_Tree_Within_9, vload, Mem.read, g5, hrn]
  refine xcall_of (XRuns.of_runs dok0 (node_runs D0 rfl (by rfl) M1 tc bm rc l n (by omega) (by omega) k1 k2)) ?_
  intro v M2 hv
  rw [hv.1]
  have hG2 := hv.2
  clear hv
  have h42 : M2.get M.next = some (.cells (stC p) false) := (hG2.old _ (by omega)).trans g4
  have h52 : M2.get (M.next + 1) = some (.cells (stC n) false) := (hG2.old _ (by omega)).trans g5
  have h62 : M2.get (M.next + 1 + 1) = some (.cells [.bool false] false) := (hG2.old _ (by omega)).trans g6
  have m1 : M2.get tc = some (.cells [.map (some bm)] rc) := (hG2.old _ (by omega)).trans k1
  have m2 : mapAt M2 bm = some (encM l) := mapAt_keep k2 (hG2.old _ (by omega))
  have hold : ∀ c, c < M.next → M2.get c = M.get c := fun c hc => (hG2.old c (by omega)).trans (gk.old c hc)
  have hn2 := hG2.next
  rw [hn1] at hn2
  clear hG2 gk g4 g5 g6 k1 k2 h h2 hn1
  cases hs : (getS l n).isSome with
  | false =>
    have hw6 := write_one (v := .bool false) h62 (show 0 < 1 by omega) rfl
    simp -dsimp only [↓x_seq', ↓x_ops, ↓x_skip, ↓x_ret, ↓x_exit, ↓x_block', ↓x_cond', cond_true', cond_false', ↓i_nil, ↓i_plain, ↓i_guard, xs_val, xs_call, xs_yield, xg_true, xg_false, ↓n_normal, ↓n_ret, ↓n_exit, ↓b_normal, ↓b_ret, ↓b_exit, ↓xe_normal, ↓xe_ret, e_some, yieldOf, go_sem, ↓reduceIte, Nat.reduceEqDiff, Nat.reduceLT, Nat.reduceSub, X_tree_Tree_Within_0, X_tree_Tree_Within_1, X_tree_Tree_Within_2, X_tree_Tree_Within_3, X_tree_Tree_Within_4, X_tree_Tree_Within_5, X_tree_Tree_Within_6, X_tree_Tree_Within_9, vstore, V.cells, List.length_cons, List.length_nil, Nat.zero_add, hw6, List.set_cons_zero]
    have hs6 := Mem.get_set_same M2 (M.next + 1 + 1) (.cells [.bool false] false)
    have ho6 : ∀ c, c ≠ M.next + 1 + 1 → (M2.set (M.next + 1 + 1) (.cells [.bool false] false)).get c = M2.get c := fun c hc => Mem.get_set_ne _ _ hc
    generalize M2.set (M.next + 1 + 1) (.cells [.bool false] false) = M6 at *
    simp -dsimp only [↓x_seq', ↓x_ops, ↓x_skip, ↓x_ret, ↓x_exit, ↓x_block', ↓x_cond', cond_true', cond_false', ↓i_nil, ↓i_plain, ↓i_guard, xs_val, xs_call, xs_yield, xg_true, xg_false, ↓n_normal, ↓n_ret, ↓n_exit, ↓b_normal, ↓b_ret, ↓b_exit, ↓xe_normal, ↓xe_ret, e_some, yieldOf, go_sem, ↓reduceIte, Nat.reduceEqDiff, Nat.reduceLT, Nat.reduceSub, vload, vptr, Mem.read, hs6, List.getElem?_cons_zero, Option.bind_some, oneOf]
    exact hR _ _ ⟨fun c hc => (ho6 c (by omega)).trans (hold c hc), by rw [hs]; rfl⟩
  | true =>
    simp -dsimp only [↓x_seq', ↓x_ops, ↓x_skip, ↓x_ret, ↓x_exit, ↓x_block', ↓x_cond', cond_true', cond_false', ↓i_nil, ↓i_plain, ↓i_guard, xs_val, xs_call, xs_yield, xg_true, xg_false, ↓n_normal, ↓n_ret, ↓n_exit, ↓b_normal, ↓b_ret, ↓b_exit, ↓xe_normal, ↓xe_ret, e_some, yieldOf, go_sem, ↓reduceIte, Nat.reduceEqDiff, Nat.reduceLT, Nat.reduceSub, X_tree_Tree_Within_3, X_tree_Tree_Within_2, vload, Mem.read, h52, hrn]
    refine xcall_of (XRuns.of_runs dok0 (up_runs D0 rfl (by rfl) M2 (.ptr (some (tc, 0))) rfl rfl n)) ?_
    intro v M3 hv
    rw [hv.1]
    have hG3 : Grew M2 M3 := by rw [hv.2]; exact (Grew.push _ _).trans (Grew.push _ _)
    have b1 : M3.get M2.next = some (.cells [.ptr (some (tc, 0))] false) := by rw [hv.2, Mem.get_push_ne _ _ (by simp), Mem.get_push_same]
    have b2 : M3.get (M2.next + 1) = some (.cells (stC n) false) := by rw [hv.2]; exact Mem.get_push_same (M2.push _) _
    have hn3 : M3.next = M2.next + 2 := by rw [hv.2]; rfl
    clear hv
    simp -dsimp only [↓x_seq', ↓x_ops, ↓x_skip, ↓x_ret, ↓x_exit, ↓x_block', ↓x_cond', cond_true', cond_false', ↓i_nil, ↓i_plain, ↓i_guard, xs_val, xs_call, xs_yield, xg_true, xg_false, ↓n_normal, ↓n_ret, ↓n_exit, ↓b_normal, ↓b_ret, ↓b_exit, ↓xe_normal, ↓xe_ret, e_some, yieldOf, go_sem, ↓reduceIte, Nat.reduceEqDiff, Nat.reduceLT, Nat.reduceSub, X_tree_Tree_Within_3]
    have h43 := (hG3.old _ (by omega)).trans h42
    have h53 := (hG3.old _ (by omega)).trans h52
    have h63 := (hG3.old _ (by omega)).trans h62
    have n1 := (hG3.old tc (by omega)).trans m1
    have n2 := mapAt_keep m2 (hG3.old bm (by omega))
    have hold3 : ∀ c, c < M.next → M3.get c = M.get c := fun c hc => (hG3.old c (by omega)).trans (hold c hc)
    clear hG3
    refine Win_range M3 p n M.next (M.next + 1) (M.next + 1 + 1) .undef _ tc bm M2.next (M2.next + 1) rc l path hp _ h43 h53 h63 (by omega) (by omega) (by omega) b1 n1 n2 b2 (by omega) (by omega) (by omega) (by omega) (by simp only [go_sem, ↓reduceIte, Nat.reduceEqDiff, Nat.reduceLT, Nat.reduceSub]) (by simp only [go_sem, ↓reduceIte, Nat.reduceEqDiff, Nat.reduceLT, Nat.reduceSub]) (by simp only [go_sem, ↓reduceIte, Nat.reduceEqDiff, Nat.reduceLT, Nat.reduceSub]) ?_ ?_
    · intro M4 hnp ho4 hn4
      have h44 := (ho4 _ (by omega)).trans h43
      have h54 := (ho4 _ (by omega)).trans h53
      have h64 := (ho4 _ (by omega)).trans h63
      have hw6 := write_one (v := .bool (decide (p = n))) h64 (show 0 < 1 by omega) rfl
      simp -dsimp only [↓x_seq', ↓x_ops, ↓x_skip, ↓x_ret, ↓x_exit, ↓x_block', ↓x_cond', cond_true', cond_false', ↓i_nil, ↓i_plain, ↓i_guard, xs_val, xs_call, xs_yield, xg_true, xg_false, ↓n_normal, ↓n_ret, ↓n_exit, ↓b_normal, ↓b_ret, ↓b_exit, ↓xe_normal, ↓xe_ret, e_some, yieldOf, go_sem, ↓reduceIte, Nat.reduceEqDiff, Nat.reduceLT, Nat.reduceSub, X_tree_Tree_Within_0, X_tree_Tree_Within_1, X_tree_Tree_Within_2, X_tree_Tree_Within_3, X_tree_Tree_Within_4, X_tree_Tree_Within_5, X_tree_Tree_Within_6, X_tree_Tree_Within_9, vload, Mem.read, h44, h54, hrn, hrp, st_same, vstore, V.cells, List.length_cons, List.length_nil, Nat.zero_add, hw6, List.set_cons_zero]
      have hs6 := Mem.get_set_same M4 (M.next + 1 + 1) (.cells [.bool (decide (p = n))] false)
      have ho6 : ∀ c, c ≠ M.next + 1 + 1 → (M4.set (M.next + 1 + 1) (.cells [.bool (decide (p = n))] false)).get c = M4.get c := fun c hc => Mem.get_set_ne _ _ hc
      generalize M4.set (M.next + 1 + 1) (.cells [.bool (decide (p = n))] false) = M6 at *
      simp -dsimp only [↓x_seq', ↓x_ops, ↓x_skip, ↓x_ret, ↓x_exit, ↓x_block', ↓x_cond', cond_true', cond_false', ↓i_nil, ↓i_plain, ↓i_guard, xs_val, xs_call, xs_yield, xg_true, xg_false, ↓n_normal, ↓n_ret, ↓n_exit, ↓b_normal, ↓b_ret, ↓b_exit, ↓xe_normal, ↓xe_ret, e_some, yieldOf, go_sem, ↓reduceIte, Nat.reduceEqDiff, Nat.reduceLT, Nat.reduceSub, vload, vptr, Mem.read, hs6, List.getElem?_cons_zero, Option.bind_some, oneOf]
      exact hR _ _ ⟨fun c hc => (ho6 c (by omega)).trans ((ho4 c (by omega)).trans (hold3 c hc)), by rw [hs]; simp only [hnp, decide_false, Bool.false_or, Bool.true_and]⟩
    · intro M4 hin ho4 h64
      simp -dsimp only [↓x_seq', ↓x_ops, ↓x_skip, ↓x_ret, ↓x_exit, ↓x_block', ↓x_cond', cond_true', cond_false', ↓i_nil, ↓i_plain, ↓i_guard, xs_val, xs_call, xs_yield, xg_true, xg_false, ↓n_normal, ↓n_ret, ↓n_exit, ↓b_normal, ↓b_ret, ↓b_exit, ↓xe_normal, ↓xe_ret, e_some, yieldOf, go_sem, ↓reduceIte, Nat.reduceEqDiff, Nat.reduceLT, Nat.reduceSub, vload, vptr, Mem.read, h64, List.getElem?_cons_zero, Option.bind_some, oneOf]
      exact hR _ _ ⟨fun c hc => (ho4 c (by omega) (by omega)).trans (hold3 c hc), by rw [hs]; simp only [hin, decide_true, Bool.true_or, Bool.true_and]⟩
end Go.Am.Tryd

/- Trees, plainly: what adding, moving and dropping come to, and that each way up ends. -/
namespace Go.Am.Tryd
open Go Go.Am Go.Proofs Go.Sort Go.Shelf
set_option maxRecDepth 100000
set_option linter.unusedSimpArgs false
set_option linter.unusedVariables false

def putS : Tr → St → Spot → Tr
  | [], n, s => [(n, s)]
  | p :: r, n, s => if n = p.1 then (n, s) :: r else p :: putS r n s
def delS : Tr → St → Tr
  | [], _ => []
  | p :: r, n => if n = p.1 then r else p :: delS r n

theorem mapPut_is (n : St) (s : Spot) : ∀ l : Tr, mapPut (encM l) (.agg (stC n)) (.agg (spC s)) (idxS l n) = encM (putS l n s)
  | [] => rfl
  | p :: r => by
    have ih := mapPut_is n s r
    unfold idxS putS
    by_cases h : n = p.1
    · simp only [h, if_true]; rfl
    · simp only [h, if_false]
      cases hi : idxS r n with
      | none => rw [hi] at ih; simp only [Option.map_none]; simp only [mapPut, encM, List.map_cons, List.cons_append] at ih ⊢; rw [← ih]
      | some i => rw [hi] at ih; simp only [Option.map_some]; simp only [mapPut, encM, List.map_cons, List.set_cons_succ] at ih ⊢; rw [← ih]
theorem mapDel_is (n : St) : ∀ l : Tr, mapDel (encM l) (idxS l n) = encM (delS l n)
  | [] => rfl
  | p :: r => by
    have ih := mapDel_is n r
    unfold idxS delS
    by_cases h : n = p.1
    · simp only [h, if_true]; rfl
    · simp only [h, if_false]
      cases hi : idxS r n with
      | none => rw [hi] at ih; simp only [Option.map_none]; simp only [mapDel, encM, List.map_cons] at ih ⊢; rw [← ih]
      | some i => rw [hi] at ih; simp only [Option.map_some]; simp only [mapDel, encM, List.map_cons, List.eraseIdx_cons_succ] at ih ⊢; rw [← ih]

theorem put_is {M : Mem} {b : Nat} {l : Tr} (h : M.get b = some (.map (encM l))) (n : St) (s : Spot) : vmapUpdate ⟨true, [.int .i64, .int .i64]⟩ M (.map (some b)) (.agg (stC n)) (.agg (spC s)) = some (M.set b (.map (encM (putS l n s)))) := by
  have hok : Sh.ok ⟨true, [.int .i64, .int .i64]⟩ (.agg (stC n)) = true := rfl
  simp only [vmapUpdate, mapOf, h, Option.bind_some, hok, cond_true, mapIdx_is, Option.map_some, mapPut_is]
theorem del_is {M : Mem} {b : Nat} {l : Tr} (h : M.get b = some (.map (encM l))) (n : St) : vdelete ⟨true, [.int .i64, .int .i64]⟩ M (.map (some b)) (.agg (stC n)) = some (M.set b (.map (encM (delS l n)))) := by
  have hok : Sh.ok ⟨true, [.int .i64, .int .i64]⟩ (.agg (stC n)) = true := rfl
  simp only [vdelete, mapOf, h, Option.bind_some, hok, cond_true, mapIdx_is, Option.map_some, mapDel_is]

def keysS (l : Tr) : List St := l.map (·.1)
theorem keysOf_enc : ∀ l : Tr, keysOf (encM l) = some (keysS l)
  | [] => rfl
  | p :: r => by
    show Option.map (fun x => (p.1.1, p.1.2) :: x) (keysOf (encM r)) = _
    rw [keysOf_enc r]
    rfl
theorem decM_enc : ∀ l : Tr, decM (encM l) = some l
  | [] => rfl
  | p :: r => by
    show Option.map (fun x => ((p.1.1, p.1.2), ((p.2.1.1, p.2.1.2), p.2.2)) :: x) (decM (encM r)) = _
    rw [decM_enc r]
    rfl
theorem enc_len (l : Tr) : (encM l).length = l.length := by simp [encM]

theorem get_put (n m : St) (s : Spot) : ∀ l : Tr, getS (putS l n s) m = if m = n then some s else getS l m
  | [] => by simp [putS, getS]
  | p :: r => by
    unfold putS
    by_cases h : n = p.1
    · simp only [h, if_true, getS]
      by_cases h2 : m = p.1 <;> simp [h2]
    · simp only [h, if_false, getS, get_put n m s r]
      by_cases h2 : m = p.1
      · have : m ≠ n := fun e => h (e.symm.trans h2)
        simp [h2, Ne.symm (h2 ▸ this)] 
        intro h3; exact absurd h3.symm h
      · simp [h2]
theorem get_mem {l : Tr} {n : St} : (getS l n).isSome = true ↔ n ∈ keysS l := by
  induction l with
  | nil => simp [getS, keysS]
  | cons p r ih =>
    unfold getS keysS
    by_cases h : n = p.1
    · simp [h]
    · simp only [h, if_false, List.map_cons, List.mem_cons, false_or]
      exact ih
theorem get_none {l : Tr} {n : St} : getS l n = none ↔ n ∉ keysS l := by
  rw [← get_mem]; cases getS l n <;> simp
theorem get_in {l : Tr} {n : St} {s : Spot} (h : getS l n = some s) : (n, s) ∈ l := by
  induction l with
  | nil => cases h
  | cons p r ih =>
    unfold getS at h
    split at h
    · rename_i e
      cases h
      subst e
      exact List.mem_cons_self ..
    · exact List.mem_cons_of_mem _ (ih h)
theorem get_of_in {l : Tr} (hn : (keysS l).Nodup) {n : St} {s : Spot} (h : (n, s) ∈ l) : getS l n = some s := by
  induction l with
  | nil => cases h
  | cons p r ih =>
    unfold keysS at hn
    rw [List.map_cons, List.nodup_cons] at hn
    rcases List.mem_cons.mp h with h | h
    · subst h; simp [getS]
    · have : n ≠ p.1 := fun e => hn.1 (e ▸ List.mem_map_of_mem (f := (·.1)) h)
      simp only [getS, this, if_false]
      exact ih hn.2 h
theorem get_del (n m : St) : ∀ l : Tr, (keysS l).Nodup → getS (delS l n) m = if m = n then none else getS l m
  | [], _ => by simp [delS, getS]
  | p :: r, hn => by
    unfold keysS at hn
    rw [List.map_cons, List.nodup_cons] at hn
    unfold delS
    by_cases h : n = p.1
    · simp only [h, if_true, getS]
      by_cases h2 : m = p.1
      · simp only [h2, if_true]; exact get_none.mpr hn.1
      · simp [h2]
    · simp only [h, if_false, getS, get_del n m r hn.2]
      by_cases h2 : m = p.1
      · have : ¬ m = n := fun e => h (e.symm.trans h2)
        simp only [h2, if_true]
        rw [if_neg (fun e => h e.symm)]
      · simp [h2]
theorem keys_put (n : St) (s : Spot) : ∀ l : Tr, keysS (putS l n s) = if n ∈ keysS l then keysS l else keysS l ++ [n]
  | [] => by simp [putS, keysS]
  | p :: r => by
    have ih := keys_put n s r
    unfold putS
    unfold keysS at ih ⊢
    by_cases h : n = p.1
    · simp [h]
    · simp only [h, if_false, List.map_cons, ih, List.mem_cons, false_or]
      by_cases h2 : n ∈ r.map (·.1) <;> simp [h2]
theorem keys_del (n : St) : ∀ l : Tr, (keysS (delS l n)).Sublist (keysS l)
  | [] => by simp [delS, keysS]
  | p :: r => by
    unfold delS
    by_cases h : n = p.1
    · simp only [h, if_true, keysS, List.map_cons]; exact List.sublist_cons_self ..
    · simp only [h, if_false, keysS, List.map_cons]; exact (keys_del n r).cons_cons _
theorem keys_len (l : Tr) : (keysS l).length = l.length := by simp [keysS]

/-! ### ways up -/
theorem path_det {l : Tr} : ∀ {f f' : Nat} {n : St} {r r' : List St}, upL l f n = some r → upL l f' n = some r' → r = r'
  | 0, _, _, _, _, h, _ => by cases h
  | _ + 1, 0, _, _, _, _, h => by cases h
  | f + 1, f' + 1, n, r, r', h, h' => by
    unfold upL at h h'
    cases hg : getS l n with
    | none => rw [hg] at h h'; cases h; cases h'; rfl
    | some s =>
      rw [hg] at h h'
      simp only [Option.map_eq_some_iff] at h h'
      obtain ⟨a, h1, rfl⟩ := h
      obtain ⟨b, h2, rfl⟩ := h'
      rw [path_det h1 h2]
theorem PathN.det {l : Tr} {n : St} {r r' : List St} (h : PathN l n r) (h' : PathN l n r') : r = r' := by
  obtain ⟨_, h⟩ := h
  obtain ⟨_, h'⟩ := h'
  exact path_det h h'
theorem PathN.nil {l : Tr} {n : St} (h : getS l n = none) : PathN l n [] := ⟨1, by simp [upL, h]⟩
theorem PathN.cons {l : Tr} {n : St} {s : Spot} {r : List St} (h : getS l n = some s) (hr : PathN l s.1 r) : PathN l n (s.1 :: r) := by
  obtain ⟨f, hf⟩ := hr
  exact ⟨f + 1, by simp [upL, h, hf]⟩
theorem PathN.fuel {l : Tr} : ∀ {r : List St} {n : St}, PathN l n r → upL l (r.length + 1) n = some r
  | [], n, h => by
    have := h.look
    cases hg : getS l n with
    | none => simp [upL, hg]
    | some s => rw [hg] at this; obtain ⟨r, e, _⟩ := this; cases e
  | x :: r, n, h => by
    have h2 := h.look
    cases hg : getS l n with
    | none => rw [hg] at h2; cases h2
    | some s =>
      rw [hg] at h2
      obtain ⟨r', e, h3⟩ := h2
      cases e
      have := PathN.fuel h3
      show upL l (r.length + 1 + 1) n = _
      rw [upL, hg]
      simp only [this, Option.map_some]
/-- From what is met on the way, the way goes on as it does. -/
theorem PathN.suffix {l : Tr} : ∀ {r : List St} {n m : St}, PathN l n r → m ∈ r → ∃ r' p, PathN l m r' ∧ r = p ++ m :: r'
  | [], n, m, _, h => by cases h
  | x :: r, n, m, h, hm => by
    have h2 := h.look
    cases hg : getS l n with
    | none => rw [hg] at h2; cases h2
    | some s =>
      rw [hg] at h2
      obtain ⟨r', e, h3⟩ := h2
      cases e
      rcases List.mem_cons.mp hm with rfl | hm
      · exact ⟨r, [], h3, rfl⟩
      · obtain ⟨r2, p, h4, rfl⟩ := PathN.suffix h3 hm
        exact ⟨r2, s.1 :: p, h4, rfl⟩
theorem PathN.not_mem {l : Tr} {r : List St} {n : St} (h : PathN l n r) : n ∉ r := fun hm => by
  obtain ⟨r', p, h1, e⟩ := h.suffix hm
  have := h.det h1
  rw [this] at e
  have := congrArg List.length e
  simp at this
  omega
theorem PathN.nodup {l : Tr} : ∀ {r : List St} {n : St}, PathN l n r → (n :: r).Nodup
  | [], n, h => by simp
  | x :: r, n, h => by
    rw [List.nodup_cons]
    refine ⟨h.not_mem, ?_⟩
    have h2 := h.look
    cases hg : getS l n with
    | none => rw [hg] at h2; cases h2
    | some s =>
      rw [hg] at h2
      obtain ⟨r', e, h3⟩ := h2
      cases e
      exact PathN.nodup h3
theorem PathN.keys {l : Tr} : ∀ {r : List St} {n : St}, PathN l n r → ∀ x ∈ (n :: r).dropLast, x ∈ keysS l
  | [], n, h, x, hx => by simp at hx
  | y :: r, n, h, x, hx => by
    have h2 := h.look
    cases hg : getS l n with
    | none => rw [hg] at h2; cases h2
    | some s =>
      rw [hg] at h2
      obtain ⟨r', e, h3⟩ := h2
      cases e
      rw [List.dropLast_cons_cons] at hx
      rcases List.mem_cons.mp hx with rfl | hx
      · exact get_mem.mp (by rw [hg]; rfl)
      · exact PathN.keys h3 x hx
theorem nodup_len {l l' : List St} (h : l.Nodup) (hs : ∀ x ∈ l, x ∈ l') : l.length ≤ l'.length := by
  induction l generalizing l' with
  | nil => simp
  | cons a l ih =>
    rw [List.nodup_cons] at h
    have ha : a ∈ l' := hs a (List.mem_cons_self ..)
    have := ih (l' := l'.erase a) h.2 (fun x hx => by
      have hne : x ≠ a := fun e => h.1 (e ▸ hx)
      exact (List.mem_erase_of_ne hne).mpr (hs x (List.mem_cons_of_mem _ hx)))
    rw [List.length_erase_of_mem ha] at this
    have := List.length_pos_of_mem ha
    simp only [List.length_cons]
    omega
theorem PathN.len {l : Tr} {r : List St} {n : St} (h : PathN l n r) : r.length ≤ l.length := by
  have := nodup_len (l := (n :: r).dropLast) (l' := keysS l) (h.nodup.sublist (List.dropLast_sublist _)) h.keys
  simpa [keys_len] using this

def pathOf (l : Tr) (n : St) : List St := (upL l (l.length + 1) n).getD []
theorem up_more {l : Tr} : ∀ {f f' : Nat} {n : St} {r : List St}, upL l f n = some r → f ≤ f' → upL l f' n = some r
  | 0, _, _, _, h, _ => by cases h
  | f + 1, 0, _, _, _, h => by omega
  | f + 1, f' + 1, n, r, h, hf => by
    unfold upL at h ⊢
    cases hg : getS l n with
    | none => rw [hg] at h; exact h
    | some s =>
      rw [hg] at h
      simp only [Option.map_eq_some_iff] at h ⊢
      obtain ⟨a, h1, rfl⟩ := h
      exact ⟨a, up_more h1 (by omega), rfl⟩
theorem PathN.of {l : Tr} {r : List St} {n : St} (h : PathN l n r) : upL l (l.length + 1) n = some r :=
  up_more h.fuel (by have := h.len; omega)
theorem PathN.eq {l : Tr} {r : List St} {n : St} (h : PathN l n r) : r = pathOf l n := by
  unfold pathOf; rw [h.of]; rfl

def hasP (l : Tr) (p : St) : Prop := (getS l p).isSome = true ∨ p = (0, 0) ∨ p = (0, 1)
structure Inv (l : Tr) : Prop where
  nd : (keysS l).Nodup
  node : ∀ n s, getS l n = some s → 0 < n.1
  par : ∀ n s, getS l n = some s → hasP l s.1
  up : ∀ n, ∃ r, PathN l n r
theorem Inv.path {l : Tr} (h : Inv l) (n : St) : PathN l n (pathOf l n) := by
  obtain ⟨r, hr⟩ := h.up n
  rw [← hr.eq]; exact hr
theorem inv_nil : Inv [] := ⟨by simp [keysS], fun _ _ h => (by cases h), fun _ _ h => (by cases h), fun n => ⟨[], PathN.nil rfl⟩⟩

/-- A way that does not meet what is changed stays. -/
theorem path_same {l l' : Tr} {n : St} (hg : ∀ m, m ≠ n → getS l' m = getS l m) : ∀ {r : List St} {m : St}, PathN l m r → n ∉ m :: r → PathN l' m r
  | [], m, h, hn => by
    have h2 := h.look
    cases hm : getS l m with
    | none => exact PathN.nil (by rw [hg m (by rintro rfl; simp at hn), hm])
    | some s => rw [hm] at h2; obtain ⟨r, e, _⟩ := h2; cases e
  | x :: r, m, h, hn => by
    have h2 := h.look
    cases hm : getS l m with
    | none => rw [hm] at h2; cases h2
    | some s =>
      rw [hm] at h2
      obtain ⟨r', e, h3⟩ := h2
      cases e
      have : getS l' m = some s := by rw [hg m (by rintro rfl; simp at hn), hm]
      exact PathN.cons this (path_same hg h3 (fun hh => hn (List.mem_cons_of_mem _ hh)))
theorem up_change {l l' : Tr} {n : St} {s : Spot} (hg : ∀ m, m ≠ n → getS l' m = getS l m) (hn : getS l' n = some s) {r0 : List St} (h0 : PathN l s.1 r0) (hni : n ∉ s.1 :: r0) : ∀ {r : List St} {m : St}, PathN l m r → ∃ r', PathN l' m r' := by
  have hN : PathN l' n (s.1 :: r0) := PathN.cons hn (path_same hg h0 hni)
  intro r
  induction r with
  | nil =>
    intro m h
    by_cases e : m = n
    · subst e; exact ⟨_, hN⟩
    · have h2 := h.look
      cases hm : getS l m with
      | none => exact ⟨_, PathN.nil (by rw [hg m e, hm])⟩
      | some s => rw [hm] at h2; obtain ⟨r, e, _⟩ := h2; cases e
  | cons x r ih =>
    intro m h
    by_cases e : m = n
    · subst e; exact ⟨_, hN⟩
    · have h2 := h.look
      cases hm : getS l m with
      | none => rw [hm] at h2; cases h2
      | some s' =>
        rw [hm] at h2
        obtain ⟨r', e', h3⟩ := h2
        cases e'
        obtain ⟨r2, h4⟩ := ih h3
        exact ⟨_, PathN.cons (by rw [hg m e, hm]) h4⟩

theorem PathN.met {l : Tr} {n : St} : ∀ {r : List St} {m : St}, PathN l m r → n ∈ r → ∃ k s, getS l k = some s ∧ s.1 = n
  | [], _, _, h => by cases h
  | x :: r, m, hp, hin => by
    have h2 := hp.look
    cases hm : getS l m with
    | none => rw [hm] at h2; cases h2
    | some s =>
      rw [hm] at h2
      obtain ⟨r', e', h3⟩ := h2
      cases e'
      rcases List.mem_cons.mp hin with hh | hin
      · exact ⟨m, s, hm, hh.symm⟩
      · exact PathN.met h3 hin
theorem Inv.put {l : Tr} (h : Inv l) {n : St} {s : Spot} (h0 : 0 < n.1) (hp : hasP l s.1) (hni : n ∉ s.1 :: pathOf l s.1) : Inv (putS l n s) := by
  have hg : ∀ m, m ≠ n → getS (putS l n s) m = getS l m := fun m hm => by rw [get_put, if_neg hm]
  have hn : getS (putS l n s) n = some s := by rw [get_put, if_pos rfl]
  have hhas : ∀ p, hasP l p → hasP (putS l n s) p := fun p hp => by
    unfold hasP at hp ⊢
    rw [get_put]
    rcases hp with hp | hp
    · by_cases e : p = n <;> simp [e]
      exact .inl hp
    · exact .inr hp
  refine ⟨?_, fun m t hm => ?_, fun m t hm => ?_, fun m => ?_⟩
  · rw [keys_put]
    split
    · exact h.nd
    · rename_i hnk
      rw [List.nodup_append]
      refine ⟨h.nd, by simp, fun a ha b hb => ?_⟩
      simp only [List.mem_singleton] at hb
      subst hb
      exact fun e => hnk (e ▸ ha)
  · rw [get_put] at hm
    by_cases e : m = n
    · subst e; exact h0
    · rw [if_neg e] at hm; exact h.node m t hm
  · rw [get_put] at hm
    by_cases e : m = n
    · rw [if_pos e] at hm; cases hm; exact hhas _ hp
    · rw [if_neg e] at hm; exact hhas _ (h.par m t hm)
  · exact up_change hg hn (h.path _) hni (h.path m)
theorem Inv.del {l : Tr} (h : Inv l) {n : St} (hb : ∀ m s, getS l m = some s → s.1 ≠ n) : Inv (delS l n) := by
  have hg : ∀ m, getS (delS l n) m = if m = n then none else getS l m := fun m => get_del n m l h.nd
  refine ⟨h.nd.sublist (keys_del n l), fun m t hm => ?_, fun m t hm => ?_, fun m => ?_⟩
  · rw [hg] at hm
    split at hm
    · cases hm
    · exact h.node m t hm
  · rw [hg] at hm
    split at hm
    · cases hm
    · have := h.par m t hm
      unfold hasP at this ⊢
      rw [hg, if_neg (hb m t hm)]
      exact this
  · by_cases e : m = n
    · exact ⟨[], PathN.nil (by rw [hg, if_pos e])⟩
    · have hp := h.path m
      refine ⟨_, path_same (n := n) (fun m hm => by rw [hg, if_neg hm]) hp fun hin => ?_⟩
      rcases List.mem_cons.mp hin with hh | hin
      · exact e hh.symm
      · obtain ⟨k, s, hk⟩ := hp.met hin
        exact hb k s hk.1 hk.2
/-- Where each way up ends. -/
theorem Inv.end_ {l : Tr} (h : Inv l) : ∀ {r : List St} {n : St}, PathN l n r → (hx : r ≠ []) → r.getLast hx = (0, 0) ∨ r.getLast hx = (0, 1)
  | [], n, _, hx => absurd rfl hx
  | x :: r, n, hp, hx => by
    have h2 := hp.look
    cases hm : getS l n with
    | none => rw [hm] at h2; cases h2
    | some s =>
      rw [hm] at h2
      obtain ⟨r', e', h3⟩ := h2
      cases e'
      cases r with
      | nil =>
        simp only [List.getLast_singleton]
        have h4 := h3.look
        rcases h.par n s hm with h5 | h5
        · cases h6 : getS l s.1 with
          | none => rw [h6] at h5; cases h5
          | some t => rw [h6] at h4; obtain ⟨r, e, _⟩ := h4; cases e
        · exact h5
      | cons y r =>
        rw [List.getLast_cons (by simp)]
        exact h.end_ h3 (by simp)
end Go.Am.Tryd

/- Laws that read package variables: some blocks stand at places of their own from the start, only read. -/
namespace Go.Am
open Go Go.RowKit

theorem V.flats_at : ∀ {cs : List V}, V.flats cs = true → ∀ {i : Nat} {v : V}, cs[i]? = some v → v.flat = true
  | [], _, i, v, h => by simp at h
  | c :: cs, hf, i, v, h => by
    simp only [V.flats, Bool.and_eq_true] at hf
    cases i with
    | zero => simp at h; subst h; exact hf.1
    | succ i => exact V.flats_at hf.2 (by simpa using h)

/-- A closed call, reckoned where nothing but the package variables is in memory, is a part wherever they stand. -/
theorem prim_env {P : Program} {gl : Nat → Bool} {D : Decls} (hD : DOK P gl D) {f : FuncId} {v0 : V} {M0 M' : Mem} {k : Nat} (hv : v0.flat = true) (hwf : ∀ b, M0.next ≤ b → M0.get b = none)
    (hM0 : ∀ x, gl x = true → ∃ cs, M0.get x = some (.cells cs true) ∧ V.flats cs = true) (hr : callN D k f [] M0 = some (v0, M')) {g : List V → Mem → Option (V × Mem)}
    (hg : ∀ args M r, g args M = some r → args = [] ∧ r = (v0, M) ∧ ∀ x, gl x = true → M.get x = M0.get x) : CallOK P gl fun f' args M => if f' = f then g args M else none := by
  intro f' args M v M1 he
  simp only at he
  split at he
  · rename_i e
    subst e
    obtain ⟨rfl, hr', hx⟩ := hg _ _ _ he
    cases hr'
    obtain ⟨hc, hs⟩ := callN_sound hD k f' [] M0 v0 M' hr
    refine ⟨hc, fun E w args' hR hG hA => ?_⟩
    have hin : ∀ b x, (if gl b then E b else none) = some x → gl b = true ∧ E b = some x := fun b x h => by
      by_cases hb : gl b = true
      · rw [if_pos hb] at h; exact ⟨hb, h⟩
      · rw [if_neg hb] at h; cases h
    have hro : ∀ b x, (if gl b then E b else none) = some x → isRo M0 b := fun b x h => by
      obtain ⟨cs, h1, _⟩ := hM0 b (hin b x h).1
      exact ⟨_, h1, rfl⟩
    have hR0 : Rel (fun b => if gl b then E b else none) M0 w := by
      refine ⟨fun b c d k hb => ?_, fun b c d k hb => hR.lt b c d k (hin b _ hb).2, fun b b' c d k d' k' hb _ ho _ => (own_not_ro ho (hro b _ hb)).elim, hwf⟩
      obtain ⟨hgb, hE⟩ := hin b _ hb
      obtain ⟨cs, h1, hf⟩ := hM0 b hgb
      obtain ⟨o, ho, arr⟩ := hR.at_ b c d k hE
      rw [hx b hgb, h1] at ho
      cases ho
      obtain ⟨arr, elem, fz, a1, a2, a3⟩ := arr
      refine ⟨_, h1, arr, elem, fz, a1, fun i v hi => ?_, a3⟩
      obtain ⟨u, hu, hvu⟩ := a2 i v hi
      exact ⟨u, hu, hvu.flat (V.flats_at hf hi)⟩
    refine (hs _ w args' hR0 (fun x hx' => by
      obtain ⟨k, hk⟩ := hG x hx'
      exact ⟨k, by rw [if_pos hx']; exact hk⟩) (VRs.flat hA rfl)).mono fun e w' ⟨E', v', he, hv', _, hX⟩ => ?_
    have hk : ∀ c, c < w.heap.size → w'.heap[c]? = w.heap[c]? := fun c hc => hX.keep c hc fun b d k hb => hro b _ hb
    refine ⟨E, v', he, VR.flat hv' hv, ⟨fun b c d k hb => ?_, fun b c d k hb => Nat.lt_of_lt_of_le (hR.lt b c d k hb) hX.size, hR.inj, hR.wf⟩, ⟨Emb.le_refl E, hX.os, hX.tape, hX.output, hX.size, Nat.le_refl _, fun c hc _ => hk c hc, fun b c d k h1 h2 => ?_, fun _ _ => rfl, hX.drawn⟩⟩
    · obtain ⟨o, ho, hr'⟩ := hR.at_ b c d k hb
      exact ⟨o, ho, by rw [hk c (hR.lt b c d k hb)]; exact hr'⟩
    · rw [h1] at h2; cases h2
  · cases he

/-- A function that tells something flat and leaves all as it was, as a part. -/
theorem prim_keep {P : Program} {gl : Nat → Bool} {f : FuncId} {g : List V → Mem → Option V} (hc : Callable P f)
    (h : ∀ args M v, g args M = some v → (∀ b, M.next ≤ b → M.get b = none) → v.flat = true ∧ XRuns P gl f args M fun v' M' => v' = v ∧ ∀ c, c < M.next → M'.get c = M.get c) : CallOK P gl fun f' args M => if f' = f then (g args M).map (·, M) else none := by
  intro f' args M v M' he
  simp only at he
  split at he
  · rename_i e
    subst e
    simp only [Option.map_eq_some_iff, Prod.mk.injEq] at he
    obtain ⟨v1, hv, rfl, rfl⟩ := he
    refine ⟨hc, fun E w args' hR hG hA => ?_⟩
    obtain ⟨hf, hrun⟩ := h args M v1 hv hR.wf
    refine (hrun.2 E w args' hR hG hA).mono ?_
    rintro e w' ⟨E', v2, v', M1, rfl, hv', hR', hX, rfl, hk⟩
    obtain ⟨a, b⟩ := hR.restrict (bs := []) (Mz := M) ⟨rfl, fun _ _ => rfl, fun _ h => by cases h⟩ hR' hX hk
    exact ⟨E, v', rfl, hv'.flat hf, a, b⟩
  · cases he
def Decls.addP (D : Decls) (f : FuncId) (g : List V → Mem → Option V) : Decls := D.addM f fun args M => (g args M).map (·, M)
theorem Runs.part {D : Decls} {f : FuncId} {g : List V → Mem → Option V} {args : List V} {M : Mem} {v : V} (hp : D.prim f = some fun args M => (g args M).map (·, M)) (hg : g args M = some v) : Runs D f args M fun v' M' => v' = v ∧ M' = M :=
  Runs.prim (v := v) (M' := M) hp (by simp only [hg, Option.map_some]) ⟨rfl, rfl⟩

/-- A law that is true, of arguments some of which are only read, where package variables stand at their places. -/
theorem law_glob {P : Program} {gl : Nat → Bool} {D : Decls} (hD : DOK P gl D) {f : FuncId} {args : List V} {args' : Array Value} {w : World} {l : Env} (hg : ∀ x, gl x = true → ∃ k, l.emb x = some (x, 0, k)) (hl : l.ok w) (hA : VRs l.emb args args'.toList) (h : Runs D f args l.mem fun v _ => v = .bool true) :
    Calls P f args' w fun e w' => e = .returned (.bool true) ∧ Below w.heap.size w w' := by
  obtain ⟨k, v, M', hr, rfl⟩ := h
  obtain ⟨_, hs⟩ := callN_sound hD k f args l.mem _ M' hr
  refine (hs l.emb w args' (Env.rel hl) hg hA).mono fun e w' ⟨E', v', he, hv', _, hX⟩ => ?_
  cases hv'
  refine ⟨he, hX.os, hX.tape, hX.output, hX.size, fun c hc => hX.keep c hc fun b d k hb => ?_⟩
  simp only [Env.emb, Option.map_eq_some_iff] at hb
  obtain ⟨x, hx, _⟩ := hb
  exact ⟨_, by rw [l.get_mem, hx]; rfl, rfl⟩
end Go.Am

/- Small functions as parts: none, node, Within; a stamp's and a key's looks. -/
namespace Go.Am.Tryd
open Go Go.Am Go.Proofs Go.Sort Go.Shelf
set_option maxRecDepth 100000
set_option linter.unusedSimpArgs false
set_option linter.unusedVariables false

def rightSt (x : St) : Bool := decide (0 ≤ x.1) && (decide (x.1 ≤ 1099511627776) && (decide (0 ≤ x.2) && decide (x.2 < 16)))

theorem sright_runs (D : Decls) (hp : D.prim F_stamp_Right = none) (hc : D.code.get F_stamp_Right = some A_stamp_Right) (M : Mem) (x : St) :
    Runs D F_stamp_Right [.agg (stC x)] M fun v M' => v = .bool (rightSt x) ∧ ∀ c, c < M.next → M'.get c = M.get c := by
  refine R_opq fun R hR => ?_
  refine Runs.walk (F := A_stamp_Right) hp hc (by rfl) ?_
  unfold A_stamp_Right
  have hcn : V.cells (.agg (stC x)) = stC x := rfl
  have g1 : (M.push (.cells (stC x) false)).get M.next = some (.cells (stC x) false) := Mem.get_push_same _ _
  have hG : ∀ c, c < M.next → (M.push (.cells (stC x) false)).get c = M.get c := (Grew.push _ _).old
  have e0 : (stC x)[0]? = some (.int .i64 x.1) := rfl
  have e1 : (stC x)[1]? = some (.int .i64 x.2) := rfl
  have fin : ∀ b, b = rightSt x → R (.bool b) (M.push (.cells (stC x) false)) := fun b hb => hR _ _ ⟨by rw [hb], hG⟩
  simp -dsimp only [↓w_seq, ↓w_ops, ↓w_skip, ↓w_ret, ↓w_exit, ↓w_scope, ↓w_block, ↓w_cond, cond_true', cond_false', ↓t_nil, ↓t_plain, ↓t_guard, ↓t_gagain, ↓t_again, t_val, t_call, g_true, g_false, ga_true, ga_false, a_val, a_call, ↓n_normal, ↓n_ret, ↓n_exit, ↓b_normal, ↓b_ret, ↓b_exit, ↓e_normal, ↓e_ret, e_some, go_sem, ↓reduceIte, Nat.reduceEqDiff, Nat.reduceLT, Nat.reduceSub, A_stamp_Right_0, A_stamp_Right_1, hcn]
  generalize M.push (.cells (stC x) false) = M1 at *
  simp -dsimp only [↓w_seq, ↓w_ops, ↓w_skip, ↓w_ret, ↓w_exit, ↓w_scope, ↓w_block, ↓w_cond, cond_true', cond_false', ↓t_nil, ↓t_plain, ↓t_guard, ↓t_gagain, ↓t_again, t_val, t_call, g_true, g_false, ga_true, ga_false, a_val, a_call, ↓n_normal, ↓n_ret, ↓n_exit, ↓b_normal, ↓b_ret, ↓b_exit, ↓e_normal, ↓e_ret, e_some, go_sem, ↓reduceIte, Nat.reduceEqDiff, Nat.reduceLT, Nat.reduceSub, vload, vptr, Mem.read, g1, Nat.add_zero, e0, e1]
  by_cases h1 : 0 ≤ x.1
  · simp -dsimp only [↓w_seq, ↓w_ops, ↓w_skip, ↓w_ret, ↓w_exit, ↓w_scope, ↓w_block, ↓w_cond, cond_true', cond_false', ↓t_nil, ↓t_plain, ↓t_guard, ↓t_gagain, ↓t_again, t_val, t_call, g_true, g_false, ga_true, ga_false, a_val, a_call, ↓n_normal, ↓n_ret, ↓n_exit, ↓b_normal, ↓b_ret, ↓b_exit, ↓e_normal, ↓e_ret, e_some, go_sem, ↓reduceIte, Nat.reduceEqDiff, Nat.reduceLT, Nat.reduceSub, h1, decide_true, vload, vptr, Mem.read, g1, Nat.add_zero, e0, e1]
    by_cases h2 : x.1 ≤ 1099511627776
    · simp -dsimp only [↓w_seq, ↓w_ops, ↓w_skip, ↓w_ret, ↓w_exit, ↓w_scope, ↓w_block, ↓w_cond, cond_true', cond_false', ↓t_nil, ↓t_plain, ↓t_guard, ↓t_gagain, ↓t_again, t_val, t_call, g_true, g_false, ga_true, ga_false, a_val, a_call, ↓n_normal, ↓n_ret, ↓n_exit, ↓b_normal, ↓b_ret, ↓b_exit, ↓e_normal, ↓e_ret, e_some, go_sem, ↓reduceIte, Nat.reduceEqDiff, Nat.reduceLT, Nat.reduceSub, h2, decide_true, vload, vptr, Mem.read, g1, Nat.add_zero, e0, e1]
      by_cases h3 : 0 ≤ x.2
      · simp -dsimp only [↓w_seq, ↓w_ops, ↓w_skip, ↓w_ret, ↓w_exit, ↓w_scope, ↓w_block, ↓w_cond, cond_true', cond_false', ↓t_nil, ↓t_plain, ↓t_guard, ↓t_gagain, ↓t_again, t_val, t_call, g_true, g_false, ga_true, ga_false, a_val, a_call, ↓n_normal, ↓n_ret, ↓n_exit, ↓b_normal, ↓b_ret, ↓b_exit, ↓e_normal, ↓e_ret, e_some, go_sem, ↓reduceIte, Nat.reduceEqDiff, Nat.reduceLT, Nat.reduceSub, h3, decide_true, vload, vptr, Mem.read, g1, Nat.add_zero, e0, e1]
        exact fin _ (by simp only [rightSt, h1, h2, h3, decide_true, Bool.true_and])
      · simp -dsimp only [↓w_seq, ↓w_ops, ↓w_skip, ↓w_ret, ↓w_exit, ↓w_scope, ↓w_block, ↓w_cond, cond_true', cond_false', ↓t_nil, ↓t_plain, ↓t_guard, ↓t_gagain, ↓t_again, t_val, t_call, g_true, g_false, ga_true, ga_false, a_val, a_call, ↓n_normal, ↓n_ret, ↓n_exit, ↓b_normal, ↓b_ret, ↓b_exit, ↓e_normal, ↓e_ret, e_some, go_sem, ↓reduceIte, Nat.reduceEqDiff, Nat.reduceLT, Nat.reduceSub, h3, decide_false, vload, vptr, Mem.read, g1, Nat.add_zero, e0, e1]
        exact fin _ (by simp only [rightSt, h1, h2, h3, decide_true, decide_false, Bool.true_and, Bool.false_and])
    · simp -dsimp only [↓w_seq, ↓w_ops, ↓w_skip, ↓w_ret, ↓w_exit, ↓w_scope, ↓w_block, ↓w_cond, cond_true', cond_false', ↓t_nil, ↓t_plain, ↓t_guard, ↓t_gagain, ↓t_again, t_val, t_call, g_true, g_false, ga_true, ga_false, a_val, a_call, ↓n_normal, ↓n_ret, ↓n_exit, ↓b_normal, ↓b_ret, ↓b_exit, ↓e_normal, ↓e_ret, e_some, go_sem, ↓reduceIte, Nat.reduceEqDiff, Nat.reduceLT, Nat.reduceSub, h2, decide_false, vload, vptr, Mem.read, g1, Nat.add_zero, e0, e1]
      exact fin _ (by simp only [rightSt, h1, h2, decide_true, decide_false, Bool.true_and, Bool.false_and])
  · simp -dsimp only [↓w_seq, ↓w_ops, ↓w_skip, ↓w_ret, ↓w_exit, ↓w_scope, ↓w_block, ↓w_cond, cond_true', cond_false', ↓t_nil, ↓t_plain, ↓t_guard, ↓t_gagain, ↓t_again, t_val, t_call, g_true, g_false, ga_true, ga_false, a_val, a_call, ↓n_normal, ↓n_ret, ↓n_exit, ↓b_normal, ↓b_ret, ↓b_exit, ↓e_normal, ↓e_ret, e_some, go_sem, ↓reduceIte, Nat.reduceEqDiff, Nat.reduceLT, Nat.reduceSub, h1, decide_false, vload, vptr, Mem.read, g1, Nat.add_zero, e0, e1]
    exact fin _ (by simp only [rightSt, h1, decide_false, Bool.false_and])

def digitL (k : List UInt8) (i : Nat) : Nat := (k.getD i 0).toNat
def rightK (k : List UInt8) : Bool := !decide (k = []) && (decide (k.length ≤ 24) && !decide (digitL k (k.length - 1) = 0))
theorem kright_runs (D : Decls) (hp : D.prim F_poskey_Right = none) (hc : D.code.get F_poskey_Right = some A_poskey_Right) (M : Mem) (k : List UInt8) :
    Runs D F_poskey_Right [.str k] M fun v M' => v = .bool (rightK k) ∧ M' = M := by
  refine R_opq fun R hR => ?_
  refine Runs.walk (F := A_poskey_Right) hp hc (by rfl) ?_
  unfold A_poskey_Right
  have fin : ∀ b, b = rightK k → R (.bool b) M := fun b hb => hR _ _ ⟨by rw [hb], rfl⟩
  simp -dsimp only [↓w_seq, ↓w_ops, ↓w_skip, ↓w_ret, ↓w_exit, ↓w_scope, ↓w_block, ↓w_cond, cond_true', cond_false', ↓t_nil, ↓t_plain, ↓t_guard, ↓t_gagain, ↓t_again, t_val, t_call, g_true, g_false, ga_true, ga_false, a_val, a_call, ↓n_normal, ↓n_ret, ↓n_exit, ↓b_normal, ↓b_ret, ↓b_exit, ↓e_normal, ↓e_ret, e_some, go_sem, ↓reduceIte, Nat.reduceEqDiff, Nat.reduceLT, Nat.reduceSub, A_poskey_Right_0, A_poskey_Right_1]
  by_cases h : k = []
  · simp -dsimp only [↓w_seq, ↓w_ops, ↓w_skip, ↓w_ret, ↓w_exit, ↓w_scope, ↓w_block, ↓w_cond, cond_true', cond_false', ↓t_nil, ↓t_plain, ↓t_guard, ↓t_gagain, ↓t_again, t_val, t_call, g_true, g_false, ga_true, ga_false, a_val, a_call, ↓n_normal, ↓n_ret, ↓n_exit, ↓b_normal, ↓b_ret, ↓b_exit, ↓e_normal, ↓e_ret, e_some, go_sem, ↓reduceIte, Nat.reduceEqDiff, Nat.reduceLT, Nat.reduceSub, h, decide_true, Bool.not_true, Bool.not_false]
    exact fin _ (by simp only [rightK, h, decide_true, Bool.not_true, Bool.false_and])
  · have hk : 0 < k.length := by cases k <;> simp at h ⊢
    simp -dsimp only [↓w_seq, ↓w_ops, ↓w_skip, ↓w_ret, ↓w_exit, ↓w_scope, ↓w_block, ↓w_cond, cond_true', cond_false', ↓t_nil, ↓t_plain, ↓t_guard, ↓t_gagain, ↓t_again, t_val, t_call, g_true, g_false, ga_true, ga_false, a_val, a_call, ↓n_normal, ↓n_ret, ↓n_exit, ↓b_normal, ↓b_ret, ↓b_exit, ↓e_normal, ↓e_ret, e_some, go_sem, ↓reduceIte, Nat.reduceEqDiff, Nat.reduceLT, Nat.reduceSub, h, decide_false, Bool.not_true, Bool.not_false]
    by_cases h2 : (k.length : Int) ≤ 24
    · have hl : k[k.length - 1]? = some k[k.length - 1] := List.getElem?_eq_getElem (by omega)
      have hd : digitL k (k.length - 1) = k[k.length - 1].toNat := by simp [digitL, List.getD_eq_getElem?_getD, hl]
      simp -dsimp only [↓w_seq, ↓w_ops, ↓w_skip, ↓w_ret, ↓w_exit, ↓w_scope, ↓w_block, ↓w_cond, cond_true', cond_false', ↓t_nil, ↓t_plain, ↓t_guard, ↓t_gagain, ↓t_again, t_val, t_call, g_true, g_false, ga_true, ga_false, a_val, a_call, ↓n_normal, ↓n_ret, ↓n_exit, ↓b_normal, ↓b_ret, ↓b_exit, ↓e_normal, ↓e_ret, e_some, go_sem, ↓reduceIte, Nat.reduceEqDiff, Nat.reduceLT, Nat.reduceSub, h2, decide_true]
      rw [IntWalk.i64_in _ (by omega), as_nat _ _ (by omega), show ((k.length : Int) - 1).toNat = k.length - 1 by omega]
      simp -dsimp only [↓w_seq, ↓w_ops, ↓w_skip, ↓w_ret, ↓w_exit, ↓w_scope, ↓w_block, ↓w_cond, cond_true', cond_false', ↓t_nil, ↓t_plain, ↓t_guard, ↓t_gagain, ↓t_again, t_val, t_call, g_true, g_false, ga_true, ga_false, a_val, a_call, ↓n_normal, ↓n_ret, ↓n_exit, ↓b_normal, ↓b_ret, ↓b_exit, ↓e_normal, ↓e_ret, e_some, go_sem, ↓reduceIte, Nat.reduceEqDiff, Nat.reduceLT, Nat.reduceSub, hl]
      exact fin _ (by simp only [rightK, h, hd, show k.length ≤ 24 by omega, Int.natCast_eq_zero, decide_true, decide_false, Bool.not_false, Bool.true_and])
    · simp -dsimp only [↓w_seq, ↓w_ops, ↓w_skip, ↓w_ret, ↓w_exit, ↓w_scope, ↓w_block, ↓w_cond, cond_true', cond_false', ↓t_nil, ↓t_plain, ↓t_guard, ↓t_gagain, ↓t_again, t_val, t_call, g_true, g_false, ga_true, ga_false, a_val, a_call, ↓n_normal, ↓n_ret, ↓n_exit, ↓b_normal, ↓b_ret, ↓b_exit, ↓e_normal, ↓e_ret, e_some, go_sem, ↓reduceIte, Nat.reduceEqDiff, Nat.reduceLT, Nat.reduceSub, h2, decide_false]
      exact fin _ (by simp only [rightK, h, show ¬ k.length ≤ 24 by omega, decide_true, decide_false, Bool.not_false, Bool.true_and, Bool.false_and])

/-! ### parts: none, node, Within -/
def treeOf (M : Mem) (tc : Nat) : Option (Option Tr) :=
  match M.get tc with
  | some (.cells [.map none] _) => some none
  | some (.cells [.map (some bm)] _) => (match M.get bm with
    | some (.map es) => (decM es).map some
    | _ => none)
  | _ => none
theorem treeOf_none {M : Mem} {tc : Nat} (h : treeOf M tc = some none) : ∃ rc, M.get tc = some (.cells [.map none] rc) := by
  unfold treeOf at h
  split at h
  · exact ⟨_, by assumption⟩
  · split at h
    · simp only [Option.map_eq_some_iff] at h
      obtain ⟨_, _, h⟩ := h
      cases h
    · cases h
  · cases h
theorem treeOf_some {M : Mem} {tc : Nat} {l : Tr} (h : treeOf M tc = some (some l)) : ∃ bm rc, M.get tc = some (.cells [.map (some bm)] rc) ∧ M.get bm = some (.map (encM l)) := by
  unfold treeOf at h
  split at h
  · cases h
  · rename_i bm rc htc
    split at h
    · rename_i es hes
      simp only [Option.map_eq_some_iff] at h
      obtain ⟨l', h1, h2⟩ := h
      cases h2
      exact ⟨bm, rc, htc, by rw [hes, decM_is h1]⟩
    · cases h
  · cases h
theorem treeOf_is {M : Mem} {tc bm : Nat} {rc : Bool} {l : Tr} (h : M.get tc = some (.cells [.map (some bm)] rc)) (h2 : M.get bm = some (.map (encM l))) : treeOf M tc = some (some l) := by
  simp only [treeOf, h, h2, decM_enc, Option.map_some]
theorem treeOf_is0 {M : Mem} {tc : Nat} {rc : Bool} (h : M.get tc = some (.cells [.map none] rc)) : treeOf M tc = some none := by
  simp only [treeOf, h]
theorem lt_of_get {M : Mem} (hwf : ∀ b, M.next ≤ b → M.get b = none) {c : Nat} {o : O} (h : M.get c = some o) : c < M.next := by
  rcases Nat.lt_or_ge c M.next with h1 | h1
  · exact h1
  · rw [hwf c h1] at h; cases h

def pNone (args : List V) (M : Mem) : Option V :=
  match args with
  | [.ptr none] => some (.bool true)
  | [.ptr (some (tc, 0))] => (treeOf M tc).map fun o => .bool o.isNone
  | _ => none
def pNode (args : List V) (M : Mem) : Option V :=
  match args with
  | [.ptr (some (tc, 0)), .agg [.int .i64 a, .int .i64 b]] => (treeOf M tc).bind fun o => o.map fun l => .bool (getS l (a, b)).isSome
  | _ => none
def withinB (l : Tr) (p n : St) (path : List St) : Bool := (getS l n).isSome && (decide (p ∈ path) || decide (p = n))
def pWithin (args : List V) (M : Mem) : Option V :=
  match args with
  | [.ptr none, .agg [.int .i64 a, .int .i64 b], .agg [.int .i64 c, .int .i64 d]] => some (.bool false)
  | [.ptr (some (tc, 0)), .agg [.int .i64 a, .int .i64 b], .agg [.int .i64 c, .int .i64 d]] => (treeOf M tc).bind fun o => match o with
    | none => some (.bool false)
    | some l => (upL l (l.length + 1) (c, d)).map fun path => .bool (withinB l (a, b) (c, d) path)
  | _ => none

theorem pNone_ok : CallOK Tryd.prog gl0 fun f' args M => if f' = F_tree_Tree_none then (pNone args M).map (·, M) else none := by
  refine prim_keep ⟨_, Tryd.func44, (by kernel_rfl), (by kernel_rfl)⟩ ?_
  intro args M v h hwf
  unfold pNone at h
  split at h
  · cases h
    exact ⟨rfl, XRuns.of_runs dok0 ((none_nil D0 rfl (by rfl) M).mono fun v M' h => ⟨h.1, fun c _ => by rw [h.2]⟩)⟩
  · rename_i tc
    simp only [Option.map_eq_some_iff] at h
    obtain ⟨o, h1, rfl⟩ := h
    cases o with
    | none =>
      obtain ⟨rc, h2⟩ := treeOf_none h1
      exact ⟨rfl, XRuns.of_runs dok0 ((none_empty D0 rfl (by rfl) M tc rc h2).mono fun v M' h => ⟨h.1, fun c _ => by rw [h.2]⟩)⟩
    | some l =>
      obtain ⟨bm, rc, h2, h3⟩ := treeOf_some h1
      exact ⟨rfl, XRuns.of_runs dok0 ((none_some D0 rfl (by rfl) M tc bm rc h2).mono fun v M' h => ⟨h.1, fun c _ => by rw [h.2]⟩)⟩
  · cases h
theorem pNode_ok : CallOK Tryd.prog gl0 fun f' args M => if f' = F_tree_Tree_node then (pNode args M).map (·, M) else none := by
  refine prim_keep ⟨_, Tryd.func50, (by kernel_rfl), (by kernel_rfl)⟩ ?_
  intro args M v h hwf
  unfold pNode at h
  split at h
  · rename_i tc a b
    simp only [Option.bind_eq_some_iff, Option.map_eq_some_iff] at h
    obtain ⟨o, h1, l, rfl, rfl⟩ := h
    obtain ⟨bm, rc, h2, h3⟩ := treeOf_some h1
    exact ⟨rfl, XRuns.of_runs dok0 ((node_runs D0 rfl (by rfl) M tc bm rc l (a, b) (lt_of_get hwf h2) (lt_of_get hwf h3) h2 (by unfold mapAt; rw [h3])).mono fun v M' h => ⟨h.1, h.2.old⟩)⟩
  · cases h
theorem Within_nil (M : Mem) (p n : St) : XP F_tree_Tree_Within [.ptr none, .agg (stC p), .agg (stC n)] M fun v M' => v = .bool false ∧ ∀ c, c < M.next → M'.get c = M.get c := by
  refine XR_opq fun R hR => ?_
  refine XRuns.walk mixed Tryd.func18 b_tree_Tree_Within n_tree_Tree_Within r_tree_Tree_Within (by rfl) ?_
  unfold X_tree_Tree_Within
  have hcn : ∀ x : St, V.cells (.agg (stC x)) = stC x := fun _ => rfl
  simp -dsimp only [↓x_seq', ↓x_ops, ↓x_skip, ↓x_ret, ↓x_exit, ↓x_block', ↓x_cond', cond_true', cond_false', ↓i_nil, ↓i_plain, ↓i_guard, xs_val, xs_call, xs_yield, xg_true, xg_false, ↓n_normal, ↓n_ret, ↓n_exit, ↓b_normal, ↓b_ret, ↓b_exit, ↓xe_normal, ↓xe_ret, e_some, yieldOf, go_sem, ↓reduceIte, Nat.reduceEqDiff, Nat.reduceLT, Nat.reduceSub, X_tree_Tree_Within_0, X_tree_Tree_Within_1, hcn, Mem.next_push]
  have gk : Grew M (((M.push (.cells (stC p) false)).push (.cells (stC n) false)).push (.cells [.bool false] false)) := ((Grew.push _ _).trans (Grew.push _ _)).trans (Grew.push _ _)
  have g6 : (((M.push (.cells (stC p) false)).push (.cells (stC n) false)).push (.cells [.bool false] false)).get (M.next + 1 + 1) = some (.cells [.bool false] false) := Mem.get_push_same ((M.push _).push _) _
  generalize ((M.push (.cells (stC p) false)).push (.cells (stC n) false)).push (.cells [.bool false] false) = M1 at *
  refine xcall_of (XRuns.of_runs dok0 (none_nil D0 rfl (by rfl) M1)) ?_
  intro v M2 hv
  rw [hv.1, hv.2]
  have hw6 := write_one (v := .bool false) g6 (show 0 < 1 by omega) rfl
  simp -dsimp only [↓x_seq', ↓x_ops, ↓x_skip, ↓x_ret, ↓x_exit, ↓x_block', ↓x_cond', cond_true', cond_false', ↓i_nil, ↓i_plain, ↓i_guard, xs_val, xs_call, xs_yield, xg_true, xg_false, ↓n_normal, ↓n_ret, ↓n_exit, ↓b_normal, ↓b_ret, ↓b_exit, ↓xe_normal, ↓xe_ret, e_some, yieldOf, go_sem, ↓reduceIte, Nat.reduceEqDiff, Nat.reduceLT, Nat.reduceSub, X_tree_Tree_Within_2, vstore, V.cells, List.length_cons, List.length_nil, Nat.zero_add, hw6, List.set_cons_zero]
  have hs6 := Mem.get_set_same M1 (M.next + 1 + 1) (.cells [.bool false] false)
  have ho6 : ∀ c, c ≠ M.next + 1 + 1 → (M1.set (M.next + 1 + 1) (.cells [.bool false] false)).get c = M1.get c := fun c hc => Mem.get_set_ne _ _ hc
  generalize M1.set (M.next + 1 + 1) (.cells [.bool false] false) = M6 at *
  simp -dsimp only [↓x_seq', ↓x_ops, ↓x_skip, ↓x_ret, ↓x_exit, ↓x_block', ↓x_cond', cond_true', cond_false', ↓i_nil, ↓i_plain, ↓i_guard, xs_val, xs_call, xs_yield, xg_true, xg_false, ↓n_normal, ↓n_ret, ↓n_exit, ↓b_normal, ↓b_ret, ↓b_exit, ↓xe_normal, ↓xe_ret, e_some, yieldOf, go_sem, ↓reduceIte, Nat.reduceEqDiff, Nat.reduceLT, Nat.reduceSub, vload, vptr, Mem.read, hs6, List.getElem?_cons_zero, Option.bind_some, oneOf]
  exact hR _ _ ⟨rfl, fun c hc => (ho6 c (by omega)).trans (gk.old c hc)⟩
theorem Within_empty (M : Mem) (p n : St) (tc : Nat) (rc : Bool) (htc : tc < M.next) (h : M.get tc = some (.cells [.map none] rc)) : XP F_tree_Tree_Within [.ptr (some (tc, 0)), .agg (stC p), .agg (stC n)] M fun v M' => v = .bool false ∧ ∀ c, c < M.next → M'.get c = M.get c := by
  refine XR_opq fun R hR => ?_
  refine XRuns.walk mixed Tryd.func18 b_tree_Tree_Within n_tree_Tree_Within r_tree_Tree_Within (by rfl) ?_
  unfold X_tree_Tree_Within
  have hcn : ∀ x : St, V.cells (.agg (stC x)) = stC x := fun _ => rfl
  simp -dsimp only [↓x_seq', ↓x_ops, ↓x_skip, ↓x_ret, ↓x_exit, ↓x_block', ↓x_cond', cond_true', cond_false', ↓i_nil, ↓i_plain, ↓i_guard, xs_val, xs_call, xs_yield, xg_true, xg_false, ↓n_normal, ↓n_ret, ↓n_exit, ↓b_normal, ↓b_ret, ↓b_exit, ↓xe_normal, ↓xe_ret, e_some, yieldOf, go_sem, ↓reduceIte, Nat.reduceEqDiff, Nat.reduceLT, Nat.reduceSub, X_tree_Tree_Within_0, X_tree_Tree_Within_1, hcn, Mem.next_push]
  have gk : Grew M (((M.push (.cells (stC p) false)).push (.cells (stC n) false)).push (.cells [.bool false] false)) := ((Grew.push _ _).trans (Grew.push _ _)).trans (Grew.push _ _)
  have g6 : (((M.push (.cells (stC p) false)).push (.cells (stC n) false)).push (.cells [.bool false] false)).get (M.next + 1 + 1) = some (.cells [.bool false] false) := Mem.get_push_same ((M.push _).push _) _
  generalize ((M.push (.cells (stC p) false)).push (.cells (stC n) false)).push (.cells [.bool false] false) = M1 at *
  refine xcall_of (XRuns.of_runs dok0 (none_empty D0 rfl (by rfl) M1 tc rc ((gk.old _ htc).trans h))) ?_
  intro v M2 hv
  rw [hv.1, hv.2]
  have hw6 := write_one (v := .bool false) g6 (show 0 < 1 by omega) rfl
  simp -dsimp only [↓x_seq', ↓x_ops, ↓x_skip, ↓x_ret, ↓x_exit, ↓x_block', ↓x_cond', cond_true', cond_false', ↓i_nil, ↓i_plain, ↓i_guard, xs_val, xs_call, xs_yield, xg_true, xg_false, ↓n_normal, ↓n_ret, ↓n_exit, ↓b_normal, ↓b_ret, ↓b_exit, ↓xe_normal, ↓xe_ret, e_some, yieldOf, go_sem, ↓reduceIte, Nat.reduceEqDiff, Nat.reduceLT, Nat.reduceSub, X_tree_Tree_Within_2, vstore, V.cells, List.length_cons, List.length_nil, Nat.zero_add, hw6, List.set_cons_zero]
  have hs6 := Mem.get_set_same M1 (M.next + 1 + 1) (.cells [.bool false] false)
  have ho6 : ∀ c, c ≠ M.next + 1 + 1 → (M1.set (M.next + 1 + 1) (.cells [.bool false] false)).get c = M1.get c := fun c hc => Mem.get_set_ne _ _ hc
  generalize M1.set (M.next + 1 + 1) (.cells [.bool false] false) = M6 at *
  simp -dsimp only [↓x_seq', ↓x_ops, ↓x_skip, ↓x_ret, ↓x_exit, ↓x_block', ↓x_cond', cond_true', cond_false', ↓i_nil, ↓i_plain, ↓i_guard, xs_val, xs_call, xs_yield, xg_true, xg_false, ↓n_normal, ↓n_ret, ↓n_exit, ↓b_normal, ↓b_ret, ↓b_exit, ↓xe_normal, ↓xe_ret, e_some, yieldOf, go_sem, ↓reduceIte, Nat.reduceEqDiff, Nat.reduceLT, Nat.reduceSub, vload, vptr, Mem.read, hs6, List.getElem?_cons_zero, Option.bind_some, oneOf]
  exact hR _ _ ⟨rfl, fun c hc => (ho6 c (by omega)).trans (gk.old c hc)⟩
theorem pWithin_ok : CallOK Tryd.prog gl0 fun f' args M => if f' = F_tree_Tree_Within then (pWithin args M).map (·, M) else none := by
  refine prim_keep ⟨_, Tryd.func18, (by kernel_rfl), (by kernel_rfl)⟩ ?_
  intro args M v h hwf
  unfold pWithin at h
  split at h
  · rename_i a b c d
    cases h
    exact ⟨rfl, Within_nil M (a, b) (c, d)⟩
  · rename_i tc a b c d
    simp only [Option.bind_eq_some_iff] at h
    obtain ⟨o, h1, h⟩ := h
    cases o with
    | none =>
      obtain ⟨rc, h2⟩ := treeOf_none h1
      cases h
      exact ⟨rfl, Within_empty M (a, b) (c, d) tc rc (lt_of_get hwf h2) h2⟩
    | some l =>
      obtain ⟨bm, rc, h2, h3⟩ := treeOf_some h1
      simp only [Option.map_eq_some_iff] at h
      obtain ⟨path, hp, rfl⟩ := h
      exact ⟨rfl, (Within_runs M tc bm rc l (a, b) (c, d) path (lt_of_get hwf h2) (lt_of_get hwf h3) h2 (by unfold mapAt; rw [h3]) ⟨_, hp⟩).mono fun v M' h => ⟨h.2, h.1⟩⟩
  · cases h

def pSRight (args : List V) (_ : Mem) : Option V :=
  match args with
  | [.agg [.int .i64 a, .int .i64 b]] => some (.bool (rightSt (a, b)))
  | _ => none
def pKRight (args : List V) (_ : Mem) : Option V :=
  match args with
  | [.str k] => some (.bool (rightK k))
  | _ => none
theorem pSRight_ok : CallOK Tryd.prog gl0 fun f' args M => if f' = F_stamp_Right then (pSRight args M).map (·, M) else none := by
  refine prim_keep ⟨_, Tryd.func79, (by kernel_rfl), (by kernel_rfl)⟩ ?_
  intro args M v h hwf
  unfold pSRight at h
  split at h
  · rename_i a b
    cases h
    exact ⟨rfl, XRuns.of_runs dok0 (sright_runs D0 rfl (by rfl) M (a, b))⟩
  · cases h
theorem pKRight_ok : CallOK Tryd.prog gl0 fun f' args M => if f' = F_poskey_Right then (pKRight args M).map (·, M) else none := by
  refine prim_keep ⟨_, Tryd.func80, (by kernel_rfl), (by kernel_rfl)⟩ ?_
  intro args M v h hwf
  unfold pKRight at h
  split at h
  · rename_i k
    cases h
    exact ⟨rfl, XRuns.of_runs dok0 ((kright_runs D0 rfl (by rfl) M k).mono fun v M' h => ⟨h.1, fun c _ => by rw [h.2]⟩)⟩
  · cases h
def D1v : Decls := ((((D1u.addP F_tree_Tree_none pNone).addP F_tree_Tree_node pNode).addP F_tree_Tree_Within pWithin).addP F_stamp_Right pSRight).addP F_poskey_Right pKRight
theorem dok1v : DOK Tryd.prog gl0 D1v := ((((dok1u.addM pNone_ok).addM pNode_ok).addM pWithin_ok).addM pSRight_ok).addM pKRight_ok
end Go.Am.Tryd
