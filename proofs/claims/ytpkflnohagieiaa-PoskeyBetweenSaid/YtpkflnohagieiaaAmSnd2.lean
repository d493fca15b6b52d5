/- An operation of the machine against the program's own: what is compared. -/
import Derived.Test.YtpkflnohagieiaaAmSnd1
import Derived.Laws.StructEq
set_option linter.unusedSimpArgs false
set_option linter.unusedVariables false
namespace Go.Am
open Go Go.RowKit

/-- Two rows of plain cells are the same. -/
def sameC : List Value → List Value → Bool
  | .int _ a :: x, .int _ b :: y => (a == b) && sameC x y
  | .string a :: x, .string b :: y => (a.toList == b.toList) && sameC x y
  | .bool a :: x, .bool b :: y => (a == b) && sameC x y
  | _, _ => true
def SK.fitsC : SK → Value → Prop
  | .int k, .int j _ => k = j
  | .str, .string _ => True
  | .bool, .bool _ => True
  | _, _ => False
def fitC : List SK → List Value → Prop
  | [], [] => True
  | s :: ss, v :: vs => s.fitsC v ∧ fitC ss vs
  | _, _ => False

theorem fitC_length : ∀ {sh : List SK} {us : List Value}, fitC sh us → us.length = sh.length
  | [], [], _ => rfl
  | _ :: _, _ :: _, h => by simp [fitC_length h.2]
  | [], _ :: _, h => h.elim
  | _ :: _, [], h => h.elim
theorem fitC_app : ∀ {a b : List SK} {us : List Value}, fitC (a ++ b) us → fitC a (us.take a.length) ∧ fitC b (us.drop a.length)
  | [], b, us, h => by simpa [fitC] using h
  | s :: a, b, [], h => h.elim
  | s :: a, b, u :: us, h => by
    obtain ⟨h1, h2⟩ := fitC_app (a := a) (b := b) h.2
    exact ⟨⟨h.1, h1⟩, h2⟩
theorem sameC_app : ∀ {a : List SK} {x y x' y' : List Value}, fitC a x → fitC a y → sameC (x ++ x') (y ++ y') = (sameC x y && sameC x' y')
  | [], [], [], _, _, _, _ => by simp [sameC]
  | s :: a, u :: x, v :: y, x', y', hx, hy => by
    have ih := sameC_app (x' := x') (y' := y') hx.2 hy.2
    cases s <;> cases u <;> cases v <;> first
      | exact hx.1.elim
      | exact hy.1.elim
      | simp [sameC, ih, Bool.and_assoc]
  | _ :: _, [], _, _, _, h, _ => h.elim
  | _ :: _, _ :: _, [], _, _, _, h => h.elim
  | [], _ :: _, _, _, _, h, _ => h.elim
  | [], [], _ :: _, _, _, _, h => h.elim

section
variable {E : Emb}
theorem fits_rel {s : SK} {v : V} {u : Value} (h : VR E v u) (hf : s.fits v = true) : s.fitsC u := by
  cases s <;> cases v <;> simp [SK.fits] at hf <;> cases h
  · exact ikEq_iff.1 hf
  · trivial
  · trivial
theorem fitAll_rel : ∀ {sh : List SK} {vs : List V} {us : List Value}, VRs E vs us → fitAll sh vs = true → fitC sh us
  | [], [], _, .nil, _ => trivial
  | s :: ss, v :: vs, _, .cons h t, hf => by
    simp only [fitAll, cond_true_iff] at hf
    exact ⟨fits_rel h hf.1, fitAll_rel t hf.2⟩
  | [], _ :: _, _, _, hf => by simp [fitAll] at hf
  | _ :: _, [], _, _, hf => by simp [fitAll] at hf
theorem beqs_rel : ∀ {sh : List SK} {xs ys : List V} {us vs : List Value}, VRs E xs us → VRs E ys vs → fitAll sh xs = true → fitAll sh ys = true → sameC us vs = V.beqs xs ys
  | [], [], [], _, _, .nil, .nil, _, _ => rfl
  | s :: ss, x :: xs, y :: ys, _, _, .cons (u := u) hx tx, .cons (u := v) hy ty, fx, fy => by
    simp only [fitAll, cond_true_iff] at fx fy
    have ih := beqs_rel tx ty fx.2 fy.2
    cases s <;> cases x <;> simp [SK.fits] at fx <;> cases y <;> simp [SK.fits] at fy <;> cases hx <;> cases hy
    · rename_i k j a i b
      have e1 := ikEq_iff.1 fx.1
      have e2 := ikEq_iff.1 fy.1
      subst e1; subst e2
      simp only [sameC, V.beqs, V.beq, ikEq_self, cond_true, ih, intEq_dec]
      rw [show (a == b) = decide (a = b) from by rw [Bool.eq_iff_iff]; simp]
      cases decide (a = b) <;> rfl
    · rename_i a b
      simp only [sameC, V.beqs, V.beq, ih, strEq_dec, toList_data]
      cases (a.data.toList == b.data.toList) <;> rfl
    · rename_i a b
      simp only [sameC, V.beqs, V.beq, ih]
      cases a <;> cases b <;> rfl
  | [], _ :: _, _, _, _, _, _, hf, _ => by simp [fitAll] at hf
  | _ :: _, [], _, _, _, _, _, hf, _ => by simp [fitAll] at hf
  | [], [], _ :: _, _, _, _, _, _, hf => by simp [fitAll] at hf
  | _ :: _, _ :: _, [], _, _, _, _, _, hf => by simp [fitAll] at hf
end

section
variable {P : Program} {w : World}
/-- A value of a type, by its cells. -/
def aggD : TypeDesc → Bool
  | .struct _ => true
  | .array _ _ => true
  | _ => false
def Holds (P : Program) (t : TypeId) (x : Value) (cs : List Value) : Prop :=
  ∃ d, P.underlying t = some d ∧ x = cond (aggD d) (.agg cs.toArray) (cs.headD .nilFunc) ∧ (aggD d = false → cs.length = 1)

theorem run_isAgg {t : TypeId} {d : TypeDesc} (hd : P.underlying t = some d) (w : World) : (isAgg t).run P w = .ok (aggD d) w := by
  simp only [isAgg, Sem.run_bind, run_underlying hd, Result.andThen_ok]
  cases d <;> rfl
theorem run_sizeOf' {t : TypeId} {n : Nat} (h : szE P t = some n) (w : World) : (sizeOf t).run P w = .ok n w := by
  simp only [szE, Option.map_eq_some_iff] at h
  obtain ⟨i, hi, rfl⟩ := h
  simp [sizeOf, typeInfo, hi]

theorem run_part {t : TypeId} {xs : Array Value} {off n : Nat} (hi : szE P t = some n) {d : TypeDesc} (hd : P.underlying t = some d) {cs : List Value}
    (hc : (xs.toList.drop off).take n = cs) (hl : cs.length = n) (h1 : aggD d = false → n = 1) :
    ∃ x, (part t xs off).run P w = .ok x w ∧ Holds P t x cs := by
  have hex : (xs.extract off (off + n)) = cs.toArray := by
    apply Array.ext'
    rw [Array.toList_extract]
    simp [← hc, List.extract]
  cases ha : aggD d with
  | true =>
    refine ⟨.agg cs.toArray, ?_, d, hd, by rw [ha]; rfl, by rw [ha]; intro h; cases h⟩
    simp only [part, Sem.run_bind, run_isAgg hd, Result.andThen_ok, ha, if_true, run_sizeOf' hi, Sem.run_pure, hex]
  | false =>
    have hn1 : n = 1 := h1 ha
    subst hn1
    have hx : ∃ x, xs[off]? = some x ∧ cs = [x] := by
      match cs, hl with
      | [x], _ =>
        refine ⟨x, ?_, rfl⟩
        have : ((xs.toList.drop off).take 1)[0]? = some x := by rw [hc]; rfl
        simpa using this
    obtain ⟨x, hx, rfl⟩ := hx
    refine ⟨x, ?_, d, hd, by rw [ha]; rfl, fun _ => rfl⟩
    simp only [part, Sem.run_bind, run_isAgg hd, Result.andThen_ok, ha, Bool.false_eq_true, if_false, hx, Sem.run_pure]

theorem shAt_some {t : TypeId} {s : Option (List SK)} {sh : List SK} (h : shAt P t s = some sh) : s = some sh ∧ szE P t = some sh.length := by
  simp only [shAt, Option.bind_eq_some_iff] at h
  obtain ⟨l, rfl, h⟩ := h
  cases hs : szE P t with
  | none => rw [hs] at h; cases h
  | some n =>
    rw [hs] at h
    simp only [beq_iff] at h
    cases hd : decide (n = l.length) with
    | false => rw [hd] at h; cases h
    | true =>
      rw [hd, cond_true] at h
      cases h
      exact ⟨rfl, by rw [of_decide_eq_true hd]⟩

theorem shE_one {d : Nat} {t : TypeId} {sh : List SK} (h : shE P d t = some sh) : ∃ e, P.underlying t = some e ∧ (aggD e = false → sh.length = 1) := by
  cases d with
  | zero => simp [shE] at h
  | succ d =>
    obtain ⟨h, _⟩ := shAt_some h
    split at h
    all_goals first
      | (rename_i hu; cases h; exact ⟨_, hu, fun _ => rfl⟩)
      | (rename_i fs hu; exact ⟨_, hu, fun hn => by cases hn⟩)
      | (cases h)

theorem Holds.single {t : TypeId} {x : Value} {cs : List Value} {e : TypeDesc} (h : Holds P t x cs) (hu : P.underlying t = some e) (ha : aggD e = false) : cs = [x] := by
  obtain ⟨d, hd, hx, hl⟩ := h
  rw [hu] at hd
  cases hd
  have := hl ha
  match cs, this with
  | [y], _ => rw [ha] at hx; simp at hx; rw [hx]
theorem Holds.whole {t : TypeId} {x : Value} {cs : List Value} {e : TypeDesc} (h : Holds P t x cs) (hu : P.underlying t = some e) (ha : aggD e = true) : x = .agg cs.toArray := by
  obtain ⟨d, hd, hx, hl⟩ := h
  rw [hu] at hd
  cases hd
  rw [ha] at hx
  exact hx

theorem shE_size {d : Nat} {t : TypeId} {sh : List SK} (h : shE P d t = some sh) : szE P t = some sh.length := by
  cases d with
  | zero => simp [shE] at h
  | succ d => exact (shAt_some h).2
/-- Up to so many levels. -/
def EqAt (P : Program) (d : Nat) : Prop := ∀ (t : TypeId) (sh : List SK), shE P d t = some sh → ∀ D, d ≤ D → ∀ (x y : Value) (cx cy : List Value), Holds P t x cx → Holds P t y cy → fitC sh cx → fitC sh cy →
    ∀ w, (Op.equalIn D t x y).run P w = .ok (sameC cx cy) w
theorem eqFields_rel {d : Nat} (H : EqAt P d) : ∀ (fs : List Field) (off : Nat) (sh : List SK), shFields (shE P d) fs off = some sh → ∀ D, d ≤ D → ∀ (xs ys : Array Value) (cx cy : List Value),
    (xs.toList.drop off).take sh.length = cx → (ys.toList.drop off).take sh.length = cy → fitC sh cx → fitC sh cy → ∀ w, (Op.eqFields D xs ys fs).run P w = .ok (sameC cx cy) w
  | [], off, sh, h => by
    intro D hD xs ys cx cy hx hy fx fy w
    simp only [shFields, Option.some.injEq] at h
    subst h
    simp at hx hy
    subst hx; subst hy
    simp [Op.eqFields, sameC]
  | f :: fs, off, sh, h => by
    intro D hD xs ys cx cy hx hy fx fy w
    simp only [shFields] at h
    rw [Bool.cond_eq_ite] at h
    split at h
    · rename_i hc
      simp only [Bool.and_eq_true, bne_iff_ne, beq_iff, decide_eq_true_eq] at hc
      obtain ⟨ho, hne⟩ := hc
      simp only [Option.bind_eq_some_iff, Option.map_eq_some_iff] at h
      obtain ⟨a, ha, b, hb, rfl⟩ := h
      obtain ⟨fa, fb⟩ := fitC_app fx
      obtain ⟨ga, gb⟩ := fitC_app fy
      have hsz := shE_size ha
      obtain ⟨e, hu, h1⟩ := shE_one ha
      have cut : ∀ (zs : Array Value) (cz : List Value), (zs.toList.drop off).take (a ++ b).length = cz → (zs.toList.drop f.offset).take a.length = cz.take a.length ∧ (zs.toList.drop (off + a.length)).take b.length = cz.drop a.length := by
        intro zs cz hz
        subst hz
        rw [ho]
        constructor
        · rw [List.take_take]; congr 1; simp
        · rw [List.drop_take, List.drop_drop]; congr 1; simp
      obtain ⟨x1, x2⟩ := cut xs cx hx
      obtain ⟨y1, y2⟩ := cut ys cy hy
      obtain ⟨px, rx, ox⟩ := run_part (P := P) (w := w) (t := f.type) (xs := xs) (off := f.offset) hsz hu x1 (fitC_length fa) h1
      obtain ⟨py, ry, oy⟩ := run_part (P := P) (w := w) (t := f.type) (xs := ys) (off := f.offset) hsz hu y1 (fitC_length ga) h1
      have he := H f.type a ha D hD px py _ _ ox oy fa ga w
      rw [Op.eqFields]
      simp only [if_pos hne, Sem.run_bind, rx, ry, he, Result.andThen_ok]
      have hs : sameC cx cy = (sameC (cx.take a.length) (cy.take a.length) && sameC (cx.drop a.length) (cy.drop a.length)) := by
        rw [← sameC_app fa ga, List.take_append_drop, List.take_append_drop]
      rw [hs]
      cases hb1 : sameC (cx.take a.length) (cy.take a.length) with
      | false => simp
      | true =>
        simp only [Bool.not_true, Bool.false_eq_true, if_false, Bool.true_and]
        exact eqFields_rel H fs (off + a.length) b hb D hD xs ys _ _ x2 y2 fb gb w
    · cases h
theorem equalIn_rel : ∀ (d : Nat), EqAt P d
  | 0 => fun t sh h => by simp [shE] at h
  | d + 1 => fun t sh h => by
    intro D hD x y cx cy hx hy fx fy w
    obtain ⟨D, rfl⟩ : ∃ k, D = k + 1 := ⟨D - 1, by omega⟩
    obtain ⟨h, _⟩ := shAt_some h
    split at h
    · rename_i k hu
      cases h
      have hx := hx.single hu rfl
      have hy := hy.single hu rfl
      subst hx; subst hy
      cases x <;> try exact fx.1.elim
      cases y <;> try exact fy.1.elim
      rename_i ka a kb b
      have e1 : k = ka := fx.1
      have e2 : k = kb := fy.1
      subst e1; subst e2
      rw [run_equalIn_int w D t k k a b hu]
      simp [sameC]
    · rename_i hu
      cases h
      have hx := hx.single hu rfl
      have hy := hy.single hu rfl
      subst hx; subst hy
      cases x <;> try exact fx.1.elim
      cases y <;> try exact fy.1.elim
      rename_i a b
      rw [run_equalIn_string w D t a b hu]
      simp [sameC]
    · rename_i hu
      cases h
      have hx := hx.single hu rfl
      have hy := hy.single hu rfl
      subst hx; subst hy
      cases x <;> try exact fx.1.elim
      cases y <;> try exact fy.1.elim
      rename_i a b
      rw [run_equalIn_bool' w D t a b hu]
      simp [sameC]
    · rename_i fs hu
      cases hst : P.stoodInHeld t with
      | true => rw [hst, cond_true] at h; cases h
      | false =>
        rw [hst, cond_false] at h
        have hx := hx.whole hu rfl
        have hy := hy.whole hu rfl
        subst hx; subst hy
        have hfo : P.fieldsOf t = fs := by simp [Program.fieldsOf, hu]
        rw [run_equalIn_struct (P := P) w D t _ _ (by rw [hfo]; exact hu) hst, hfo]
        exact eqFields_rel (equalIn_rel d) fs.toList 0 sh h D (by omega) cx.toArray cy.toArray cx cy (by simp [← fitC_length fx]) (by simp [← fitC_length fy]) fx fy w
    · cases h
end
end Go.Am
