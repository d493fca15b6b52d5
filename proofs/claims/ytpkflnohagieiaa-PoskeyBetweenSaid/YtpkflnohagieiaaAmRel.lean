/- The abstract machine against the world: how its values and its memory lie in a world. -/
import Derived.Test.YtpkflnohagieiaaAmOps
import Derived.Below
set_option linter.unusedSimpArgs false
set_option linter.unusedVariables false
namespace Go.Am
open Go Go.RowKit

/-- Where a block lies: the world's block, the first cell's place in it, and how many cells the row has from there on. -/
abbrev Emb := Nat → Option (Nat × Nat × Nat)

/-- How a slice's capacity is known. -/
def CapR : Cap → Nat → Nat → Nat → Prop
  | .exact c, _, _, c' => c' = c
  | .upto es, o, k, c' => 0 < es ∧ o + c' * es = k

/-- A slice of no room. -/
def CapZ : Cap → Nat → Nat → Prop
  | .exact n, _, _ => n = 0
  | .upto _, o, k => k ≤ o

mutual
inductive VR (E : Emb) : V → Value → Prop where
  | bool (b : Bool) : VR E (.bool b) (.bool b)
  | int (k : IntKind) (n : Int) : VR E (.int k n) (.int k n)
  | str (s : ByteArray) : VR E (.str s.data.toList) (.string s)
  | ptrNil : VR E (.ptr none) (.pointer none)
  | ptr {b o c d k : Nat} (h : E b = some (c, d, k)) : VR E (.ptr (some (b, o))) (.pointer (some ⟨c, d + o, none⟩))
  | sliceNil : VR E (.slice none 0 (.exact 0)) (.slice none 0 0)
  | slice {b o c d k n c' : Nat} {cap : Cap} (h : E b = some (c, d, k)) (hc : CapR cap o k c') (hn : n ≤ c') : VR E (.slice (some (b, o)) n cap) (.slice (some ⟨c, d + o, none⟩) n c')
  | sliceZero {b o c d k : Nat} {cap : Cap} {a : Addr} (h : E b = some (c, d, k)) (hs : a.spot = none) (hz : CapZ cap o k) : VR E (.slice (some (b, o)) 0 cap) (.slice (some a) 0 0)
  | mapNil : VR E (.map none) (.map none)
  | map {b c d k : Nat} (h : E b = some (c, d, k)) : VR E (.map (some b)) (.map (some c))
  | fn {f : FuncId} {a b : List V} {a' b' : Array Value} (ha : VRs E a a'.toList) (hb : VRs E b b'.toList) : VR E (.fn f a b) (.func (.func f) a' b')
  | nilFn : VR E .nilFn .nilFunc
  | nilIface : VR E .nilIface .nilIface
  | iface {t : TypeId} {v : V} {v' : Value} (h : VR E v v') : VR E (.iface t v) (.iface t v')
  | agg {cs : List V} {cs' : Array Value} (h : VRs E cs cs'.toList) : VR E (.agg cs) (.agg cs')
  | tup {cs : List V} {cs' : Array Value} (h : VRs E cs cs'.toList) : VR E (.tup cs) (.tuple cs')
inductive VRs (E : Emb) : List V → List Value → Prop where
  | nil : VRs E [] []
  | cons {v : V} {vs : List V} {u : Value} {us : List Value} (h : VR E v u) (t : VRs E vs us) : VRs E (v :: vs) (u :: us)
end

def Emb.le (E E' : Emb) : Prop := ∀ b x, E b = some x → E' b = some x
theorem Emb.le_refl (E : Emb) : Emb.le E E := fun _ _ h => h
theorem Emb.le_trans {E E' E'' : Emb} (h : Emb.le E E') (h' : Emb.le E' E'') : Emb.le E E'' := fun b x e => h' b x (h b x e)

mutual
theorem VR.mono {E E' : Emb} (hE : Emb.le E E') : ∀ {v : V} {u : Value}, VR E v u → VR E' v u
  | _, _, .bool b => .bool b
  | _, _, .int k n => .int k n
  | _, _, .str s => .str s
  | _, _, .ptrNil => .ptrNil
  | _, _, .ptr h => .ptr (hE _ _ h)
  | _, _, .sliceNil => .sliceNil
  | _, _, .slice h hc hn => .slice (hE _ _ h) hc hn
  | _, _, .sliceZero h hs hz => .sliceZero (hE _ _ h) hs hz
  | _, _, .mapNil => .mapNil
  | _, _, .map h => .map (hE _ _ h)
  | _, _, .fn ha hb => .fn (VRs.mono hE ha) (VRs.mono hE hb)
  | _, _, .nilFn => .nilFn
  | _, _, .nilIface => .nilIface
  | _, _, .iface h => .iface (VR.mono hE h)
  | _, _, .agg h => .agg (VRs.mono hE h)
  | _, _, .tup h => .tup (VRs.mono hE h)
theorem VRs.mono {E E' : Emb} (hE : Emb.le E E') : ∀ {vs : List V} {us : List Value}, VRs E vs us → VRs E' vs us
  | _, _, .nil => .nil
  | _, _, .cons h t => .cons (VR.mono hE h) (VRs.mono hE t)
end

theorem VR.undef (E : Emb) : VR E .undef Go.undef := VR.tup (cs' := #[]) .nil

theorem VRs.length {E : Emb} : ∀ {vs : List V} {us : List Value}, VRs E vs us → vs.length = us.length
  | _, _, .nil => rfl
  | _, _, .cons _ t => by simp [VRs.length t]
theorem VRs.get {E : Emb} : ∀ {vs : List V} {us : List Value}, VRs E vs us → ∀ (i : Nat) (v : V), vs[i]? = some v → ∃ u, us[i]? = some u ∧ VR E v u
  | _, _, .nil, i, v, h => by simp at h
  | _, _, .cons (v := v0) (u := u0) h t, i, v, hi => by
    cases i with
    | zero => simp at hi; subst hi; exact ⟨u0, rfl, h⟩
    | succ i => simp at hi; simpa using VRs.get t i v hi
theorem VRs.app {E : Emb} : ∀ {vs : List V} {us : List Value} {xs : List V} {ys : List Value}, VRs E vs us → VRs E xs ys → VRs E (vs ++ xs) (us ++ ys)
  | _, _, _, _, .nil, h => h
  | _, _, _, _, .cons a t, h => .cons a (VRs.app t h)
theorem VRs.of_get {E : Emb} : ∀ {vs : List V} {us : List Value}, vs.length = us.length → (∀ (i : Nat) (v : V), vs[i]? = some v → ∃ u, us[i]? = some u ∧ VR E v u) → VRs E vs us
  | [], [], _, _ => .nil
  | [], _ :: _, h, _ => by simp at h
  | _ :: _, [], h, _ => by simp at h
  | v :: vs, u :: us, hl, h => by
    obtain ⟨u', e, hv⟩ := h 0 v rfl
    simp at e; subst e
    refine .cons hv (VRs.of_get (by simpa using hl) fun i w hw => ?_)
    have := h (i + 1) w (by simpa using hw)
    simpa using this
theorem VRs.drop {E : Emb} : ∀ (n : Nat) {vs : List V} {us : List Value}, VRs E vs us → VRs E (vs.drop n) (us.drop n)
  | 0, _, _, h => by simpa using h
  | n + 1, _, _, .nil => by simp; exact .nil
  | n + 1, _, _, .cons _ t => by simpa using VRs.drop n t
theorem VRs.take {E : Emb} : ∀ (n : Nat) {vs : List V} {us : List Value}, VRs E vs us → VRs E (vs.take n) (us.take n)
  | 0, _, _, _ => by simp; exact .nil
  | n + 1, _, _, .nil => by simp; exact .nil
  | n + 1, _, _, .cons h t => by simpa using VRs.cons h (VRs.take n t)
theorem VRs.map {E : Emb} {α β : Type} (f : α → V) (g : β → Value) : ∀ {xs : List α} {ys : List β}, xs.length = ys.length → (∀ (i : Nat) (x : α) (y : β), xs[i]? = some x → ys[i]? = some y → VR E (f x) (g y)) → VRs E (xs.map f) (ys.map g)
  | [], [], _, _ => .nil
  | [], _ :: _, h, _ => by simp at h
  | _ :: _, [], h, _ => by simp at h
  | x :: xs, y :: ys, hl, h => .cons (h 0 x y rfl rfl) (VRs.map f g (by simpa using hl) fun i a b ha hb => h (i + 1) a b (by simpa using ha) (by simpa using hb))

theorem VR.cells {E : Emb} {v : V} {u : Value} (h : VR E v u) : VRs E v.cells u.cells.toList := by
  cases h with
  | agg h => exact h
  | bool b => exact .cons (.bool b) .nil
  | int k n => exact .cons (.int k n) .nil
  | str s => exact .cons (.str s) .nil
  | ptrNil => exact .cons .ptrNil .nil
  | ptr h => exact .cons (.ptr h) .nil
  | sliceNil => exact .cons .sliceNil .nil
  | slice h hc hn => exact .cons (.slice h hc hn) .nil
  | sliceZero h hs hz => exact .cons (.sliceZero h hs hz) .nil
  | mapNil => exact .cons .mapNil .nil
  | map h => exact .cons (.map h) .nil
  | fn ha hb => exact .cons (.fn ha hb) .nil
  | nilFn => exact .cons .nilFn .nil
  | nilIface => exact .cons .nilIface .nil
  | iface h => exact .cons (.iface h) .nil
  | tup h => exact .cons (.tup h) .nil

/-- Is a value of the world that of one cell? -/
def oneValue : Value → Bool
  | .agg _ => false
  | .tuple _ => false
  | _ => true
theorem VR.one {E : Emb} {v : V} {u : Value} (h : VR E v u) : oneValue u = v.one := by cases h <;> rfl

/-! ### memory -/
/-- Cells against the world's cells from a place on. -/
def CR (E : Emb) (cs : List V) (arr : Array Value) (d : Nat) : Prop := ∀ (i : Nat) (v : V), cs[i]? = some v → ∃ u, arr[d + i]? = some u ∧ VR E v u
/-- No cell of the row is frozen. -/
def Free (fz : Nat × Nat) (n : Nat) : Prop := ∀ i, i < n → ¬ (fz.1 ≤ i ∧ i < fz.2)
/-- Entries against the world's entries. -/
def ER (E : Emb) (es : List (V × V)) (ents : List MapEntry) : Prop := VRs E (es.map (·.1)) (ents.map (·.key)) ∧ VRs E (es.map (·.2)) (ents.map (·.val))
/-- A map's entries came one behind the other. -/
def Born (ents : List MapEntry) (clock : Nat) : Prop := (ents.map (·.born)).Pairwise (· < ·) ∧ ∀ e ∈ ents, e.born < clock

def OR (E : Emb) (o : O) (x : Option Obj) (d k : Nat) : Prop :=
  match o with
  | .cells cs ro => ∃ arr elem fz, x = some (.cells arr elem fz) ∧ CR E cs arr d ∧ d + k = arr.size ∧ (ro = false → Free fz arr.size)
  | .map es => ∃ ents clock, x = some (.map ents clock) ∧ ER E es ents.toList ∧ Born ents.toList clock
  | .strIter s pos => d = 0 ∧ ∃ s' : ByteArray, x = some (.stringIter s' pos) ∧ s = s'.data.toList
  | .dead => True

/-- Is it the machine's own, and looked at? -/
def own (M : Mem) (b : Nat) : Prop :=
  match M.get b with
  | some (.cells _ true) => False
  | some .dead => False
  | some _ => True
  | none => False
def isRo (M : Mem) (b : Nat) : Prop := ∃ cs, M.get b = some (.cells cs true)
theorem own_not_ro {M : Mem} {b : Nat} (h : own M b) (r : isRo M b) : False := by
  obtain ⟨cs, hb⟩ := r
  simp [own, hb] at h

structure Rel (E : Emb) (M : Mem) (w : World) : Prop where
  at_ : ∀ b c d k, E b = some (c, d, k) → ∃ o, M.get b = some o ∧ OR E o w.heap[c]? d k
  lt : ∀ b c d k, E b = some (c, d, k) → c < w.heap.size
  inj : ∀ b b' c d k d' k', E b = some (c, d, k) → E b' = some (c, d', k') → own M b → b' ≠ b → M.get b' = some .dead
  wf : ∀ b, M.next ≤ b → M.get b = none

theorem Rel.fresh {E : Emb} {M : Mem} {w : World} (h : Rel E M w) {b : Nat} (hb : M.next ≤ b) : E b = none := by
  cases he : E b with
  | none => rfl
  | some x =>
    obtain ⟨c, d, k⟩ := x
    obtain ⟨o, ho, _⟩ := h.at_ b c d k he
    rw [h.wf b hb] at ho
    cases ho

structure Ext (E : Emb) (M : Mem) (w : World) (E' : Emb) (M' : Mem) (w' : World) : Prop where
  le : Emb.le E E'
  os : w'.os = w.os
  tape : w'.tape = w.tape
  output : w'.output = w.output
  size : w.heap.size ≤ w'.heap.size
  next : M.next ≤ M'.next
  keep : ∀ c, c < w.heap.size → (∀ b d k, E b = some (c, d, k) → isRo M b) → w'.heap[c]? = w.heap[c]?
  new : ∀ b c d k, E b = none → E' b = some (c, d, k) → M.next ≤ b ∧ (w.heap.size ≤ c ∨ ∃ b0 d0 k0, E b0 = some (c, d0, k0) ∧ ¬ isRo M b0)
  ro : ∀ b, isRo M b → M'.get b = M.get b

theorem Ext.refl (E : Emb) (M : Mem) (w : World) : Ext E M w E M w :=
  ⟨Emb.le_refl E, rfl, rfl, rfl, Nat.le_refl _, Nat.le_refl _, fun _ _ _ => rfl, fun b c d k h h' => by (rw [h] at h'; cases h'), fun _ _ => rfl⟩

theorem isRo_of_eq {M M' : Mem} {b : Nat} (h : M'.get b = M.get b) (r : isRo M b) : isRo M' b := by
  obtain ⟨cs, hb⟩ := r
  exact ⟨cs, h.trans hb⟩

theorem Ext.trans {E E' E'' : Emb} {M M' M'' : Mem} {w w' w'' : World} (h : Ext E M w E' M' w') (h' : Ext E' M' w' E'' M'' w'') : Ext E M w E'' M'' w'' := by
  refine ⟨Emb.le_trans h.le h'.le, h'.os.trans h.os, h'.tape.trans h.tape, h'.output.trans h.output, Nat.le_trans h.size h'.size, Nat.le_trans h.next h'.next, ?_, ?_, ?_⟩
  · intro c hc ho
    rw [h'.keep c (Nat.lt_of_lt_of_le hc h.size), h.keep c hc ho]
    intro b d k hb
    cases he : E b with
    | some x =>
      have := h.le b x he
      rw [hb] at this
      cases this
      exact isRo_of_eq (h.ro b (ho b d k he)) (ho b d k he)
    | none =>
      rcases (h.new b c d k he hb).2 with h1 | ⟨b0, d0, k0, hb0, hn⟩
      · omega
      · exact absurd (ho b0 d0 k0 hb0) hn
  · intro b c d k hb hb'
    cases he : E' b with
    | some x =>
      have e2 := h'.le b x he
      rw [hb'] at e2
      cases e2
      exact h.new b c d k hb he
    | none =>
      obtain ⟨h1, h2⟩ := h'.new b c d k he hb'
      refine ⟨Nat.le_trans h.next h1, ?_⟩
      rcases h2 with h2 | ⟨b0, d0, k0, hb0, hn⟩
      · exact .inl (Nat.le_trans h.size h2)
      · cases he0 : E b0 with
        | some x =>
          have e2 := h.le b0 x he0
          rw [hb0] at e2
          cases e2
          refine .inr ⟨b0, d0, k0, he0, fun r => hn (isRo_of_eq (h.ro b0 r) r)⟩
        | none =>
          rcases (h.new b0 c d0 k0 he0 hb0).2 with h3 | h3
          · exact .inl h3
          · exact .inr h3
  · intro b r
    rw [h'.ro b (isRo_of_eq (h.ro b r) r), h.ro b r]

end Go.Am
