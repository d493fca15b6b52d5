/- Parts of the machine that are not code: what was proved of a function is laid in its place. -/
import Derived.Test.YtpkflnohagieiaaAmSnd20
import Derived.Test.YtpkflnohagieiaaAmLogic
set_option linter.unusedSimpArgs false
set_option linter.unusedVariables false
namespace Go.Am
open Go Go.RowKit

def codeOf : List (Nat × AFunc) → T AFunc
  | [] => .nil
  | (f, F) :: l => T.set (codeOf l) f F
theorem codeOf_get : ∀ {l : List (Nat × AFunc)} {f : Nat} {F : AFunc}, T.get (codeOf l) f = some F → (f, F) ∈ l
  | [], f, F, h => by simp [codeOf, T.get] at h
  | (f', F') :: l, f, F, h => by
    simp only [codeOf, T.get_set] at h
    split at h
    · rename_i e
      cases h; subst e
      exact List.mem_cons_self ..
    · exact List.mem_cons_of_mem _ (codeOf_get h)

/-! ### values that hang on no memory -/
mutual
def V.flat : V → Bool
  | .bool _ | .int _ _ | .str _ | .ptr none | .slice none _ _ | .map none | .nilFn | .nilIface => true
  | .iface _ v => v.flat
  | .agg cs | .tup cs => V.flats cs
  | _ => false
def V.flats : List V → Bool
  | [] => true
  | v :: vs => v.flat && V.flats vs
end

mutual
theorem VR.flat {E E' : Emb} : ∀ {v : V} {u : Value}, VR E v u → v.flat = true → VR E' v u
  | _, _, .bool b, _ => .bool b
  | _, _, .int k n, _ => .int k n
  | _, _, .str s, _ => .str s
  | _, _, .ptrNil, _ => .ptrNil
  | _, _, .ptr _, h => by simp [V.flat] at h
  | _, _, .sliceNil, _ => .sliceNil
  | _, _, .slice .., h => by simp [V.flat] at h
  | _, _, .sliceZero .., h => by simp [V.flat] at h
  | _, _, .mapNil, _ => .mapNil
  | _, _, .map _, h => by simp [V.flat] at h
  | _, _, .fn .., h => by simp [V.flat] at h
  | _, _, .nilFn, _ => .nilFn
  | _, _, .nilIface, _ => .nilIface
  | _, _, .iface hv, h => .iface (VR.flat hv (by simpa [V.flat] using h))
  | _, _, .agg hv, h => .agg (VRs.flat hv (by simpa [V.flat] using h))
  | _, _, .tup hv, h => .tup (VRs.flat hv (by simpa [V.flat] using h))
theorem VRs.flat {E E' : Emb} : ∀ {vs : List V} {us : List Value}, VRs E vs us → V.flats vs = true → VRs E' vs us
  | _, _, .nil, _ => .nil
  | _, _, .cons hv ht, h => by
    simp only [V.flats, Bool.and_eq_true] at h
    exact .cons (VR.flat hv h.1) (VRs.flat ht h.2)
end

def emb0 : Emb := fun _ => none
def mem0 : Mem := ⟨0, .nil⟩
theorem rel0 (w : World) : Rel emb0 mem0 w := ⟨fun _ _ _ _ h => (by cases h), fun _ _ _ _ h => (by cases h), fun _ _ _ _ _ _ _ h => (by cases h), fun _ _ => rfl⟩

section
variable {P : Program} {gl : Nat → Bool}
/-- From nothing to nothing: what was there stays. -/
theorem Rel.aside {E : Emb} {M M' : Mem} {w w' : World} {E' : Emb} (h : Rel E M w) (hX : Ext emb0 mem0 w E' M' w') : Rel E M w' ∧ Ext E M w E M w' := by
  have hk : ∀ c, c < w.heap.size → w'.heap[c]? = w.heap[c]? := fun c hc => hX.keep c hc fun _ _ _ hb => by cases hb
  refine ⟨⟨fun b c d k hb => ?_, fun b c d k hb => Nat.lt_of_lt_of_le (h.lt b c d k hb) hX.size, h.inj, h.wf⟩, ⟨Emb.le_refl E, hX.os, hX.tape, hX.output, hX.size, Nat.le_refl _, fun c hc _ => hk c hc, fun b c d k h1 h2 => ?_, fun _ _ => rfl⟩⟩
  · obtain ⟨o, ho, hr⟩ := h.at_ b c d k hb
    exact ⟨o, ho, by rw [hk c (h.lt b c d k hb)]; exact hr⟩
  · rw [h1] at h2; cases h2

/-- A function from flat values to a flat value, proved with nothing in memory, is a part of the machine. -/
theorem prim_flat {D : Decls} (hD : DOK P gl D) (hg : ∀ x, gl x = false) {f : FuncId} {g : List V → Option V}
    (h : ∀ args v, g args = some v → V.flats args = true ∧ v.flat = true ∧ Runs D f args mem0 fun v' _ => v' = v) : CallOK P gl fun f' args M => if f' = f then (g args).map (·, M) else none := by
  intro f' args M v M' he
  simp only at he
  split at he
  · rename_i e
    subst e
    simp only [Option.map_eq_some_iff, Prod.mk.injEq] at he
    obtain ⟨v1, hv, rfl, rfl⟩ := he
    obtain ⟨ha, hf, k, v2, M2, hr, rfl⟩ := h args v1 hv
    obtain ⟨hc, hs⟩ := callN_sound hD k f' args mem0 v2 M2 hr
    refine ⟨hc, fun E w args' hR hG hA => ?_⟩
    refine (hs emb0 w args' (rel0 w) (fun x hx => by rw [hg x] at hx; cases hx) (VRs.flat hA ha)).mono fun e w' ⟨E', v', he, hv', _, hX⟩ => ?_
    obtain ⟨h1, h2⟩ := hR.aside hX
    exact ⟨E, v', he, VR.flat hv' hf, h1, h2⟩
  · cases he

/-- A function's contract in the world, from flat values to a flat value. -/
theorem prim_of_calls {f : FuncId} {g : List V → Option V} (hc : Callable P f)
    (h : ∀ args v, g args = some v → ∀ (E : Emb) (args' : Array Value) (w : World), VRs E args args'.toList → Calls P f args' w fun e w' => ∃ v', e = .returned v' ∧ VR E v v' ∧ w' = w) : CallOK P gl fun f' args M => if f' = f then (g args).map (·, M) else none := by
  intro f' args M v M' he
  simp only at he
  split at he
  · rename_i e
    subst e
    simp only [Option.map_eq_some_iff, Prod.mk.injEq] at he
    obtain ⟨v1, hv, rfl, rfl⟩ := he
    refine ⟨hc, fun E w args' hR hG hA => ?_⟩
    refine (h args v1 hv E args' w hA).mono fun e w' ⟨v', he, hv', hw⟩ => ?_
    subst hw
    exact ⟨E, v', he, hv', hR, Ext.refl E M w'⟩
  · cases he

def Decls.add (D : Decls) (f : FuncId) (g : List V → Option V) : Decls := { D with prim := fun f' => cond (Nat.beq f' f) (some fun args M => (g args).map (·, M)) (D.prim f') }
theorem DOK.add {D : Decls} (hD : DOK P gl D) {f : FuncId} {g : List V → Option V} (h : CallOK P gl fun f' args M => if f' = f then (g args).map (·, M) else none) : DOK P gl (D.add f g) := by
  refine ⟨hD.mixed, hD.code, fun f' g' hp => ?_⟩
  simp only [Decls.add] at hp
  cases hb : Nat.beq f' f with
  | true =>
    rw [hb] at hp
    simp only [cond_true, Option.some.injEq] at hp
    have : f' = f := Nat.eq_of_beq_eq_true hb
    subst this
    subst hp
    exact h
  | false =>
    rw [hb] at hp
    exact hD.prim f' g' hp

theorem dok_codes {l : List (Nat × AFunc)} (hm : P.follows .mixedOrders = true) (h : ∀ x ∈ l, ∃ fn, P.funcs[x.1]? = some fn ∧ (fn.name == "runtime.NumGoroutine") = false ∧ cFunc P gl fn = some x.2) : DOK P gl ⟨codeOf l, fun _ => none⟩ :=
  ⟨hm, fun f F hf => h (f, F) (codeOf_get hf), fun _ _ h => by cases h⟩

/-- A law that is true, of arguments that hang on nothing. -/
theorem law_flat {D : Decls} (hD : DOK P gl D) (hg : ∀ x, gl x = false) {f : FuncId} {args : List V} {args' : Array Value} {w : World} (hA : VRs emb0 args args'.toList) (h : Runs D f args mem0 fun v _ => v = .bool true) :
    Calls P f args' w fun e w' => e = .returned (.bool true) ∧ Below w.heap.size w w' := by
  obtain ⟨k, v, M', hr, rfl⟩ := h
  obtain ⟨_, hs⟩ := callN_sound hD k f args mem0 _ M' hr
  refine (hs emb0 w args' (rel0 w) (fun x hx => by rw [hg x] at hx; cases hx) hA).mono fun e w' ⟨E', v', he, hv', _, hX⟩ => ?_
  cases hv'
  exact ⟨he, hX.os, hX.tape, hX.output, hX.size, fun c hc => hX.keep c hc fun _ _ _ hb => by cases hb⟩
end
end Go.Am
