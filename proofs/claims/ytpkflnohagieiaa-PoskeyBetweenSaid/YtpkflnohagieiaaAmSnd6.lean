/- An operation of the machine against the program's own: keys of maps. -/
import Derived.Test.YtpkflnohagieiaaAmSnd5
set_option linter.unusedSimpArgs false
set_option linter.unusedVariables false
namespace Go.Am
open Go Go.RowKit

section
variable {P : Program} {E : Emb} {M : Mem} {w : World}

/-- A key of such a shape may be a key. -/
def KeyAt (P : Program) (d : Nat) : Prop := ∀ (t : TypeId) (sh : List SK), shE P d t = some sh → ∀ D, d ≤ D → ∀ (em : Bool) (x : Value) (cx : List Value), Holds P t x cx → fitC sh cx → ∀ w, (Instr.checkKey em D t x).run P w = .ok () w

/-- The fields of a key, one behind the other. -/
def keyFields (em : Bool) (n : Nat) (cs : Array Value) : List Field → Sem Unit
  | [] => pure ()
  | f :: fs => do
    if f.name ≠ "_" then Instr.checkKey em n f.type (← part f.type cs f.offset)
    keyFields em n cs fs
theorem run_checkKey_struct (em : Bool) (n : Nat) (t : TypeId) (fs : Array Field) (cs : Array Value) (hu : P.underlying t = some (.struct fs)) (w : World) :
    (Instr.checkKey em (n + 1) t (.agg cs)).run P w = (keyFields em n cs fs.toList).run P w := by
  simp only [Instr.checkKey, Sem.run_bind, run_underlying hu, Result.andThen_ok]
  rw [← Array.forIn_toList]
  generalize fs.toList = l
  clear hu
  induction l generalizing w with
  | nil => simp [keyFields]
  | cons f l ih =>
    simp only [List.forIn_cons, keyFields, Sem.run_bind, Sem.run_ite]
    split
    · generalize (part f.type cs f.offset).run P w = r1
      cases r1 with
      | ok a w1 =>
        simp only [Result.andThen_ok]
        generalize (Instr.checkKey em n f.type a).run P w1 = r2
        cases r2 with
        | ok b w2 => simp only [Result.andThen_ok, Sem.run_pure]; exact ih w2
        | halt x w2 => simp [Result.andThen]
      | halt x w1 => simp [Result.andThen]
    · simp only [Sem.run_pure, Result.andThen_ok]
      exact ih w

theorem keyFields_rel {d : Nat} (H : KeyAt P d) (em : Bool) : ∀ (fs : List Field) (off : Nat) (sh : List SK), shFields (shE P d) fs off = some sh → ∀ D, d ≤ D → ∀ (xs : Array Value) (cx : List Value),
    (xs.toList.drop off).take sh.length = cx → fitC sh cx → ∀ w, (keyFields em D xs fs).run P w = .ok () w
  | [], off, sh, h => by
    intro D hD xs cx hx fx w
    rfl
  | f :: fs, off, sh, h => by
    intro D hD xs cx hx fx w
    simp only [shFields] at h
    rw [Bool.cond_eq_ite] at h
    split at h
    · rename_i hc
      simp only [Bool.and_eq_true, bne_iff_ne, beq_iff, decide_eq_true_eq] at hc
      obtain ⟨ho, hne⟩ := hc
      simp only [Option.bind_eq_some_iff, Option.map_eq_some_iff] at h
      obtain ⟨a, ha, b, hb, rfl⟩ := h
      obtain ⟨fa, fb⟩ := fitC_app fx
      have hsz := shE_size ha
      obtain ⟨e, hu, h1⟩ := shE_one ha
      have x1 : (xs.toList.drop f.offset).take a.length = cx.take a.length := by
        subst hx; rw [ho, List.take_take]; congr 1; simp
      have x2 : (xs.toList.drop (off + a.length)).take b.length = cx.drop a.length := by
        subst hx; rw [List.drop_take, List.drop_drop]; congr 1; simp
      obtain ⟨px, rx, ox⟩ := run_part (P := P) (w := w) (t := f.type) (xs := xs) (off := f.offset) hsz hu x1 (fitC_length fa) h1
      have he := H f.type a ha D hD em px _ ox fa w
      simp only [keyFields, if_pos hne, Sem.run_bind, rx, he, Result.andThen_ok]
      exact keyFields_rel H em fs (off + a.length) b hb D hD xs _ x2 fb w
    · cases h
theorem checkKey_rel : ∀ (d : Nat), KeyAt P d
  | 0 => fun t sh h => by simp [shE] at h
  | d + 1 => fun t sh h => by
    intro D hD em x cx hx fx w
    obtain ⟨D, rfl⟩ : ∃ k, D = k + 1 := ⟨D - 1, by omega⟩
    obtain ⟨h, _⟩ := shAt_some h
    split at h
    · rename_i k hu
      cases h
      have hx := hx.single hu rfl
      subst hx
      simp only [Instr.checkKey, Sem.run_bind, run_underlying hu, Result.andThen_ok]
      cases x <;> rfl
    · rename_i hu
      cases h
      have hx := hx.single hu rfl
      subst hx
      simp only [Instr.checkKey, Sem.run_bind, run_underlying hu, Result.andThen_ok]
      cases x <;> rfl
    · rename_i hu
      cases h
      have hx := hx.single hu rfl
      subst hx
      simp only [Instr.checkKey, Sem.run_bind, run_underlying hu, Result.andThen_ok]
      cases x <;> rfl
    · rename_i fs hu
      cases hst : P.stoodInHeld t with
      | true => rw [hst, cond_true] at h; cases h
      | false =>
        rw [hst, cond_false] at h
        have hx := hx.whole hu rfl
        subst hx
        rw [run_checkKey_struct em D t fs _ hu]
        exact keyFields_rel (checkKey_rel d) em fs.toList 0 sh h D (by omega) cx.toArray cx (by simp [← fitC_length fx]) fx w
    · cases h

theorem run_key {t : TypeId} {sh : Sh} (hs : shT P t = some sh) {x : V} {x' : Value} (hx : VR E x x') (h : sh.ok x = true) (em : Bool) (w : World) : (Instr.checkKey em 10000 t x').run P w = .ok () w :=
  checkKey_rel depthE t sh.sk (shT_some hs).1 10000 (by unfold depthE; omega) em x' _ (holds_of hs hx h) (fitAll_rel hx.cells (Sh.ok_cells h)) w

/-! ### a key among entries -/
/-- What is found, as the model tells it. -/
def foundAs (ents : List MapEntry) (j : Nat) : Option Nat → Option (Nat × Value)
  | some i => some (j + i, ((ents[i]?).map (·.val)).getD .nilFunc)
  | none => none
theorem foundAs_succ (e : MapEntry) (ents : List MapEntry) (j : Nat) (r : Option Nat) : foundAs (e :: ents) j (r.map (· + 1)) = foundAs ents (j + 1) r := by
  cases r with
  | none => rfl
  | some i => simp [foundAs]; omega

theorem findAsking_rel {t : TypeId} {sh : Sh} (hs : shT P t = some sh) {k : V} {k' : Value} (hk : VR E k k') : ∀ {es : List (V × V)} {ents : List MapEntry} {r : Option Nat} (j : Nat), VRs E (es.map (·.1)) (ents.map (·.key)) →
    mapIdx sh k es = some r → ∀ w, (Instr.findAsking t k' ents j).run P w = .ok (foundAs ents j r) w
  | [], [], r, j, _, h, w => by simp only [mapIdx, Option.some.injEq] at h; subst h; rfl
  | [], _ :: _, _, _, he, _, _ => by cases he
  | _ :: _, [], _, _, he, _, _ => by cases he
  | (k1, v1) :: es, e :: ents, r, j, .cons h1 ht, h, w => by
    simp only [mapIdx] at h
    split at h
    · rename_i hv
      cases h
      simp only [Instr.findAsking, Sem.run_bind, run_equal hs hk h1 hv w, Result.andThen_ok, if_true, Sem.run_pure]
      simp [foundAs]
    · rename_i hv
      simp only [Option.map_eq_some_iff] at h
      obtain ⟨r', hr, rfl⟩ := h
      rw [foundAs_succ]
      simp only [Instr.findAsking, Sem.run_bind, run_equal hs hk h1 hv w, Result.andThen_ok, Bool.false_eq_true, if_false]
      exact findAsking_rel hs hk (j + 1) ht hr w
    · cases h

theorem sameNow_rel {t : TypeId} {sh : Sh} (hs : shT P t = some sh) {d : TypeDesc} (hu : P.underlying t = some d) (ha : aggD d = false) {k x : V} {k' x' : Value} (hk : VR E k k') (hx : VR E x x') {b : Bool} (h : vsame sh k x = some b) :
    Instr.sameNow d k' x' = some b := by
  obtain ⟨fk, fx, rfl⟩ := vsame_some h
  obtain ⟨hE, e, hu', hag⟩ := shT_some hs
  rw [hu] at hu'
  cases hu'
  rw [ha] at hag
  have ck := Sh.ok_cells fk
  have cx := Sh.ok_cells fx
  have ok := Sh.ok_one fk hag.symm
  have ox := Sh.ok_one fx hag.symm
  simp only [depthE, shE] at hE
  obtain ⟨h1, _⟩ := shAt_some hE
  rw [hu] at h1
  cases d <;> first | (cases h1; done) | (simp [aggD] at ha; done) | skip
  · have hsk := (Option.some.inj h1).symm
    rw [hsk] at ck cx
    cases k <;> first | exact absurd rfl (ok _) | (simp [V.cells, fitAll, SK.fits] at ck; done) | skip
    cases x <;> first | exact absurd rfl (ox _) | (simp [V.cells, fitAll, SK.fits] at cx; done) | skip
    cases hk; cases hx
    simp only [Instr.sameNow, V.beq]
    rename_i a c
    cases a <;> cases c <;> rfl
  · have hsk := (Option.some.inj h1).symm
    rw [hsk] at ck cx
    cases k <;> first | exact absurd rfl (ok _) | (simp [V.cells, fitAll, SK.fits] at ck; done) | skip
    cases x <;> first | exact absurd rfl (ox _) | (simp [V.cells, fitAll, SK.fits] at cx; done) | skip
    rename_i kk j a i c
    simp only [V.cells, fitAll, SK.fits, cond_true_iff, and_true] at ck cx
    have e1 := ikEq_iff.1 ck
    have e2 := ikEq_iff.1 cx
    subst e1; subst e2
    cases hk; cases hx
    simp only [Instr.sameNow, V.beq, ikEq_self, cond_true, intEq_dec, if_true, Option.some.injEq]
    rw [Bool.eq_iff_iff]; simp
  · have hsk := (Option.some.inj h1).symm
    rw [hsk] at ck cx
    cases k <;> first | exact absurd rfl (ok _) | (simp [V.cells, fitAll, SK.fits] at ck; done) | skip
    cases x <;> first | exact absurd rfl (ox _) | (simp [V.cells, fitAll, SK.fits] at cx; done) | skip
    cases hk; cases hx
    rename_i a c
    simp only [Instr.sameNow, V.beq, strEq_dec, Option.some.injEq]
    rw [beq_toListBytes, toList_data, toList_data]

theorem findNow_rel {t : TypeId} {sh : Sh} (hs : shT P t = some sh) {d : TypeDesc} (hu : P.underlying t = some d) (ha : aggD d = false) {k : V} {k' : Value} (hk : VR E k k') :
    ∀ {es : List (V × V)} {ents : List MapEntry} {r : Option Nat} (j : Nat), VRs E (es.map (·.1)) (ents.map (·.key)) → mapIdx sh k es = some r → Instr.findNow d k' ents j = some (foundAs ents j r)
  | [], [], r, j, _, h => by simp only [mapIdx, Option.some.injEq] at h; subst h; rfl
  | [], _ :: _, _, _, he, _ => by cases he
  | _ :: _, [], _, _, he, _ => by cases he
  | (k1, v1) :: es, e :: ents, r, j, .cons h1 ht, h => by
    simp only [mapIdx] at h
    split at h
    · rename_i hv
      cases h
      simp only [Instr.findNow, sameNow_rel hs hu ha hk h1 hv]
      simp [foundAs]
    · rename_i hv
      simp only [Option.map_eq_some_iff] at h
      obtain ⟨r', hr, rfl⟩ := h
      rw [foundAs_succ]
      simp only [Instr.findNow, sameNow_rel hs hu ha hk h1 hv]
      exact findNow_rel hs hu ha hk (j + 1) ht hr
    · cases h

theorem sameNow_agg {d : TypeDesc} (ha : aggD d = true) (k x : Value) : Instr.sameNow d k x = none := by
  cases d <;> first | rfl | (simp [aggD] at ha; done)

theorem findKey_rel {t : TypeId} {sh : Sh} (hs : shT P t = some sh) {k : V} {k' : Value} (hk : VR E k k') {es : List (V × V)} {ents : List MapEntry} {r : Option Nat} (he : VRs E (es.map (·.1)) (ents.map (·.key)))
    (h : mapIdx sh k es = some r) (w : World) : (Instr.findKey t k' ents).run P w = .ok (foundAs ents 0 r) w := by
  obtain ⟨_, d, hu, _⟩ := shT_some hs
  simp only [Instr.findKey, Sem.run_bind, run_underlying hu, Result.andThen_ok]
  cases ha : aggD d with
  | false => rw [findNow_rel hs hu ha hk 0 he h]; rfl
  | true =>
    cases ents with
    | nil =>
      cases es with
      | nil => simp only [mapIdx, Option.some.injEq] at h; subst h; rfl
      | cons _ _ => cases he
    | cons e ents =>
      simp only [Instr.findNow, sameNow_agg ha]
      exact findAsking_rel hs hk 0 he h w

theorem mapIdx_lt {sh : Sh} {k : V} : ∀ {es : List (V × V)} {i : Nat}, mapIdx sh k es = some (some i) → ∃ k' v, es[i]? = some (k', v) ∧ vsame sh k k' = some true
  | [], i, h => by simp [mapIdx] at h
  | (k1, v1) :: es, i, h => by
    simp only [mapIdx] at h
    split at h
    · rename_i hv
      cases h
      exact ⟨k1, v1, rfl, hv⟩
    · simp only [Option.map_eq_some_iff] at h
      obtain ⟨r, hr, h⟩ := h
      cases r with
      | none => obtain ⟨_, h, _⟩ := h; cases h
      | some j =>
        obtain ⟨_, h, rfl⟩ := h
        cases h
        obtain ⟨k', v, h1, h2⟩ := mapIdx_lt hr
        exact ⟨k', v, by simpa using h1, h2⟩
    · cases h

theorem zeroE_rel {t : TypeId} {z : V} (h : zeroE P t = some z) (w : World) : ∃ z', VR E z z' ∧ (zeroValue t).run P w = .ok z' w := by
  simp only [zeroE, Option.bind_eq_some_iff] at h
  obtain ⟨i, hi, z', hz, hv⟩ := h
  exact ⟨z', vOf_rel hv, by simp [zeroValue, typeInfo, hi, hz]⟩

theorem mapOf_some {b : Nat} {es : List (V × V)} (h : mapOf M b = some es) : M.get b = some (.map es) := by
  unfold mapOf at h
  split at h
  · rename_i hM; cases h; exact hM
  · cases h
theorem Rel.map (h : Rel E M w) {b c d k : Nat} {es : List (V × V)} (hE : E b = some (c, d, k)) (hM : mapOf M b = some es) :
    ∃ ents clock, w.heap[c]? = some (.map ents clock) ∧ ER E es ents.toList ∧ Born ents.toList clock := by
  obtain ⟨o, ho, hr⟩ := h.at_ b c d k hE
  rw [mapOf_some hM] at ho
  cases ho
  exact hr
theorem run_getObj {c : Nat} {o : Obj} (h : w.heap[c]? = some o) (hc : ∀ a e f, o ≠ .cells a e f) : (getObj c).run P w = .ok o w := by
  simp only [getObj, Sem.run, h]

theorem putOk_rel {ok : Bool} {zero : V} {z' : Value} (hz : VR E zero z') {r : Option V} {r' : Option Value} (hr : (r = none ∧ r' = none) ∨ ∃ v v', r = some v ∧ r' = some v' ∧ VR E v v') :
    VR E (putOk ok zero r) (if ok then .tuple #[r'.getD z', .bool r'.isSome] else r'.getD z') := by
  rcases hr with ⟨rfl, rfl⟩ | ⟨v, v', rfl, rfl, h⟩
  · cases ok
    · exact hz
    · exact .tup (.cons hz (.cons (.bool _) .nil))
  · cases ok
    · exact h
    · exact .tup (.cons h (.cons (.bool _) .nil))

theorem lookup_rel (h : Rel E M w) {t kt e : TypeId} (hu : P.underlying t = some (.map kt e)) {sh : Sh} (hs : shT P kt = some sh) {zero : V} (hz : zeroE P e = some zero) {m k v : V} {m' k' : Value} (ok : Bool)
    (hm : VR E m m') (hk : VR E k k') (hv : vlookup sh zero ok M m k = some v) : PureV P E w (Instr.lookup t m' k' ok) v := by
  obtain ⟨z', hz', hzr⟩ := zeroE_rel (P := P) (E := E) hz w
  unfold vlookup at hv
  split at hv
  · obtain ⟨h1, hv⟩ := cond_some hv
    cases hv
    cases hm
    refine ⟨_, putOk_rel hz' (.inl ⟨rfl, rfl⟩), ?_⟩
    have hf := findKey_rel (P := P) hs hk (es := []) (ents := []) (r := none) .nil rfl w
    simp only [Instr.lookup, Sem.run_bind, run_underlying hu, Result.andThen_ok, Sem.run_pure, run_key hs hk h1]
    rw [hf]
    simp only [Result.andThen_ok, foundAs, Sem.run_bind, hzr, Sem.run_pure]
    cases ok <;> rfl
  · rename_i b
    simp only [Option.bind_eq_some_iff] at hv
    obtain ⟨es, hM, hv⟩ := hv
    obtain ⟨h1, hv⟩ := cond_some hv
    simp only [Option.map_eq_some_iff] at hv
    obtain ⟨r, hr, rfl⟩ := hv
    cases hm
    rename_i c d kk hE
    obtain ⟨ents, clock, hb, ⟨hk1, hv1⟩, _⟩ := h.map hE hM
    have hf := findKey_rel (P := P) hs hk hk1 hr w
    have hg := run_getObj (P := P) hb (by intros; intro e; cases e)
    cases r with
    | none =>
      refine ⟨_, putOk_rel (r' := none) hz' (.inl ⟨rfl, rfl⟩), ?_⟩
      simp only [Instr.lookup, Sem.run_bind, run_underlying hu, Result.andThen_ok, Sem.run_pure, hg, run_key hs hk h1, hf, foundAs, hzr]
      cases ok <;> rfl
    | some i =>
      obtain ⟨k2, v2, hi, _⟩ := mapIdx_lt hr
      obtain ⟨u, hu2, hvu⟩ := hv1.get i v2 (by simp [hi])
      rw [List.getElem?_map, Option.map_eq_some_iff] at hu2
      obtain ⟨en, hen, rfl⟩ := hu2
      refine ⟨_, putOk_rel (r := some v2) (r' := some en.val) hz' (.inr ⟨_, _, rfl, rfl, hvu⟩) |> (by simpa [hi] using ·), ?_⟩
      simp only [Instr.lookup, Sem.run_bind, run_underlying hu, Result.andThen_ok, Sem.run_pure, hg, run_key hs hk h1, hf, foundAs, hen]
      cases ok <;> rfl
  · cases hv

theorem lenMap_rel (h : Rel E M w) {t ty kt e : TypeId} (hu : P.underlying t = some (.map kt e)) {m v : V} {m' : Value} (hm : VR E m m') (hv : vlenMap M m = some v) :
    PureV P E w (Builtin.len_ #[t] ty #[m']) v := by
  unfold vlenMap at hv
  split at hv
  · cases hv
    cases hm
    exact ⟨_, .int _ _, by simp [Builtin.len_, run_underlying hu, goInt]⟩
  · simp only [Option.map_eq_some_iff] at hv
    obtain ⟨es, hM, rfl⟩ := hv
    cases hm
    rename_i c d kk hE
    obtain ⟨ents, clock, hb, ⟨hk1, _⟩, _⟩ := h.map hE hM
    have hg := run_getObj (P := P) hb (by intros; intro e; cases e)
    have hl : es.length = ents.size := by simpa using hk1.length
    refine ⟨_, .int _ _, ?_⟩
    simp [Builtin.len_, run_underlying hu, hg, goInt, hl]
  · cases hv
end
end Go.Am
