/- An operation of the machine against the program's own: values alone. -/
import Derived.Test.YtpkflnohagieiaaAmSnd2
set_option linter.unusedSimpArgs false
set_option linter.unusedVariables false
namespace Go.Am
open Go Go.RowKit

section
variable {P : Program} {E : Emb} {w : World}

/-- Comes to a value, and leaves the world as it is. -/
def Pure1 (P : Program) (E : Emb) (w : World) (s : Sem Next) (v : V) : Prop := ∃ v', VR E v v' ∧ s.run P w = .ok (.value v') w
def PureV (P : Program) (E : Emb) (w : World) (s : Sem Value) (v : V) : Prop := ∃ v', VR E v v' ∧ s.run P w = .ok v' w
theorem PureV.next {s : Sem Value} {v : V} (h : PureV P E w s v) : Pure1 P E w (do pure (.value (← s))) v := by
  obtain ⟨v', hv, hr⟩ := h
  exact ⟨v', hv, by simp [hr]⟩

theorem vsame_some {sh : Sh} {x y : V} {b : Bool} (h : vsame sh x y = some b) : sh.ok x = true ∧ sh.ok y = true ∧ b = V.beq x y := by
  unfold vsame at h
  cases h1 : sh.ok x <;> rw [h1] at h
  · cases h
  · cases h2 : sh.ok y <;> rw [h2] at h
    · cases h
    · simp at h
      exact ⟨rfl, rfl, h.symm⟩
theorem Sh.ok_cells {sh : Sh} {x : V} (h : sh.ok x = true) : fitAll sh.sk x.cells = true := by
  unfold Sh.ok at h
  split at h
  · rw [Bool.cond_eq_ite] at h; split at h
    · exact h
    · cases h
  · rename_i hv
    rw [Bool.cond_eq_ite] at h; split at h
    · cases h
    · cases x <;> first | exact h | exact absurd rfl (hv _)
theorem Sh.ok_agg {sh : Sh} {x : V} (h : sh.ok x = true) (ha : sh.agg = true) : ∃ cs, x = .agg cs := by
  unfold Sh.ok at h
  split at h
  · exact ⟨_, rfl⟩
  · rw [ha] at h; cases h
theorem Sh.ok_one {sh : Sh} {x : V} (h : sh.ok x = true) (ha : sh.agg = false) : ∀ cs, x ≠ .agg cs := by
  rintro cs rfl
  simp [Sh.ok, ha] at h
theorem beq_cells {sh : Sh} {x y : V} (hx : sh.ok x = true) (hy : sh.ok y = true) : V.beqs x.cells y.cells = V.beq x y := by
  cases ha : sh.agg with
  | true =>
    obtain ⟨cx, rfl⟩ := Sh.ok_agg hx ha
    obtain ⟨cy, rfl⟩ := Sh.ok_agg hy ha
    simp [V.cells, V.beq]
  | false =>
    have h1 := Sh.ok_one hx ha
    have h2 := Sh.ok_one hy ha
    have e1 : x.cells = [x] := by cases x <;> first | rfl | exact absurd rfl (h1 _)
    have e2 : y.cells = [y] := by cases y <;> first | rfl | exact absurd rfl (h2 _)
    rw [e1, e2]
    simp [V.beqs]

theorem shT_some {t : TypeId} {sh : Sh} (h : shT P t = some sh) : shE P depthE t = some sh.sk ∧ ∃ e, P.underlying t = some e ∧ aggD e = sh.agg := by
  unfold shT at h
  split at h
  · rename_i fs hu
    simp only [Option.map_eq_some_iff] at h
    obtain ⟨l, hl, rfl⟩ := h
    exact ⟨hl, _, hu, rfl⟩
  · rename_i hn
    simp only [Option.map_eq_some_iff] at h
    obtain ⟨l, hl, rfl⟩ := h
    obtain ⟨e, hu, _⟩ := shE_one hl
    refine ⟨hl, e, hu, ?_⟩
    cases e <;> first | rfl | exact absurd hu (hn _) | skip
    simp only [depthE, shE] at hl
    obtain ⟨h1, _⟩ := shAt_some hl
    rw [hu] at h1
    cases h1

/-- A value whose cells fit a type's shape is such a value. -/
theorem holds_of {t : TypeId} {sh : Sh} (hs : shT P t = some sh) {x : V} {x' : Value} (hx : VR E x x') (hf : sh.ok x = true) : Holds P t x' x'.cells.toList := by
  obtain ⟨hE, e, hu, ha⟩ := shT_some hs
  refine ⟨e, hu, ?_, ?_⟩
  · rw [ha]
    cases hb : sh.agg with
    | true =>
      obtain ⟨cs, rfl⟩ := Sh.ok_agg hf hb
      cases hx
      simp [Value.cells]
    | false =>
      have := Sh.ok_one hf hb
      cases hx <;> first | (simp [Value.cells]; done) | exact absurd rfl (this _)
  · intro h0
    obtain ⟨e', hu', hl⟩ := shE_one hE
    rw [hu] at hu'
    cases hu'
    rw [fitC_length (fitAll_rel hx.cells (Sh.ok_cells hf))]
    exact hl h0

theorem run_equal {t : TypeId} {sh : Sh} (hs : shT P t = some sh) {x y : V} {x' y' : Value} (hx : VR E x x') (hy : VR E y y') {b : Bool} (h : vsame sh x y = some b) (w : World) :
    (Op.equal t x' y').run P w = .ok b w := by
  obtain ⟨fx, fy, rfl⟩ := vsame_some h
  have := equalIn_rel (P := P) depthE t sh.sk (shT_some hs).1 Op.maxDepth (by unfold depthE Op.maxDepth; omega) x' y' _ _ (holds_of hs hx fx) (holds_of hs hy fy) (fitAll_rel hx.cells (Sh.ok_cells fx)) (fitAll_rel hy.cells (Sh.ok_cells fy)) w
  rw [beqs_rel hx.cells hy.cells (Sh.ok_cells fx) (Sh.ok_cells fy), beq_cells fx fy] at this
  exact this

theorem run_eq_binOp (neg : Bool) (op : BinOp) (hop : op = cond neg .neq .eql) (t : TypeId) (x y : Value) (hi : ∀ k a, x ≠ .int k a) (hs : ∀ s, x ≠ .string s) (hf : ∀ k a, x ≠ .float k a) (hc : ∀ k a b, x ≠ .complex k a b) {b : Bool}
    (he : (Op.equal t x y).run P w = .ok b w) : (binOp op t x y).run P w = .ok (.bool (cond neg (!b) b)) w := by
  subst hop
  cases neg
  · cases x <;> first | exact absurd rfl (hi _ _) | exact absurd rfl (hs _) | exact absurd rfl (hf _ _) | exact absurd rfl (hc _ _ _) | (show (do pure (.bool (← Op.equal t _ y)) : Sem Value).run P w = _; simp [he])
  · cases x <;> first | exact absurd rfl (hi _ _) | exact absurd rfl (hs _) | exact absurd rfl (hf _ _) | exact absurd rfl (hc _ _ _) | (show (do pure (.bool (!(← Op.equal t _ y))) : Sem Value).run P w = _; simp [he])

theorem eq_rel {neg : Bool} {op : BinOp} (hop : op = cond neg .neq .eql) {t : TypeId} {sh : Sh} (hs : shT P t = some sh)
    (hk : P.underlying t = some .bool ∨ ∃ fs, P.underlying t = some (.struct fs)) (hg : P.eqGuardType P.depth t = false)
    {x y : V} {x' y' : Value} {X Y : Operand} (hx : VR E x x') (hy : VR E y y') {b : Bool} (h : vsame sh x y = some b) :
    PureV P E w (do eqGuard op t X Y x' y'; binOp op t x' y') (.bool (cond neg (!b) b)) := by
  have he := run_equal (P := P) hs hx hy h w
  obtain ⟨fx, fy, _⟩ := vsame_some h
  obtain ⟨hE, e, hu, ha⟩ := shT_some hs
  refine ⟨_, .bool _, ?_⟩
  rcases hk with hb | ⟨fs, hb⟩
  · rw [hb] at hu
    cases hu
    have hsk : sh.sk = [.bool] := by
      simp only [depthE, shE] at hE
      obtain ⟨h1, _⟩ := shAt_some hE
      rw [hb] at h1
      exact (Option.some.inj h1).symm
    have key : ∀ z : V, sh.ok z = true → ∃ a, z = .bool a := by
      intro z hz
      have h1 := Sh.ok_one hz ha.symm
      have h2 := Sh.ok_cells hz
      rw [hsk] at h2
      cases z <;> first | exact ⟨_, rfl⟩ | exact absurd rfl (h1 _) | (simp [V.cells, fitAll, SK.fits] at h2; done)
    obtain ⟨a, rfl⟩ := key x fx
    obtain ⟨c, rfl⟩ := key y fy
    cases hx; cases hy
    have hgd : (eqGuard op t X Y (.bool a) (.bool c)).run P w = .ok () w := by subst hop; cases neg <;> simp [eqGuard]
    simp only [Sem.run_bind, hgd, Result.andThen_ok]
    exact run_eq_binOp neg op hop t _ _ (fun _ _ h => by cases h) (fun _ h => by cases h) (fun _ _ h => by cases h) (fun _ _ _ h => by cases h) he
  · rw [hb] at hu
    cases hu
    obtain ⟨cx, rfl⟩ := Sh.ok_agg fx ha.symm
    obtain ⟨cy, rfl⟩ := Sh.ok_agg fy ha.symm
    cases hx; cases hy
    simp only [Sem.run_bind, run_eqGuard_agg w op t X Y _ _ hg, Result.andThen_ok]
    exact run_eq_binOp neg op hop t _ _ (fun _ _ h => by cases h) (fun _ h => by cases h) (fun _ _ h => by cases h) (fun _ _ _ h => by cases h) he

def NK.isT : NK → TypeDesc → Bool
  | .ptr, .pointer _ => true
  | .slice, .slice _ => true
  | .map, .map _ _ => true
  | .fn, .func _ _ _ => true
  | .iface, .interface _ => true
  | _, _ => false
theorem nil_rel {neg : Bool} {op : BinOp} (hop : op = cond neg .neq .eql) {t : TypeId} {k : NK} {d : TypeDesc} (hu : P.underlying t = some d) (hk : k.isT d = true)
    {x y : V} {x' y' : Value} {X Y : Operand} (hx : VR E x x') (hy : VR E y y') {b : Bool} (h : vnil k x y = some b)
    (hg : k = .iface → x' = .nilIface → y' = .nilIface → (∃ v, X = .const v) ∨ ∃ v, Y = .const v) :
    PureV P E w (do eqGuard op t X Y x' y'; binOp op t x' y') (.bool (cond neg (!b) b)) := by
  refine ⟨_, .bool _, ?_⟩
  have he : (Op.equal t x' y').run P w = .ok b w ∧ (eqGuard op t X Y x' y').run P w = .ok () w := by
    obtain ⟨D, e0⟩ : ∃ D, ∀ x y, Op.equal t x y = Op.equalIn (D + 1) t x y := ⟨9999, fun _ _ => rfl⟩
    subst hop
    unfold vnil at h
    split at h <;> (first | (cases h; done) | skip) <;> cases d <;> (first | (simp [NK.isT] at hk; done) | skip) <;> cases hx <;> cases hy <;> (try cases h) <;> refine ⟨?_, ?_⟩ <;>
      first
      | (rw [e0]; simp [Op.equalIn, run_underlying hu]; done)
      | (cases neg <;> simp [eqGuard]; done)
      | (rcases hg rfl rfl rfl with ⟨v, rfl⟩ | ⟨v, rfl⟩ <;> cases neg <;> simp [eqGuard])
  simp only [Sem.run_bind, he.2, Result.andThen_ok]
  refine run_eq_binOp neg op hop t _ _ ?_ ?_ ?_ ?_ he.1 <;> (intros; intro e; subst e; cases hx <;> simp [vnil] at h)
end
end Go.Am
