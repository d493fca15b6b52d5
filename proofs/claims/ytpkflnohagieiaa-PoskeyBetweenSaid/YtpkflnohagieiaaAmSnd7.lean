/- An operation of the machine against the program's own: all that leave memory as it is. -/
import Derived.Test.YtpkflnohagieiaaAmSnd6
set_option linter.unusedSimpArgs false
set_option linter.unusedVariables false
namespace Go.Am
open Go Go.RowKit

section
variable {P : Program} {E : Emb} {M : Mem} {w : World} {gl : Nat → Bool} {ρ : Opd → V} {ρ' : Operand → Value}

theorem vof_some {v : Option V} {M M' : Mem} {x : V} (h : vof v M = some (.val x M')) : v = some x ∧ M' = M := by
  unfold vof at h
  simp only [Option.map_eq_some_iff] at h
  obtain ⟨a, rfl, h⟩ := h
  cases h
  exact ⟨rfl, rfl⟩

theorem cOpt_rel (hρ : ROK gl E ρ ρ') {x : Option Operand} {y : Option Opd} (h : cOpt gl x = some y) {n : Option (Option Nat)} (hn : n = y.map fun z => asNat (ρ z)) (hs : n ≠ some none) : OptR E (x.map ρ') (n.bind id) := by
  cases x with
  | none => simp only [cOpt, Option.some.injEq] at h; subst h; subst hn; exact .inl ⟨rfl, rfl⟩
  | some x =>
    simp only [cOpt, Option.map_eq_some_iff] at h
    obtain ⟨z, hz, rfl⟩ := h
    subst hn
    cases ha : asNat (ρ z) with
    | none => exact absurd (by simp [ha]) hs
    | some k => exact .inr ⟨ρ z, ρ' x, k, rfl, by simp [ha], hρ.1 _ _ hz, ha⟩

theorem bytesOf_rel : ∀ {cs : List V} {us : List Value} {s : List UInt8}, VRs E cs us → bytesOf cs = some s → ∃ ns : List Int, us = ns.map (Value.int .u8) ∧ s = ns.map fun n => UInt8.ofNat n.toNat
  | [], _, s, .nil, h => by simp only [bytesOf, Option.some.injEq] at h; subst h; exact ⟨[], rfl, rfl⟩
  | c :: cs, _, s, .cons h1 ht, h => by
    cases c <;> try (simp [bytesOf] at h; done)
    rename_i k n
    cases k <;> try (simp [bytesOf] at h; done)
    simp only [bytesOf, Option.map_eq_some_iff] at h
    obtain ⟨s', hs, rfl⟩ := h
    obtain ⟨ns, rfl, rfl⟩ := bytesOf_rel ht hs
    cases h1
    exact ⟨n :: ns, rfl, rfl⟩

theorem run_pushBytes (f : Value → ByteArray → Sem (ForInStep ByteArray)) (hf : ∀ n s, f (.int .u8 n) s = pure (ForInStep.yield (s.push (UInt8.ofNat n.toNat)))) : ∀ (ns : List Int) (acc : ByteArray) (w : World),
    (forIn (ns.map (Value.int .u8)) acc f).run P w = .ok ⟨⟨acc.data.toList ++ ns.map fun n => UInt8.ofNat n.toNat⟩⟩ w
  | [], acc, w => by
    simp only [List.map_nil, List.forIn_nil, Sem.run_pure, List.append_nil]
  | n :: ns, acc, w => by
    simp only [List.map_cons, List.forIn_cons, hf, Sem.run_bind, Sem.run_pure, Result.andThen_ok]
    rw [run_pushBytes f hf ns _ w]
    simp [ByteArray.push]

theorem bytesStr_rel (h : Rel E M w) {x : V} {x' : Value} (hx : VR E x x') {r : V} {M' : Mem} (hv : aop (.bytesStr (.const x)) (fun _ => x) M = some (.val r M')) : M' = M ∧ PureV P E w (Conv.bytesToString x') r := by
  simp only [aop] at hv
  split at hv
  · cases hv
    cases hx
    exact ⟨rfl, _, .str ByteArray.empty, by simp [Conv.bytesToString]⟩
  · rename_i b o n cap
    simp only [Option.bind_eq_some_iff, Option.map_eq_some_iff] at hv
    obtain ⟨cs, hcs, s, hs, hv⟩ := hv
    cases hv
    refine ⟨rfl, ?_⟩
    have key : ∀ (a : Addr) (us : List Value), VRs E cs us → (loadCells a n).run P w = .ok us.toArray w → (Conv.bytesToString (.slice (some a) n 0)).run P w = .ok (.string ⟨⟨s⟩⟩) w := by
      intro a us hus hl
      obtain ⟨ns, rfl, rfl⟩ := bytesOf_rel hus hs
      simp only [Conv.bytesToString, Sem.run_bind, hl, Result.andThen_ok]
      rw [← Array.forIn_toList, run_pushBytes _ (fun _ _ => rfl)]
      simp
    have same : ∀ (a : Addr) (n c c' : Nat), Conv.bytesToString (.slice (some a) n c) = Conv.bytesToString (.slice (some a) n c') := fun _ _ _ _ => rfl
    cases hx with
    | slice hE hc hn =>
      refine ⟨.string ⟨⟨s⟩⟩, str_mk rfl, ?_⟩
      rw [same _ _ _ 0]
      simp only [beq_iff] at hcs
      by_cases h0 : n = 0
      · subst h0
        simp only [decide_true, cond_true, Option.some.injEq] at hcs
        subst hcs
        exact key _ [] .nil rfl
      · simp only [h0, decide_false, cond_false] at hcs
        obtain ⟨us, hus, hr⟩ := h.readCells (P := P) hE hcs
        exact key _ us hus hr
    | sliceZero hE hs hz =>
      refine ⟨.string ⟨⟨s⟩⟩, str_mk rfl, ?_⟩
      simp only [beq_iff, decide_true, cond_true, Option.some.injEq] at hcs
      subst hcs
      exact key _ [] .nil rfl
  · cases hv

theorem sbin_min {x y v : V} {x' y' : Value} (hx : VR E x x') (hy : VR E y y') (h : vmin2 x y = some v) : PureV P E w (Builtin.min2 x' y') v := by
  cases x <;> cases y <;> try (simp [vmin2, sbin] at h; done)
  · simp only [vmin2, sbin] at h
    obtain ⟨hk, h2⟩ := cond_some h
    clear h
    have := ikEq_iff.1 hk
    subst this
    simp only [Option.some.injEq] at h2
    subst h2
    cases hx; cases hy
    rename_i k a b
    refine ⟨_, .int _ _, ?_⟩
    simp only [Builtin.min2, Sem.run_pure, intLe_iff]
    congr 2
    by_cases e : b < a
    · have : ¬ a ≤ b := by omega
      simp [e, this]
    · have : a ≤ b := by omega
      simp [e, this]
  · simp only [vmin2, sbin, Option.some.injEq] at h
    subst h
    cases hx; cases hy
    rename_i a b
    have e : (Op.bytesLess a.toList b.toList || a.toList == b.toList) = (strLess a.data.toList b.data.toList || strEq a.data.toList b.data.toList) := by rw [strLess_eq, strEq_dec, toList_data, toList_data]
    simp only [← e]
    refine ⟨.string (if (Op.bytesLess a.toList b.toList || a.toList == b.toList) = true then a else b), ?_, ?_⟩
    · cases (Op.bytesLess a.toList b.toList || a.toList == b.toList) <;> exact .str _
    · simp only [Builtin.min2, Op.stringOp, Sem.run_bind, Sem.run_pure, Result.andThen_ok, asBool]
theorem sbin_max {x y v : V} {x' y' : Value} (hx : VR E x x') (hy : VR E y y') (h : vmax2 x y = some v) : PureV P E w (Builtin.max2 x' y') v := by
  cases x <;> cases y <;> try (simp [vmax2, sbin] at h; done)
  · simp only [vmax2, sbin] at h
    obtain ⟨hk, h2⟩ := cond_some h
    clear h
    have := ikEq_iff.1 hk
    subst this
    simp only [Option.some.injEq] at h2
    subst h2
    cases hx; cases hy
    rename_i k a b
    refine ⟨_, .int _ _, ?_⟩
    simp only [Builtin.max2, Sem.run_pure, intLe_iff]
    congr 2
    by_cases e : b > a
    · have : ¬ b ≤ a := by omega
      simp [e, this]
    · have : b ≤ a := by omega
      simp [e, this]
  · simp only [vmax2, sbin, Option.some.injEq] at h
    subst h
    cases hx; cases hy
    rename_i a b
    have e : (!Op.bytesLess a.toList b.toList) = (!strLess a.data.toList b.data.toList) := by rw [strLess_eq, toList_data, toList_data]
    simp only [← e]
    refine ⟨.string (if (!Op.bytesLess a.toList b.toList) = true then a else b), ?_, ?_⟩
    · cases (Op.bytesLess a.toList b.toList) <;> exact .str _
    · simp only [Builtin.max2, Op.stringOp, Sem.run_bind, Sem.run_pure, Result.andThen_ok, asBool]

theorem fold_rel {f : V → V → Option V} {g : Value → Value → Sem Value} (hf : ∀ {x y v : V} {x' y' : Value}, VR E x x' → VR E y y' → f x y = some v → PureV P E w (g x' y') v) :
    ∀ {l : List V} {l' : List Value} {x v : V} {x' : Value}, VRs E l l' → VR E x x' → foldV f x l = some v → PureV P E w (l'.foldlM g x') v
  | [], _, x, v, x', .nil, hx, h => by
    simp only [foldV, Option.some.injEq] at h
    subst h
    exact ⟨x', hx, by simp⟩
  | y :: l, _, x, v, x', .cons h1 ht, hx, h => by
    simp only [foldV, Option.bind_eq_some_iff] at h
    obtain ⟨z, hz, h⟩ := h
    obtain ⟨z', hz', hr⟩ := hf hx h1 hz
    obtain ⟨v', hv, hr2⟩ := fold_rel hf ht hz' h
    exact ⟨v', hv, by simp only [List.foldlM_cons, Sem.run_bind, hr, Result.andThen_ok, hr2]⟩

theorem len_rel {t ty : TypeId} {x : V} {x' : Value} (hx : VR E x x') :
    (∀ s, x = .str s → P.underlying t = some .string → PureV P E w (Builtin.len_ #[t] ty #[x']) (.int .i64 s.length)) ∧
    (∀ a n c e, x = .slice a n c → P.underlying t = some (.slice e) → PureV P E w (Builtin.len_ #[t] ty #[x']) (.int .i64 n)) ∧
    (∀ n e, P.underlying t = some (.array n e) → PureV P E w (Builtin.len_ #[t] ty #[x']) (.int .i64 n)) := by
  refine ⟨?_, ?_, ?_⟩
  · rintro s rfl hu
    cases hx
    exact ⟨_, .int _ _, by simp [Builtin.len_, run_underlying hu, goInt]⟩
  · rintro a n c e rfl hu
    cases hx <;> exact ⟨_, .int _ _, by simp [Builtin.len_, run_underlying hu, goInt]⟩
  · rintro n e hu
    exact ⟨_, .int _ _, by simp [Builtin.len_, run_underlying hu, goInt]⟩

theorem nilCheck_rel {o : Oper} {x : Operand} (ho : o.op = .nilCheck x) {y v : V} (hx : VR E y (ρ' x)) (h : (∃ a, y = .ptr (some a)) ∨ ∃ f a b, y = .fn f a b) (hv : v = y) : Pure1 P E w (execOp ρ' o) v := by
  subst hv
  rcases h with ⟨a, rfl⟩ | ⟨f, a, b, rfl⟩
  · refine ⟨ρ' x, hx, ?_⟩
    simp only [execOp, ho]
    generalize ρ' x = u at hx ⊢
    cases hx
    rfl
  · refine ⟨ρ' x, hx, ?_⟩
    simp only [execOp, ho]
    generalize ρ' x = u at hx ⊢
    cases hx
    rfl
end
end Go.Am
