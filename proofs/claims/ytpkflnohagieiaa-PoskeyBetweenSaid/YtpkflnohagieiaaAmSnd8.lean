/- An operation of the machine against the program's own: all that leave memory as it is, put together. -/
import Derived.Test.YtpkflnohagieiaaAmSnd7
set_option linter.unusedSimpArgs false
set_option linter.unusedVariables false
namespace Go.Am
open Go Go.RowKit

/-- Does it leave memory as it is? -/
def Cls.still : Cls → Bool
  | .p => true
  | .r => true
  | _ => false

section
variable {P : Program} {E : Emb} {M : Mem} {w : World} {gl : Nat → Bool} {ρ : Opd → V} {ρ' : Operand → Value}

theorem Pure1.of {o : Oper} {s : Sem Value} {v : V} (he : execOp ρ' o = (do pure (.value (← s)))) (h : PureV P E w s v) : Pure1 P E w (execOp ρ' o) v := by
  rw [he]; exact h.next

theorem callB {o : Oper} {b : Builtin} {args : Array Operand} {ts : Array TypeId} (ho : o.op = .call ⟨.builtin b, args, ts⟩) (s : Sem Value)
    (hb : ∀ c, builtin b ts o.type c (args.map ρ') = (do pure (.value (← s)))) {v : V} (h : PureV P E w s v) : Pure1 P E w (execOp ρ' o) v := by
  obtain ⟨v', hv, hr⟩ := h
  refine ⟨v', hv, ?_⟩
  simp only [execOp, ho, resolve, Sem.run_bind, Sem.run_pure, Result.andThen_ok, invoke, hb, hr]

theorem pr_sound (h : Rel E M w) (hρ : ROK gl E ρ ρ') {o : Oper} {ao : AOp} (hc : cOp P gl o = some ao) (hcl : (clsOf ao).still = true) {v : V} {M' : Mem} (hv : aop ao ρ M = some (.val v M')) :
    M' = M ∧ Pure1 P E w (execOp ρ' o) v := by
  cases hop : o.op <;> simp only [cOp, hop] at hc
  case move x =>
    simp only [Option.map_eq_some_iff] at hc
    obtain ⟨y, hy, rfl⟩ := hc
    simp only [aop, Option.some.injEq, Res.val.injEq] at hv
    obtain ⟨rfl, rfl⟩ := hv
    exact ⟨rfl, _, hρ.1 _ _ hy, by simp [execOp, hop]⟩
  case assign x =>
    simp only [Option.map_eq_some_iff] at hc
    obtain ⟨y, hy, rfl⟩ := hc
    simp only [aop, Option.some.injEq, Res.val.injEq] at hv
    obtain ⟨rfl, rfl⟩ := hv
    exact ⟨rfl, _, hρ.1 _ _ hy, by simp [execOp, hop]⟩
  case pick c a b =>
    simp only [Option.bind_eq_some_iff, Option.map_eq_some_iff] at hc
    obtain ⟨c', h1, a', h2, b', h3, rfl⟩ := hc
    simp only [aop] at hv
    split at hv
    · rename_i t ht
      simp only [Option.some.injEq, Res.val.injEq] at hv
      obtain ⟨rfl, rfl⟩ := hv
      have r1 := hρ.1 _ _ h1
      rw [ht] at r1
      generalize hcv : ρ' c = cv at r1
      cases r1
      refine ⟨rfl, if t then ρ' a else ρ' b, ?_, by simp [execOp, hop, hcv, asBool]⟩
      cases t
      · exact hρ.1 _ _ h3
      · exact hρ.1 _ _ h2
    · cases hv
  case alloc e =>
    simp only [Option.map_eq_some_iff] at hc
    obtain ⟨z, _, rfl⟩ := hc
    simp [clsOf, Cls.still] at hcl
  case box e x =>
    simp only [Option.map_eq_some_iff] at hc
    obtain ⟨z, _, rfl⟩ := hc
    simp [clsOf, Cls.still] at hcl
  case build t parts =>
    simp only [Option.bind_eq_some_iff] at hc
    obtain ⟨z, hz, hc⟩ := hc
    obtain ⟨z', hz', hzr⟩ := zeroE_rel (P := P) (E := E) hz w
    split at hc
    · rename_i fs hu
      obtain ⟨hall, hc⟩ := cond_some hc
      simp only [Option.map_eq_some_iff] at hc
      obtain ⟨ps, hps, rfl⟩ := hc
      obtain ⟨hv1, rfl⟩ := vof_some hv
      simp only [Option.map_eq_some_iff] at hv1
      obtain ⟨out, hout, rfl⟩ := hv1
      obtain ⟨out', ho, hr⟩ := fill_rel hρ hps hz'.cells hout
      refine ⟨rfl, .of (s := Instr.build t (parts.map fun (i, x) => (i, ρ' x))) (by simp [execOp, hop]) ⟨.agg out', .agg hr, ?_⟩⟩
      have hpl : ∀ w : World, (fs.mapM fun f => do pure (f.offset, ← sizeOf f.type) : Sem (Array (Nat × Nat))).run P w = .ok (fs.map fun f => (f.offset, P.cellsOf f.type)) w := by
        intro w
        rw [Array.mapM_eq_mapM_toList, Sem.run_map]
        have : ∀ (l : List Field) (w : World), l.all (fun f => (P.info? f.type).isSome) = true → (l.mapM (fun f => do pure (f.offset, ← sizeOf f.type)) : Sem (List (Nat × Nat))).run P w = .ok (l.map fun f => (f.offset, P.cellsOf f.type)) w := by
          intro l
          induction l with
          | nil => intro w _; simp
          | cons f l ih =>
            intro w hl
            simp only [List.all_cons, Bool.and_eq_true] at hl
            obtain ⟨i, hi⟩ := Option.isSome_iff_exists.1 hl.1
            have hsz : (sizeOf f.type).run P w = .ok (P.cellsOf f.type) w := by simp [sizeOf, typeInfo, hi, Program.cellsOf]
            simp only [List.mapM_cons, Sem.run_bind, hsz, Result.andThen_ok, Sem.run_pure, ih w hl.2, List.map_cons]
        rw [this _ w hall]
        simp only [Result.andThen_ok]
        congr 1
        apply Array.ext'
        simp
      have hpe : (fun (i : Nat) => fs[i]?.bind fun (f : Field) => (szE P f.type).map fun n => (f.offset, n)) = fun (i : Nat) => (fs.map fun (f : Field) => (f.offset, P.cellsOf f.type))[i]? := by
        funext i
        rw [Array.getElem?_map]
        cases hf : fs[i]? with
        | none => rfl
        | some f =>
          have hin : f ∈ fs.toList := by
            have := Array.mem_of_getElem? hf
            exact Array.mem_toList_iff.2 this
          obtain ⟨ti, hti⟩ := Option.isSome_iff_exists.1 (List.all_eq_true.1 hall f hin)
          simp [szE, hti, Program.cellsOf]
      rw [hpe] at ho
      simp only [Instr.build, Sem.run_bind, hzr, Result.andThen_ok, run_underlying hu, hpl]
      have e2 : (parts.map fun (x : Nat × Operand) => (x.1, ρ' x.2)).toList = parts.toList.map fun p => (p.1, ρ' p.2) := by simp
      rw [show (parts.map fun x => match x with | (i, x) => (i, ρ' x)) = parts.map fun (x : Nat × Operand) => (x.1, ρ' x.2) from rfl, e2, ho]
      simp
    · rename_i n e hu
      simp only [Option.bind_eq_some_iff, Option.map_eq_some_iff] at hc
      obtain ⟨m, hm, ps, hps, rfl⟩ := hc
      obtain ⟨hv1, rfl⟩ := vof_some hv
      simp only [Option.map_eq_some_iff] at hv1
      obtain ⟨out, hout, rfl⟩ := hv1
      obtain ⟨out', ho, hr⟩ := fill_rel hρ hps hz'.cells hout
      refine ⟨rfl, .of (s := Instr.build t (parts.map fun (i, x) => (i, ρ' x))) (by simp [execOp, hop]) ⟨.agg out', .agg hr, ?_⟩⟩
      simp only [Instr.build, Sem.run_bind, hzr, Result.andThen_ok, run_underlying hu, run_sizeOf' hm]
      have e2 : (parts.map fun (x : Nat × Operand) => (x.1, ρ' x.2)).toList = parts.toList.map fun p => (p.1, ρ' p.2) := by simp
      rw [show (parts.map fun x => match x with | (i, x) => (i, ρ' x)) = parts.map fun (x : Nat × Operand) => (x.1, ρ' x.2) from rfl, e2, ho]
      simp
    · cases hc
  case buildSlice t len parts =>
    split at hc
    · simp only [Option.bind_eq_some_iff] at hc
      obtain ⟨n, hn, z, hz, hc⟩ := hc
      rw [Bool.cond_eq_ite] at hc
      split at hc
      · cases hc
      · obtain ⟨_, hc⟩ := cond_some hc
        obtain ⟨_, hc⟩ := cond_some hc
        simp only [Option.map_eq_some_iff] at hc
        obtain ⟨ps, _, rfl⟩ := hc
        simp [clsOf, Cls.still] at hcl
    · cases hc
  case load t a =>
    simp only [Option.bind_eq_some_iff, Option.map_eq_some_iff] at hc
    obtain ⟨n, hn, y, hy, rfl⟩ := hc
    obtain ⟨hv1, rfl⟩ := vof_some hv
    exact ⟨rfl, .of (by simp [execOp, hop]) (load_rel h hn (hρ.1 _ _ hy) hv1)⟩
  case store t a x =>
    simp only [Option.bind_eq_some_iff, Option.map_eq_some_iff] at hc
    obtain ⟨n, hn, y, hy, z, hz, rfl⟩ := hc
    simp [clsOf, Cls.still] at hcl
  case nilCheck x =>
    simp only [Option.map_eq_some_iff] at hc
    obtain ⟨y, hy, rfl⟩ := hc
    simp only [aop] at hv
    split at hv
    · rename_i a ha
      simp only [Option.some.injEq, Res.val.injEq] at hv
      obtain ⟨rfl, rfl⟩ := hv
      exact ⟨rfl, nilCheck_rel hop (by rw [← ha]; exact hρ.1 _ _ hy) (.inl ⟨a, rfl⟩) rfl⟩
    · rename_i f a b ha
      simp only [Option.some.injEq, Res.val.injEq] at hv
      obtain ⟨rfl, rfl⟩ := hv
      exact ⟨rfl, nilCheck_rel hop (by rw [← ha]; exact hρ.1 _ _ hy) (.inr ⟨f, a, b, rfl⟩) rfl⟩
    · cases hv
  case binOp op t x y yt =>
    simp only [Option.bind_eq_some_iff] at hc
    obtain ⟨x', hx, y', hy, hc⟩ := hc
    have key : ∀ (hbin : aop (.bin op x' y') ρ M = some (.val v M')) (hng : (eqGuard op t x y (ρ' x) (ρ' y)).run P w = .ok () w), M' = M ∧ Pure1 P E w (execOp ρ' o) v := by
      intro hbin hng
      obtain ⟨hv1, rfl⟩ := vof_some hbin
      obtain ⟨v', hv', hr⟩ := vbin_rel (P := P) (hρ.1 _ _ hx) (hρ.1 _ _ hy) t hv1
      refine ⟨rfl, .of (s := do eqGuard op t x y (ρ' x) (ρ' y); binOp op t (ρ' x) (ρ' y)) (by simp [execOp, hop]) ⟨v', hv', ?_⟩⟩
      simp only [Sem.run_bind, hng, Result.andThen_ok, hr w]
    have hnot : (op ≠ .eql ∧ op ≠ .neq) → (eqGuard op t x y (ρ' x) (ρ' y)).run P w = .ok () w := by
      rintro ⟨h1, h2⟩
      cases op <;> first | exact absurd rfl h1 | exact absurd rfl h2 | simp [eqGuard]
    have hscal : ∀ {op' : BinOp} (hb : aop (.bin op' x' y') ρ M = some (.val v M')), (eqGuard op t x y (ρ' x) (ρ' y)).run P w = .ok () w := by
      intro op' hb
      obtain ⟨hv1, _⟩ := vof_some hb
      have r1 := hρ.1 _ _ hx
      have r2 := hρ.1 _ _ hy
      generalize ρ' x = u1 at r1
      generalize ρ' y = u2 at r2
      generalize ρ x' = a1 at r1 hv1
      generalize ρ y' = a2 at r2 hv1
      cases a1 <;> cases a2 <;> try (simp [vbin] at hv1; done)
      · cases r1; cases r2
        cases op <;> simp [eqGuard]
      · cases r1; cases r2
        cases op <;> simp [eqGuard]
    have heq : ∀ (neg : Bool), op = cond neg .neq .eql → (match P.underlying t with
        | some (.int _) | some .string => some (AOp.bin op x' y')
        | some .bool | some (.struct _) => cond (P.eqGuardType P.depth t) none ((shT P t).map fun sh => .eq neg sh x' y')
        | some (.pointer _) => some (.eqNil neg .ptr x' y')
        | some (.slice _) => some (.eqNil neg .slice x' y')
        | some (.map _ _) => some (.eqNil neg .map x' y')
        | some (.func _ _ _) => some (.eqNil neg .fn x' y')
        | some (.interface _) => cond (isConstO x' || isConstO y') (some (.eqNil neg .iface x' y')) none
        | _ => none) = some ao → M' = M ∧ Pure1 P E w (execOp ρ' o) v := by
      intro neg hne hc
      have nilc : ∀ {k : NK} {d : TypeDesc}, P.underlying t = some d → k.isT d = true → aop (.eqNil neg k x' y') ρ M = some (.val v M') →
          (k = .iface → ρ' x = .nilIface → ρ' y = .nilIface → (∃ v, x = .const v) ∨ ∃ v, y = .const v) → M' = M ∧ Pure1 P E w (execOp ρ' o) v := by
        intro k d hu hk ha hg
        obtain ⟨hv1, rfl⟩ := vof_some ha
        simp only [Option.map_eq_some_iff] at hv1
        obtain ⟨b, hb, rfl⟩ := hv1
        exact ⟨rfl, .of (s := do eqGuard op t x y (ρ' x) (ρ' y); binOp op t (ρ' x) (ρ' y)) (by simp [execOp, hop]) (nil_rel hne hu hk (hρ.1 _ _ hx) (hρ.1 _ _ hy) hb hg)⟩
      split at hc
      · cases hc; exact key hv (hscal hv)
      · cases hc; exact key hv (hscal hv)
      · rename_i hu
        rw [Bool.cond_eq_ite] at hc
        split at hc
        · cases hc
        · rename_i hg
          simp only [Option.map_eq_some_iff] at hc
          obtain ⟨sh, hsh, rfl⟩ := hc
          obtain ⟨hv1, rfl⟩ := vof_some hv
          simp only [Option.map_eq_some_iff] at hv1
          obtain ⟨b, hb, rfl⟩ := hv1
          exact ⟨rfl, .of (s := do eqGuard op t x y (ρ' x) (ρ' y); binOp op t (ρ' x) (ρ' y)) (by simp [execOp, hop]) (eq_rel hne hsh (.inl hu) (by simpa using hg) (hρ.1 _ _ hx) (hρ.1 _ _ hy) hb)⟩
      · rename_i fs hu
        rw [Bool.cond_eq_ite] at hc
        split at hc
        · cases hc
        · rename_i hg
          simp only [Option.map_eq_some_iff] at hc
          obtain ⟨sh, hsh, rfl⟩ := hc
          obtain ⟨hv1, rfl⟩ := vof_some hv
          simp only [Option.map_eq_some_iff] at hv1
          obtain ⟨b, hb, rfl⟩ := hv1
          exact ⟨rfl, .of (s := do eqGuard op t x y (ρ' x) (ρ' y); binOp op t (ρ' x) (ρ' y)) (by simp [execOp, hop]) (eq_rel hne hsh (.inr ⟨fs, hu⟩) (by simpa using hg) (hρ.1 _ _ hx) (hρ.1 _ _ hy) hb)⟩
      · rename_i hu; cases hc; exact nilc hu rfl hv (fun h => by cases h)
      · rename_i hu; cases hc; exact nilc hu rfl hv (fun h => by cases h)
      · rename_i hu; cases hc; exact nilc hu rfl hv (fun h => by cases h)
      · rename_i hu; cases hc; exact nilc hu rfl hv (fun h => by cases h)
      · rename_i hu
        obtain ⟨hco, hc⟩ := cond_some hc
        cases hc
        refine nilc hu rfl hv (fun _ e1 e2 => ?_)
        simp only [Bool.or_eq_true] at hco
        have isC : ∀ (X : Operand) (X' : Opd), cOpd gl X = some X' → isConstO X' = true → ρ' X = .nilIface → ∃ v, X = .const v := by
          intro X X' hX hi he
          cases X with
          | const v => exact ⟨v, rfl⟩
          | tmp t => simp only [cOpd, Option.some.injEq] at hX; subst hX; cases hi
          | func f => simp only [cOpd, Option.some.injEq] at hX; subst hX; cases hi
          | global g =>
            simp only [cOpd] at hX
            obtain ⟨_, hX⟩ := cond_some hX
            cases hX
            have := hρ.1 (.global g) (.const (.ptr (some (g, 0)))) (by simp [cOpd, *])
            rw [he, hρ.2] at this
            cases this
        rcases hco with hco | hco
        · exact .inl (isC x x' hx hco e1)
        · exact .inr (isC y y' hy hco e2)
      · cases hc
    cases op <;> simp only [cBin] at hc
    case eql => exact heq false rfl hc
    case neq => exact heq true rfl hc
    all_goals (simp only [Option.some.injEq] at hc; subst hc; exact key hv (hnot ⟨(fun h => by cases h), (fun h => by cases h)⟩))
  case unOp op t x =>
    simp only [Option.map_eq_some_iff] at hc
    obtain ⟨y, hy, rfl⟩ := hc
    obtain ⟨hv1, rfl⟩ := vof_some hv
    exact ⟨rfl, .of (by simp [execOp, hop]) (un_rel (hρ.1 _ _ hy) hv1)⟩
  case convert s d x =>
    simp only [Option.bind_eq_some_iff] at hc
    obtain ⟨y, hy, hc⟩ := hc
    have hx := hρ.1 _ _ hy
    split at hc
    · rename_i k1 k2 hs hd
      cases hc
      simp only [aop] at hv
      split at hv
      · rename_i k n hn
        simp only [Option.some.injEq, Res.val.injEq] at hv
        obtain ⟨rfl, rfl⟩ := hv
        rw [hn] at hx
        generalize hu : ρ' x = u at hx
        cases hx
        refine ⟨rfl, .of (s := convert s d (ρ' x)) (by simp [execOp, hop]) ⟨_, .int _ _, ?_⟩⟩
        rw [hu]
        simp [convert, run_underlying hs, run_underlying hd, Conv.intToInt]
      · cases hv
    · rename_i hs hd
      cases hc
      simp only [aop] at hv
      split at hv
      · rename_i st hn
        simp only [Option.some.injEq, Res.val.injEq] at hv
        obtain ⟨rfl, rfl⟩ := hv
        rw [hn] at hx
        refine ⟨rfl, .of (s := convert s d (ρ' x)) (by simp [execOp, hop]) ⟨_, hx, ?_⟩⟩
        generalize ρ' x = u at hx
        cases hx
        simp [convert, run_underlying hs, run_underlying hd]
      · cases hv
    · split at hc
      · cases hc; simp [clsOf, Cls.still] at hcl
      · cases hc
    · rename_i e hs hd
      split at hc
      · rename_i he
        cases hc
        have hv2 : aop (.bytesStr (.const (ρ y))) (fun _ => ρ y) M = some (.val v M') := hv
        obtain ⟨rfl, v', hv', hr⟩ := bytesStr_rel (P := P) h hx hv2
        refine ⟨rfl, .of (s := convert s d (ρ' x)) (by simp [execOp, hop]) ⟨v', hv', ?_⟩⟩
        rw [← hr]
        simp only [aop] at hv
        split at hv
        · rename_i hn
          rw [hn] at hx
          generalize ρ' x = u at hx
          cases hx
          simp [convert, run_underlying hs, run_underlying hd, run_underlying he]
        · rename_i hn
          rw [hn] at hx
          generalize ρ' x = u at hx
          cases hx <;> simp [convert, run_underlying hs, run_underlying hd, run_underlying he]
        · cases hv
      · cases hc
    · cases hc
  case makeFunc fn a b =>
    cases fn <;> simp only [] at hc <;> first | (cases hc; done) | skip
    rename_i f
    simp only [Option.bind_eq_some_iff, Option.map_eq_some_iff] at hc
    obtain ⟨xs, hx, ys, hy, rfl⟩ := hc
    simp only [aop, Option.some.injEq, Res.val.injEq] at hv
    obtain ⟨rfl, rfl⟩ := hv
    refine ⟨rfl, .of (s := Instr.makeFunc (.func f) (a.map ρ') (b.map ρ')) (by simp [execOp, hop]) ⟨_, .fn ?_ ?_, rfl⟩⟩
    · simpa using cOpds_rel hρ hx
    · simpa using cOpds_rel hρ hy
  case makeMap t r =>
    cases r <;> simp only [] at hc
    · cases hc; simp [clsOf, Cls.still] at hcl
    · cases hc
  case makeSlice t l c =>
    split at hc
    · simp only [Option.bind_eq_some_iff] at hc
      obtain ⟨_, _, _, _, _, _, _, _, _, _, hc⟩ := hc
      rw [Bool.cond_eq_ite] at hc
      split at hc
      · cases hc
      · obtain ⟨_, hc⟩ := cond_some hc
        cases hc
        simp [clsOf, Cls.still] at hcl
    · cases hc
  case slice t x lo hi mx =>
    simp only [Option.bind_eq_some_iff] at hc
    obtain ⟨x', hx, lo', hlo, hi', hhi, mx', hmx, hc⟩ := hc
    have hxr := hρ.1 _ _ hx
    split at hc
    · rename_i hu
      split at hc
      · cases hc
        cases mx with
        | some m => simp only [cOpt, Option.map_eq_some_iff] at hmx; obtain ⟨_, _, hmx⟩ := hmx; cases hmx
        | none =>
        simp only [aop] at hv
        split at hv
        · rename_i s hs
          obtain ⟨hv1, rfl⟩ := vof_some hv
          simp only [Option.bind_eq_some_iff] at hv1
          obtain ⟨l, hl, hh, hhh, hv1⟩ := hv1
          rw [hs] at hxr
          have opt : ∀ {z : Option Operand} {z' : Option Opd} {dflt n : Nat}, cOpt gl z = some z' → optNat ρ z' dflt = some n → ∃ k, OptR E (z.map ρ') k ∧ k.getD dflt = n := by
            intro z z' dflt n hz hn
            cases z with
            | none => simp only [cOpt, Option.some.injEq] at hz; subst hz; simp only [optNat, Option.some.injEq] at hn; subst hn; exact ⟨none, .inl ⟨rfl, rfl⟩, rfl⟩
            | some z =>
              simp only [cOpt, Option.map_eq_some_iff] at hz
              obtain ⟨y, hy, rfl⟩ := hz
              simp only [optNat] at hn
              exact ⟨some n, .inr ⟨ρ y, ρ' z, n, rfl, rfl, hρ.1 _ _ hy, hn⟩, rfl⟩
          obtain ⟨k1, o1, rfl⟩ := opt hlo hl
          obtain ⟨k2, o2, rfl⟩ := opt hhi hhh
          exact ⟨rfl, .of (by simp [execOp, hop]) (sliceStr_rel hu hxr o1 o2 hv1)⟩
        · cases hv
      · cases hc
    · rename_i e hu
      rw [Bool.cond_eq_ite] at hc
      split at hc
      · cases hc
      · rename_i hmh
        simp only [Option.map_eq_some_iff] at hc
        obtain ⟨n, hn, rfl⟩ := hc
        simp only [aop] at hv
        obtain ⟨hv1, rfl⟩ := vof_some hv
        split at hv1
        · cases hv1
        · cases hv1
        · cases hv1
        · rename_i n1 n2 n3
          refine ⟨rfl, .of (by simp [execOp, hop]) (slice_rel hu hn hxr (cOpt_rel hρ hlo rfl n1) (cOpt_rel hρ hhi rfl n2) (cOpt_rel hρ hmx rfl n3) ?_ hv1)⟩
          intro hm hh
          apply hmh
          cases mx' with
          | none => exact absurd rfl hm
          | some m =>
            cases hi' with
            | none => rfl
            | some hq =>
              exfalso
              cases ha : asNat (ρ hq) with
              | none => exact n2 (by simp [ha])
              | some k => simp [ha] at hh
    · rename_i m e hu
      rw [Bool.cond_eq_ite] at hc
      split at hc
      · cases hc
      · rename_i hmh
        simp only [Option.map_eq_some_iff] at hc
        obtain ⟨n, hn, rfl⟩ := hc
        simp only [aop] at hv
        obtain ⟨hv1, rfl⟩ := vof_some hv
        split at hv1
        · cases hv1
        · cases hv1
        · cases hv1
        · rename_i a hxa n1 n2 n3
          obtain ⟨b, oo⟩ := a
          rw [hxa] at hxr
          generalize hu' : ρ' x = u at hxr
          cases hxr
          rename_i c d k hE
          have hmm : (mx'.map fun x => asNat (ρ x)).bind id ≠ none → (hi'.map fun x => asNat (ρ x)).bind id ≠ none := by
            intro hm hh
            apply hmh
            cases mx' with
            | none => exact absurd rfl hm
            | some m =>
              cases hi' with
              | none => rfl
              | some hq =>
                exfalso
                cases ha : asNat (ρ hq) with
                | none => exact n2 (by simp [ha])
                | some k => simp [ha] at hh
          obtain ⟨h1, h2, h3, hr⟩ := slice_core (cap := .exact m) (c := c) (d := d) (k := k) (cap' := m) hE rfl (Nat.le_refl _) hv1 hmm
          have hb := run_bounds (P := P) (E := E) (w := w) false m m (cOpt_rel hρ hlo rfl n1) (cOpt_rel hρ hhi rfl n2) (cOpt_rel hρ hmx rfl n3) h1 h2 h3 hmm
          refine ⟨rfl, .of (s := Instr.sliceAt t (ρ' x) (lo.map ρ') (hi.map ρ') (mx.map ρ')) (by simp [execOp, hop]) ⟨_, hr, ?_⟩⟩
          rw [hu']
          simp only [Instr.sliceAt, Sem.run_bind, run_underlying hu, Result.andThen_ok, Instr.sureAddr, Sem.run_pure, hb, run_sizeOf' hn, addr_add, Nat.add_assoc]
          split <;> rfl
        · cases hv1
    · cases hc
  case fieldAddr t x i =>
    simp only [Option.bind_eq_some_iff] at hc
    obtain ⟨f, hf, n, hn, y, hy, hc⟩ := hc
    rw [Bool.cond_eq_ite] at hc
    split at hc
    · cases hc
    · rename_i h0
      cases hc
      obtain ⟨hv1, rfl⟩ := vof_some hv
      exact ⟨rfl, .of (by simp [execOp, hop]) (fieldAddr_rel hf hn (by intro e; subst e; exact h0 rfl) (hρ.1 _ _ hy) hv1)⟩
  case field t x i =>
    simp only [Option.bind_eq_some_iff, Option.map_eq_some_iff] at hc
    obtain ⟨f, hf, n, hn, y, hy, rfl⟩ := hc
    simp only [aop] at hv
    split at hv
    · rename_i cs hcs
      obtain ⟨hv1, rfl⟩ := vof_some hv
      have hx := hρ.1 _ _ hy
      rw [hcs] at hx
      generalize hu : ρ' x = u at hx
      cases hx
      rename_i cs' hcc
      obtain ⟨v', hv', hr⟩ := part_rel (P := P) (w := w) hn hcc hv1
      unfold fieldE at hf
      split at hf
      · rename_i fs hut
        refine ⟨rfl, .of (s := Instr.field t (ρ' x) i) (by simp [execOp, hop]) ⟨v', hv', ?_⟩⟩
        rw [hu]
        simp only [Instr.field, Sem.run_bind, run_underlying hut, Result.andThen_ok, hf, asAgg, Sem.run_pure, hr]
      · cases hf
    · cases hv
  case indexAddr t x i =>
    simp only [Option.bind_eq_some_iff] at hc
    obtain ⟨x', hx, i', hi, hc⟩ := hc
    have hxr := hρ.1 _ _ hx
    have hir := hρ.1 _ _ hi
    split at hc
    · rename_i e hu
      simp only [Option.map_eq_some_iff] at hc
      obtain ⟨n, hn, rfl⟩ := hc
      simp only [aop] at hv
      split at hv
      · rename_i b oo len cap j hxs hj
        obtain ⟨hb, hv⟩ := cond_some hv
        rw [ble_iff] at hb
        simp only [Option.some.injEq, Res.val.injEq] at hv
        obtain ⟨rfl, rfl⟩ := hv
        rw [hxs] at hxr
        exact ⟨rfl, .of (by simp [execOp, hop]) (indexAddr_rel hu hn hxr hir hj (of_decide_eq_true hb))⟩
      · cases hv
    · rename_i m e hu
      simp only [Option.map_eq_some_iff] at hc
      obtain ⟨n, hn, rfl⟩ := hc
      simp only [aop] at hv
      split at hv
      · rename_i b oo j hxs hj
        obtain ⟨hb, hv⟩ := cond_some hv
        rw [ble_iff] at hb
        simp only [Option.some.injEq, Res.val.injEq] at hv
        obtain ⟨rfl, rfl⟩ := hv
        rw [hxs] at hxr
        exact ⟨rfl, .of (by simp [execOp, hop]) (indexArr_rel hu hn hxr hir hj (of_decide_eq_true hb))⟩
      · cases hv
    · cases hc
  case index t x i =>
    simp only [Option.bind_eq_some_iff] at hc
    obtain ⟨x', hx, i', hi, hc⟩ := hc
    have hxr := hρ.1 _ _ hx
    have hir := hρ.1 _ _ hi
    split at hc
    · rename_i hu
      cases hc
      simp only [aop] at hv
      split at hv
      · rename_i s j hs hj
        split at hv
        · rename_i c hcj
          simp only [Option.some.injEq, Res.val.injEq] at hv
          obtain ⟨rfl, rfl⟩ := hv
          rw [hs] at hxr
          exact ⟨rfl, .of (by simp [execOp, hop]) (indexStr_rel hu hxr hir hj hcj)⟩
        · cases hv
      · cases hv
    · rename_i m e hu
      simp only [Option.bind_eq_some_iff, Option.map_eq_some_iff] at hc
      obtain ⟨n, hn, l, hl, rfl⟩ := hc
      simp only [aop] at hv
      split at hv
      · rename_i cs j hcs hj
        obtain ⟨hb, hv⟩ := cond_some hv
        rw [ble_iff] at hb
        obtain ⟨hv1, rfl⟩ := vof_some hv
        rw [hcs] at hxr
        exact ⟨rfl, .of (by simp [execOp, hop]) (indexAgg_rel hu hn hl hxr hir hj (of_decide_eq_true hb) hv1)⟩
      · cases hv
    · cases hc
  case lookup t m k ok =>
    simp only [Option.bind_eq_some_iff] at hc
    obtain ⟨m', hm, k', hk, hc⟩ := hc
    split at hc
    · rename_i kt e hu
      simp only [Option.bind_eq_some_iff, Option.map_eq_some_iff] at hc
      obtain ⟨sh, hs, z, hz, rfl⟩ := hc
      obtain ⟨hv1, rfl⟩ := vof_some hv
      exact ⟨rfl, .of (by simp [execOp, hop]) (lookup_rel h hu hs hz ok (hρ.1 _ _ hm) (hρ.1 _ _ hk) hv1)⟩
    · cases hc
  case mapUpdate t m k x =>
    simp only [Option.bind_eq_some_iff] at hc
    obtain ⟨_, _, _, _, _, _, hc⟩ := hc
    split at hc
    · simp only [Option.map_eq_some_iff] at hc; obtain ⟨_, _, rfl⟩ := hc; simp [clsOf, Cls.still] at hcl
    · cases hc
  case insert t m k x =>
    simp only [Option.bind_eq_some_iff] at hc
    obtain ⟨_, _, _, _, _, _, hc⟩ := hc
    split at hc
    · simp only [Option.map_eq_some_iff] at hc; obtain ⟨_, _, rfl⟩ := hc; simp [clsOf, Cls.still] at hcl
    · cases hc
  case extract x i =>
    simp only [Option.map_eq_some_iff] at hc
    obtain ⟨y, hy, rfl⟩ := hc
    simp only [aop] at hv
    split at hv
    · rename_i vs hvs
      obtain ⟨hv1, rfl⟩ := vof_some hv
      have hx := hρ.1 _ _ hy
      rw [hvs] at hx
      generalize hu : ρ' x = u at hx
      cases hx
      rename_i cs' hcc
      obtain ⟨v', hv', hr⟩ := hcc.get i v hv1
      refine ⟨rfl, .of (s := Instr.extract (ρ' x) i) (by simp [execOp, hop]) ⟨v', hr, ?_⟩⟩
      rw [hu]
      have : cs'[i]? = some v' := by simpa using hv'
      simp [Instr.extract, this]
    · cases hv
  case call c =>
    simp only [Option.bind_eq_some_iff] at hc
    obtain ⟨xs, hxs, hc⟩ := hc
    have hxr := cOpds_rel hρ hxs
    obtain ⟨callee, args, ts⟩ := c
    split at hc
    · simp only [Option.map_eq_some_iff] at hc
      obtain ⟨_, _, rfl⟩ := hc
      simp [clsOf, Cls.still] at hcl
    · rename_i b hcal
      simp only at hcal
      subst hcal
      simp only at hc hxr
      have hargs : (args.map ρ').toList = args.toList.map ρ' := by simp
      unfold cBuiltin at hc
      split at hc
      · rename_i t x hts
        have hts' : ts = #[t] := by apply Array.ext'; simpa using hts
        subst hts'
        simp only [List.map_cons, List.map_nil] at hxr
        generalize hal : args.toList.map ρ' = al at hxr
        cases hxr with | cons hx0 htl =>
        cases htl with | nil =>
        rename_i u
        have ha : args.map ρ' = #[u] := by apply Array.ext'; rw [hargs, hal]
        have hb : ∀ c, builtin .len #[t] o.type c (args.map ρ') = (do pure (.value (← Builtin.len_ #[t] o.type #[u]))) := by intro c; rw [ha]; rfl
        have fin : ∀ {v : V}, PureV P E w (Builtin.len_ #[t] o.type #[u]) v → Pure1 P E w (execOp ρ' o) v := fun hp => callB hop _ hb hp
        split at hc
        · rename_i hu
          cases hc
          simp only [aop] at hv
          split at hv
          · rename_i s hs
            simp only [Option.some.injEq, Res.val.injEq] at hv
            obtain ⟨rfl, rfl⟩ := hv
            exact ⟨rfl, fin ((len_rel hx0).1 s hs hu)⟩
          · cases hv
        · rename_i e hu
          cases hc
          simp only [aop] at hv
          split at hv
          · rename_i a n cp hs
            simp only [Option.some.injEq, Res.val.injEq] at hv
            obtain ⟨rfl, rfl⟩ := hv
            exact ⟨rfl, fin ((len_rel hx0).2.1 a n cp e hs hu)⟩
          · cases hv
        · rename_i kt e hu
          cases hc
          obtain ⟨hv1, rfl⟩ := vof_some hv
          exact ⟨rfl, fin (lenMap_rel h hu hx0 hv1)⟩
        · rename_i n e hu
          cases hc
          simp only [aop, Option.some.injEq, Res.val.injEq] at hv
          obtain ⟨rfl, rfl⟩ := hv
          exact ⟨rfl, fin ((len_rel hx0).2.2 n e hu)⟩
        · cases hc
      · split at hc
        · split at hc
          · cases hc
          · simp only [Option.bind_eq_some_iff] at hc
            obtain ⟨_, _, _, _, _, _, hc⟩ := hc
            rw [Bool.cond_eq_ite] at hc
            split at hc
            · cases hc
            · rw [Bool.cond_eq_ite] at hc
              split at hc
              · cases hc
              · obtain ⟨_, hc⟩ := cond_some hc
                cases hc; simp [clsOf, Cls.still] at hcl
          · cases hc
        · cases hc
      · split at hc
        · simp only [Option.bind_eq_some_iff] at hc
          obtain ⟨_, _, hc⟩ := hc
          rw [Bool.cond_eq_ite] at hc
          split at hc
          · cases hc
          · cases hc; simp [clsOf, Cls.still] at hcl
        · cases hc
      · split at hc
        · simp only [Option.map_eq_some_iff] at hc
          obtain ⟨_, _, rfl⟩ := hc
          simp [clsOf, Cls.still] at hcl
        · cases hc
      · cases hc
        simp only [aop] at hv
        split at hv
        · rename_i x l hxl
          obtain ⟨hv1, rfl⟩ := vof_some hv
          rw [hxl] at hxr
          generalize hal : args.toList.map ρ' = al at hxr
          cases hxr with | cons hx0 htl =>
          rename_i u us
          obtain ⟨v', hv', hr⟩ := fold_rel (P := P) (w := w) (g := Builtin.min2) sbin_min htl hx0 hv1
          refine ⟨rfl, callB hop (Builtin.min_ ts o.type (args.map ρ')) (fun _ => rfl) ⟨v', hv', ?_⟩⟩
          simp only [Builtin.min_, hargs, hal, hr]
        · cases hv
      · cases hc
        simp only [aop] at hv
        split at hv
        · rename_i x l hxl
          obtain ⟨hv1, rfl⟩ := vof_some hv
          rw [hxl] at hxr
          generalize hal : args.toList.map ρ' = al at hxr
          cases hxr with | cons hx0 htl =>
          rename_i u us
          obtain ⟨v', hv', hr⟩ := fold_rel (P := P) (w := w) (g := Builtin.max2) sbin_max htl hx0 hv1
          refine ⟨rfl, callB hop (Builtin.max_ ts o.type (args.map ρ')) (fun _ => rfl) ⟨v', hv', ?_⟩⟩
          simp only [Builtin.max_, hargs, hal, hr]
        · cases hv
      · cases hc
    · cases hc
  case range t x =>
    simp only [Option.bind_eq_some_iff] at hc
    obtain ⟨_, _, hc⟩ := hc
    split at hc
    · cases hc; simp [clsOf, Cls.still] at hcl
    · cases hc
  case next x st =>
    cases st <;> simp only [] at hc
    · cases hc
    · simp only [Option.map_eq_some_iff] at hc
      obtain ⟨_, _, rfl⟩ := hc
      simp [clsOf, Cls.still] at hcl
  case makeInterface t x =>
    simp only [Option.bind_eq_some_iff] at hc
    obtain ⟨y, hy, hc⟩ := hc
    split at hc
    · cases hc
    · rename_i d hni hu
      cases hc
      simp only [aop, Option.some.injEq, Res.val.injEq] at hv
      obtain ⟨rfl, rfl⟩ := hv
      refine ⟨rfl, .of (s := Instr.makeInterface t (ρ' x)) (by simp [execOp, hop]) ⟨_, .iface (hρ.1 _ _ hy), ?_⟩⟩
      simp only [Instr.makeInterface, Sem.run_bind, run_underlying hu, Result.andThen_ok]
      cases d <;> first | rfl | exact absurd rfl (hni _)
    · cases hc
  all_goals (cases hc)
end
end Go.Am
