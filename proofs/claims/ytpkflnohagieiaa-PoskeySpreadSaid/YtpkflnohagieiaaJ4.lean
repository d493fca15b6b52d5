/- The machine and what is proved of its runs, part 4: what each part says stands at its head. -/
import Derived.Test.YtpkflnohagieiaaJ3
set_option linter.unusedSimpArgs false
set_option linter.unusedVariables false
/- The reference's Between, on the machine: it answers what the program's does. -/
namespace Go.Am.Try
open Go Go.Am Go.Proofs
set_option maxRecDepth 100000
set_option linter.unusedSimpArgs false
set_option linter.unusedVariables false

theorem rbtw_loop (a b : List UInt8) (hbr : b = [] ∨ rightK b = true) (hb : b.length < 2 ^ 40) {R : V → Mem → Prop} (Mz : Mem) (hR : ∀ l M', Grew Mz M' → btwK a b = some l → R (.tup [.str l, .int .i64 0]) M') (hR2 : ∀ M', Grew Mz M' → btwK a b = none → R (.tup [.str [], .int .i64 32]) M') :
    ∀ (f n : Nat) (fr : Fr) (M : Mem), Grew Mz M → n + f = 25 → 1 ≤ n → btwAt a b f n = btwK a b → fr.rd 0 = .str a → fr.rd 1 = .str b → fr.rd 6 = .int .i64 (n : Int) →
    WC D2 60 (.loop A10_20) fr M (blockQ 0 (nextQ (fun fr M => WC D2 60 (.seq (.ops A10_21) .ret) fr M (endQ [.tmp 4, .tmp 5] R)) (endQ [.tmp 4, .tmp 5] R))) := by
  intro f
  induction f with
  | zero =>
    intro n fr M hG hn h1 hbt h0 h1' h6
    have : n = 25 := by omega
    subst this
    refine WC.loop ?_
    unfold A10_20
    refine WC.seq (WC.seq (WC.ops ?_))
    simp only [A10_4, go_sem, ↓reduceIte, Nat.reduceEqDiff, Nat.reduceLT, h6]
    refine WC.test (t := false) (by simp only [go_sem, ↓reduceIte, Nat.reduceEqDiff, Nat.reduceLT]; rfl) (fun h => by cases h) (fun _ => WC.exit ?_)
    simp only [go_sem]
    refine WC.seq (WC.ops ?_)
    simp only [A10_21, go_sem, ↓reduceIte, Nat.reduceEqDiff, Nat.reduceLT]
    refine WC.ret ?_
    simp only [go_sem, ↓reduceIte, Nat.reduceEqDiff, Nat.reduceLT]
    exact hR2 _ hG hbt.symm
  | succ f ih =>
    intro n fr M hG hn h1 hbt h0 h1' h6
    refine WC.loop ?_
    unfold A10_20
    refine WC.seq (WC.seq (WC.ops ?_))
    simp only [A10_4, go_sem, ↓reduceIte, Nat.reduceEqDiff, Nat.reduceLT, h6]
    refine WC.test (t := true) (by simp only [go_sem, ↓reduceIte, Nat.reduceEqDiff, Nat.reduceLT]; rw [decide_eq_true (by omega)]) (fun _ => WC.skip ?_) (fun h => by cases h)
    simp only [go_sem]
    have hnext : ∀ (fr' : Fr) (M' : Mem), Grew Mz M' → btwAt a b f (n + 1) = btwK a b → fr'.rd 0 = .str a → fr'.rd 1 = .str b → fr'.rd 6 = .int .i64 (n : Int) →
        WC D2 60 (.ops A10_19) fr' M' (nextQ (fun fr M => WC D2 60 (.loop A10_20) fr M (blockQ 0 (nextQ (fun fr M => WC D2 60 (.seq (.ops A10_21) .ret) fr M (endQ [.tmp 4, .tmp 5] R)) (endQ [.tmp 4, .tmp 5] R)))) (blockQ 0 (nextQ (fun fr M => WC D2 60 (.seq (.ops A10_21) .ret) fr M (endQ [.tmp 4, .tmp 5] R)) (endQ [.tmp 4, .tmp 5] R)))) := by
      intro fr' M' hG' hbt' g0 g1 g6
      refine WC.ops ?_
      simp only [A10_19, go_sem, ↓reduceIte, Nat.reduceEqDiff, Nat.reduceLT, g6]
      rw [IntWalk.i64_in _ (by omega)]
      exact ih (n + 1) _ M' hG' (by omega) (by omega) hbt' (by simp only [go_sem, ↓reduceIte, Nat.reduceEqDiff, Nat.reduceLT, g0]) (by simp only [go_sem, ↓reduceIte, Nat.reduceEqDiff, Nat.reduceLT, g1]) (by simp only [go_sem, ↓reduceIte, Nat.reduceEqDiff, Nat.reduceLT]; rfl)
    refine WC.seq (WC.block (WC.seq (WC.ops ?_)))
    simp only [A10_5, go_sem, ↓reduceIte, Nat.reduceEqDiff, Nat.reduceLT, h0, h6]
    refine callI_of (first_runs a n h1 (by omega) M) ?_
    rintro v M1 ⟨hg, hv⟩
    rcases hv with ⟨l, hi, hl, rfl, hM1, hlt⟩ | ⟨hi, rfl⟩
    · simp only [go_sem, ↓reduceIte, Nat.reduceEqDiff, Nat.reduceLT]
      refine WC.seq (WC.seq (WC.ops ?_))
      simp only [A10_6, vnil, Option.isNone_some, go_sem, ↓reduceIte, Nat.reduceEqDiff, Nat.reduceLT]
      refine WC.test (t := false) (by simp only [go_sem, ↓reduceIte, Nat.reduceEqDiff, Nat.reduceLT]) (fun h => by cases h) (fun _ => WC.skip ?_)
      simp only [go_sem]
      obtain ⟨m, rfl⟩ : ∃ m, n = m + 1 := ⟨n - 1, by omega⟩
      have hm : l[m]? = some l[m] := List.getElem?_eq_getElem (by omega)
      have hc : (numsC l)[m]? = some (.int .i64 (l[m].toNat : Int)) := by rw [numsC_get, hm]; rfl
      have hD : digitL l m = l[m].toNat := by simp [digitL, List.getD_eq_getElem?_getD, hm]
      have h8 := l[m].toNat_lt
      have hw : IntKind.i64.wrap (((m + 1 : Nat) : Int) - 1) = (m : Int) := by rw [IntWalk.i64_in _ (by omega)]; omega
      have hlo : max (l[m].toNat : Int) 1 = ((max (digitL l m) 1 : Nat) : Int) := by rw [hD]; omega
      have hmx : max (digitL l m) 1 ≤ 255 ∧ 1 ≤ max (digitL l m) 1 := by omega
      have hgr := greatL_le l b
      refine WC.seq (WC.ops ?_)
      simp only [A10_7, go_sem, ↓reduceIte, Nat.reduceEqDiff, Nat.reduceLT, h6, hw, Nat.le_refl, vload, hM1, hc, Nat.zero_add, Nat.mul_one, hlo]
      refine WC.seq (WC.ops ?_)
      simp only [A10_8, go_sem, ↓reduceIte, Nat.reduceEqDiff, Nat.reduceLT]
      rw [IntWalk.i64_in _ (by omega)]
      refine WC.seq (WC.seq (WC.ops ?_))
      simp only [A10_9, go_sem, ↓reduceIte, Nat.reduceEqDiff, Nat.reduceLT]
      have hset : l.set m l[m] = l := List.set_getElem_self _
      refine WC.block (scan_loop a b l M.next m (max (digitL l m) 1) hl (by omega) hmx.2 hmx.1 hbr hb M1 ?_ (256 - max (digitL l m) 1) (max (digitL l m) 1) _ M1 l[m] (by omega) (Nat.le_refl _) (.inl rfl) (by rw [hset]; exact Upd.same hM1) ?_ ?_ ?_ ?_ ?_ ?_ ?_)
      · intro fr M2 x q0 q1 q6 q7 q8 q9 hu
        simp only [nextQ, blockQ, beq_dec, decide_true, cond_true]
        refine WC.seq (WC.ops ?_)
        simp only [A10_16, go_sem, ↓reduceIte, Nat.reduceEqDiff, Nat.reduceLT, q8, q9]
        by_cases hlt2 : greatL l b < ((max (digitL l m) 1 : Nat) : Int)
        · refine WC.test (t := false) (by simp only [go_sem, ↓reduceIte, Nat.reduceEqDiff, Nat.reduceLT, if_pos hlt2]; rw [decide_eq_false (by omega)]) (fun h => by cases h) (fun _ => WC.skip ?_)
          simp only [nextQ, blockQ]
          refine hnext _ _ ((hG.trans hg).upd hG.next hu) ?_ (by simp only [go_sem, ↓reduceIte, Nat.reduceEqDiff, Nat.reduceLT, q0]) (by simp only [go_sem, ↓reduceIte, Nat.reduceEqDiff, Nat.reduceLT, q1]) (by simp only [go_sem, ↓reduceIte, Nat.reduceEqDiff, Nat.reduceLT, q6])
          rw [← hbt]
          simp only [btwAt, hi, Nat.add_sub_cancel]
          rw [if_pos hlt2]
        · simp only [if_neg hlt2] at q9 ⊢
          refine WC.test (t := true) (by simp only [go_sem, ↓reduceIte, Nat.reduceEqDiff, Nat.reduceLT]; rw [decide_eq_true (by omega)]) (fun _ => ?_) (fun h => by cases h)
          refine WC.seq (WC.ops ?_)
          simp only [A10_17, go_sem, ↓reduceIte, Nat.reduceEqDiff, Nat.reduceLT, q6, q7, q8, q9, hw, ne_eq, Int.reduceEq, not_false_eq_true, Nat.le_refl, Nat.zero_add, Nat.mul_one]
          have hq : IntKind.i64.wrap ((IntKind.i64.wrap (((max (digitL l m) 1 : Nat) : Int) + greatL l b)).tdiv 2) = ((UInt8.ofNat ((max (digitL l m) 1 + (greatL l b).toNat) / 2)).toNat : Int) := by
            rw [IntWalk.i64_in (((max (digitL l m) 1 : Nat) : Int) + greatL l b) (by omega), Int.tdiv_eq_ediv_of_nonneg (by omega), IntWalk.i64_in _ (by omega)]
            simp only [UInt8.toNat_ofNat']
            omega
          rw [hq]
          simp only [vstore, V.cells, List.length_cons, List.length_nil, Nat.zero_add, Nat.reduceEqDiff, go_sem]
          rw [write_one hu.at_ (by rw [numsC_len, List.length_set]; omega) rfl, numsC_set, List.set_set]
          simp only [go_sem, ↓reduceIte, Nat.reduceEqDiff, Nat.reduceLT]
          have hu2 := hu.trans (Upd.set M2 M.next (.cells (numsC (l.set m (UInt8.ofNat ((max (digitL l m) 1 + (greatL l b).toNat) / 2)))) false))
          generalize M2.set M.next _ = M3 at hu2
          refine WC.seq (WC.ops ?_)
          simp only [A10_18, go_sem, ↓reduceIte, Nat.reduceEqDiff, Nat.reduceLT, q7]
          have ht := text_runs (l.set m (UInt8.ofNat ((max (digitL l m) 1 + (greatL l b).toNat) / 2))) M.next (by rw [List.length_set]; omega) (by rw [List.length_set]; omega) M3 hu2.at_ (by rw [hu2.next]; exact hlt)
          rw [List.length_set, hl] at ht
          refine callI_of ht ?_
          intro v M4 hv
          rw [hv.1]
          simp only [go_sem, ↓reduceIte, Nat.reduceEqDiff, Nat.reduceLT]
          refine WC.ret ?_
          simp only [go_sem, ↓reduceIte, Nat.reduceEqDiff, Nat.reduceLT]
          refine hR _ _ (((hG.trans hg).upd hG.next hu2).trans hv.2) ?_
          rw [← hbt]
          simp only [btwAt, hi, Nat.add_sub_cancel]
          rw [if_neg hlt2]
      all_goals simp only [go_sem, ↓reduceIte, Nat.reduceEqDiff, Nat.reduceLT, h0, h1', h6]
    · simp only [go_sem, ↓reduceIte, Nat.reduceEqDiff, Nat.reduceLT]
      refine WC.seq (WC.seq (WC.ops ?_))
      simp only [A10_6, vnil, Option.isNone_none, go_sem, ↓reduceIte, Nat.reduceEqDiff, Nat.reduceLT]
      refine WC.test (t := true) (by simp only [go_sem, ↓reduceIte, Nat.reduceEqDiff, Nat.reduceLT]) (fun _ => WC.exit ?_) (fun h => by cases h)
      simp only [go_sem]
      refine hnext _ _ (hG.trans hg) ?_ (by simp only [go_sem, ↓reduceIte, Nat.reduceEqDiff, Nat.reduceLT, h0]) (by simp only [go_sem, ↓reduceIte, Nat.reduceEqDiff, Nat.reduceLT, h1']) (by simp only [go_sem, ↓reduceIte, Nat.reduceEqDiff, Nat.reduceLT, h6])
      rw [← hbt]
      simp only [btwAt, hi]

theorem rbetween_runs (a b : List UInt8) (ha : a.length < 2 ^ 63) (hb : b.length < 2 ^ 63) (M : Mem) : Runs D2 10 [.str a, .str b] M fun v M' => v = btwV a b ∧ Grew M M' := by
  refine Runs.of (F := A10) rfl (by rfl) (by rfl) ?_
  unfold A10
  refine WC.seq (WC.ops ?_)
  simp only [A10_0, go_sem]
  refine WC.seq (WC.seq (WC.ops ?_))
  simp only [A10_1, go_sem, ↓reduceIte, Nat.reduceEqDiff, Nat.reduceLT]
  refine callI_eq (rfine_runs a b ha hb M) ?_
  simp only [go_sem, ↓reduceIte, Nat.reduceEqDiff, Nat.reduceLT]
  cases hf : fineK a b with
  | false =>
    refine WC.test (t := true) (by simp only [go_sem, ↓reduceIte, Nat.reduceEqDiff, Nat.reduceLT]) (fun _ => ?_) (fun h => by cases h)
    refine WC.seq (WC.ops ?_)
    simp only [A10_2, go_sem, ↓reduceIte, Nat.reduceEqDiff, Nat.reduceLT]
    refine WC.ret ?_
    simp only [go_sem, ↓reduceIte, Nat.reduceEqDiff, Nat.reduceLT, btwV, hf, Bool.false_eq_true]
    exact ⟨trivial, Grew.refl _⟩
  | true =>
    have hbr := (fine_parts hf).2.1
    have hbl : b.length < 2 ^ 40 := by
      rcases hbr with h | h
      · rw [h]; decide
      · have := (right_last h).2.1; omega
    refine WC.test (t := false) (by simp only [go_sem, ↓reduceIte, Nat.reduceEqDiff, Nat.reduceLT]) (fun h => by cases h) (fun _ => WC.skip ?_)
    simp only [go_sem]
    refine WC.seq (WC.seq (WC.ops ?_))
    simp only [A10_3, go_sem, ↓reduceIte, Nat.reduceEqDiff, Nat.reduceLT]
    refine WC.block (rbtw_loop a b hbr hbl M ?_ ?_ 24 1 _ M (Grew.refl _) rfl (Nat.le_refl _) rfl (by simp only [go_sem, ↓reduceIte, Nat.reduceEqDiff, Nat.reduceLT]) (by simp only [go_sem, ↓reduceIte, Nat.reduceEqDiff, Nat.reduceLT]) (by simp only [go_sem, ↓reduceIte, Nat.reduceEqDiff, Nat.reduceLT]; rfl))
    · intro l M2 hg h
      exact ⟨by simp only [btwV, hf, h, if_true], hg⟩
    · intro M2 hg h
      exact ⟨by simp only [btwV, hf, h, if_true], hg⟩
end Go.Am.Try

/- Walking on the machine by rewriting alone: each form of code is worth what its parts are worth; what comes later is left untouched till it is come to. -/
namespace Go.Am
open Go
universe u

section
variable {D : Decls} {n : Nat} {fr fr' : Fr} {M M' : Mem} {Q : AExit → Fr → Mem → Prop}
theorem item_back {k : Nat} {i : Item} {K : Fr → Mem → Prop} (h : execItem (callN D k) n i fr M = some (fr', M')) (hk : K fr' M') : WItem D n i fr M K := by
  unfold WItem
  unfold execItem at h
  cases hw : wantedA fr i.op.guard with
  | false => rw [hw] at h; cases h; exact hk
  | true =>
    rw [hw] at h
    simp only [cond_true] at h ⊢
    cases ha : aop i.op.op fr.ev M with
    | none => rw [ha] at h; cases h
    | some r =>
      rw [ha] at h
      cases r with
      | val v M1 =>
        simp only at h ⊢
        cases hg : i.again.all (againOk n fr M M1) with
        | false => rw [hg] at h; cases h
        | true => rw [hg] at h; cases h; exact ⟨rfl, hk⟩
      | call f args =>
        simp only at h ⊢
        cases hc : callN D k f args M with
        | none => rw [hc] at h; cases h
        | some q =>
          obtain ⟨v, M1⟩ := q
          rw [hc] at h
          simp only at h
          cases hg : i.again.all (againOk n fr M M1) with
          | false => rw [hg] at h; cases h
          | true => rw [hg] at h; cases h; exact ⟨k, v, M', hc, hg, hk⟩
theorem items_back {k : Nat} : ∀ {l : List Item} {fr fr' : Fr} {M M' : Mem} {K : Fr → Mem → Prop}, execItems (callN D k) n l fr M = some (fr', M') → K fr' M' → WI D n l fr M K
  | [], _, _, _, _, _, h, hk => by cases h; exact hk
  | i :: l, fr, fr', M, M', K, h, hk => by
    simp only [execItems] at h
    cases hi : execItem (callN D k) n i fr M with
    | none => rw [hi] at h; cases h
    | some q =>
      obtain ⟨fr1, M1⟩ := q
      rw [hi] at h
      exact item_back hi (items_back h hk)

theorem wc_skip : WC D n .skip fr M Q = Q .normal fr M := propext ⟨fun ⟨_, _, _, _, h, q⟩ => by cases h; exact q, WC.skip⟩
theorem wc_ret : WC D n .ret fr M Q = Q .ret fr M := propext ⟨fun ⟨_, _, _, _, h, q⟩ => by cases h; exact q, WC.ret⟩
theorem wc_exit (id : Nat) : WC D n (.exit id) fr M Q = Q (.exit id) fr M := propext ⟨fun ⟨_, _, _, _, h, q⟩ => by cases h; exact q, WC.exit⟩
theorem wc_scope (b : ACode) : WC D n (.scope b) fr M Q = WC D n b fr M Q := rfl
theorem wc_ops (l : List Item) : WC D n (.ops l) fr M Q = WI D n l fr M (Q .normal) := propext ⟨fun ⟨k, e, fr', M', h, q⟩ => by
  simp only [Go.Am.exec, Option.map_eq_some_iff] at h
  obtain ⟨⟨fr1, M1⟩, h, h2⟩ := h
  cases h2
  exact items_back h q, WC.ops⟩
theorem wc_seq (a b : ACode) : WC D n (.seq a b) fr M Q = WC D n a fr M (nextQ (fun fr M => WC D n b fr M Q) Q) := propext ⟨fun ⟨k, e, fr', M', h, q⟩ => by
  simp only [Go.Am.exec] at h
  cases ha : Go.Am.exec (callN D k) n k a fr M with
  | none => rw [ha] at h; cases h
  | some r =>
    obtain ⟨e1, fr1, M1⟩ := r
    rw [ha] at h
    cases e1 with
    | normal => exact ⟨k, _, _, _, ha, ⟨k, _, _, _, h, q⟩⟩
    | exit id => cases h; exact ⟨k, _, _, _, ha, q⟩
    | ret => cases h; exact ⟨k, _, _, _, ha, q⟩, WC.seq⟩
theorem wc_block (id : Nat) (b : ACode) : WC D n (.block id b) fr M Q = WC D n b fr M (blockQ id Q) := propext ⟨fun ⟨k, e, fr', M', h, q⟩ => by
  simp only [Go.Am.exec] at h
  cases ha : Go.Am.exec (callN D k) n k b fr M with
  | none => rw [ha] at h; cases h
  | some r =>
    obtain ⟨e1, fr1, M1⟩ := r
    rw [ha] at h
    cases e1 with
    | normal => cases h; exact ⟨k, _, _, _, ha, q⟩
    | ret => cases h; exact ⟨k, _, _, _, ha, q⟩
    | exit j =>
      simp only at h
      cases hj : Nat.beq j id with
      | true => rw [hj] at h; cases h; exact ⟨k, _, _, _, ha, by simp only [blockQ, hj, cond_true]; exact q⟩
      | false => rw [hj] at h; cases h; exact ⟨k, _, _, _, ha, by simp only [blockQ, hj, cond_false]; exact q⟩, WC.block⟩
/-- A mark that bears what is not to be looked at. -/
structure Tg {α : Sort u} (a : α) : Type where
/-- Code, and what is to hold behind it. -/
def W (D : Decls) (n : Nat) (c : ACode) (fr : Fr) (M : Mem) {Q : AExit → Fr → Mem → Prop} (_ : Tg Q) : Prop := WC D n c fr M Q
/-- Operations, and what is to hold behind them. -/
def WT (D : Decls) (n : Nat) (l : List Item) (fr : Fr) (M : Mem) {K : Fr → Mem → Prop} (_ : Tg K) : Prop := WI D n l fr M K
def stepT (D : Decls) (n : Nat) (r : Option Res) (dst : Option Nat) (fr : Fr) (M : Mem) {l : List Item} (_ : Tg l) {K : Fr → Mem → Prop} (_ : Tg K) : Prop := stepI D n r dst fr M l K
def guardT (D : Decls) (n : Nat) (g : Bool) (dst : Option Nat) {op : AOp} (_ : Tg op) (fr : Fr) (M : Mem) {l : List Item} (_ : Tg l) {K : Fr → Mem → Prop} (_ : Tg K) : Prop := guardI D n g dst op fr M l K
def callT (D : Decls) (n : Nat) (f : FuncId) (args : List V) (dst : Option Nat) (fr : Fr) (M : Mem) {l : List Item} (_ : Tg l) {K : Fr → Mem → Prop} (_ : Tg K) : Prop := callI D n f args dst fr M l K
def stepAT (D : Decls) (n : Nat) (r : Option Res) (dst : Option Nat) {again : List AOper} (_ : Tg again) (fr : Fr) (M : Mem) {l : List Item} (_ : Tg l) {K : Fr → Mem → Prop} (_ : Tg K) : Prop := stepA D n r dst again fr M l K
def callAT (D : Decls) (n : Nat) (f : FuncId) (args : List V) (dst : Option Nat) {again : List AOper} (_ : Tg again) (fr : Fr) (M : Mem) {l : List Item} (_ : Tg l) {K : Fr → Mem → Prop} (_ : Tg K) : Prop := callA D n f args dst again fr M l K
/-- A test: by its value the one way or the other. -/
def condI (v : V) (p q : Prop) : Prop :=
  match v with
  | .bool true => p
  | .bool false => q
  | _ => False
def condT (v : V) {p : Prop} (_ : Tg p) {q : Prop} (_ : Tg q) : Prop := condI v p q
def endT (r : Option (List V)) (M : Mem) {R : V → Mem → Prop} (_ : Tg R) : Prop := match r with | some vs => R (oneOf vs) M | none => False

theorem W_of {c : ACode} (h : W D n c fr M (Q := Q) ⟨⟩) : WC D n c fr M Q := h
variable {K : Fr → Mem → Prop} {l : List Item} {dst : Option Nat} {R : V → Mem → Prop}
theorem w_skip (q : Tg Q) : W D n .skip fr M q = Q .normal fr M := wc_skip
theorem w_ret (q : Tg Q) : W D n .ret fr M q = Q .ret fr M := wc_ret
theorem w_exit (id : Nat) (q : Tg Q) : W D n (.exit id) fr M q = Q (.exit id) fr M := wc_exit id
theorem w_scope (b : ACode) (q : Tg Q) : W D n (.scope b) fr M q = W D n b fr M q := rfl
theorem w_ops (l : List Item) (q : Tg Q) : W D n (.ops l) fr M q = WT D n l fr M (K := Q .normal) ⟨⟩ := wc_ops l
theorem w_seq (a b : ACode) (q : Tg Q) : W D n (.seq a b) fr M q = W D n a fr M (Q := nextQ (fun fr M => W D n b fr M (Q := Q) ⟨⟩) Q) ⟨⟩ := wc_seq a b
theorem w_block (id : Nat) (b : ACode) (q : Tg Q) : W D n (.block id b) fr M q = W D n b fr M (Q := blockQ id Q) ⟨⟩ := wc_block id b
theorem wc_cond (c : Opd) (a b : ACode) : WC D n (.cond c a b) fr M Q = condI (fr.ev c) (WC D n a fr M Q) (WC D n b fr M Q) := propext ⟨fun ⟨k, e, fr', M', h, q⟩ => by
  simp only [Go.Am.exec] at h
  unfold condI
  cases hv : fr.ev c <;> rw [hv] at h <;> first | cases h | skip
  rename_i t
  cases t
  · exact ⟨k, _, _, _, h, q⟩
  · exact ⟨k, _, _, _, h, q⟩, fun h => by
  unfold condI at h
  split at h
  · rename_i hv; exact WC.cond hv h
  · rename_i hv; exact WC.cond hv h
  · exact h.elim⟩
theorem w_cond (c : Opd) (a b : ACode) (q : Tg Q) : W D n (.cond c a b) fr M q = condT (fr.ev c) (p := W D n a fr M (Q := Q) ⟨⟩) ⟨⟩ (q := W D n b fr M (Q := Q) ⟨⟩) ⟨⟩ := wc_cond c a b
theorem cond_true' {p q : Prop} (a : Tg p) (b : Tg q) : condT (.bool true) a b = p := rfl
theorem cond_false' {p q : Prop} (a : Tg p) (b : Tg q) : condT (.bool false) a b = q := rfl
theorem cond_split {t : Bool} {p q : Prop} {a : Tg p} {b : Tg q} (hp : t = true → p) (hq : t = false → q) : condT (.bool t) a b := by
  cases t
  · exact hq rfl
  · exact hp rfl
theorem cond_dec {c : Prop} [Decidable c] {p q : Prop} {a : Tg p} {b : Tg q} (hp : c → p) (hq : ¬ c → q) : condT (.bool (decide c)) a b := by
  by_cases h : c
  · rw [decide_eq_true h]; exact hp h
  · rw [decide_eq_false h]; exact hq h
@[go_sem] theorem rd_frame4 (a b c d : V) (vs : List V) (t : Nat) : Fr.rd (frameOf 0 (a :: b :: c :: d :: vs) .nil) t = if t = 0 then a else if t = 1 then b else if t = 2 then c else if t = 3 then d else vs.getD (t - 4) .undef := by
  rw [rd_frameOf]
  by_cases h0 : t = 0
  · subst h0; simp
  by_cases h1 : t = 1
  · subst h1; simp
  by_cases h2 : t = 2
  · subst h2; simp
  by_cases h3 : t = 3
  · subst h3; simp
  rw [if_neg h0, if_neg h1, if_neg h2, if_neg h3]
  obtain ⟨t, rfl⟩ : ∃ u, t = u + 4 := ⟨t - 4, by omega⟩
  simp only [Nat.add_sub_cancel, Nat.sub_zero, List.getD_eq_getElem?_getD, List.getElem?_cons_succ]
  split
  · rfl
  · rename_i h
    have : vs.length ≤ t := by simp at h; omega
    rw [List.getElem?_eq_none this]; rfl
@[go_sem] theorem getD_nil (t : Nat) : ([] : List V).getD t .undef = .undef := by simp
@[go_sem] theorem getD_cons (t : Nat) (a : V) (l : List V) : (a :: l).getD t .undef = if t = 0 then a else l.getD (t - 1) .undef := by
  cases t <;> simp
theorem t_nil (k : Tg K) : WT D n [] fr M k = K fr M := rfl
theorem t_plain (op : AOp) (l : List Item) (k : Tg K) : WT D n (⟨⟨dst, op, none⟩, []⟩ :: l) fr M k = stepT D n (aop op fr.ev M) dst fr M (l := l) ⟨⟩ k := WI_plain dst op l
theorem t_guard (op : AOp) (t : Nat) (b : Bool) (l : List Item) (k : Tg K) : WT D n (⟨⟨dst, op, some (t, b)⟩, []⟩ :: l) fr M k = guardT D n (guardB (fr.rd t) b) dst (op := op) ⟨⟩ fr M (l := l) ⟨⟩ k := WI_guard dst op t b l
theorem t_again (op : AOp) (x : AOper) (xs : List AOper) (l : List Item) (k : Tg K) : WT D n (⟨⟨dst, op, none⟩, x :: xs⟩ :: l) fr M k = stepAT D n (aop op fr.ev M) dst (again := x :: xs) ⟨⟩ fr M (l := l) ⟨⟩ k := WI_again dst op x xs l
theorem t_val (v : V) (M' : Mem) (l' : Tg l) (k : Tg K) : stepT D n (some (.val v M')) dst fr M l' k = WT D n l (fr.put n dst v) M' k := rfl
theorem t_call (f : FuncId) (args : List V) (l' : Tg l) (k : Tg K) : stepT D n (some (.call f args)) dst fr M l' k = callT D n f args dst fr M l' k := rfl
theorem g_true (op : AOp) (o' : Tg op) (l' : Tg l) (k : Tg K) : guardT D n true dst o' fr M l' k = stepT D n (aop op fr.ev M) dst fr M l' k := rfl
theorem g_false (op : AOp) (o' : Tg op) (l' : Tg l) (k : Tg K) : guardT D n false dst o' fr M l' k = WT D n l (fr.put n dst .undef) M k := rfl
theorem g_split {g : Bool} {op : AOp} {o' : Tg op} {l' : Tg l} {k : Tg K} (ht : g = true → guardT D n true dst o' fr M l' k) (hf : g = false → guardT D n false dst o' fr M l' k) : guardT D n g dst o' fr M l' k := by
  cases g
  · exact hf rfl
  · exact ht rfl
theorem a_val (v : V) (M' : Mem) (ag : List AOper) (g' : Tg ag) (l' : Tg l) (k : Tg K) : stepAT D n (some (.val v M')) dst g' fr M l' k = (ag.all (againOk n fr M M') = true ∧ WT D n l (fr.put n dst v) M' k) := rfl
theorem a_call (f : FuncId) (args : List V) (ag : List AOper) (g' : Tg ag) (l' : Tg l) (k : Tg K) : stepAT D n (some (.call f args)) dst g' fr M l' k = callAT D n f args dst g' fr M l' k := rfl
/-- A call, by what is known of it. -/
theorem call_of {f : FuncId} {args : List V} {l' : Tg l} {k : Tg K} {S : V → Mem → Prop} (h : Runs D f args M S) (hk : ∀ v M', S v M' → WT D n l (fr.put n dst v) M' k) : callT D n f args dst fr M l' k := callI_of h hk
theorem call_eq {f : FuncId} {args : List V} {l' : Tg l} {k : Tg K} {v : V} (h : Runs D f args M fun v' M' => v' = v ∧ M' = M) (hk : WT D n l (fr.put n dst v) M k) : callT D n f args dst fr M l' k := callI_eq h hk
theorem callA_by {f : FuncId} {args : List V} {ag : List AOper} {g' : Tg ag} {l' : Tg l} {k : Tg K} {S : V → Mem → Prop} (h : Runs D f args M S) (hk : ∀ v M', S v M' → ag.all (againOk n fr M M') = true ∧ WT D n l (fr.put n dst v) M' k) : callAT D n f args dst g' fr M l' k := callA_of h hk
theorem n_normal (x : Fr → Mem → Prop) : nextQ x Q .normal fr M = x fr M := rfl
theorem n_ret (x : Fr → Mem → Prop) : nextQ x Q .ret fr M = Q .ret fr M := rfl
theorem n_exit (x : Fr → Mem → Prop) (id : Nat) : nextQ x Q (.exit id) fr M = Q (.exit id) fr M := rfl
theorem b_normal (id : Nat) : blockQ id Q .normal fr M = Q .normal fr M := rfl
theorem b_ret (id : Nat) : blockQ id Q .ret fr M = Q .ret fr M := rfl
theorem b_exit (id j : Nat) : blockQ id Q (.exit j) fr M = condT (.bool (Nat.beq j id)) (p := Q .normal fr M) ⟨⟩ (q := Q (.exit j) fr M) ⟨⟩ := by
  simp only [blockQ, condT, condI]
  cases Nat.beq j id <;> rfl
theorem e_normal (rs : List ARes) : endQ rs R .normal fr M = endT (resultsOf fr M rs) M (R := R) ⟨⟩ := rfl
theorem e_ret (rs : List ARes) : endQ rs R .ret fr M = endT (resultsOf fr M rs) M (R := R) ⟨⟩ := rfl
theorem e_some (vs : List V) (r : Tg R) : endT (some vs) M r = R (oneOf vs) M := rfl
/-- A function is walked from its frame on. -/
theorem Runs.walk {f : FuncId} {F : AFunc} {args : List V} (hp : D.prim f = none) (hf : D.code.get f = some F) (hl : Nat.ble args.length F.ntmps = true) (h : W D F.ntmps F.body (frameOf 0 args .nil) M (Q := endQ F.results R) ⟨⟩) : Runs D f args M R := Runs.of hp hf hl h
end
end Go.Am

/- Slices that grow: what a slice holds, and what append makes of it. -/
namespace Go.Am
open Go

/-- A slice that is the machine's own and ends where its row ends: so many elements of es cells, these cells; nothing below M0 is its row. -/
inductive Hold (lo : Nat) (M : Mem) (es : Nat) : V → Nat → List V → Prop where
  | nil : Hold lo M es (.slice none 0 (.exact 0)) 0 []
  | row {b n : Nat} {cs : List V} (h : M.get b = some (.cells cs false)) (hl : cs.length = n * es) (hb : lo ≤ b) (hn : b < M.next) : Hold lo M es (.slice (some (b, 0)) n (.upto es)) n cs

/-- The block that a slice stands on. -/
def V.blk : V → Option Nat
  | .slice (some (b, _)) _ _ => some b
  | _ => none

theorem Hold.keep {lo es n : Nat} {M M' : Mem} {s : V} {cs : List V} (h : Hold lo M es s n cs) (hk : ∀ b, s.blk = some b → M'.get b = M.get b) (hn : M.next ≤ M'.next) : Hold lo M' es s n cs := by
  cases h with
  | nil => exact .nil
  | row h hl hb hlt => exact .row ((hk _ rfl).trans h) hl hb (Nat.lt_of_lt_of_le hlt hn)
theorem Hold.blk_le {lo es n : Nat} {M : Mem} {s : V} {cs : List V} (h : Hold lo M es s n cs) {b : Nat} (hb : s.blk = some b) : lo ≤ b ∧ b < M.next ∧ M.get b = some (.cells cs false) := by
  cases h with
  | nil => cases hb
  | row h hl h1 h2 => simp only [V.blk, Option.some.injEq] at hb; subst hb; exact ⟨h1, h2, h⟩
theorem Hold.len {lo es n : Nat} {M : Mem} {s : V} {cs : List V} (h : Hold lo M es s n cs) : cs.length = n * es := by
  cases h with
  | nil => simp
  | row h hl => exact hl

/-- What append does: a new row, the old one no longer looked at. -/
theorem Hold.append {lo es bytes n m : Nat} {M : Mem} {s x : V} {cs new : List V} (h : Hold lo M es s n cs) (hlo : lo ≤ M.next) (hx : srcLen x = some m) (hc : srcCells es M m x = some new) (hm : m ≠ 0) (hnew : new.length = m * es)
    (hroom : (n + m) * bytes ≤ maxRoom) (hone : allOne new = true) :
    ∃ M', vappend es bytes M s x = some (.slice (some (M.next, 0)) (n + m) (.upto es), M') ∧ Hold lo M' es (.slice (some (M.next, 0)) (n + m) (.upto es)) (n + m) (cs ++ new) ∧ M'.next = M.next + 1 ∧ (∀ c, c ≠ M.next → s.blk ≠ some c → M'.get c = M.get c) := by
  cases h with
  | nil =>
    refine ⟨M.push (.cells new false), ?_, .row (by rw [Mem.get_push_same]; simp) (by simp [hnew]) hlo (by simp), rfl, fun c hc _ => Mem.get_push_ne M _ hc⟩
    simp only [vappend, hx, hc, Option.bind_some, beq_dec, decide_eq_false hm, cond_false, ble_iff]
    rw [decide_eq_true (by simpa using hroom)]
    simp
  | row hM hl hb hn =>
    rename_i b
    have hne : b ≠ M.next := Nat.ne_of_lt hn
    refine ⟨(M.set b .dead).push (.cells (cs ++ new) false), ?_, .row ?_ ?_ hlo (by simp), rfl, ?_⟩
    · simp only [vappend, hx, hc, Option.bind_some, beq_dec, decide_eq_false hm, cond_false, hM, decide_true, cond_true, Nat.zero_add, hl, ble_iff, hone, List.drop_zero]
      rw [decide_eq_true hroom]
      simp
    · have : (M.set b .dead).next = M.next := rfl
      rw [← this, Mem.get_push_same]
    · rw [List.length_append, hl, hnew, Nat.add_mul]
    · intro c hc h2
      have : c ≠ b := fun e => h2 (by rw [e]; rfl)
      rw [Mem.get_push_ne (M.set b .dead) _ (show c ≠ (M.set b .dead).next from hc), Mem.get_set_ne _ _ this]

theorem Hold.lower {lo lo' es n : Nat} {M : Mem} {s : V} {cs : List V} (h : Hold lo M es s n cs) (hl : lo' ≤ lo) : Hold lo' M es s n cs := by
  cases h with
  | nil => exact .nil
  | row a b c d => exact .row a b (Nat.le_trans hl c) d
/-- Append, of however many. -/
theorem Hold.append_any {lo es bytes n m : Nat} {M : Mem} {s x : V} {cs new : List V} (h : Hold lo M es s n cs) (hlo : lo ≤ M.next) (hx : srcLen x = some m) (hc : srcCells es M m x = some new) (hnew : new.length = m * es)
    (hroom : (n + m) * bytes ≤ maxRoom) (hone : allOne new = true) :
    ∃ s' M', vappend es bytes M s x = some (s', M') ∧ Hold lo M' es s' (n + m) (cs ++ new) ∧ M.next ≤ M'.next ∧ (∀ c, c < M.next → s.blk ≠ some c → M'.get c = M.get c) ∧ (s'.blk = s.blk ∨ s'.blk = some M.next) := by
  by_cases hm : m = 0
  · subst hm
    have : new = [] := List.eq_nil_of_length_eq_zero (by simpa using hnew)
    subst this
    refine ⟨s, M, ?_, by simpa using h, Nat.le_refl _, fun _ _ _ => rfl, .inl rfl⟩
    cases h with
    | nil => simp only [vappend, hx, hc, Option.bind_some]; rfl
    | row => simp only [vappend, hx, hc, Option.bind_some, beq_dec, decide_true, cond_true]
  · obtain ⟨M', h1, h2, h3, h4⟩ := h.append (bytes := bytes) hlo hx hc hm hnew hroom hone
    exact ⟨_, M', h1, h2, by omega, fun c hc => h4 c (Nat.ne_of_lt hc), .inr rfl⟩

/-- What is read off such a slice. -/
theorem Hold.src {lo es n : Nat} {M : Mem} {s : V} {cs : List V} (h : Hold lo M es s n cs) : srcLen s = some n ∧ srcCells es M n s = some cs := by
  cases h with
  | nil => exact ⟨rfl, rfl⟩
  | row hM hl =>
    refine ⟨rfl, ?_⟩
    simp only [srcCells, beq_dec]
    by_cases hn : n = 0
    · subst hn
      have : cs = [] := List.eq_nil_of_length_eq_zero (by simpa using hl)
      simp [this]
    · simp only [decide_eq_false hn, cond_false]
      rw [← hl]
      exact read_all hM
/-- Its length. -/
theorem Hold.lenI {lo es n : Nat} {M : Mem} {s : V} {cs : List V} (h : Hold lo M es s n cs) (ρ : Opd → V) (x : Opd) (hx : ρ x = s) : aop (.lenSlice x) ρ M = some (.val (.int .i64 n) M) := by
  have e : aop (.lenSlice x) ρ M = match ρ x with | .slice _ n _ => some (.val (.int .i64 n) M) | _ => none := rfl
  rw [e, hx]
  cases h <;> rfl
/-- One cell's address, and what lies there. -/
theorem Hold.addr {lo n : Nat} {M : Mem} {s : V} {cs : List V} {es : Nat} (h : Hold lo M es s n cs) {i : Nat} (hi : i < n) : ∃ b, s = .slice (some (b, 0)) n (.upto es) ∧ M.get b = some (.cells cs false) ∧ cs.length = n * es ∧ lo ≤ b ∧ b < M.next := by
  cases h with
  | nil => omega
  | row hM hl h1 h2 => exact ⟨_, rfl, hM, hl, h1, h2⟩
theorem Hold.shape {lo es n : Nat} {M : Mem} {s : V} {cs : List V} (h : Hold lo M es s n cs) : ∃ a cap, s = .slice a n cap := by
  cases h with
  | nil => exact ⟨_, _, rfl⟩
  | row => exact ⟨_, _, rfl⟩
end Go.Am

/- The program's Spread, on the machine: what its closure adds to the row. -/
namespace Go.Am.Try
open Go Go.Am Go.Proofs
set_option maxRecDepth 100000
set_option linter.unusedSimpArgs false
set_option linter.unusedVariables false

def btwE (a b : List UInt8) : List UInt8 × Int := if fineK a b = true then (match btwK a b with | some k => (k, 0) | none => ([], 32)) else ([], 1)
theorem btwV_is (a b : List UInt8) : btwV a b = .tup [.str (btwE a b).1, .int .i64 (btwE a b).2] := by
  unfold btwV btwE
  split
  · cases btwK a b <;> rfl
  · rfl
/-- What so many keys between two are, and the error. -/
def spr : Nat → List UInt8 → List UInt8 → Nat → List (List UInt8) × Int
  | 0, _, _, _ => ([], 0)
  | f + 1, a, b, n =>
    if n = 0 then ([], 0) else
    if (btwE a b).2 ≠ 0 then ([], (btwE a b).2) else
    if (spr f a (btwE a b).1 ((n - 1) / 2)).2 ≠ 0 then ([], (spr f a (btwE a b).1 ((n - 1) / 2)).2) else
    if (spr f (btwE a b).1 b (n - 1 - (n - 1) / 2)).2 ≠ 0 then ([], (spr f (btwE a b).1 b (n - 1 - (n - 1) / 2)).2) else
    ((spr f a (btwE a b).1 ((n - 1) / 2)).1 ++ (btwE a b).1 :: (spr f (btwE a b).1 b (n - 1 - (n - 1) / 2)).1, 0)

theorem spr_succ (f n : Nat) (a b : List UInt8) : spr (f + 1) a b n =
    if n = 0 then ([], 0) else
    if (btwE a b).2 ≠ 0 then ([], (btwE a b).2) else
    if (spr f a (btwE a b).1 ((n - 1) / 2)).2 ≠ 0 then ([], (spr f a (btwE a b).1 ((n - 1) / 2)).2) else
    if (spr f (btwE a b).1 b (n - 1 - (n - 1) / 2)).2 ≠ 0 then ([], (spr f (btwE a b).1 b (n - 1 - (n - 1) / 2)).2) else
    ((spr f a (btwE a b).1 ((n - 1) / 2)).1 ++ (btwE a b).1 :: (spr f (btwE a b).1 b (n - 1 - (n - 1) / 2)).1, 0) := rfl

theorem spr_len : ∀ (f n : Nat) (a b : List UInt8), n ≤ f → (spr f a b n).2 = 0 → (spr f a b n).1.length = n
  | 0, n, a, b, hn, _ => by
    have : n = 0 := by omega
    subst this; rfl
  | f + 1, n, a, b, hn, h => by
    unfold spr at h ⊢
    by_cases h0 : n = 0
    · simp [h0]
    · simp only [if_neg h0] at h ⊢
      by_cases h1 : (btwE a b).2 = 0
      · simp only [h1, ne_eq, not_true_eq_false, if_false] at h ⊢
        by_cases h2 : (spr f a (btwE a b).1 ((n - 1) / 2)).2 = 0
        · simp only [h2, not_true_eq_false, if_false] at h ⊢
          by_cases h3 : (spr f (btwE a b).1 b (n - 1 - (n - 1) / 2)).2 = 0
          · simp only [h3, not_true_eq_false, if_false] at h ⊢
            rw [List.length_append, List.length_cons, spr_len f _ _ _ (by omega) h2, spr_len f _ _ _ (by omega) h3]
            omega
          · simp only [h3, not_false_eq_true, if_true] at h
        · simp only [h2, not_false_eq_true, if_true] at h
      · simp only [ne_eq, h1, not_false_eq_true, if_true] at h

theorem btwE_fine {a b : List UInt8} (hf : fineK a b = true) (h : (btwE a b).2 = 0) : btwK a b = some (btwE a b).1 := by
  unfold btwE at h ⊢
  rw [if_pos hf] at h ⊢
  cases hb : btwK a b with
  | none => rw [hb] at h; cases h
  | some k => rfl
theorem fine_mid {a b : List UInt8} (hf : fineK a b = true) (h : (btwE a b).2 = 0) : fineK a (btwE a b).1 = true ∧ fineK (btwE a b).1 b = true ∧ (btwE a b).1.length ≤ 24 ∧ rightK (btwE a b).1 = true := by
  obtain ⟨h1, h2, h3⟩ := btw_right (btwE_fine hf h)
  obtain ⟨p1, p2, p3⟩ := fine_parts hf
  have hl := (right_last h1).2.1
  generalize (btwE a b).1 = k at *
  refine ⟨?_, ?_, hl, h1⟩
  · unfold fineK inK
    rcases p1 with q | q <;> simp [h1, h2, q]
  · unfold fineK inK
    by_cases hb : b = []
    · simp [h1, hb]
    · rcases p2 with q | q
      · exact absurd q hb
      · simp [h1, q, h3 hb]

def strsC (l : List (List UInt8)) : List V := l.map .str
theorem strsC_app (l m : List (List UInt8)) : strsC (l ++ m) = strsC l ++ strsC m := by simp [strsC]

theorem spread1_zero (a b : List UInt8) (p q : V) (M : Mem) : Runs D2 27 [.str a, .str b, .int .i64 0, p, q] M fun v M' => v = .int .i64 0 ∧ M' = M := by
  refine Runs.walk (F := A27) rfl (by rfl) (by rfl) ?_
  unfold A27
  simp -dsimp only [↓w_seq, ↓w_ops, ↓w_skip, ↓w_ret, ↓w_exit, ↓w_scope, ↓w_block, ↓w_cond, cond_true', cond_false', ↓t_nil, ↓t_plain, ↓t_guard, ↓t_again, t_val, t_call, g_true, g_false, a_val, a_call, ↓n_normal, ↓n_ret, ↓n_exit, ↓b_normal, ↓b_ret, ↓b_exit, ↓e_normal, ↓e_ret, e_some, go_sem, ↓reduceIte, Nat.reduceEqDiff, Nat.reduceLT, Nat.reduceSub, A27_0, A27_1, A27_2]
  exact ⟨trivial, trivial⟩

theorem spread1_runs (M0 : Mem) (bf bl : Nat) (hbf : M0.next ≤ bf) (hbl : M0.next ≤ bl) (hne : bf ≠ bl) : ∀ (f n : Nat) (a b : List UInt8) (M : Mem) (s : V) (L : List (List UInt8)) (cnt : Nat), n ≤ f → cnt + n ≤ 64 → fineK a b = true → b.length < 2 ^ 63 →
    Grew M0 M → bf < M.next → bl < M.next → M.get bf = some (.cells [.fn 27 [] [.ptr (some (bf, 0)), .ptr (some (bl, 0))]] false) → M.get bl = some (.cells [s] false) → Hold M0.next M 1 s cnt (strsC L) → s.blk ≠ some bf → s.blk ≠ some bl →
    Runs D2 27 [.str a, .str b, .int .i64 (n : Int), .ptr (some (bf, 0)), .ptr (some (bl, 0))] M fun v M' => v = .int .i64 (spr f a b n).2 ∧ Grew M0 M' ∧ M.next ≤ M'.next ∧
      ((spr f a b n).2 = 0 → M'.get bf = some (.cells [.fn 27 [] [.ptr (some (bf, 0)), .ptr (some (bl, 0))]] false) ∧ ∃ s', M'.get bl = some (.cells [s'] false) ∧ Hold M0.next M' 1 s' (cnt + n) (strsC (L ++ (spr f a b n).1)) ∧ s'.blk ≠ some bf ∧ s'.blk ≠ some bl) := by
  intro f
  induction f with
  | zero =>
    intro n a b M s L cnt hn hc hf hb hG hlf hll hMf hMl hH hs1 hs2
    have : n = 0 := by omega
    subst this
    refine (spread1_zero a b _ _ M).mono ?_
    intro v M' h
    rw [h.1, h.2]
    exact ⟨rfl, hG, Nat.le_refl _, fun _ => ⟨hMf, s, hMl, by simpa [spr] using hH, hs1, hs2⟩⟩
  | succ f ih =>
    intro n a b M s L cnt hn hc hf hb hG hlf hll hMf hMl hH hs1 hs2
    by_cases h0 : n = 0
    · subst h0
      refine (spread1_zero a b _ _ M).mono ?_
      intro v M' h
      rw [h.1, h.2]
      exact ⟨rfl, hG, Nat.le_refl _, fun _ => ⟨hMf, s, hMl, by simpa [spr] using hH, hs1, hs2⟩⟩
    have h0' : ¬ (n : Int) = 0 := by omega
    refine Runs.walk (F := A27) rfl (by rfl) (by rfl) ?_
    unfold A27
    simp -dsimp only [↓w_seq, ↓w_ops, ↓w_skip, ↓w_ret, ↓w_exit, ↓w_scope, ↓w_block, ↓w_cond, cond_true', cond_false', ↓t_nil, ↓t_plain, ↓t_guard, ↓t_again, t_val, t_call, g_true, g_false, a_val, a_call, ↓n_normal, ↓n_ret, ↓n_exit, ↓b_normal, ↓b_ret, ↓b_exit, ↓e_normal, ↓e_ret, e_some, go_sem, ↓reduceIte, Nat.reduceEqDiff, Nat.reduceLT, Nat.reduceSub, A27_0, A27_1, A27_2, A27_3, h0']
    refine call_of (between_runs a b hb M) ?_
    intro v M1 hv
    rw [hv.1, btwV_is]
    have hG1 := hG.trans hv.2
    have kf : M1.get bf = M.get bf := hv.2.old bf hlf
    have kl : M1.get bl = M.get bl := hv.2.old bl hll
    have hH1 : Hold M0.next M1 1 s cnt (strsC L) := hH.keep (fun b hb => hv.2.old b (hH.blk_le hb).2.1) hv.2.next
    have hle1 := hv.2.next
    have hm : IntKind.i64.wrap ((IntKind.i64.wrap ((n : Int) - 1)).tdiv 2) = (((n - 1) / 2 : Nat) : Int) := by
      rw [IntWalk.i64_in ((n : Int) - 1) (by omega), Int.tdiv_eq_ediv_of_nonneg (by omega), IntWalk.i64_in _ (by omega)]; omega
    simp -dsimp only [↓w_seq, ↓w_ops, ↓w_skip, ↓w_ret, ↓w_exit, ↓w_scope, ↓w_block, ↓w_cond, cond_true', cond_false', ↓t_nil, ↓t_plain, ↓t_guard, ↓t_again, t_val, t_call, g_true, g_false, a_val, a_call, ↓n_normal, ↓n_ret, ↓n_exit, ↓b_normal, ↓b_ret, ↓b_exit, ↓e_normal, ↓e_ret, e_some, go_sem, ↓reduceIte, Nat.reduceEqDiff, Nat.reduceLT, Nat.reduceSub, List.getElem?_cons_zero, List.getElem?_cons_succ, A27_4, A27_5, hm, ne_eq, Int.reduceEq, not_false_eq_true]
    by_cases he : (btwE a b).2 = 0
    · obtain ⟨f1, f2, kl24, kr⟩ := fine_mid hf he
      rw [he]
      simp -dsimp only [↓w_seq, ↓w_ops, ↓w_skip, ↓w_ret, ↓w_exit, ↓w_scope, ↓w_block, ↓w_cond, cond_true', cond_false', ↓t_nil, ↓t_plain, ↓t_guard, ↓t_again, t_val, t_call, g_true, g_false, a_val, a_call, ↓n_normal, ↓n_ret, ↓n_exit, ↓b_normal, ↓b_ret, ↓b_exit, ↓e_normal, ↓e_ret, e_some, go_sem, ↓reduceIte, Nat.reduceEqDiff, Nat.reduceLT, Nat.reduceSub, A27_6, vload, kf, hMf, List.getElem?_cons_zero, List.cons_append]
      refine call_of (ih ((n - 1) / 2) a (btwE a b).1 M1 s L cnt (by omega) (by omega) f1 (by omega) hG1 (by omega) (by omega) (kf.trans hMf) (kl.trans hMl) hH1 hs1 hs2) ?_
      intro v M2 hv2
      obtain ⟨rfl, hG2, hle2, hrest⟩ := hv2
      simp -dsimp only [↓w_seq, ↓w_ops, ↓w_skip, ↓w_ret, ↓w_exit, ↓w_scope, ↓w_block, ↓w_cond, cond_true', cond_false', ↓t_nil, ↓t_plain, ↓t_guard, ↓t_again, t_val, t_call, g_true, g_false, a_val, a_call, ↓n_normal, ↓n_ret, ↓n_exit, ↓b_normal, ↓b_ret, ↓b_exit, ↓e_normal, ↓e_ret, e_some, go_sem, ↓reduceIte, Nat.reduceEqDiff, Nat.reduceLT, Nat.reduceSub, A27_7]
      by_cases h2 : (spr f a (btwE a b).1 ((n - 1) / 2)).2 = 0
      · obtain ⟨hMf2, s2, hMl2, hH2, p1, p2⟩ := hrest h2
        rw [h2]
        have hcnt := spr_len f _ _ _ (show (n - 1) / 2 ≤ f by omega) h2
        simp -dsimp only [↓w_seq, ↓w_ops, ↓w_skip, ↓w_ret, ↓w_exit, ↓w_scope, ↓w_block, ↓w_cond, cond_true', cond_false', ↓t_nil, ↓t_plain, ↓t_guard, ↓t_again, t_val, t_call, g_true, g_false, a_val, a_call, ↓n_normal, ↓n_ret, ↓n_exit, ↓b_normal, ↓b_ret, ↓b_exit, ↓e_normal, ↓e_ret, e_some, go_sem, ↓reduceIte, Nat.reduceEqDiff, Nat.reduceLT, Nat.reduceSub, A27_8, A27_9, vload, hMl2, List.getElem?_cons_zero, fillCells, repl, V.cells, List.length_cons, List.length_nil, Nat.zero_add, wrCells, List.append_nil, Nat.reduceAdd, Nat.reduceLeDiff, decide_true]
        have hH2' : Hold M0.next (M2.push (.cells [.str (btwE a b).1] false)) 1 s2 (cnt + (n - 1) / 2) (strsC (L ++ (spr f a (btwE a b).1 ((n - 1) / 2)).1)) :=
          hH2.keep (fun b hb => Mem.get_push_ne _ _ (Nat.ne_of_lt (hH2.blk_le hb).2.1)) (by simp)
        obtain ⟨M3, hap, hH3, hn3, ho3⟩ := hH2'.append (bytes := 16) (m := 1) (x := .slice (some (M2.next, 0)) 1 (.exact 1)) (new := [.str (btwE a b).1]) (by have := hG2.next; simp; omega) rfl
          (by simp only [srcCells, beq_dec, Nat.one_mul, Nat.reduceEqDiff, decide_false, cond_false]; exact read_all (Mem.get_push_same _ _)) (by omega) rfl (by unfold maxRoom; omega) rfl
        rw [hap]
        have e1 : M3.get bl = some (.cells [s2] false) := by
          rw [ho3 bl (by simp; omega) p2, Mem.get_push_ne _ _ (by omega)]; exact hMl2
        have e2 : M3.get bf = some (.cells [.fn 27 [] [.ptr (some (bf, 0)), .ptr (some (bl, 0))]] false) := by
          rw [ho3 bf (by simp; omega) p1, Mem.get_push_ne _ _ (by omega)]; exact hMf2
        have hG3 : Grew M0 M3 := ⟨by rw [hn3]; simp; have := hG2.next; omega, fun c hc => by
          rw [ho3 c (by simp; have := hG2.next; omega) (fun e => by have := (hH2.blk_le e).1; omega), Mem.get_push_ne _ _ (by have := hG2.next; omega)]
          exact hG2.old c hc⟩
        simp only [Mem.next_push] at hap hH3 hn3 ho3
        have hw := write_one (v := .slice (some (M2.next + 1, 0)) (cnt + (n - 1) / 2 + 1) (.upto 1)) e1 (show 0 < 1 by omega) rfl
        simp -dsimp only [↓w_seq, ↓w_ops, ↓w_skip, ↓w_ret, ↓w_exit, ↓w_scope, ↓w_block, ↓w_cond, cond_true', cond_false', ↓t_nil, ↓t_plain, ↓t_guard, ↓t_again, t_val, t_call, g_true, g_false, a_val, a_call, ↓n_normal, ↓n_ret, ↓n_exit, ↓b_normal, ↓b_ret, ↓b_exit, ↓e_normal, ↓e_ret, e_some, go_sem, ↓reduceIte, Nat.reduceEqDiff, Nat.reduceLT, Nat.reduceSub, vstore, V.cells, List.length_cons, List.length_nil, Nat.zero_add, hw, List.set_cons_zero, A27_10, Mem.next_push]
        have hu := Upd.set M3 bl (.cells [.slice (some (M2.next + 1, 0)) (cnt + (n - 1) / 2 + 1) (.upto 1)] false)
        generalize M3.set bl _ = M4 at hu
        simp -dsimp only [↓w_seq, ↓w_ops, ↓w_skip, ↓w_ret, ↓w_exit, ↓w_scope, ↓w_block, ↓w_cond, cond_true', cond_false', ↓t_nil, ↓t_plain, ↓t_guard, ↓t_again, t_val, t_call, g_true, g_false, a_val, a_call, ↓n_normal, ↓n_ret, ↓n_exit, ↓b_normal, ↓b_ret, ↓b_exit, ↓e_normal, ↓e_ret, e_some, go_sem, ↓reduceIte, Nat.reduceEqDiff, Nat.reduceLT, Nat.reduceSub, vload, hu.other bf hne, e2, List.getElem?_cons_zero, List.cons_append]
        have hm2 : IntKind.i64.wrap (IntKind.i64.wrap ((n : Int) - 1) - (((n - 1) / 2 : Nat) : Int)) = ((n - 1 - (n - 1) / 2 : Nat) : Int) := by
          rw [IntWalk.i64_in ((n : Int) - 1) (by omega), IntWalk.i64_in _ (by omega)]; omega
        rw [hm2]
        have hG4 : Grew M0 M4 := hG3.upd hbl hu
        have hlt4 : M2.next + 2 = M4.next := by rw [hu.next, hn3]
        refine call_of (ih (n - 1 - (n - 1) / 2) (btwE a b).1 b M4 (.slice (some (M2.next + 1, 0)) (cnt + (n - 1) / 2 + 1) (.upto 1)) (L ++ (spr f a (btwE a b).1 ((n - 1) / 2)).1 ++ [(btwE a b).1]) (cnt + (n - 1) / 2 + 1) (by omega) (by omega) f2 hb hG4 (by omega) (by omega)
          ((hu.other bf hne).trans e2) hu.at_ ?_ ?_ ?_) ?_
        · have hH3' : Hold M0.next M3 1 (.slice (some (M2.next + 1, 0)) (cnt + (n - 1) / 2 + 1) (.upto 1)) (cnt + (n - 1) / 2 + 1) (strsC (L ++ (spr f a (btwE a b).1 ((n - 1) / 2)).1 ++ [(btwE a b).1])) := by
            rw [strsC_app]; exact hH3
          refine hH3'.keep (fun c hc => hu.other c ?_) (by rw [hu.next]; exact Nat.le_refl _)
          simp only [V.blk, Option.some.injEq] at hc
          omega
        · simp only [V.blk, ne_eq, Option.some.injEq]; omega
        · simp only [V.blk, ne_eq, Option.some.injEq]; omega
        intro v M5 hv5
        obtain ⟨rfl, hG5, hle5, hrest5⟩ := hv5
        simp -dsimp only [↓w_seq, ↓w_ops, ↓w_skip, ↓w_ret, ↓w_exit, ↓w_scope, ↓w_block, ↓w_cond, cond_true', cond_false', ↓t_nil, ↓t_plain, ↓t_guard, ↓t_again, t_val, t_call, g_true, g_false, a_val, a_call, ↓n_normal, ↓n_ret, ↓n_exit, ↓b_normal, ↓b_ret, ↓b_exit, ↓e_normal, ↓e_ret, e_some, go_sem, ↓reduceIte, Nat.reduceEqDiff, Nat.reduceLT, Nat.reduceSub]
        refine ⟨?_, hG5, by omega, ?_⟩
        · rw [spr_succ]; simp [h0, he, h2]
          by_cases h5 : (spr f (btwE a b).1 b (n - 1 - (n - 1) / 2)).2 = 0 <;> simp [h5]
        · intro h5
          have h6 : (spr f (btwE a b).1 b (n - 1 - (n - 1) / 2)).2 = 0 := by
            rw [spr_succ] at h5
            simp only [h0, he, h2, if_false, ne_eq, not_true_eq_false] at h5
            by_cases h6 : (spr f (btwE a b).1 b (n - 1 - (n - 1) / 2)).2 = 0
            · exact h6
            · simp only [h6, not_false_eq_true, if_true] at h5
          obtain ⟨q1, s5, q2, q3, q4, q5⟩ := hrest5 h6
          refine ⟨q1, s5, q2, ?_, q4, q5⟩
          rw [spr_succ]
          simp only [h0, he, h2, h6, if_false, ne_eq, not_true_eq_false]
          rw [show cnt + n = cnt + (n - 1) / 2 + 1 + (n - 1 - (n - 1) / 2) by omega, show L ++ ((spr f a (btwE a b).1 ((n - 1) / 2)).1 ++ (btwE a b).1 :: (spr f (btwE a b).1 b (n - 1 - (n - 1) / 2)).1) = L ++ (spr f a (btwE a b).1 ((n - 1) / 2)).1 ++ [(btwE a b).1] ++ (spr f (btwE a b).1 b (n - 1 - (n - 1) / 2)).1 by simp]
          exact q3
      · simp -dsimp only [↓w_seq, ↓w_ops, ↓w_skip, ↓w_ret, ↓w_exit, ↓w_scope, ↓w_block, ↓w_cond, cond_true', cond_false', ↓t_nil, ↓t_plain, ↓t_guard, ↓t_again, t_val, t_call, g_true, g_false, a_val, a_call, ↓n_normal, ↓n_ret, ↓n_exit, ↓b_normal, ↓b_ret, ↓b_exit, ↓e_normal, ↓e_ret, e_some, go_sem, ↓reduceIte, Nat.reduceEqDiff, Nat.reduceLT, Nat.reduceSub, h2, decide_false, A27_8]
        refine ⟨?_, hG2, by omega, ?_⟩
        · rw [spr_succ]; simp [h0, he, h2]
        · intro h; rw [spr_succ] at h; simp [h0, he, h2] at h
    · simp -dsimp only [↓w_seq, ↓w_ops, ↓w_skip, ↓w_ret, ↓w_exit, ↓w_scope, ↓w_block, ↓w_cond, cond_true', cond_false', ↓t_nil, ↓t_plain, ↓t_guard, ↓t_again, t_val, t_call, g_true, g_false, a_val, a_call, ↓n_normal, ↓n_ret, ↓n_exit, ↓b_normal, ↓b_ret, ↓b_exit, ↓e_normal, ↓e_ret, e_some, go_sem, ↓reduceIte, Nat.reduceEqDiff, Nat.reduceLT, Nat.reduceSub, he, decide_false, A27_7, A27_8]
      refine ⟨?_, hG1, by omega, ?_⟩
      · rw [spr_succ]; simp [h0, he]
      · intro h; rw [spr_succ] at h; simp [h0, he] at h

/-- Spread: its row and its error. -/
def sprE (a b : List UInt8) (n : Int) : List (List UInt8) × Int := if n < 0 ∨ 64 < n ∨ fineK a b = false then ([], 1) else if (spr n.toNat a b n.toNat).2 = 0 then ((spr n.toNat a b n.toNat).1, 0) else ([], (spr n.toNat a b n.toNat).2)
theorem spread_runs (a b : List UInt8) (n : Int) (hb : b.length < 2 ^ 63) (M : Mem) : Runs D2 17 [.str a, .str b, .int .i64 n] M fun v M' => Grew M M' ∧ ∃ s, v = .tup [s, .int .i64 (sprE a b n).2] ∧ Hold M.next M' 1 s (sprE a b n).1.length (strsC (sprE a b n).1) := by
  refine Runs.walk (F := A17) rfl (by rfl) (by rfl) ?_
  unfold A17
  have hbad : sprE a b n = ([], 1) → Grew M M ∧ ∃ s, V.tup [.slice none 0 (.exact 0), .int .i64 1] = .tup [s, .int .i64 (sprE a b n).2] ∧ Hold M.next M 1 s (sprE a b n).1.length (strsC (sprE a b n).1) := fun h => by
    rw [h]; exact ⟨Grew.refl M, _, rfl, .nil⟩
  by_cases h1 : n < 0
  · simp -dsimp only [↓w_seq, ↓w_ops, ↓w_skip, ↓w_ret, ↓w_exit, ↓w_scope, ↓w_block, ↓w_cond, cond_true', cond_false', ↓t_nil, ↓t_plain, ↓t_guard, ↓t_again, t_val, t_call, g_true, g_false, a_val, a_call, ↓n_normal, ↓n_ret, ↓n_exit, ↓b_normal, ↓b_ret, ↓b_exit, ↓e_normal, ↓e_ret, e_some, go_sem, ↓reduceIte, Nat.reduceEqDiff, Nat.reduceLT, Nat.reduceSub, A17_0, A17_1, A17_2, h1]
    exact hbad (by simp [sprE, h1])
  by_cases h2 : 64 < n
  · simp -dsimp only [↓w_seq, ↓w_ops, ↓w_skip, ↓w_ret, ↓w_exit, ↓w_scope, ↓w_block, ↓w_cond, cond_true', cond_false', ↓t_nil, ↓t_plain, ↓t_guard, ↓t_again, t_val, t_call, g_true, g_false, a_val, a_call, ↓n_normal, ↓n_ret, ↓n_exit, ↓b_normal, ↓b_ret, ↓b_exit, ↓e_normal, ↓e_ret, e_some, go_sem, ↓reduceIte, Nat.reduceEqDiff, Nat.reduceLT, Nat.reduceSub, A17_0, A17_1, A17_2, h1, h2]
    exact hbad (by simp [sprE, h2])
  simp -dsimp only [↓w_seq, ↓w_ops, ↓w_skip, ↓w_ret, ↓w_exit, ↓w_scope, ↓w_block, ↓w_cond, cond_true', cond_false', ↓t_nil, ↓t_plain, ↓t_guard, ↓t_again, t_val, t_call, g_true, g_false, a_val, a_call, ↓n_normal, ↓n_ret, ↓n_exit, ↓b_normal, ↓b_ret, ↓b_exit, ↓e_normal, ↓e_ret, e_some, go_sem, ↓reduceIte, Nat.reduceEqDiff, Nat.reduceLT, Nat.reduceSub, A17_0, A17_1, A17_2, h1, h2]
  refine call_eq (fine_runs a b M) ?_
  cases hf : fineK a b with
  | false =>
    simp -dsimp only [↓w_seq, ↓w_ops, ↓w_skip, ↓w_ret, ↓w_exit, ↓w_scope, ↓w_block, ↓w_cond, cond_true', cond_false', ↓t_nil, ↓t_plain, ↓t_guard, ↓t_again, t_val, t_call, g_true, g_false, a_val, a_call, ↓n_normal, ↓n_ret, ↓n_exit, ↓b_normal, ↓b_ret, ↓b_exit, ↓e_normal, ↓e_ret, e_some, go_sem, ↓reduceIte, Nat.reduceEqDiff, Nat.reduceLT, Nat.reduceSub]
    exact hbad (by simp [sprE, hf])
  | true =>
    obtain ⟨k, rfl⟩ : ∃ k : Nat, n = (k : Int) := ⟨n.toNat, by omega⟩
    simp -dsimp only [↓w_seq, ↓w_ops, ↓w_skip, ↓w_ret, ↓w_exit, ↓w_scope, ↓w_block, ↓w_cond, cond_true', cond_false', ↓t_nil, ↓t_plain, ↓t_guard, ↓t_again, t_val, t_call, g_true, g_false, a_val, a_call, ↓n_normal, ↓n_ret, ↓n_exit, ↓b_normal, ↓b_ret, ↓b_exit, ↓e_normal, ↓e_ret, e_some, go_sem, ↓reduceIte, Nat.reduceEqDiff, Nat.reduceLT, Nat.reduceSub, A17_3, A17_4, A17_5, Mem.next_push, vstore, V.cells, List.length_cons, List.length_nil, Nat.zero_add]
    have g1 : ((M.push (.cells [.slice none 0 (.exact 0)] false)).push (.cells [.nilFn] false)).get (M.next + 1) = some (.cells [.nilFn] false) := Mem.get_push_same _ _
    have g0 : ((M.push (.cells [.slice none 0 (.exact 0)] false)).push (.cells [.nilFn] false)).get M.next = some (.cells [.slice none 0 (.exact 0)] false) := by
      rw [Mem.get_push_ne _ _ (by simp), Mem.get_push_same]
    have gG : Grew M ((M.push (.cells [.slice none 0 (.exact 0)] false)).push (.cells [.nilFn] false)) := (Grew.push M _).trans (Grew.push _ _)
    have gn : ((M.push (.cells [.slice none 0 (.exact 0)] false)).push (.cells [.nilFn] false)).next = M.next + 2 := rfl
    generalize (M.push (.cells [.slice none 0 (.exact 0)] false)).push (.cells [.nilFn] false) = M2 at *
    rw [write_one (v := .fn 27 [] [.ptr (some (M.next + 1, 0)), .ptr (some (M.next, 0))]) g1 (show 0 < 1 by omega) rfl]
    have hu := Upd.set M2 (M.next + 1) (.cells [.fn 27 [] [.ptr (some (M.next + 1, 0)), .ptr (some (M.next, 0))]] false)
    simp only [List.set_cons_zero]
    generalize M2.set (M.next + 1) _ = M3 at *
    simp -dsimp only [↓w_seq, ↓w_ops, ↓w_skip, ↓w_ret, ↓w_exit, ↓w_scope, ↓w_block, ↓w_cond, cond_true', cond_false', ↓t_nil, ↓t_plain, ↓t_guard, ↓t_again, t_val, t_call, g_true, g_false, a_val, a_call, ↓n_normal, ↓n_ret, ↓n_exit, ↓b_normal, ↓b_ret, ↓b_exit, ↓e_normal, ↓e_ret, e_some, go_sem, ↓reduceIte, Nat.reduceEqDiff, Nat.reduceLT, Nat.reduceSub, A17_6, vload, hu.at_, List.getElem?_cons_zero, List.cons_append]
    have hl3 : M3.get M.next = some (.cells [.slice none 0 (.exact 0)] false) := (hu.other _ (by omega)).trans g0
    have hn3 : M3.next = M.next + 2 := hu.next.trans gn
    have hG3 : Grew M M3 := gG.upd (by omega) hu
    refine call_of (spread1_runs M (M.next + 1) M.next (by omega) (by omega) (by omega) k k a b M3 (.slice none 0 (.exact 0)) [] 0 (Nat.le_refl _) (by omega) hf hb hG3 (by omega) (by omega) hu.at_ hl3 .nil (by simp [V.blk]) (by simp [V.blk])) ?_
    intro v M4 hv
    obtain ⟨rfl, hG4, hle4, hrest⟩ := hv
    have hE : sprE a b (k : Int) = if (spr k a b k).2 = 0 then ((spr k a b k).1, 0) else ([], (spr k a b k).2) := by
      unfold sprE
      rw [if_neg (by simp [hf]; omega)]
      simp
    by_cases he : (spr k a b k).2 = 0
    · obtain ⟨q1, s', q2, q3, q4, q5⟩ := hrest he
      simp -dsimp only [↓w_seq, ↓w_ops, ↓w_skip, ↓w_ret, ↓w_exit, ↓w_scope, ↓w_block, ↓w_cond, cond_true', cond_false', ↓t_nil, ↓t_plain, ↓t_guard, ↓t_again, t_val, t_call, g_true, g_false, a_val, a_call, ↓n_normal, ↓n_ret, ↓n_exit, ↓b_normal, ↓b_ret, ↓b_exit, ↓e_normal, ↓e_ret, e_some, go_sem, ↓reduceIte, Nat.reduceEqDiff, Nat.reduceLT, Nat.reduceSub, he, A17_7, A17_8, A17_9, vload, q2, List.getElem?_cons_zero]
      refine ⟨hG4, s', ?_, ?_⟩
      · rw [hE, if_pos he]
      · rw [hE, if_pos he]
        simp only [List.nil_append, Nat.zero_add] at q3
        rw [spr_len k k a b (Nat.le_refl _) he]
        exact q3
    · simp -dsimp only [↓w_seq, ↓w_ops, ↓w_skip, ↓w_ret, ↓w_exit, ↓w_scope, ↓w_block, ↓w_cond, cond_true', cond_false', ↓t_nil, ↓t_plain, ↓t_guard, ↓t_again, t_val, t_call, g_true, g_false, a_val, a_call, ↓n_normal, ↓n_ret, ↓n_exit, ↓b_normal, ↓b_ret, ↓b_exit, ↓e_normal, ↓e_ret, e_some, go_sem, ↓reduceIte, Nat.reduceEqDiff, Nat.reduceLT, Nat.reduceSub, he, A17_7, A17_8, A17_9]
      refine ⟨hG4, .slice none 0 (.exact 0), ?_, ?_⟩
      · rw [hE, if_neg he]
      · rw [hE, if_neg he]; exact .nil
end Go.Am.Try

/- The reference's Spread, on the machine. -/
namespace Go.Am.Try
open Go Go.Am Go.Proofs
set_option maxRecDepth 100000
set_option linter.unusedSimpArgs false
set_option linter.unusedVariables false

theorem allOne_strs : ∀ l : List (List UInt8), allOne (strsC l) = true
  | [] => rfl
  | _ :: l => allOne_strs l
theorem rspread_bad (a b : List UInt8) (n : Int) (ha : a.length < 2 ^ 63) (hb : b.length < 2 ^ 63) (M : Mem) (h : n < 0 ∨ 64 < n ∨ fineK a b = false) : Runs D2 18 [.str a, .str b, .int .i64 n] M fun v M' => v = .tup [.slice none 0 (.exact 0), .int .i64 1] ∧ M' = M := by
  refine Runs.walk (F := A18) rfl (by rfl) (by rfl) ?_
  unfold A18
  by_cases h1 : n < 0
  · simp -dsimp only [↓w_seq, ↓w_ops, ↓w_skip, ↓w_ret, ↓w_exit, ↓w_scope, ↓w_block, ↓w_cond, cond_true', cond_false', ↓t_nil, ↓t_plain, ↓t_guard, ↓t_again, t_val, t_call, g_true, g_false, a_val, a_call, ↓n_normal, ↓n_ret, ↓n_exit, ↓b_normal, ↓b_ret, ↓b_exit, ↓e_normal, ↓e_ret, e_some, go_sem, ↓reduceIte, Nat.reduceEqDiff, Nat.reduceLT, Nat.reduceSub, A18_0, A18_1, A18_2, A18_3, A18_4, A18_5, A18_6, A18_7, A18_8, A18_9, A18_10, A18_11, A18_12, A18_13, A18_14, A18_15, h1]
    exact ⟨trivial, trivial⟩
  by_cases h2 : 64 < n
  · simp -dsimp only [↓w_seq, ↓w_ops, ↓w_skip, ↓w_ret, ↓w_exit, ↓w_scope, ↓w_block, ↓w_cond, cond_true', cond_false', ↓t_nil, ↓t_plain, ↓t_guard, ↓t_again, t_val, t_call, g_true, g_false, a_val, a_call, ↓n_normal, ↓n_ret, ↓n_exit, ↓b_normal, ↓b_ret, ↓b_exit, ↓e_normal, ↓e_ret, e_some, go_sem, ↓reduceIte, Nat.reduceEqDiff, Nat.reduceLT, Nat.reduceSub, A18_0, A18_1, A18_2, A18_3, A18_4, A18_5, A18_6, A18_7, A18_8, A18_9, A18_10, A18_11, A18_12, A18_13, A18_14, A18_15, h1, h2]
    exact ⟨trivial, trivial⟩
  have hf : fineK a b = false := by
    rcases h with h | h | h
    · exact absurd h h1
    · exact absurd h h2
    · exact h
  simp -dsimp only [↓w_seq, ↓w_ops, ↓w_skip, ↓w_ret, ↓w_exit, ↓w_scope, ↓w_block, ↓w_cond, cond_true', cond_false', ↓t_nil, ↓t_plain, ↓t_guard, ↓t_again, t_val, t_call, g_true, g_false, a_val, a_call, ↓n_normal, ↓n_ret, ↓n_exit, ↓b_normal, ↓b_ret, ↓b_exit, ↓e_normal, ↓e_ret, e_some, go_sem, ↓reduceIte, Nat.reduceEqDiff, Nat.reduceLT, Nat.reduceSub, A18_0, A18_1, A18_2, A18_3, A18_4, A18_5, A18_6, A18_7, A18_8, A18_9, A18_10, A18_11, A18_12, A18_13, A18_14, A18_15, h1, h2]
  refine call_eq (rfine_runs a b ha hb M) ?_
  simp -dsimp only [↓w_seq, ↓w_ops, ↓w_skip, ↓w_ret, ↓w_exit, ↓w_scope, ↓w_block, ↓w_cond, cond_true', cond_false', ↓t_nil, ↓t_plain, ↓t_guard, ↓t_again, t_val, t_call, g_true, g_false, a_val, a_call, ↓n_normal, ↓n_ret, ↓n_exit, ↓b_normal, ↓b_ret, ↓b_exit, ↓e_normal, ↓e_ret, e_some, go_sem, ↓reduceIte, Nat.reduceEqDiff, Nat.reduceLT, Nat.reduceSub, hf]
  exact ⟨trivial, trivial⟩

theorem rspread_runs : ∀ (f n : Nat) (a b : List UInt8) (M : Mem), n ≤ f → n ≤ 64 → fineK a b = true → a.length < 2 ^ 63 → b.length < 2 ^ 63 →
    Runs D2 18 [.str a, .str b, .int .i64 (n : Int)] M fun v M' => Grew M M' ∧ ∃ s, v = .tup [s, .int .i64 (spr f a b n).2] ∧ ((spr f a b n).2 = 0 → Hold M.next M' 1 s n (strsC (spr f a b n).1)) ∧ ((spr f a b n).2 ≠ 0 → s = .slice none 0 (.exact 0)) := by
  intro f
  induction f with
  | zero =>
    intro n a b M hn h64 hf ha hb
    have : n = 0 := by omega
    subst this
    refine Runs.walk (F := A18) rfl (by rfl) (by rfl) ?_
    unfold A18
    have h1 : ¬ ((0 : Nat) : Int) < 0 := by omega
    have h2 : ¬ 64 < ((0 : Nat) : Int) := by omega
    have h3 : ((0 : Nat) : Int) = 0 := by omega
    simp -dsimp only [↓w_seq, ↓w_ops, ↓w_skip, ↓w_ret, ↓w_exit, ↓w_scope, ↓w_block, ↓w_cond, cond_true', cond_false', ↓t_nil, ↓t_plain, ↓t_guard, ↓t_again, t_val, t_call, g_true, g_false, a_val, a_call, ↓n_normal, ↓n_ret, ↓n_exit, ↓b_normal, ↓b_ret, ↓b_exit, ↓e_normal, ↓e_ret, e_some, go_sem, ↓reduceIte, Nat.reduceEqDiff, Nat.reduceLT, Nat.reduceSub, A18_0, A18_1, A18_2, A18_3, A18_4, A18_5, A18_6, A18_7, A18_8, A18_9, A18_10, A18_11, A18_12, A18_13, A18_14, A18_15, h1, h2]
    refine call_eq (rfine_runs a b ha hb M) ?_
    simp -dsimp only [↓w_seq, ↓w_ops, ↓w_skip, ↓w_ret, ↓w_exit, ↓w_scope, ↓w_block, ↓w_cond, cond_true', cond_false', ↓t_nil, ↓t_plain, ↓t_guard, ↓t_again, t_val, t_call, g_true, g_false, a_val, a_call, ↓n_normal, ↓n_ret, ↓n_exit, ↓b_normal, ↓b_ret, ↓b_exit, ↓e_normal, ↓e_ret, e_some, go_sem, ↓reduceIte, Nat.reduceEqDiff, Nat.reduceLT, Nat.reduceSub, hf, A18_0, A18_1, A18_2, A18_3, A18_4, A18_5, A18_6, A18_7, A18_8, A18_9, A18_10, A18_11, A18_12, A18_13, A18_14, A18_15, h3]
    exact ⟨Grew.refl M, _, rfl, fun _ => .nil, fun h => absurd rfl h⟩
  | succ f ih =>
    intro n a b M hn h64 hf ha hb
    refine Runs.walk (F := A18) rfl (by rfl) (by rfl) ?_
    unfold A18
    have h1 : ¬ (n : Int) < 0 := by omega
    have h2 : ¬ 64 < (n : Int) := by omega
    simp -dsimp only [↓w_seq, ↓w_ops, ↓w_skip, ↓w_ret, ↓w_exit, ↓w_scope, ↓w_block, ↓w_cond, cond_true', cond_false', ↓t_nil, ↓t_plain, ↓t_guard, ↓t_again, t_val, t_call, g_true, g_false, a_val, a_call, ↓n_normal, ↓n_ret, ↓n_exit, ↓b_normal, ↓b_ret, ↓b_exit, ↓e_normal, ↓e_ret, e_some, go_sem, ↓reduceIte, Nat.reduceEqDiff, Nat.reduceLT, Nat.reduceSub, A18_0, A18_1, A18_2, A18_3, A18_4, A18_5, A18_6, A18_7, A18_8, A18_9, A18_10, A18_11, A18_12, A18_13, A18_14, A18_15, h1, h2]
    refine call_eq (rfine_runs a b ha hb M) ?_
    by_cases h0 : n = 0
    · have h3 : (n : Int) = 0 := by omega
      simp -dsimp only [↓w_seq, ↓w_ops, ↓w_skip, ↓w_ret, ↓w_exit, ↓w_scope, ↓w_block, ↓w_cond, cond_true', cond_false', ↓t_nil, ↓t_plain, ↓t_guard, ↓t_again, t_val, t_call, g_true, g_false, a_val, a_call, ↓n_normal, ↓n_ret, ↓n_exit, ↓b_normal, ↓b_ret, ↓b_exit, ↓e_normal, ↓e_ret, e_some, go_sem, ↓reduceIte, Nat.reduceEqDiff, Nat.reduceLT, Nat.reduceSub, hf, A18_0, A18_1, A18_2, A18_3, A18_4, A18_5, A18_6, A18_7, A18_8, A18_9, A18_10, A18_11, A18_12, A18_13, A18_14, A18_15, h3]
      rw [spr_succ]
      simp only [h0, if_true]
      exact ⟨Grew.refl M, _, rfl, fun _ => .nil, fun h => absurd rfl h⟩
    have h3 : ¬ (n : Int) = 0 := by omega
    simp -dsimp only [↓w_seq, ↓w_ops, ↓w_skip, ↓w_ret, ↓w_exit, ↓w_scope, ↓w_block, ↓w_cond, cond_true', cond_false', ↓t_nil, ↓t_plain, ↓t_guard, ↓t_again, t_val, t_call, g_true, g_false, a_val, a_call, ↓n_normal, ↓n_ret, ↓n_exit, ↓b_normal, ↓b_ret, ↓b_exit, ↓e_normal, ↓e_ret, e_some, go_sem, ↓reduceIte, Nat.reduceEqDiff, Nat.reduceLT, Nat.reduceSub, hf, A18_0, A18_1, A18_2, A18_3, A18_4, A18_5, A18_6, A18_7, A18_8, A18_9, A18_10, A18_11, A18_12, A18_13, A18_14, A18_15, h3]
    refine call_of (rbetween_runs a b ha hb M) ?_
    intro v M1 hv
    rw [hv.1, btwV_is]
    have hG1 := hv.2
    have hm : IntKind.i64.wrap ((IntKind.i64.wrap ((n : Int) - 1)).tdiv 2) = (((n - 1) / 2 : Nat) : Int) := by
      rw [IntWalk.i64_in ((n : Int) - 1) (by omega), Int.tdiv_eq_ediv_of_nonneg (by omega), IntWalk.i64_in _ (by omega)]; omega
    simp -dsimp only [↓w_seq, ↓w_ops, ↓w_skip, ↓w_ret, ↓w_exit, ↓w_scope, ↓w_block, ↓w_cond, cond_true', cond_false', ↓t_nil, ↓t_plain, ↓t_guard, ↓t_again, t_val, t_call, g_true, g_false, a_val, a_call, ↓n_normal, ↓n_ret, ↓n_exit, ↓b_normal, ↓b_ret, ↓b_exit, ↓e_normal, ↓e_ret, e_some, go_sem, ↓reduceIte, Nat.reduceEqDiff, Nat.reduceLT, Nat.reduceSub, List.getElem?_cons_zero, List.getElem?_cons_succ, A18_0, A18_1, A18_2, A18_3, A18_4, A18_5, A18_6, A18_7, A18_8, A18_9, A18_10, A18_11, A18_12, A18_13, A18_14, A18_15, ne_eq, Int.reduceEq, not_false_eq_true]
    by_cases he : (btwE a b).2 = 0
    · obtain ⟨f1, f2, kl24, kr⟩ := fine_mid hf he
      rw [he]
      simp -dsimp only [↓w_seq, ↓w_ops, ↓w_skip, ↓w_ret, ↓w_exit, ↓w_scope, ↓w_block, ↓w_cond, cond_true', cond_false', ↓t_nil, ↓t_plain, ↓t_guard, ↓t_again, t_val, t_call, g_true, g_false, a_val, a_call, ↓n_normal, ↓n_ret, ↓n_exit, ↓b_normal, ↓b_ret, ↓b_exit, ↓e_normal, ↓e_ret, e_some, go_sem, ↓reduceIte, Nat.reduceEqDiff, Nat.reduceLT, Nat.reduceSub, A18_0, A18_1, A18_2, A18_3, A18_4, A18_5, A18_6, A18_7, A18_8, A18_9, A18_10, A18_11, A18_12, A18_13, A18_14, A18_15, hm, ne_eq, Int.reduceEq, not_false_eq_true]
      refine call_of (ih ((n - 1) / 2) a (btwE a b).1 M1 (by omega) (by omega) f1 ha (by omega)) ?_
      rintro v M2 ⟨hG2, s2, rfl, hs2, hn2⟩
      simp -dsimp only [↓w_seq, ↓w_ops, ↓w_skip, ↓w_ret, ↓w_exit, ↓w_scope, ↓w_block, ↓w_cond, cond_true', cond_false', ↓t_nil, ↓t_plain, ↓t_guard, ↓t_again, t_val, t_call, g_true, g_false, a_val, a_call, ↓n_normal, ↓n_ret, ↓n_exit, ↓b_normal, ↓b_ret, ↓b_exit, ↓e_normal, ↓e_ret, e_some, go_sem, ↓reduceIte, Nat.reduceEqDiff, Nat.reduceLT, Nat.reduceSub, List.getElem?_cons_zero, List.getElem?_cons_succ, A18_0, A18_1, A18_2, A18_3, A18_4, A18_5, A18_6, A18_7, A18_8, A18_9, A18_10, A18_11, A18_12, A18_13, A18_14, A18_15]
      by_cases h4 : (spr f a (btwE a b).1 ((n - 1) / 2)).2 = 0
      · have hm2 : IntKind.i64.wrap (IntKind.i64.wrap ((n : Int) - 1) - (((n - 1) / 2 : Nat) : Int)) = ((n - 1 - (n - 1) / 2 : Nat) : Int) := by
          rw [IntWalk.i64_in ((n : Int) - 1) (by omega), IntWalk.i64_in _ (by omega)]; omega
        rw [h4]
        simp -dsimp only [↓w_seq, ↓w_ops, ↓w_skip, ↓w_ret, ↓w_exit, ↓w_scope, ↓w_block, ↓w_cond, cond_true', cond_false', ↓t_nil, ↓t_plain, ↓t_guard, ↓t_again, t_val, t_call, g_true, g_false, a_val, a_call, ↓n_normal, ↓n_ret, ↓n_exit, ↓b_normal, ↓b_ret, ↓b_exit, ↓e_normal, ↓e_ret, e_some, go_sem, ↓reduceIte, Nat.reduceEqDiff, Nat.reduceLT, Nat.reduceSub, A18_0, A18_1, A18_2, A18_3, A18_4, A18_5, A18_6, A18_7, A18_8, A18_9, A18_10, A18_11, A18_12, A18_13, A18_14, A18_15, hm2]
        refine call_of (ih (n - 1 - (n - 1) / 2) (btwE a b).1 b M2 (by omega) (by omega) f2 (by omega) hb) ?_
        rintro v M3 ⟨hG3, s3, rfl, hs3, hn3⟩
        simp -dsimp only [↓w_seq, ↓w_ops, ↓w_skip, ↓w_ret, ↓w_exit, ↓w_scope, ↓w_block, ↓w_cond, cond_true', cond_false', ↓t_nil, ↓t_plain, ↓t_guard, ↓t_again, t_val, t_call, g_true, g_false, a_val, a_call, ↓n_normal, ↓n_ret, ↓n_exit, ↓b_normal, ↓b_ret, ↓b_exit, ↓e_normal, ↓e_ret, e_some, go_sem, ↓reduceIte, Nat.reduceEqDiff, Nat.reduceLT, Nat.reduceSub, List.getElem?_cons_zero, List.getElem?_cons_succ, A18_0, A18_1, A18_2, A18_3, A18_4, A18_5, A18_6, A18_7, A18_8, A18_9, A18_10, A18_11, A18_12, A18_13, A18_14, A18_15]
        by_cases h5 : (spr f (btwE a b).1 b (n - 1 - (n - 1) / 2)).2 = 0
        · have hH2 := hs2 h4
          have hH3 := hs3 h5
          rw [h5]
          simp -dsimp only [↓w_seq, ↓w_ops, ↓w_skip, ↓w_ret, ↓w_exit, ↓w_scope, ↓w_block, ↓w_cond, cond_true', cond_false', ↓t_nil, ↓t_plain, ↓t_guard, ↓t_again, t_val, t_call, g_true, g_false, a_val, a_call, ↓n_normal, ↓n_ret, ↓n_exit, ↓b_normal, ↓b_ret, ↓b_exit, ↓e_normal, ↓e_ret, e_some, go_sem, ↓reduceIte, Nat.reduceEqDiff, Nat.reduceLT, Nat.reduceSub, A18_0, A18_1, A18_2, A18_3, A18_4, A18_5, A18_6, A18_7, A18_8, A18_9, A18_10, A18_11, A18_12, A18_13, A18_14, A18_15, fillCells, repl, V.cells, List.length_cons, List.length_nil, Nat.zero_add, wrCells, List.append_nil, Nat.reduceAdd, Nat.reduceLeDiff, decide_true]
          have n12 := hG1.next
          have n23 := hG2.next
          have n34 := hG3.next
          have hH2' : Hold M.next (M3.push (.cells [.str (btwE a b).1] false)) 1 s2 ((n - 1) / 2) (strsC (spr f a (btwE a b).1 ((n - 1) / 2)).1) := by
            have : Hold M.next M2 1 s2 ((n - 1) / 2) (strsC (spr f a (btwE a b).1 ((n - 1) / 2)).1) := hH2.lower (by omega)
            refine this.keep (fun b hb => ?_) (by simp; omega)
            have := (this.blk_le hb).2.1
            rw [Mem.get_push_ne _ _ (by omega), hG3.old b this]
          obtain ⟨M4, hap, hH4, hn4, ho4⟩ := hH2'.append (bytes := 16) (m := 1) (x := .slice (some (M3.next, 0)) 1 (.exact 1)) (new := [.str (btwE a b).1]) (by simp; omega) rfl
            (by simp only [srcCells, beq_dec, Nat.one_mul, Nat.reduceEqDiff, decide_false, cond_false]; exact read_all (Mem.get_push_same _ _)) (by omega) rfl (by unfold maxRoom; omega) rfl
          rw [hap]
          have hG4 : Grew M M4 := ⟨by rw [hn4]; simp; omega, fun c hc => by
            rw [ho4 c (by simp; omega) (fun e => by have := (hH2'.blk_le e).1; omega), Mem.get_push_ne _ _ (by omega)]
            exact ((hG1.trans hG2).trans hG3).old c hc⟩
          have hH3' : Hold M2.next M4 1 s3 (n - 1 - (n - 1) / 2) (strsC (spr f (btwE a b).1 b (n - 1 - (n - 1) / 2)).1) := by
            refine hH3.keep (fun c hc => ?_) (by rw [hn4]; simp; omega)
            have h6 := hH3.blk_le hc
            rw [ho4 c (by simp; omega) (fun e => ?_), Mem.get_push_ne _ _ (by omega)]
            have := (hH2.blk_le e).2.1; omega
          simp only [Mem.next_push] at hap hH4 hn4 ho4
          have hsrc := hH3'.src
          obtain ⟨s5, M5, hap5, hH5, hn5, ho5, _⟩ := hH4.append_any (bytes := 16) (x := s3) (by omega) hsrc.1 hsrc.2 hH3'.len (by unfold maxRoom; omega) (allOne_strs _)
          simp -dsimp only [↓w_seq, ↓w_ops, ↓w_skip, ↓w_ret, ↓w_exit, ↓w_scope, ↓w_block, ↓w_cond, cond_true', cond_false', ↓t_nil, ↓t_plain, ↓t_guard, ↓t_again, t_val, t_call, g_true, g_false, a_val, a_call, ↓n_normal, ↓n_ret, ↓n_exit, ↓b_normal, ↓b_ret, ↓b_exit, ↓e_normal, ↓e_ret, e_some, go_sem, ↓reduceIte, Nat.reduceEqDiff, Nat.reduceLT, Nat.reduceSub, A18_0, A18_1, A18_2, A18_3, A18_4, A18_5, A18_6, A18_7, A18_8, A18_9, A18_10, A18_11, A18_12, A18_13, A18_14, A18_15, Mem.next_push]
          rw [hap5]
          simp -dsimp only [↓w_seq, ↓w_ops, ↓w_skip, ↓w_ret, ↓w_exit, ↓w_scope, ↓w_block, ↓w_cond, cond_true', cond_false', ↓t_nil, ↓t_plain, ↓t_guard, ↓t_again, t_val, t_call, g_true, g_false, a_val, a_call, ↓n_normal, ↓n_ret, ↓n_exit, ↓b_normal, ↓b_ret, ↓b_exit, ↓e_normal, ↓e_ret, e_some, go_sem, ↓reduceIte, Nat.reduceEqDiff, Nat.reduceLT, Nat.reduceSub, A18_0, A18_1, A18_2, A18_3, A18_4, A18_5, A18_6, A18_7, A18_8, A18_9, A18_10, A18_11, A18_12, A18_13, A18_14, A18_15]
          refine ⟨⟨by omega, fun c hc => ?_⟩, s5, ?_, ?_, fun h => absurd ?_ h⟩
          · rw [ho5 c (by omega) (by simp only [V.blk, ne_eq, Option.some.injEq]; omega)]
            exact hG4.old c hc
          · rw [spr_succ]; simp [h0, he, h4, h5]
          · intro _
            rw [spr_succ]
            simp only [h0, he, h4, h5, if_false, ne_eq, not_true_eq_false]
            rw [show (n - 1) / 2 + 1 + (n - 1 - (n - 1) / 2) = n by omega] at hH5
            rw [show ((spr f a (btwE a b).1 ((n - 1) / 2)).1 ++ (btwE a b).1 :: (spr f (btwE a b).1 b (n - 1 - (n - 1) / 2)).1) = (spr f a (btwE a b).1 ((n - 1) / 2)).1 ++ [(btwE a b).1] ++ (spr f (btwE a b).1 b (n - 1 - (n - 1) / 2)).1 by simp, strsC_app, strsC_app]
            exact hH5
          · rw [spr_succ]; simp [h0, he, h4, h5]
        · simp -dsimp only [↓w_seq, ↓w_ops, ↓w_skip, ↓w_ret, ↓w_exit, ↓w_scope, ↓w_block, ↓w_cond, cond_true', cond_false', ↓t_nil, ↓t_plain, ↓t_guard, ↓t_again, t_val, t_call, g_true, g_false, a_val, a_call, ↓n_normal, ↓n_ret, ↓n_exit, ↓b_normal, ↓b_ret, ↓b_exit, ↓e_normal, ↓e_ret, e_some, go_sem, ↓reduceIte, Nat.reduceEqDiff, Nat.reduceLT, Nat.reduceSub, h5, decide_false, A18_0, A18_1, A18_2, A18_3, A18_4, A18_5, A18_6, A18_7, A18_8, A18_9, A18_10, A18_11, A18_12, A18_13, A18_14, A18_15]
          refine ⟨(hG1.trans hG2).trans hG3, .slice none 0 (.exact 0), ?_, ?_, fun _ => rfl⟩
          · rw [spr_succ]; simp [h0, he, h4, h5]
          · intro h; rw [spr_succ] at h; simp [h0, he, h4, h5] at h
      · simp -dsimp only [↓w_seq, ↓w_ops, ↓w_skip, ↓w_ret, ↓w_exit, ↓w_scope, ↓w_block, ↓w_cond, cond_true', cond_false', ↓t_nil, ↓t_plain, ↓t_guard, ↓t_again, t_val, t_call, g_true, g_false, a_val, a_call, ↓n_normal, ↓n_ret, ↓n_exit, ↓b_normal, ↓b_ret, ↓b_exit, ↓e_normal, ↓e_ret, e_some, go_sem, ↓reduceIte, Nat.reduceEqDiff, Nat.reduceLT, Nat.reduceSub, h4, decide_false, A18_0, A18_1, A18_2, A18_3, A18_4, A18_5, A18_6, A18_7, A18_8, A18_9, A18_10, A18_11, A18_12, A18_13, A18_14, A18_15]
        refine ⟨hG1.trans hG2, .slice none 0 (.exact 0), ?_, ?_, fun _ => rfl⟩
        · rw [spr_succ]; simp [h0, he, h4]
        · intro h; rw [spr_succ] at h; simp [h0, he, h4] at h
    · simp -dsimp only [↓w_seq, ↓w_ops, ↓w_skip, ↓w_ret, ↓w_exit, ↓w_scope, ↓w_block, ↓w_cond, cond_true', cond_false', ↓t_nil, ↓t_plain, ↓t_guard, ↓t_again, t_val, t_call, g_true, g_false, a_val, a_call, ↓n_normal, ↓n_ret, ↓n_exit, ↓b_normal, ↓b_ret, ↓b_exit, ↓e_normal, ↓e_ret, e_some, go_sem, ↓reduceIte, Nat.reduceEqDiff, Nat.reduceLT, Nat.reduceSub, he, decide_false, A18_0, A18_1, A18_2, A18_3, A18_4, A18_5, A18_6, A18_7, A18_8, A18_9, A18_10, A18_11, A18_12, A18_13, A18_14, A18_15]
      refine ⟨hG1, .slice none 0 (.exact 0), ?_, ?_, fun _ => rfl⟩
      · rw [spr_succ]; simp [h0, he]
      · intro h; rw [spr_succ] at h; simp [h0, he] at h

theorem rspread_all (a b : List UInt8) (n : Int) (ha : a.length < 2 ^ 63) (hb : b.length < 2 ^ 63) (M : Mem) : Runs D2 18 [.str a, .str b, .int .i64 n] M fun v M' => Grew M M' ∧ ∃ s, v = .tup [s, .int .i64 (sprE a b n).2] ∧ Hold M.next M' 1 s (sprE a b n).1.length (strsC (sprE a b n).1) := by
  by_cases h : n < 0 ∨ 64 < n ∨ fineK a b = false
  · refine (rspread_bad a b n ha hb M h).mono ?_
    rintro v M' ⟨rfl, rfl⟩
    have hE : sprE a b n = ([], 1) := by unfold sprE; rw [if_pos h]
    rw [hE]
    exact ⟨Grew.refl _, _, rfl, .nil⟩
  · obtain ⟨k, rfl⟩ : ∃ k : Nat, n = (k : Int) := ⟨n.toNat, by omega⟩
    have hf : fineK a b = true := by
      cases hq : fineK a b with
      | true => rfl
      | false => exact absurd (.inr (.inr hq)) h
    have hE : sprE a b (k : Int) = if (spr k a b k).2 = 0 then ((spr k a b k).1, 0) else ([], (spr k a b k).2) := by
      unfold sprE
      rw [if_neg h]
      simp
    refine (rspread_runs k k a b M (Nat.le_refl _) (by omega) hf ha hb).mono ?_
    rintro v M' ⟨hG, s, rfl, h1, h2⟩
    by_cases he : (spr k a b k).2 = 0
    · refine ⟨hG, s, ?_, ?_⟩
      · rw [hE, if_pos he, he]
      · rw [hE, if_pos he, spr_len k k a b (Nat.le_refl _) he]; exact h1 he
    · refine ⟨hG, s, ?_, ?_⟩
      · rw [hE, if_neg he]
      · rw [hE, if_neg he, h2 he]; exact .nil
end Go.Am.Try

/- The walk of the law PoskeySpread on the machine. -/
namespace Go.Am.Try
open Go Go.Am Go.Proofs
set_option maxRecDepth 100000
set_option linter.unusedSimpArgs false
set_option linter.unusedVariables false

theorem strsC_get (l : List (List UInt8)) (i : Nat) (h : i < l.length) : (strsC l)[i]? = some (.str l[i]) := by simp [strsC, h]

theorem sprd_loop (L : List (List UInt8)) (hL : L.length < 2 ^ 40) (lo lo' : Nat) (x y : V) (M : Mem) (hx : Hold lo M 1 x L.length (strsC L)) (hy : Hold lo' M 1 y L.length (strsC L)) {Q : AExit → Fr → Mem → Prop} (hQ : ∀ fr, Q (.exit 0) fr M) :
    ∀ (f i : Nat) (fr : Fr), i + f = L.length → fr.rd 7 = x → fr.rd 9 = y → fr.rd 11 = .int .i64 (i : Int) → WC D2 53 (.loop A7_10) fr M Q := by
  intro f
  induction f with
  | zero =>
    intro i fr hi h7 h9 h11
    refine WC.loop (W_of ?_)
    unfold A7_10
    obtain ⟨a, cap, rfl⟩ := hx.shape
    have : ¬ (i : Int) < L.length := by omega
    simp -dsimp only [↓w_seq, ↓w_ops, ↓w_skip, ↓w_ret, ↓w_exit, ↓w_scope, ↓w_block, ↓w_cond, cond_true', cond_false', ↓t_nil, ↓t_plain, ↓t_guard, ↓t_again, t_val, t_call, g_true, g_false, a_val, a_call, ↓n_normal, ↓n_ret, ↓n_exit, ↓b_normal, ↓b_ret, ↓b_exit, ↓e_normal, ↓e_ret, e_some, go_sem, ↓reduceIte, Nat.reduceEqDiff, Nat.reduceLT, Nat.reduceSub, A7_0, A7_1, A7_2, A7_3, A7_4, A7_5, A7_6, A7_7, A7_8, A7_9, A7_11, h7, h9, h11, this, decide_false]
    exact hQ _
  | succ f ih =>
    intro i fr hi h7 h9 h11
    refine WC.loop (W_of ?_)
    unfold A7_10
    have hlt : i < L.length := by omega
    obtain ⟨b, rfl, hb, _⟩ := hx.addr hlt
    obtain ⟨c, rfl, hc, _⟩ := hy.addr hlt
    have h1 : (i : Int) < L.length := by omega
    have h2 : i + 1 ≤ L.length := by omega
    have h3 : (i : Int) + 1 = ((i + 1 : Nat) : Int) := by omega
    simp -dsimp only [↓w_seq, ↓w_ops, ↓w_skip, ↓w_ret, ↓w_exit, ↓w_scope, ↓w_block, ↓w_cond, cond_true', cond_false', ↓t_nil, ↓t_plain, ↓t_guard, ↓t_again, t_val, t_call, g_true, g_false, a_val, a_call, ↓n_normal, ↓n_ret, ↓n_exit, ↓b_normal, ↓b_ret, ↓b_exit, ↓e_normal, ↓e_ret, e_some, go_sem, ↓reduceIte, Nat.reduceEqDiff, Nat.reduceLT, Nat.reduceSub, A7_0, A7_1, A7_2, A7_3, A7_4, A7_5, A7_6, A7_7, A7_8, A7_9, A7_11, h7, h9, h11, h1, h2, Nat.zero_add, Nat.mul_one, vload, hb, hc, strsC_get L i hlt, IntWalk.i64_in ((i : Int) + 1) (by omega)]
    refine ih (i + 1) _ (by omega) ?_ ?_ ?_ <;> simp only [go_sem, ↓reduceIte, Nat.reduceEqDiff, Nat.reduceLT, Nat.reduceSub, h7, h9, h3]

theorem law_spread_runs (a b : List UInt8) (n : Int) (ha : a.length < 2 ^ 63) (hb : b.length < 2 ^ 63) (M : Mem) : Runs D2 7 [.str a, .str b, .int .i64 n] M fun v _ => v = .bool true := by
  refine Runs.walk (F := A7) rfl (by rfl) (by rfl) ?_
  unfold A7
  simp -dsimp only [↓w_seq, ↓w_ops, ↓w_skip, ↓w_ret, ↓w_exit, ↓w_scope, ↓w_block, ↓w_cond, cond_true', cond_false', ↓t_nil, ↓t_plain, ↓t_guard, ↓t_again, t_val, t_call, g_true, g_false, a_val, a_call, ↓n_normal, ↓n_ret, ↓n_exit, ↓b_normal, ↓b_ret, ↓b_exit, ↓e_normal, ↓e_ret, e_some, go_sem, ↓reduceIte, Nat.reduceEqDiff, Nat.reduceLT, Nat.reduceSub, A7_0, A7_1, A7_2, A7_3, A7_4, A7_5, A7_6, A7_7, A7_8, A7_9, A7_11]
  refine call_of (spread_runs a b n hb M) ?_
  rintro v M1 ⟨hG1, s, rfl, hs⟩
  simp -dsimp only [↓w_seq, ↓w_ops, ↓w_skip, ↓w_ret, ↓w_exit, ↓w_scope, ↓w_block, ↓w_cond, cond_true', cond_false', ↓t_nil, ↓t_plain, ↓t_guard, ↓t_again, t_val, t_call, g_true, g_false, a_val, a_call, ↓n_normal, ↓n_ret, ↓n_exit, ↓b_normal, ↓b_ret, ↓b_exit, ↓e_normal, ↓e_ret, e_some, go_sem, ↓reduceIte, Nat.reduceEqDiff, Nat.reduceLT, Nat.reduceSub, A7_0, A7_1, A7_2, A7_3, A7_4, A7_5, A7_6, A7_7, A7_8, A7_9, A7_11, List.getElem?_cons_zero, List.getElem?_cons_succ]
  refine call_of (rspread_all a b n ha hb M1) ?_
  rintro v M2 ⟨hG2, t, rfl, ht⟩
  obtain ⟨p, cp, rfl⟩ := hs.shape
  obtain ⟨q, cq, rfl⟩ := ht.shape
  simp -dsimp only [↓w_seq, ↓w_ops, ↓w_skip, ↓w_ret, ↓w_exit, ↓w_scope, ↓w_block, ↓w_cond, cond_true', cond_false', ↓t_nil, ↓t_plain, ↓t_guard, ↓t_again, t_val, t_call, g_true, g_false, a_val, a_call, ↓n_normal, ↓n_ret, ↓n_exit, ↓b_normal, ↓b_ret, ↓b_exit, ↓e_normal, ↓e_ret, e_some, go_sem, ↓reduceIte, Nat.reduceEqDiff, Nat.reduceLT, Nat.reduceSub, A7_0, A7_1, A7_2, A7_3, A7_4, A7_5, A7_6, A7_7, A7_8, A7_9, A7_11, List.getElem?_cons_zero, List.getElem?_cons_succ]
  refine call_eq (num_runs _ _) ?_
  simp -dsimp only [↓w_seq, ↓w_ops, ↓w_skip, ↓w_ret, ↓w_exit, ↓w_scope, ↓w_block, ↓w_cond, cond_true', cond_false', ↓t_nil, ↓t_plain, ↓t_guard, ↓t_again, t_val, t_call, g_true, g_false, a_val, a_call, ↓n_normal, ↓n_ret, ↓n_exit, ↓b_normal, ↓b_ret, ↓b_exit, ↓e_normal, ↓e_ret, e_some, go_sem, ↓reduceIte, Nat.reduceEqDiff, Nat.reduceLT, Nat.reduceSub, A7_0, A7_1, A7_2, A7_3, A7_4, A7_5, A7_6, A7_7, A7_8, A7_9, A7_11]
  have hs2 := hs.keep (fun b hb => hG2.old b (hs.blk_le hb).2.1) hG2.next
  have hlen : (sprE a b n).1.length < 2 ^ 40 := by
    unfold sprE
    split
    · simp
    · rename_i h
      split
      · rename_i h2
        rw [spr_len _ _ _ _ (Nat.le_refl _) h2]; omega
      · simp
  refine sprd_loop (sprE a b n).1 hlen _ _ _ _ M2 hs2 ht ?_ _ 0 _ (Nat.zero_add _) ?_ ?_ ?_
  case refine_2 => simp only [go_sem, ↓reduceIte, Nat.reduceEqDiff, Nat.reduceLT, Nat.reduceSub]
  case refine_3 => simp only [go_sem, ↓reduceIte, Nat.reduceEqDiff, Nat.reduceLT, Nat.reduceSub]
  case refine_4 => simp only [go_sem, ↓reduceIte, Nat.reduceEqDiff, Nat.reduceLT, Nat.reduceSub]; rfl
  intro fr
  simp -dsimp only [↓w_seq, ↓w_ops, ↓w_skip, ↓w_ret, ↓w_exit, ↓w_scope, ↓w_block, ↓w_cond, cond_true', cond_false', ↓t_nil, ↓t_plain, ↓t_guard, ↓t_again, t_val, t_call, g_true, g_false, a_val, a_call, ↓n_normal, ↓n_ret, ↓n_exit, ↓b_normal, ↓b_ret, ↓b_exit, ↓e_normal, ↓e_ret, e_some, go_sem, ↓reduceIte, Nat.reduceEqDiff, Nat.reduceLT, Nat.reduceSub, A7_0, A7_1, A7_2, A7_3, A7_4, A7_5, A7_6, A7_7, A7_8, A7_9, A7_11]
  refine call_eq (knows_runs _) ?_
  simp -dsimp only [↓w_seq, ↓w_ops, ↓w_skip, ↓w_ret, ↓w_exit, ↓w_scope, ↓w_block, ↓w_cond, cond_true', cond_false', ↓t_nil, ↓t_plain, ↓t_guard, ↓t_again, t_val, t_call, g_true, g_false, a_val, a_call, ↓n_normal, ↓n_ret, ↓n_exit, ↓b_normal, ↓b_ret, ↓b_exit, ↓e_normal, ↓e_ret, e_some, go_sem, ↓reduceIte, Nat.reduceEqDiff, Nat.reduceLT, Nat.reduceSub]
end Go.Am.Try

/- The walk of the law PoskeyRises on the machine. -/
namespace Go.Am.Try
open Go Go.Am Go.Proofs
set_option maxRecDepth 100000
set_option linter.unusedSimpArgs false
set_option linter.unusedVariables false

/-- A row that rises between two, each that may be. -/
def Rises (b : List UInt8) : List UInt8 → List (List UInt8) → Prop
  | a, [] => True
  | a, k :: l => rightK k = true ∧ strLess a k = true ∧ (b ≠ [] → strLess k b = true) ∧ Rises b k l

theorem less_lt_trans {a b c : List UInt8} (h : strLess a b = true) (h2 : strLess b c = true) : strLess a c = true := by
  rw [cmp_less, decide_eq_true_iff] at h h2 ⊢
  exact cmp_trans h h2
theorem rises_wide {b c : List UInt8} (hbc : c ≠ [] → strLess b c = true) (hb : b ≠ []) : ∀ (l : List (List UInt8)) (a : List UInt8), Rises b a l → Rises c a l
  | [], _, _ => trivial
  | k :: l, a, h => ⟨h.1, h.2.1, fun hc => less_lt_trans (h.2.2.1 hb) (hbc hc), rises_wide hbc hb l k h.2.2.2⟩
theorem rises_app {b k : List UInt8} {r : List (List UInt8)} (hk : k ≠ []) (h1 : rightK k = true) (h3 : b ≠ [] → strLess k b = true) (hr : Rises b k r) : ∀ (l : List (List UInt8)) (a : List UInt8), strLess a k = true → Rises k a l → Rises b a (l ++ k :: r)
  | [], a, ha, _ => ⟨h1, ha, h3, hr⟩
  | x :: l, a, ha, h => ⟨h.1, h.2.1, fun hb => less_lt_trans (h.2.2.1 hk) (h3 hb), rises_app hk h1 h3 hr l x (h.2.2.1 hk) h.2.2.2⟩
theorem spr_rises : ∀ (f n : Nat) (a b : List UInt8), n ≤ f → fineK a b = true → (spr f a b n).2 = 0 → Rises b a (spr f a b n).1
  | 0, n, a, b, hn, _, _ => trivial
  | f + 1, n, a, b, hn, hf, h => by
    rw [spr_succ] at h ⊢
    by_cases h0 : n = 0
    · simp only [h0, if_true]; exact trivial
    · simp only [if_neg h0] at h ⊢
      by_cases h1 : (btwE a b).2 = 0
      · obtain ⟨f1, f2, _, kr⟩ := fine_mid hf h1
        obtain ⟨_, k2, k3⟩ := btw_right (btwE_fine hf h1)
        simp only [h1, ne_eq, not_true_eq_false, if_false] at h ⊢
        by_cases h2 : (spr f a (btwE a b).1 ((n - 1) / 2)).2 = 0
        · simp only [h2, not_true_eq_false, if_false] at h ⊢
          by_cases h3 : (spr f (btwE a b).1 b (n - 1 - (n - 1) / 2)).2 = 0
          · simp only [h3, not_true_eq_false, if_false] at h ⊢
            exact rises_app (right_last kr).1 kr k3 (spr_rises f _ _ _ (by omega) f2 h3) _ _ k2 (spr_rises f _ _ _ (by omega) f1 h2)
          · simp only [h3, not_false_eq_true, if_true] at h
        · simp only [h2, not_false_eq_true, if_true] at h
      · simp only [ne_eq, h1, not_false_eq_true, if_true] at h

theorem rise_loop (L : List (List UInt8)) (hL : L.length < 2 ^ 40) (lo : Nat) (b : List UInt8) (x : V) (M : Mem) (hx : Hold lo M 1 x L.length (strsC L)) {Q : AExit → Fr → Mem → Prop} (hQ : ∀ fr, Q (.exit 0) fr M) :
    ∀ (f i : Nat) (a : List UInt8) (fr : Fr), i + f = L.length → Rises b a (L.drop i) → fr.rd 1 = .str b → fr.rd 2 = .int .i64 (L.length : Int) → fr.rd 7 = x → fr.rd 9 = .str a → fr.rd 10 = .int .i64 (i : Int) → WC D2 68 (.loop A8_13) fr M Q := by
  intro f
  induction f with
  | zero =>
    intro i a fr hi hr h1 h2 h7 h9 h10
    refine WC.loop (W_of ?_)
    unfold A8_13
    have : ¬ (i : Int) < L.length := by omega
    simp -dsimp only [↓w_seq, ↓w_ops, ↓w_skip, ↓w_ret, ↓w_exit, ↓w_scope, ↓w_block, ↓w_cond, cond_true', cond_false', ↓t_nil, ↓t_plain, ↓t_guard, ↓t_again, t_val, t_call, g_true, g_false, a_val, a_call, ↓n_normal, ↓n_ret, ↓n_exit, ↓b_normal, ↓b_ret, ↓b_exit, ↓e_normal, ↓e_ret, e_some, go_sem, ↓reduceIte, Nat.reduceEqDiff, Nat.reduceLT, Nat.reduceSub, A8_0, A8_1, A8_2, A8_3, A8_4, A8_5, A8_6, A8_7, A8_8, A8_9, A8_10, A8_11, A8_12, A8_14, h2, h7, h10, this, decide_false]
    exact hQ _
  | succ f ih =>
    intro i a fr hi hr h1 h2 h7 h9 h10
    refine WC.loop (W_of ?_)
    unfold A8_13
    have hlt : i < L.length := by omega
    obtain ⟨c, rfl, hc, _⟩ := hx.addr hlt
    have q1 : (i : Int) < L.length := by omega
    have q2 : i + 1 ≤ L.length := by omega
    have q3 : (i : Int) + 1 = ((i + 1 : Nat) : Int) := by omega
    rw [List.drop_eq_getElem_cons hlt] at hr
    obtain ⟨r1, r2, r3, r4⟩ := hr
    obtain ⟨s1, s2⟩ := less_not r2
    have s3 : ¬ L[i] = a := fun e => s2 e
    simp -dsimp only [↓w_seq, ↓w_ops, ↓w_skip, ↓w_ret, ↓w_exit, ↓w_scope, ↓w_block, ↓w_cond, cond_true', cond_false', ↓t_nil, ↓t_plain, ↓t_guard, ↓t_again, t_val, t_call, g_true, g_false, a_val, a_call, ↓n_normal, ↓n_ret, ↓n_exit, ↓b_normal, ↓b_ret, ↓b_exit, ↓e_normal, ↓e_ret, e_some, go_sem, ↓reduceIte, Nat.reduceEqDiff, Nat.reduceLT, Nat.reduceSub, A8_0, A8_1, A8_2, A8_3, A8_4, A8_5, A8_6, A8_7, A8_8, A8_9, A8_10, A8_11, A8_12, A8_14, h1, h2, h7, h9, h10, q1, q2, Nat.zero_add, Nat.mul_one, vload, hc, strsC_get L i hlt]
    refine call_eq (right_runs _ _) ?_
    simp -dsimp only [↓w_seq, ↓w_ops, ↓w_skip, ↓w_ret, ↓w_exit, ↓w_scope, ↓w_block, ↓w_cond, cond_true', cond_false', ↓t_nil, ↓t_plain, ↓t_guard, ↓t_again, t_val, t_call, g_true, g_false, a_val, a_call, ↓n_normal, ↓n_ret, ↓n_exit, ↓b_normal, ↓b_ret, ↓b_exit, ↓e_normal, ↓e_ret, e_some, go_sem, ↓reduceIte, Nat.reduceEqDiff, Nat.reduceLT, Nat.reduceSub, r1, A8_0, A8_1, A8_2, A8_3, A8_4, A8_5, A8_6, A8_7, A8_8, A8_9, A8_10, A8_11, A8_12, A8_14, h1, h2, h7, h9, h10, q1, q2, Nat.zero_add, Nat.mul_one, vload, hc, strsC_get L i hlt, s1, s3, Bool.or_false]
    by_cases hb : b = []
    · simp -dsimp only [↓w_seq, ↓w_ops, ↓w_skip, ↓w_ret, ↓w_exit, ↓w_scope, ↓w_block, ↓w_cond, cond_true', cond_false', ↓t_nil, ↓t_plain, ↓t_guard, ↓t_again, t_val, t_call, g_true, g_false, a_val, a_call, ↓n_normal, ↓n_ret, ↓n_exit, ↓b_normal, ↓b_ret, ↓b_exit, ↓e_normal, ↓e_ret, e_some, go_sem, ↓reduceIte, Nat.reduceEqDiff, Nat.reduceLT, Nat.reduceSub, hb, A8_0, A8_1, A8_2, A8_3, A8_4, A8_5, A8_6, A8_7, A8_8, A8_9, A8_10, A8_11, A8_12, A8_14, h1, h2, h7, h9, h10, q1, q2, Nat.zero_add, Nat.mul_one, vload, hc, strsC_get L i hlt, s1, s3, IntWalk.i64_in ((i : Int) + 1) (by omega)]
      refine ih (i + 1) L[i] _ (by omega) r4 ?_ ?_ ?_ ?_ ?_ <;> simp only [go_sem, ↓reduceIte, Nat.reduceEqDiff, Nat.reduceLT, Nat.reduceSub, h1, h2, h7, q3]
    · simp -dsimp only [↓w_seq, ↓w_ops, ↓w_skip, ↓w_ret, ↓w_exit, ↓w_scope, ↓w_block, ↓w_cond, cond_true', cond_false', ↓t_nil, ↓t_plain, ↓t_guard, ↓t_again, t_val, t_call, g_true, g_false, a_val, a_call, ↓n_normal, ↓n_ret, ↓n_exit, ↓b_normal, ↓b_ret, ↓b_exit, ↓e_normal, ↓e_ret, e_some, go_sem, ↓reduceIte, Nat.reduceEqDiff, Nat.reduceLT, Nat.reduceSub, hb, A8_0, A8_1, A8_2, A8_3, A8_4, A8_5, A8_6, A8_7, A8_8, A8_9, A8_10, A8_11, A8_12, A8_14, h1, h2, h7, h9, h10, q1, q2, Nat.zero_add, Nat.mul_one, vload, hc, strsC_get L i hlt, s1, s3, r3 hb, IntWalk.i64_in ((i : Int) + 1) (by omega)]
      refine ih (i + 1) L[i] _ (by omega) r4 ?_ ?_ ?_ ?_ ?_ <;> simp only [go_sem, ↓reduceIte, Nat.reduceEqDiff, Nat.reduceLT, Nat.reduceSub, h1, h2, h7, q3]

theorem law_rises_runs (a b : List UInt8) (n : Int) (ha : a.length < 2 ^ 63) (hb : b.length < 2 ^ 63) (M : Mem) : Runs D2 8 [.str a, .str b, .int .i64 n] M fun v _ => v = .bool true := by
  refine Runs.walk (F := A8) rfl (by rfl) (by rfl) ?_
  unfold A8
  simp -dsimp only [↓w_seq, ↓w_ops, ↓w_skip, ↓w_ret, ↓w_exit, ↓w_scope, ↓w_block, ↓w_cond, cond_true', cond_false', ↓t_nil, ↓t_plain, ↓t_guard, ↓t_again, t_val, t_call, g_true, g_false, a_val, a_call, ↓n_normal, ↓n_ret, ↓n_exit, ↓b_normal, ↓b_ret, ↓b_exit, ↓e_normal, ↓e_ret, e_some, go_sem, ↓reduceIte, Nat.reduceEqDiff, Nat.reduceLT, Nat.reduceSub, A8_0, A8_1, A8_2, A8_3, A8_4, A8_5, A8_6, A8_7, A8_8, A8_9, A8_10, A8_11, A8_12, A8_14]
  refine call_of (spread_runs a b n hb M) ?_
  rintro v M1 ⟨hG1, s, rfl, hs⟩
  obtain ⟨p, cp, rfl⟩ := hs.shape
  simp -dsimp only [↓w_seq, ↓w_ops, ↓w_skip, ↓w_ret, ↓w_exit, ↓w_scope, ↓w_block, ↓w_cond, cond_true', cond_false', ↓t_nil, ↓t_plain, ↓t_guard, ↓t_again, t_val, t_call, g_true, g_false, a_val, a_call, ↓n_normal, ↓n_ret, ↓n_exit, ↓b_normal, ↓b_ret, ↓b_exit, ↓e_normal, ↓e_ret, e_some, go_sem, ↓reduceIte, Nat.reduceEqDiff, Nat.reduceLT, Nat.reduceSub, A8_0, A8_1, A8_2, A8_3, A8_4, A8_5, A8_6, A8_7, A8_8, A8_9, A8_10, A8_11, A8_12, A8_14, List.getElem?_cons_zero, List.getElem?_cons_succ]
  refine call_eq (num_runs _ _) ?_
  simp -dsimp only [↓w_seq, ↓w_ops, ↓w_skip, ↓w_ret, ↓w_exit, ↓w_scope, ↓w_block, ↓w_cond, cond_true', cond_false', ↓t_nil, ↓t_plain, ↓t_guard, ↓t_again, t_val, t_call, g_true, g_false, a_val, a_call, ↓n_normal, ↓n_ret, ↓n_exit, ↓b_normal, ↓b_ret, ↓b_exit, ↓e_normal, ↓e_ret, e_some, go_sem, ↓reduceIte, Nat.reduceEqDiff, Nat.reduceLT, Nat.reduceSub, A8_0, A8_1, A8_2, A8_3, A8_4, A8_5, A8_6, A8_7, A8_8, A8_9, A8_10, A8_11, A8_12, A8_14]
  by_cases he : (sprE a b n).2 = 0
  · have hgood : fineK a b = true ∧ ¬ n < 0 ∧ ¬ 64 < n ∧ (spr n.toNat a b n.toNat).2 = 0 := by
      unfold sprE at he
      split at he
      · cases he
      · rename_i h
        have : fineK a b = true := by
          cases hq : fineK a b with
          | true => rfl
          | false => exact absurd (.inr (.inr hq)) h
        refine ⟨this, fun h1 => h (.inl h1), fun h1 => h (.inr (.inl h1)), ?_⟩
        split at he
        · assumption
        · exact he
    obtain ⟨g1, g2, g3, g4⟩ := hgood
    obtain ⟨k, rfl⟩ : ∃ k : Nat, n = (k : Int) := ⟨n.toNat, by omega⟩
    simp only [Int.toNat_natCast] at g4
    have hE : sprE a b (k : Int) = ((spr k a b k).1, 0) := by
      unfold sprE
      rw [if_neg (by simp [g1]; omega)]
      simp [g4]
    have hl := spr_len k k a b (Nat.le_refl _) g4
    have hr := spr_rises k k a b (Nat.le_refl _) g1 g4
    rw [hE] at hs ⊢
    simp only at hs
    generalize (spr k a b k).1 = L at *
    subst hl
    simp -dsimp only [↓w_seq, ↓w_ops, ↓w_skip, ↓w_ret, ↓w_exit, ↓w_scope, ↓w_block, ↓w_cond, cond_true', cond_false', ↓t_nil, ↓t_plain, ↓t_guard, ↓t_again, t_val, t_call, g_true, g_false, a_val, a_call, ↓n_normal, ↓n_ret, ↓n_exit, ↓b_normal, ↓b_ret, ↓b_exit, ↓e_normal, ↓e_ret, e_some, go_sem, ↓reduceIte, Nat.reduceEqDiff, Nat.reduceLT, Nat.reduceSub, A8_0, A8_1, A8_2, A8_3, A8_4, A8_5, A8_6, A8_7, A8_8, A8_9, A8_10, A8_11, A8_12, A8_14]
    refine rise_loop L (by omega) _ b _ M1 hs ?_ _ 0 a _ (Nat.zero_add _) hr ?_ ?_ ?_ ?_ ?_
    case refine_2 => simp only [go_sem, ↓reduceIte, Nat.reduceEqDiff, Nat.reduceLT, Nat.reduceSub]
    case refine_3 => simp only [go_sem, ↓reduceIte, Nat.reduceEqDiff, Nat.reduceLT, Nat.reduceSub]
    case refine_4 => simp only [go_sem, ↓reduceIte, Nat.reduceEqDiff, Nat.reduceLT, Nat.reduceSub]
    case refine_5 => simp only [go_sem, ↓reduceIte, Nat.reduceEqDiff, Nat.reduceLT, Nat.reduceSub]
    case refine_6 => simp only [go_sem, ↓reduceIte, Nat.reduceEqDiff, Nat.reduceLT, Nat.reduceSub]; rfl
    intro fr
    simp -dsimp only [↓w_seq, ↓w_ops, ↓w_skip, ↓w_ret, ↓w_exit, ↓w_scope, ↓w_block, ↓w_cond, cond_true', cond_false', ↓t_nil, ↓t_plain, ↓t_guard, ↓t_again, t_val, t_call, g_true, g_false, a_val, a_call, ↓n_normal, ↓n_ret, ↓n_exit, ↓b_normal, ↓b_ret, ↓b_exit, ↓e_normal, ↓e_ret, e_some, go_sem, ↓reduceIte, Nat.reduceEqDiff, Nat.reduceLT, Nat.reduceSub, A8_0, A8_1, A8_2, A8_3, A8_4, A8_5, A8_6, A8_7, A8_8, A8_9, A8_10, A8_11, A8_12, A8_14]
    refine call_eq (knows_runs _) ?_
    simp -dsimp only [↓w_seq, ↓w_ops, ↓w_skip, ↓w_ret, ↓w_exit, ↓w_scope, ↓w_block, ↓w_cond, cond_true', cond_false', ↓t_nil, ↓t_plain, ↓t_guard, ↓t_again, t_val, t_call, g_true, g_false, a_val, a_call, ↓n_normal, ↓n_ret, ↓n_exit, ↓b_normal, ↓b_ret, ↓b_exit, ↓e_normal, ↓e_ret, e_some, go_sem, ↓reduceIte, Nat.reduceEqDiff, Nat.reduceLT, Nat.reduceSub]
  · have hz : (sprE a b n).1 = [] := by
      unfold sprE at he ⊢
      split
      · rfl
      · rename_i h
        rw [if_neg h] at he
        split
        · rename_i h2; rw [if_pos h2] at he; exact absurd rfl he
        · rfl
    have hl0 : ((sprE a b n).1.length : Int) = 0 := by rw [hz]; rfl
    simp -dsimp only [↓w_seq, ↓w_ops, ↓w_skip, ↓w_ret, ↓w_exit, ↓w_scope, ↓w_block, ↓w_cond, cond_true', cond_false', ↓t_nil, ↓t_plain, ↓t_guard, ↓t_again, t_val, t_call, g_true, g_false, a_val, a_call, ↓n_normal, ↓n_ret, ↓n_exit, ↓b_normal, ↓b_ret, ↓b_exit, ↓e_normal, ↓e_ret, e_some, go_sem, ↓reduceIte, Nat.reduceEqDiff, Nat.reduceLT, Nat.reduceSub, he, hl0, A8_0, A8_1, A8_2, A8_3, A8_4, A8_5, A8_6, A8_7, A8_8, A8_9, A8_10, A8_11, A8_12, A8_14]
    refine call_eq (knows_runs _) ?_
    simp -dsimp only [↓w_seq, ↓w_ops, ↓w_skip, ↓w_ret, ↓w_exit, ↓w_scope, ↓w_block, ↓w_cond, cond_true', cond_false', ↓t_nil, ↓t_plain, ↓t_guard, ↓t_again, t_val, t_call, g_true, g_false, a_val, a_call, ↓n_normal, ↓n_ret, ↓n_exit, ↓b_normal, ↓b_ret, ↓b_exit, ↓e_normal, ↓e_ret, e_some, go_sem, ↓reduceIte, Nat.reduceEqDiff, Nat.reduceLT, Nat.reduceSub]
end Go.Am.Try
