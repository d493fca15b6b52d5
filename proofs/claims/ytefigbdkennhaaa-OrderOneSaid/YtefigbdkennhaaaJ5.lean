/- The machine and what is proved of its runs, part 5: what each part says stands at its head. -/
import Derived.Test.YtefigbdkennhaaaJ4
set_option linter.unusedSimpArgs false
set_option linter.unusedVariables false
set_option linter.unusedSectionVars false
/- Siblings made the program's; the walk of the law OrderOne. -/
namespace Go.Am.Try
open Go Go.Am Go.Proofs Go.Sort Go.Shelf
set_option maxRecDepth 100000
set_option linter.unusedSimpArgs false
set_option linter.unusedVariables false

/-- One element of a slice that is read. -/
theorem sl_at {M : Mem} {s : V} {xs : List Sb} (h : SlR elSb M s xs) {i : Nat} (hi : i < xs.length) : ∃ b o cs ro cap, s = .slice (some (b, o)) xs.length cap ∧ M.get b = some (.cells cs ro) ∧ rdCells cs (o + i * 3) 3 = some (sbC xs[i]) ∧ cs[o + i * 3]? = some (.str xs[i].1) ∧ rdCells cs (o + i * 3 + 1) 2 = some (stC xs[i].2) := by
  obtain ⟨a, cap, rfl, h⟩ := h
  rcases h with h | ⟨b, o, cs, ro, rfl, h1, h2⟩
  · subst h; simp at hi
  · have := h2 i hi
    refine ⟨b, o, cs, ro, cap, rfl, h1, this, ?_, ?_⟩
    · exact rd_cell this 0 (by decide)
    · exact rd_part this 1 2 (by decide)

theorem Own_loop (s : V) (xs : List Sb) (hl : (xs.length + 1) * 32 ≤ maxRoom) (M0 : Mem) (hs : SlR elSb M0 s xs) (hlt : ∀ b, s.blk = some b → xs ≠ [] → b < M0.next) {Q : AExit → Fr → Mem → Prop}
    (hQ : ∀ fr M v, fr.rd 3 = v → Grew M0 M → Hold M0.next M 3 v xs.length (elSb.all xs) → Q (.exit 0) fr M) :
    ∀ (f i : Nat) (fr : Fr) (M : Mem) (v : V), i + f = xs.length → Grew M0 M → Hold M0.next M 3 v i (elSb.all (xs.take i)) → fr.rd 0 = s → fr.rd 3 = v → fr.rd 4 = .int .i64 (i : Int) → WC D2 26 (.loop A_law11_Own_6) fr M Q := by
  have hmx : maxRoom = 17592186044416 := rfl
  intro f
  induction f with
  | zero =>
    intro i fr M v hi hG hH h0 h3 h4
    refine WC.loop (W_of ?_)
    unfold A_law11_Own_6
    obtain ⟨a, cap, rfl, _⟩ := hs
    have : ¬ (i : Int) < xs.length := by omega
    simp -dsimp only [↓w_seq, ↓w_ops, ↓w_skip, ↓w_ret, ↓w_exit, ↓w_scope, ↓w_block, ↓w_cond, cond_true', cond_false', ↓t_nil, ↓t_plain, ↓t_guard, ↓t_again, t_val, t_call, g_true, g_false, a_val, a_call, ↓n_normal, ↓n_ret, ↓n_exit, ↓b_normal, ↓b_ret, ↓b_exit, ↓e_normal, ↓e_ret, e_some, go_sem, ↓reduceIte, Nat.reduceEqDiff, Nat.reduceLT, Nat.reduceSub, A_law11_Own_0, A_law11_Own_1, A_law11_Own_2, A_law11_Own_3, A_law11_Own_4, A_law11_Own_5, A_law11_Own_7, h0, h3, h4, this, decide_false]
    refine hQ _ _ v ?_ hG ?_
    · simp only [go_sem, ↓reduceIte, Nat.reduceEqDiff, Nat.reduceLT, Nat.reduceSub, h3]
    · have : i = xs.length := by omega
      subst this
      rwa [List.take_length] at hH
  | succ f ih =>
    intro i fr M v hi hG hH h0 h3 h4
    refine WC.loop (W_of ?_)
    unfold A_law11_Own_6
    have hil : i < xs.length := by omega
    have hsM : SlR elSb M s xs := hs.keep fun b hb => hG.old b (hlt b hb (by intro h; subst h; simp at hil))
    obtain ⟨b, o, cs, ro, cap, rfl, hM, hr3, hr1, hr2⟩ := sl_at hsM hil
    have h1 : (i : Int) < xs.length := by omega
    have h2 : i + 1 ≤ xs.length := by omega
    have h5 : (i : Int) + 1 = ((i + 1 : Nat) : Int) := by omega
    have hn := hG.next
    have htk : elSb.all (xs.take (i + 1)) = elSb.all (xs.take i) ++ sbC xs[i] := by rw [List.take_add_one, List.getElem?_eq_getElem hil]; simp only [Elem.all, elSb, Option.toList, List.flatMap_append, List.flatMap_cons, List.flatMap_nil, List.append_nil]
    have hH3 : Hold M0.next (M.push (.cells (sbC xs[i]) false)) 3 v i (elSb.all (xs.take i)) := hH.keep (fun c hc => Mem.get_push_ne _ _ (by have := hH.blk_le hc; omega)) (by simp)
    obtain ⟨M4, hap, hH4, hn4, ho4⟩ := hH3.append (bytes := 32) (m := 1) (x := .slice (some (M.next, 0)) 1 (.exact 1)) (new := sbC xs[i]) (by simp; omega) rfl
      (by
        have := read_all (Mem.get_push_same M (.cells (sbC xs[i]) false))
        simp only [srcCells, beq_dec, Nat.one_mul, Nat.reduceEqDiff, decide_false, cond_false]
        exact this) (by omega) rfl (by omega) rfl
    have hb4 : b < M.next := Nat.lt_of_lt_of_le (hlt b rfl (by intro h; subst h; simp at hil)) hn
    simp only [sbC] at hap
    simp -dsimp only [↓w_seq, ↓w_ops, ↓w_skip, ↓w_ret, ↓w_exit, ↓w_scope, ↓w_block, ↓w_cond, cond_true', cond_false', ↓t_nil, ↓t_plain, ↓t_guard, ↓t_again, t_val, t_call, g_true, g_false, a_val, a_call, ↓n_normal, ↓n_ret, ↓n_exit, ↓b_normal, ↓b_ret, ↓b_exit, ↓e_normal, ↓e_ret, e_some, go_sem, ↓reduceIte, Nat.reduceEqDiff, Nat.reduceLT, Nat.reduceSub, A_law11_Own_0, A_law11_Own_1, A_law11_Own_2, A_law11_Own_3, A_law11_Own_4, A_law11_Own_5, A_law11_Own_7, h0, h3, h4, h1, h2, vload, vptr, hM, Mem.read, hr1, hr2, stC, Nat.add_zero, fillCells, repl, V.cells, List.length_cons, List.length_nil, Nat.zero_add, wrCells, List.append_nil, Nat.reduceAdd, Nat.reduceLeDiff, decide_true, hap, IntWalk.i64_in ((i : Int) + 1) (by omega)]
    simp only [Mem.next_push] at hH4 hn4 ho4
    refine ih (i + 1) _ M4 (.slice (some (M.next + 1, 0)) (i + 1) (.upto 3)) (by omega) ⟨by omega, fun c hc => ?_⟩ (by rw [htk]; exact hH4) ?_ ?_ ?_
    · rw [ho4 c (by omega) (fun e => by have := (hH.blk_le e).1; omega), Mem.get_push_ne _ _ (by omega)]
      exact hG.old c hc
    all_goals simp only [go_sem, ↓reduceIte, Nat.reduceEqDiff, Nat.reduceLT, Nat.reduceSub, h0, h5, Mem.next_push]

theorem Own_runs (s : V) (xs : List Sb) (hl : (xs.length + 1) * 32 ≤ maxRoom) (M : Mem) (hs : SlR elSb M s xs) (hlt : ∀ b, s.blk = some b → xs ≠ [] → b < M.next) :
    Runs D2 F_law11_Own [s] M fun v M' => Grew M M' ∧ Hold M.next M' 3 v xs.length (elSb.all xs) := by
  refine Runs.walk (F := A_law11_Own) rfl (by rfl) (by rfl) ?_
  unfold A_law11_Own
  simp -dsimp only [↓w_seq, ↓w_ops, ↓w_skip, ↓w_ret, ↓w_exit, ↓w_scope, ↓w_block, ↓w_cond, cond_true', cond_false', ↓t_nil, ↓t_plain, ↓t_guard, ↓t_again, t_val, t_call, g_true, g_false, a_val, a_call, ↓n_normal, ↓n_ret, ↓n_exit, ↓b_normal, ↓b_ret, ↓b_exit, ↓e_normal, ↓e_ret, e_some, go_sem, ↓reduceIte, Nat.reduceEqDiff, Nat.reduceLT, Nat.reduceSub, A_law11_Own_0, A_law11_Own_1, A_law11_Own_2, A_law11_Own_3, A_law11_Own_4, A_law11_Own_5, A_law11_Own_7]
  refine Own_loop s xs hl M hs hlt ?_ xs.length 0 _ M (.slice none 0 (.exact 0)) (by omega) (Grew.refl M) (by simpa [Elem.all] using Hold.nil) ?_ ?_ ?_
  · intro fr M' v h3 hG hH
    simp -dsimp only [↓w_seq, ↓w_ops, ↓w_skip, ↓w_ret, ↓w_exit, ↓w_scope, ↓w_block, ↓w_cond, cond_true', cond_false', ↓t_nil, ↓t_plain, ↓t_guard, ↓t_again, t_val, t_call, g_true, g_false, a_val, a_call, ↓n_normal, ↓n_ret, ↓n_exit, ↓b_normal, ↓b_ret, ↓b_exit, ↓e_normal, ↓e_ret, e_some, go_sem, ↓reduceIte, Nat.reduceEqDiff, Nat.reduceLT, Nat.reduceSub, A_law11_Own_0, A_law11_Own_1, A_law11_Own_2, A_law11_Own_3, A_law11_Own_4, A_law11_Own_5, A_law11_Own_7, h3]
    exact ⟨hG, hH⟩
  · simp only [go_sem, ↓reduceIte, Nat.reduceEqDiff, Nat.reduceLT, Nat.reduceSub]
  · simp only [go_sem, ↓reduceIte, Nat.reduceEqDiff, Nat.reduceLT, Nat.reduceSub]
  · simp only [go_sem, ↓reduceIte, Nat.reduceEqDiff, Nat.reduceLT, Nat.reduceSub]; rfl

set_option maxHeartbeats 2000000 in
theorem order_one_runs (a b c : Sb) (M : Mem) : Runs D2 F_law11_OrderOne [.agg (sbC a), .agg (sbC b), .agg (sbC c)] M fun v _ => v = .bool true := by
  refine Runs.walk (F := A_law11_OrderOne) rfl (by rfl) (by rfl) ?_
  unfold A_law11_OrderOne
  have key : ∀ x : Sb, V.cells (.agg (sbC x)) = sbC x := fun _ => rfl
  have hr : ∀ x : Sb, rdCells (sbC x) 0 3 = some (sbC x) := fun _ => rfl
  have hf : fillCells (repl 3 [.str [], .int .i64 0, .int .i64 0]) [(0, 3, .agg (sbC a)), (3, 3, .agg (sbC b)), (6, 3, .agg (sbC c))] = some (elSb.all [a, b, c]) := rfl
  simp only [repl, List.append_nil, List.cons_append, List.nil_append] at hf
  simp -dsimp only [↓w_seq, ↓w_ops, ↓w_skip, ↓w_ret, ↓w_exit, ↓w_scope, ↓w_block, ↓w_cond, cond_true', cond_false', ↓t_nil, ↓t_plain, ↓t_guard, ↓t_again, t_val, t_call, g_true, g_false, a_val, a_call, ↓n_normal, ↓n_ret, ↓n_exit, ↓b_normal, ↓b_ret, ↓b_exit, ↓e_normal, ↓e_ret, e_some, go_sem, ↓reduceIte, Nat.reduceEqDiff, Nat.reduceLT, Nat.reduceSub, A_law11_OrderOne_0, A_law11_OrderOne_1, A_law11_OrderOne_2, A_law11_OrderOne_3, A_law11_OrderOne_4, A_law11_OrderOne_5, A_law11_OrderOne_6, key, hr, hf, Mem.next_push, vload, Mem.read, Mem.get_push, Nat.left_eq_add, Nat.add_eq_left, Nat.add_left_cancel_iff, Nat.add_right_cancel_iff, Nat.reduceAdd, Nat.add_zero, Nat.zero_add, Nat.add_assoc, reduceCtorEq, Nat.succ_ne_self, Nat.one_ne_zero]
  have g1 : ∀ x, x < M.next + 3 → ((((M.push (.cells (sbC a) false)).push (.cells (sbC b) false)).push (.cells (sbC c) false)).push (.cells (elSb.all [a, b, c]) false)).get x = (((M.push (.cells (sbC a) false)).push (.cells (sbC b) false)).push (.cells (sbC c) false)).get x := fun x hx => Mem.get_push_ne _ _ (by simp; omega)
  have g2 : (((M.push (.cells (sbC a) false)).push (.cells (sbC b) false)).push (.cells (sbC c) false)).get M.next = some (.cells (sbC a) false) := by
    rw [Mem.get_push_ne _ _ (by simp; omega), Mem.get_push_ne _ _ (by simp), Mem.get_push_same]
  have g3 : (((M.push (.cells (sbC a) false)).push (.cells (sbC b) false)).push (.cells (sbC c) false)).get (M.next + 1) = some (.cells (sbC b) false) := by
    rw [Mem.get_push_ne _ _ (by simp)]; exact Mem.get_push_same (M.push _) _
  have g4 : ((((M.push (.cells (sbC a) false)).push (.cells (sbC b) false)).push (.cells (sbC c) false)).push (.cells (elSb.all [a, b, c]) false)).get (M.next + 3) = some (.cells (elSb.all [a, b, c]) false) := Mem.get_push_same (((M.push _).push _).push _) _
  have g5 : ((((M.push (.cells (sbC a) false)).push (.cells (sbC b) false)).push (.cells (sbC c) false)).push (.cells (elSb.all [a, b, c]) false)).next = M.next + 4 := rfl
  have p1 := (g1 M.next (by omega)).trans g2
  have p2 := (g1 (M.next + 1) (by omega)).trans g3
  generalize (((M.push (.cells (sbC a) false)).push (.cells (sbC b) false)).push (.cells (sbC c) false)).push (.cells (elSb.all [a, b, c]) false) = M1 at *
  clear g1 g2 g3
  refine call_of (Own_runs (.slice (some (M.next + 3, 0)) 3 (.exact 3)) [a, b, c] (show (3 + 1) * 32 ≤ 17592186044416 from by decide) M1 ⟨_, _, rfl, .inr ⟨_, 0, _, false, rfl, g4, fun i hi => by rw [Nat.zero_add]; exact elSb.rd _ i hi⟩⟩ (fun b hb _ => by simp only [V.blk, Option.some.injEq] at hb; omega)) ?_
  rintro v M2 ⟨hG, hH⟩
  obtain ⟨d, rfl, hM, _, hd1, hd2⟩ := hH.addr (i := 0) (show 0 < 3 by omega)
  have r0 : rdCells (elSb.all [a, b, c]) 0 3 = some (sbC a) := elSb.rd [a, b, c] 0 (show 0 < 3 by omega)
  have r1 : rdCells (elSb.all [a, b, c]) 3 3 = some (sbC b) := elSb.rd [a, b, c] 1 (show 1 < 3 by omega)
  have r2 : rdCells (elSb.all [a, b, c]) 6 3 = some (sbC c) := elSb.rd [a, b, c] 2 (show 2 < 3 by omega)
  have hF : ∀ M', Grew M2 M' → M'.get d = some (.cells (elSb.all [a, b, c]) false) ∧ M'.get M.next = some (.cells (sbC a) false) ∧ M'.get (M.next + 1) = some (.cells (sbC b) false) := fun M' h =>
    ⟨(h.old d hd2).trans hM, (h.old _ (by have := hG.next; omega)).trans ((hG.old _ (by omega)).trans p1), (h.old _ (by have := hG.next; omega)).trans ((hG.old _ (by omega)).trans p2)⟩
  clear hH hM p1 p2
  have hl3 : [a, b, c].length = 3 := rfl
  have n0 : asNat (.int .i64 0) = some 0 := rfl
  have n1 : asNat (.int .i64 1) = some 1 := rfl
  have n2 : asNat (.int .i64 2) = some 2 := rfl
  obtain ⟨f1, f2, f3⟩ := hF M2 (Grew.refl _)
  simp -dsimp only [↓w_seq, ↓w_ops, ↓w_skip, ↓w_ret, ↓w_exit, ↓w_scope, ↓w_block, ↓w_cond, cond_true', cond_false', ↓t_nil, ↓t_plain, ↓t_guard, ↓t_again, t_val, t_call, g_true, g_false, a_val, a_call, ↓n_normal, ↓n_ret, ↓n_exit, ↓b_normal, ↓b_ret, ↓b_exit, ↓e_normal, ↓e_ret, e_some, go_sem, ↓reduceIte, Nat.reduceEqDiff, Nat.reduceLT, Nat.reduceSub, A_law11_OrderOne_0, A_law11_OrderOne_1, A_law11_OrderOne_2, A_law11_OrderOne_3, A_law11_OrderOne_4, A_law11_OrderOne_5, A_law11_OrderOne_6, hl3, n0, n1, n2, Nat.reduceAdd, Nat.reduceLeDiff, Nat.zero_add, Nat.zero_mul, Nat.reduceMul, vload, Mem.read, f1, r0, r1, r2]
  refine call_of (before_runs a b M2) ?_
  intro v M3 hv
  rw [hv.1]
  have k3 := hv.2
  obtain ⟨f1, f2, f3⟩ := hF M3 k3
  simp -dsimp only [↓w_seq, ↓w_ops, ↓w_skip, ↓w_ret, ↓w_exit, ↓w_scope, ↓w_block, ↓w_cond, cond_true', cond_false', ↓t_nil, ↓t_plain, ↓t_guard, ↓t_again, t_val, t_call, g_true, g_false, a_val, a_call, ↓n_normal, ↓n_ret, ↓n_exit, ↓b_normal, ↓b_ret, ↓b_exit, ↓e_normal, ↓e_ret, e_some, go_sem, ↓reduceIte, Nat.reduceEqDiff, Nat.reduceLT, Nat.reduceSub, A_law11_OrderOne_0, A_law11_OrderOne_1, A_law11_OrderOne_2, A_law11_OrderOne_3, A_law11_OrderOne_4, A_law11_OrderOne_5, A_law11_OrderOne_6, hl3, n0, n1, n2, Nat.reduceAdd, Nat.reduceLeDiff, Nat.zero_add, Nat.zero_mul, Nat.reduceMul, vload, Mem.read, f1, r0, r1, r2]
  refine call_of (before_runs b a M3) ?_
  intro v M4 hv
  rw [hv.1]
  have k4 := hv.2
  obtain ⟨f1, f2, f3⟩ := hF M4 (k3.trans k4)
  rw [bef_is, bef_is]
  have hab : ltSb a b = true → ltSb b a = false := fun h => by
    cases hq : ltSb b a with
    | false => rfl
    | true => have := swo_Sb.trans _ _ _ h hq; rw [swo_Sb.irrefl] at this; cases this
  have haa : befSb a a = false := by rw [bef_is]; exact swo_Sb.irrefl a
  have hcab : (sbC a) = [.str a.1, .int .i64 a.2.1, .int .i64 a.2.2] := rfl
  have hcbb : (sbC b) = [.str b.1, .int .i64 b.2.1, .int .i64 b.2.2] := rfl
  have heq : decide (a.1 = b.1 ∧ a.2.1 = b.2.1 ∧ a.2.2 = b.2.2) = decide (a = b) := by
    by_cases h : a = b
    · subst h; simp
    · rw [decide_eq_false h, decide_eq_false]
      rintro ⟨h1, h2, h3⟩
      exact h (Prod.ext h1 (Prod.ext h2 h3))
  have hvs : vsame ⟨true, [.str, .int .i64, .int .i64]⟩ (.agg (sbC a)) (.agg (sbC b)) = some (decide (a = b)) := by
    rw [hcab, hcbb, same_sib, heq]
  have hirr : ∀ x, ltSb x x = false := swo_Sb.irrefl
  have mid : ∀ (p q : Bool), ltSb a b = p → ltSb b a = q → (p && q) = false → decide (a = b) = (!p && !q) := by
    intro p q hp hq hpq
    cases p <;> cases q
    · simp [tot_Sb a b hp hq]
    · have : a ≠ b := fun e => by subst e; rw [hirr] at hq; cases hq
      simp [this]
    · have : a ≠ b := fun e => by subst e; rw [hirr] at hp; cases hp
      simp [this]
    · cases hpq
  cases hp : ltSb a b <;> cases hq : ltSb b a
  · have hd := mid false false hp hq rfl
    rw [hd] at hvs
    simp -dsimp only [↓w_seq, ↓w_ops, ↓w_skip, ↓w_ret, ↓w_exit, ↓w_scope, ↓w_block, ↓w_cond, cond_true', cond_false', ↓t_nil, ↓t_plain, ↓t_guard, ↓t_again, t_val, t_call, g_true, g_false, a_val, a_call, ↓n_normal, ↓n_ret, ↓n_exit, ↓b_normal, ↓b_ret, ↓b_exit, ↓e_normal, ↓e_ret, e_some, go_sem, ↓reduceIte, Nat.reduceEqDiff, Nat.reduceLT, Nat.reduceSub, A_law11_OrderOne_0, A_law11_OrderOne_1, A_law11_OrderOne_2, A_law11_OrderOne_3, A_law11_OrderOne_4, A_law11_OrderOne_5, A_law11_OrderOne_6, hl3, n0, n1, n2, Nat.reduceAdd, Nat.reduceLeDiff, Nat.zero_add, Nat.zero_mul, Nat.reduceMul, vload, Mem.read, f1, f2, f3, r0, r1, r2, hr, hvs, Bool.and_self, Bool.and_true, Bool.and_false, Bool.true_and]
    refine call_of (before_runs a a M4) ?_
    intro v M5 hv
    rw [hv.1]
    have k5 := hv.2
    rw [haa]
    simp -dsimp only [↓w_seq, ↓w_ops, ↓w_skip, ↓w_ret, ↓w_exit, ↓w_scope, ↓w_block, ↓w_cond, cond_true', cond_false', ↓t_nil, ↓t_plain, ↓t_guard, ↓t_again, t_val, t_call, g_true, g_false, a_val, a_call, ↓n_normal, ↓n_ret, ↓n_exit, ↓b_normal, ↓b_ret, ↓b_exit, ↓e_normal, ↓e_ret, e_some, go_sem, ↓reduceIte, Nat.reduceEqDiff, Nat.reduceLT, Nat.reduceSub, A_law11_OrderOne_0, A_law11_OrderOne_1, A_law11_OrderOne_2, A_law11_OrderOne_3, A_law11_OrderOne_4, A_law11_OrderOne_5, A_law11_OrderOne_6]
    refine call_eq (knows_runs _) ?_
    simp -dsimp only [↓w_seq, ↓w_ops, ↓w_skip, ↓w_ret, ↓w_exit, ↓w_scope, ↓w_block, ↓w_cond, cond_true', cond_false', ↓t_nil, ↓t_plain, ↓t_guard, ↓t_again, t_val, t_call, g_true, g_false, a_val, a_call, ↓n_normal, ↓n_ret, ↓n_exit, ↓b_normal, ↓b_ret, ↓b_exit, ↓e_normal, ↓e_ret, e_some, go_sem, ↓reduceIte, Nat.reduceEqDiff, Nat.reduceLT, Nat.reduceSub]
  · have hd := mid false true hp hq rfl
    rw [hd] at hvs
    simp -dsimp only [↓w_seq, ↓w_ops, ↓w_skip, ↓w_ret, ↓w_exit, ↓w_scope, ↓w_block, ↓w_cond, cond_true', cond_false', ↓t_nil, ↓t_plain, ↓t_guard, ↓t_again, t_val, t_call, g_true, g_false, a_val, a_call, ↓n_normal, ↓n_ret, ↓n_exit, ↓b_normal, ↓b_ret, ↓b_exit, ↓e_normal, ↓e_ret, e_some, go_sem, ↓reduceIte, Nat.reduceEqDiff, Nat.reduceLT, Nat.reduceSub, A_law11_OrderOne_0, A_law11_OrderOne_1, A_law11_OrderOne_2, A_law11_OrderOne_3, A_law11_OrderOne_4, A_law11_OrderOne_5, A_law11_OrderOne_6, hl3, n0, n1, n2, Nat.reduceAdd, Nat.reduceLeDiff, Nat.zero_add, Nat.zero_mul, Nat.reduceMul, vload, Mem.read, f1, f2, f3, r0, r1, r2, hr, hvs, Bool.and_self, Bool.and_true, Bool.and_false, Bool.true_and]
    refine call_of (before_runs a a M4) ?_
    intro v M5 hv
    rw [hv.1]
    have k5 := hv.2
    rw [haa]
    simp -dsimp only [↓w_seq, ↓w_ops, ↓w_skip, ↓w_ret, ↓w_exit, ↓w_scope, ↓w_block, ↓w_cond, cond_true', cond_false', ↓t_nil, ↓t_plain, ↓t_guard, ↓t_again, t_val, t_call, g_true, g_false, a_val, a_call, ↓n_normal, ↓n_ret, ↓n_exit, ↓b_normal, ↓b_ret, ↓b_exit, ↓e_normal, ↓e_ret, e_some, go_sem, ↓reduceIte, Nat.reduceEqDiff, Nat.reduceLT, Nat.reduceSub, A_law11_OrderOne_0, A_law11_OrderOne_1, A_law11_OrderOne_2, A_law11_OrderOne_3, A_law11_OrderOne_4, A_law11_OrderOne_5, A_law11_OrderOne_6]
    refine call_eq (knows_runs _) ?_
    simp -dsimp only [↓w_seq, ↓w_ops, ↓w_skip, ↓w_ret, ↓w_exit, ↓w_scope, ↓w_block, ↓w_cond, cond_true', cond_false', ↓t_nil, ↓t_plain, ↓t_guard, ↓t_again, t_val, t_call, g_true, g_false, a_val, a_call, ↓n_normal, ↓n_ret, ↓n_exit, ↓b_normal, ↓b_ret, ↓b_exit, ↓e_normal, ↓e_ret, e_some, go_sem, ↓reduceIte, Nat.reduceEqDiff, Nat.reduceLT, Nat.reduceSub]
  · have hd := mid true false hp hq rfl
    rw [hd] at hvs
    simp -dsimp only [↓w_seq, ↓w_ops, ↓w_skip, ↓w_ret, ↓w_exit, ↓w_scope, ↓w_block, ↓w_cond, cond_true', cond_false', ↓t_nil, ↓t_plain, ↓t_guard, ↓t_again, t_val, t_call, g_true, g_false, a_val, a_call, ↓n_normal, ↓n_ret, ↓n_exit, ↓b_normal, ↓b_ret, ↓b_exit, ↓e_normal, ↓e_ret, e_some, go_sem, ↓reduceIte, Nat.reduceEqDiff, Nat.reduceLT, Nat.reduceSub, A_law11_OrderOne_0, A_law11_OrderOne_1, A_law11_OrderOne_2, A_law11_OrderOne_3, A_law11_OrderOne_4, A_law11_OrderOne_5, A_law11_OrderOne_6, hl3, n0, n1, n2, Nat.reduceAdd, Nat.reduceLeDiff, Nat.zero_add, Nat.zero_mul, Nat.reduceMul, vload, Mem.read, f1, f2, f3, r0, r1, r2, hr, hvs, Bool.and_self, Bool.and_true, Bool.and_false, Bool.true_and]
    refine call_of (before_runs a a M4) ?_
    intro v M5 hv
    rw [hv.1]
    have k5 := hv.2
    rw [haa]
    obtain ⟨f1, f2, f3⟩ := hF M5 ((k3.trans k4).trans k5)
    simp -dsimp only [↓w_seq, ↓w_ops, ↓w_skip, ↓w_ret, ↓w_exit, ↓w_scope, ↓w_block, ↓w_cond, cond_true', cond_false', ↓t_nil, ↓t_plain, ↓t_guard, ↓t_again, t_val, t_call, g_true, g_false, a_val, a_call, ↓n_normal, ↓n_ret, ↓n_exit, ↓b_normal, ↓b_ret, ↓b_exit, ↓e_normal, ↓e_ret, e_some, go_sem, ↓reduceIte, Nat.reduceEqDiff, Nat.reduceLT, Nat.reduceSub, A_law11_OrderOne_0, A_law11_OrderOne_1, A_law11_OrderOne_2, A_law11_OrderOne_3, A_law11_OrderOne_4, A_law11_OrderOne_5, A_law11_OrderOne_6, hl3, n0, n1, n2, Nat.reduceAdd, Nat.reduceLeDiff, Nat.zero_add, Nat.zero_mul, Nat.reduceMul, vload, Mem.read, f1, r0, r1, r2]
    refine call_of (before_runs b c M5) ?_
    intro v M6 hv
    rw [hv.1]
    have k6 := hv.2
    obtain ⟨f1, f2, f3⟩ := hF M6 (((k3.trans k4).trans k5).trans k6)
    rw [bef_is]
    cases hbc : ltSb b c with
    | false =>
      simp -dsimp only [↓w_seq, ↓w_ops, ↓w_skip, ↓w_ret, ↓w_exit, ↓w_scope, ↓w_block, ↓w_cond, cond_true', cond_false', ↓t_nil, ↓t_plain, ↓t_guard, ↓t_again, t_val, t_call, g_true, g_false, a_val, a_call, ↓n_normal, ↓n_ret, ↓n_exit, ↓b_normal, ↓b_ret, ↓b_exit, ↓e_normal, ↓e_ret, e_some, go_sem, ↓reduceIte, Nat.reduceEqDiff, Nat.reduceLT, Nat.reduceSub, A_law11_OrderOne_0, A_law11_OrderOne_1, A_law11_OrderOne_2, A_law11_OrderOne_3, A_law11_OrderOne_4, A_law11_OrderOne_5, A_law11_OrderOne_6]
      refine call_eq (knows_runs _) ?_
      simp -dsimp only [↓w_seq, ↓w_ops, ↓w_skip, ↓w_ret, ↓w_exit, ↓w_scope, ↓w_block, ↓w_cond, cond_true', cond_false', ↓t_nil, ↓t_plain, ↓t_guard, ↓t_again, t_val, t_call, g_true, g_false, a_val, a_call, ↓n_normal, ↓n_ret, ↓n_exit, ↓b_normal, ↓b_ret, ↓b_exit, ↓e_normal, ↓e_ret, e_some, go_sem, ↓reduceIte, Nat.reduceEqDiff, Nat.reduceLT, Nat.reduceSub]
    | true =>
      simp -dsimp only [↓w_seq, ↓w_ops, ↓w_skip, ↓w_ret, ↓w_exit, ↓w_scope, ↓w_block, ↓w_cond, cond_true', cond_false', ↓t_nil, ↓t_plain, ↓t_guard, ↓t_again, t_val, t_call, g_true, g_false, a_val, a_call, ↓n_normal, ↓n_ret, ↓n_exit, ↓b_normal, ↓b_ret, ↓b_exit, ↓e_normal, ↓e_ret, e_some, go_sem, ↓reduceIte, Nat.reduceEqDiff, Nat.reduceLT, Nat.reduceSub, A_law11_OrderOne_0, A_law11_OrderOne_1, A_law11_OrderOne_2, A_law11_OrderOne_3, A_law11_OrderOne_4, A_law11_OrderOne_5, A_law11_OrderOne_6, hl3, n0, n1, n2, Nat.reduceAdd, Nat.reduceLeDiff, Nat.zero_add, Nat.zero_mul, Nat.reduceMul, vload, Mem.read, f1, r0, r1, r2]
      refine call_of (before_runs a c M6) ?_
      intro v M7 hv
      rw [hv.1, bef_is, swo_Sb.trans _ _ _ hp hbc]
      simp -dsimp only [↓w_seq, ↓w_ops, ↓w_skip, ↓w_ret, ↓w_exit, ↓w_scope, ↓w_block, ↓w_cond, cond_true', cond_false', ↓t_nil, ↓t_plain, ↓t_guard, ↓t_again, t_val, t_call, g_true, g_false, a_val, a_call, ↓n_normal, ↓n_ret, ↓n_exit, ↓b_normal, ↓b_ret, ↓b_exit, ↓e_normal, ↓e_ret, e_some, go_sem, ↓reduceIte, Nat.reduceEqDiff, Nat.reduceLT, Nat.reduceSub, A_law11_OrderOne_0, A_law11_OrderOne_1, A_law11_OrderOne_2, A_law11_OrderOne_3, A_law11_OrderOne_4, A_law11_OrderOne_5, A_law11_OrderOne_6]
      refine call_eq (knows_runs _) ?_
      simp -dsimp only [↓w_seq, ↓w_ops, ↓w_skip, ↓w_ret, ↓w_exit, ↓w_scope, ↓w_block, ↓w_cond, cond_true', cond_false', ↓t_nil, ↓t_plain, ↓t_guard, ↓t_again, t_val, t_call, g_true, g_false, a_val, a_call, ↓n_normal, ↓n_ret, ↓n_exit, ↓b_normal, ↓b_ret, ↓b_exit, ↓e_normal, ↓e_ret, e_some, go_sem, ↓reduceIte, Nat.reduceEqDiff, Nat.reduceLT, Nat.reduceSub]
  · rw [hab hp] at hq; cases hq
end Go.Am.Try
