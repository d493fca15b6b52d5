/- The machine and what is proved of its runs, part 5: what each part says stands at its head. -/
import Derived.Test.YtefigbdkennhaaaJ4
set_option linter.unusedSimpArgs false
set_option linter.unusedVariables false
set_option linter.unusedSectionVars false
/- Siblings made the program's; the walk of the law OrderOne. -/
namespace Go.Am.Try
open Go Go.Am Go.Proofs Go.Sort Go.Shelf
set_option maxRecDepth 100000
set_option linter.unusedSimpArgs false
set_option linter.unusedVariables false

/-- One element of a slice that is read. -/
theorem sl_at {M : Mem} {s : V} {xs : List Sb} (h : SlR elSb M s xs) {i : Nat} (hi : i < xs.length) : ∃ b o cs ro cap, s = .slice (some (b, o)) xs.length cap ∧ M.get b = some (.cells cs ro) ∧ rdCells cs (o + i * 3) 3 = some (sbC xs[i]) ∧ cs[o + i * 3]? = some (.str xs[i].1) ∧ rdCells cs (o + i * 3 + 1) 2 = some (stC xs[i].2) := by
  obtain ⟨a, cap, rfl, h⟩ := h
  rcases h with h | ⟨b, o, cs, ro, rfl, h1, h2⟩
  · subst h; simp at hi
  · have := h2 i hi
    refine ⟨b, o, cs, ro, cap, rfl, h1, this, ?_, ?_⟩
    · exact rd_cell this 0 (by decide)
    · exact rd_part this 1 2 (by decide)

theorem Own_loop (s : V) (xs : List Sb) (hl : (xs.length + 1) * 32 ≤ maxRoom) (M0 : Mem) (hs : SlR elSb M0 s xs) (hlt : ∀ b, s.blk = some b → xs ≠ [] → b < M0.next) {Q : AExit → Fr → Mem → Prop}
    (hQ : ∀ fr M v, fr.rd 3 = v → Grew M0 M → Hold M0.next M 3 v xs.length (elSb.all xs) → Q (.exit 0) fr M) :
    ∀ (f i : Nat) (fr : Fr) (M : Mem) (v : V), i + f = xs.length → Grew M0 M → Hold M0.next M 3 v i (elSb.all (xs.take i)) → fr.rd 0 = s → fr.rd 3 = v → fr.rd 4 = .int .i64 (i : Int) → WC D2 26 (.loop A_law11_Own_6) fr M Q := by
  have hmx : maxRoom = 17592186044416 := rfl
  intro f
  induction f with
  | zero =>
    intro i fr M v hi hG hH h0 h3 h4
    refine WC.loop (W_of ?_)
    unfold A_law11_Own_6
    obtain ⟨a, cap, rfl, _⟩ := hs
    have : ¬ (i : Int) < xs.length := by omega
    simp -dsimp only [↓w_seq, ↓w_ops, ↓w_skip, ↓w_ret, ↓w_exit, ↓w_scope, ↓w_block, ↓w_cond, cond_true', cond_false', ↓t_nil, ↓t_plain, ↓t_guard, ↓t_again, t_val, t_call, g_true, g_false, a_val, a_call, ↓n_normal, ↓n_ret, ↓n_exit, ↓b_normal, ↓b_ret, ↓b_exit, ↓e_normal, ↓e_ret, e_some, go_sem, ↓reduceIte, Nat.reduceEqDiff, Nat.reduceLT, Nat.reduceSub, A_law11_Own_0, A_law11_Own_1, A_law11_Own_2, A_law11_Own_3, A_law11_Own_4, A_law11_Own_5, A_law11_Own_7, h0, h3, h4, this, decide_false]
    refine hQ _ _ v ?_ hG ?_
    · simp only [go_sem, ↓reduceIte, Nat.reduceEqDiff, Nat.reduceLT, Nat.reduceSub, h3]
    · have : i = xs.length := by omega
      subst this
      rwa [List.take_length] at hH
  | succ f ih =>
    intro i fr M v hi hG hH h0 h3 h4
    refine WC.loop (W_of ?_)
    unfold A_law11_Own_6
    have hil : i < xs.length := by omega
    have hsM : SlR elSb M s xs := hs.keep fun b hb => hG.old b (hlt b hb (by intro h; subst h; simp at hil))
    obtain ⟨b, o, cs, ro, cap, rfl, hM, hr3, hr1, hr2⟩ := sl_at hsM hil
    have h1 : (i : Int) < xs.length := by omega
    have h2 : i + 1 ≤ xs.length := by omega
    have h5 : (i : Int) + 1 = ((i + 1 : Nat) : Int) := by omega
    have hn := hG.next
    have htk : elSb.all (xs.take (i + 1)) = elSb.all (xs.take i) ++ sbC xs[i] := by rw [List.take_add_one, List.getElem?_eq_getElem hil]; simp only [Elem.all, elSb, Option.toList, List.flatMap_append, List.flatMap_cons, List.flatMap_nil, List.append_nil]
    have hH3 : Hold M0.next (M.push (.cells (sbC xs[i]) false)) 3 v i (elSb.all (xs.take i)) := hH.keep (fun c hc => Mem.get_push_ne _ _ (by have := hH.blk_le hc; omega)) (by simp)
    obtain ⟨M4, hap, hH4, hn4, ho4⟩ := hH3.append (bytes := 32) (m := 1) (x := .slice (some (M.next, 0)) 1 (.exact 1)) (new := sbC xs[i]) (by simp; omega) rfl
      (by
        have := read_all (Mem.get_push_same M (.cells (sbC xs[i]) false))
        simp only [srcCells, beq_dec, Nat.one_mul, Nat.reduceEqDiff, decide_false, cond_false]
        exact this) (by omega) rfl (by omega) rfl
    have hb4 : b < M.next := Nat.lt_of_lt_of_le (hlt b rfl (by intro h; subst h; simp at hil)) hn
    simp only [sbC] at hap
    simp -dsimp only [↓w_seq, ↓w_ops, ↓w_skip, ↓w_ret, ↓w_exit, ↓w_scope, ↓w_block, ↓w_cond, cond_true', cond_false', ↓t_nil, ↓t_plain, ↓t_guard, ↓t_again, t_val, t_call, g_true, g_false, a_val, a_call, ↓n_normal, ↓n_ret, ↓n_exit, ↓b_normal, ↓b_ret, ↓b_exit, ↓e_normal, ↓e_ret, e_some, go_sem, ↓reduceIte, Nat.reduceEqDiff, Nat.reduceLT, Nat.reduceSub, A_law11_Own_0, A_law11_Own_1, A_law11_Own_2, A_law11_Own_3, A_law11_Own_4, A_law11_Own_5, A_law11_Own_7, h0, h3, h4, h1, h2, vload, vptr, hM, Mem.read, hr1, hr2, stC, Nat.add_zero, fillCells, repl, V.cells, List.length_cons, List.length_nil, Nat.zero_add, wrCells, List.append_nil, Nat.reduceAdd, Nat.reduceLeDiff, decide_true, hap, IntWalk.i64_in ((i : Int) + 1) (by omega)]
    simp only [Mem.next_push] at hH4 hn4 ho4
    refine ih (i + 1) _ M4 (.slice (some (M.next + 1, 0)) (i + 1) (.upto 3)) (by omega) ⟨by omega, fun c hc => ?_⟩ (by rw [htk]; exact hH4) ?_ ?_ ?_
    · rw [ho4 c (by omega) (fun e => by have := (hH.blk_le e).1; omega), Mem.get_push_ne _ _ (by omega)]
      exact hG.old c hc
    all_goals simp only [go_sem, ↓reduceIte, Nat.reduceEqDiff, Nat.reduceLT, Nat.reduceSub, h0, h5, Mem.next_push]

theorem Own_runs (s : V) (xs : List Sb) (hl : (xs.length + 1) * 32 ≤ maxRoom) (M : Mem) (hs : SlR elSb M s xs) (hlt : ∀ b, s.blk = some b → xs ≠ [] → b < M.next) :
    Runs D2 F_law11_Own [s] M fun v M' => Grew M M' ∧ Hold M.next M' 3 v xs.length (elSb.all xs) := by
  refine Runs.walk (F := A_law11_Own) rfl (by rfl) (by rfl) ?_
  unfold A_law11_Own
  simp -dsimp only [↓w_seq, ↓w_ops, ↓w_skip, ↓w_ret, ↓w_exit, ↓w_scope, ↓w_block, ↓w_cond, cond_true', cond_false', ↓t_nil, ↓t_plain, ↓t_guard, ↓t_again, t_val, t_call, g_true, g_false, a_val, a_call, ↓n_normal, ↓n_ret, ↓n_exit, ↓b_normal, ↓b_ret, ↓b_exit, ↓e_normal, ↓e_ret, e_some, go_sem, ↓reduceIte, Nat.reduceEqDiff, Nat.reduceLT, Nat.reduceSub, A_law11_Own_0, A_law11_Own_1, A_law11_Own_2, A_law11_Own_3, A_law11_Own_4, A_law11_Own_5, A_law11_Own_7]
  refine Own_loop s xs hl M hs hlt ?_ xs.length 0 _ M (.slice none 0 (.exact 0)) (by omega) (Grew.refl M) (by simpa [Elem.all] using Hold.nil) ?_ ?_ ?_
  · intro fr M' v h3 hG hH
    simp -dsimp only [↓w_seq, ↓w_ops, ↓w_skip, ↓w_ret, ↓w_exit, ↓w_scope, ↓w_block, ↓w_cond, cond_true', cond_false', ↓t_nil, ↓t_plain, ↓t_guard, ↓t_again, t_val, t_call, g_true, g_false, a_val, a_call, ↓n_normal, ↓n_ret, ↓n_exit, ↓b_normal, ↓b_ret, ↓b_exit, ↓e_normal, ↓e_ret, e_some, go_sem, ↓reduceIte, Nat.reduceEqDiff, Nat.reduceLT, Nat.reduceSub, A_law11_Own_0, A_law11_Own_1, A_law11_Own_2, A_law11_Own_3, A_law11_Own_4, A_law11_Own_5, A_law11_Own_7, h3]
    exact ⟨hG, hH⟩
  · simp only [go_sem, ↓reduceIte, Nat.reduceEqDiff, Nat.reduceLT, Nat.reduceSub]
  · simp only [go_sem, ↓reduceIte, Nat.reduceEqDiff, Nat.reduceLT, Nat.reduceSub]
  · simp only [go_sem, ↓reduceIte, Nat.reduceEqDiff, Nat.reduceLT, Nat.reduceSub]; rfl

set_option maxHeartbeats 2000000 in
theorem order_one_runs (a b c : Sb) (M : Mem) : Runs D2 F_law11_OrderOne [.agg (sbC a), .agg (sbC b), .agg (sbC c)] M fun v _ => v = .bool true := by
  refine Runs.walk (F := A_law11_OrderOne) rfl (by rfl) (by rfl) ?_
  unfold A_law11_OrderOne
  have key : ∀ x : Sb, V.cells (.agg (sbC x)) = sbC x := fun _ => rfl
  have hr : ∀ x : Sb, rdCells (sbC x) 0 3 = some (sbC x) := fun _ => rfl
  have hf : fillCells (repl 3 [.str [], .int .i64 0, .int .i64 0]) [(0, 3, .agg (sbC a)), (3, 3, .agg (sbC b)), (6, 3, .agg (sbC c))] = some (elSb.all [a, b, c]) := rfl
  simp only [repl, List.append_nil, List.cons_append, List.nil_append] at hf
  simp -dsimp only [↓w_seq, ↓w_ops, ↓w_skip, ↓w_ret, ↓w_exit, ↓w_scope, ↓w_block, ↓w_cond, cond_true', cond_false', ↓t_nil, ↓t_plain, ↓t_guard, ↓t_again, t_val, t_call, g_true, g_false, a_val, a_call, ↓n_normal, ↓n_ret, ↓n_exit, ↓b_normal, ↓b_ret, ↓b_exit, ↓e_normal, ↓e_ret, e_some, go_sem, ↓reduceIte, Nat.reduceEqDiff, Nat.reduceLT, Nat.reduceSub, A_law11_OrderOne_0, A_law11_OrderOne_1, A_law11_OrderOne_2, A_law11_OrderOne_3, A_law11_OrderOne_4, A_law11_OrderOne_5, A_law11_OrderOne_6, key, hr, hf, Mem.next_push, vload, Mem.read, Mem.get_push, Nat.left_eq_add, Nat.add_eq_left, Nat.add_left_cancel_iff, Nat.add_right_cancel_iff, Nat.reduceAdd, Nat.add_zero, Nat.zero_add, Nat.add_assoc, reduceCtorEq, Nat.succ_ne_self, Nat.one_ne_zero]
  have g1 : ∀ x, x < M.next + 3 → ((((M.push (.cells (sbC a) false)).push (.cells (sbC b) false)).push (.cells (sbC c) false)).push (.cells (elSb.all [a, b, c]) false)).get x = (((M.push (.cells (sbC a) false)).push (.cells (sbC b) false)).push (.cells (sbC c) false)).get x := fun x hx => Mem.get_push_ne _ _ (by simp; omega)
  have g2 : (((M.push (.cells (sbC a) false)).push (.cells (sbC b) false)).push (.cells (sbC c) false)).get M.next = some (.cells (sbC a) false) := by
    rw [Mem.get_push_ne _ _ (by simp; omega), Mem.get_push_ne _ _ (by simp), Mem.get_push_same]
  have g3 : (((M.push (.cells (sbC a) false)).push (.cells (sbC b) false)).push (.cells (sbC c) false)).get (M.next + 1) = some (.cells (sbC b) false) := by
    rw [Mem.get_push_ne _ _ (by simp)]; exact Mem.get_push_same (M.push _) _
  have g4 : ((((M.push (.cells (sbC a) false)).push (.cells (sbC b) false)).push (.cells (sbC c) false)).push (.cells (elSb.all [a, b, c]) false)).get (M.next + 3) = some (.cells (elSb.all [a, b, c]) false) := Mem.get_push_same (((M.push _).push _).push _) _
  have g5 : ((((M.push (.cells (sbC a) false)).push (.cells (sbC b) false)).push (.cells (sbC c) false)).push (.cells (elSb.all [a, b, c]) false)).next = M.next + 4 := rfl
  have p1 := (g1 M.next (by omega)).trans g2
  have p2 := (g1 (M.next + 1) (by omega)).trans g3
  generalize (((M.push (.cells (sbC a) false)).push (.cells (sbC b) false)).push (.cells (sbC c) false)).push (.cells (elSb.all [a, b, c]) false) = M1 at *
  clear g1 g2 g3
  refine call_of (Own_runs (.slice (some (M.next + 3, 0)) 3 (.exact 3)) [a, b, c] (show (3 + 1) * 32 ≤ 17592186044416 from by decide) M1 ⟨_, _, rfl, .inr ⟨_, 0, _, false, rfl, g4, fun i hi => by rw [Nat.zero_add]; exact elSb.rd _ i hi⟩⟩ (fun b hb _ => by simp only [V.blk, Option.some.injEq] at hb; omega)) ?_
  rintro v M2 ⟨hG, hH⟩
  obtain ⟨d, rfl, hM, _, hd1, hd2⟩ := hH.addr (i := 0) (show 0 < 3 by omega)
  have r0 : rdCells (elSb.all [a, b, c]) 0 3 = some (sbC a) := elSb.rd [a, b, c] 0 (show 0 < 3 by omega)
  have r1 : rdCells (elSb.all [a, b, c]) 3 3 = some (sbC b) := elSb.rd [a, b, c] 1 (show 1 < 3 by omega)
  have r2 : rdCells (elSb.all [a, b, c]) 6 3 = some (sbC c) := elSb.rd [a, b, c] 2 (show 2 < 3 by omega)
  have hF : ∀ M', Grew M2 M' → M'.get d = some (.cells (elSb.all [a, b, c]) false) ∧ M'.get M.next = some (.cells (sbC a) false) ∧ M'.get (M.next + 1) = some (.cells (sbC b) false) := fun M' h =>
    ⟨(h.old d hd2).trans hM, (h.old _ (by have := hG.next; omega)).trans ((hG.old _ (by omega)).trans p1), (h.old _ (by have := hG.next; omega)).trans ((hG.old _ (by omega)).trans p2)⟩
  clear hH hM p1 p2
  have hl3 : [a, b, c].length = 3 := rfl
  have n0 : asNat (.int .i64 0) = some 0 := rfl
  have n1 : asNat (.int .i64 1) = some 1 := rfl
  have n2 : asNat (.int .i64 2) = some 2 := rfl
  obtain ⟨f1, f2, f3⟩ := hF M2 (Grew.refl _)
  simp -dsimp only [↓w_seq, ↓w_ops, ↓w_skip, ↓w_ret, ↓w_exit, ↓w_scope, ↓w_block, ↓w_cond, cond_true', cond_false', ↓t_nil, ↓t_plain, ↓t_guard, ↓t_again, t_val, t_call, g_true, g_false, a_val, a_call, ↓n_normal, ↓n_ret, ↓n_exit, ↓b_normal, ↓b_ret, ↓b_exit, ↓e_normal, ↓e_ret, e_some, go_sem, ↓reduceIte, Nat.reduceEqDiff, Nat.reduceLT, Nat.reduceSub, A_law11_OrderOne_0, A_law11_OrderOne_1, A_law11_OrderOne_2, A_law11_OrderOne_3, A_law11_OrderOne_4, A_law11_OrderOne_5, A_law11_OrderOne_6, hl3, n0, n1, n2, Nat.reduceAdd, Nat.reduceLeDiff, Nat.zero_add, Nat.zero_mul, Nat.reduceMul, vload, Mem.read, f1, r0, r1, r2]
  refine call_of (before_runs a b M2) ?_
  intro v M3 hv
  rw [hv.1]
  have k3 := hv.2
  obtain ⟨f1, f2, f3⟩ := hF M3 k3
  simp -dsimp only [↓w_seq, ↓w_ops, ↓w_skip, ↓w_ret, ↓w_exit, ↓w_scope, ↓w_block, ↓w_cond, cond_true', cond_false', ↓t_nil, ↓t_plain, ↓t_guard, ↓t_again, t_val, t_call, g_true, g_false, a_val, a_call, ↓n_normal, ↓n_ret, ↓n_exit, ↓b_normal, ↓b_ret, ↓b_exit, ↓e_normal, ↓e_ret, e_some, go_sem, ↓reduceIte, Nat.reduceEqDiff, Nat.reduceLT, Nat.reduceSub, A_law11_OrderOne_0, A_law11_OrderOne_1, A_law11_OrderOne_2, A_law11_OrderOne_3, A_law11_OrderOne_4, A_law11_OrderOne_5, A_law11_OrderOne_6, hl3, n0, n1, n2, Nat.reduceAdd, Nat.reduceLeDiff, Nat.zero_add, Nat.zero_mul, Nat.reduceMul, vload, Mem.read, f1, r0, r1, r2]
  refine call_of (before_runs b a M3) ?_
  intro v M4 hv
  rw [hv.1]
  have k4 := hv.2
  obtain ⟨f1, f2, f3⟩ := hF M4 (k3.trans k4)
  rw [bef_is, bef_is]
  have hab : ltSb a b = true → ltSb b a = false := fun h => by
    cases hq : ltSb b a with
    | false => rfl
    | true => have := swo_Sb.trans _ _ _ h hq; rw [swo_Sb.irrefl] at this; cases this
  have haa : befSb a a = false := by rw [bef_is]; exact swo_Sb.irrefl a
  have hcab : (sbC a) = [.str a.1, .int .i64 a.2.1, .int .i64 a.2.2] := rfl
  have hcbb : (sbC b) = [.str b.1, .int .i64 b.2.1, .int .i64 b.2.2] := rfl
  have heq : decide (a.1 = b.1 ∧ a.2.1 = b.2.1 ∧ a.2.2 = b.2.2) = decide (a = b) := by
    by_cases h : a = b
    · subst h; simp
    · rw [decide_eq_false h, decide_eq_false]
      rintro ⟨h1, h2, h3⟩
      exact h (Prod.ext h1 (Prod.ext h2 h3))
  have hvs : vsame ⟨true, [.str, .int .i64, .int .i64]⟩ (.agg (sbC a)) (.agg (sbC b)) = some (decide (a = b)) := by
    rw [hcab, hcbb, same_sib, heq]
  have hirr : ∀ x, ltSb x x = false := swo_Sb.irrefl
  have mid : ∀ (p q : Bool), ltSb a b = p → ltSb b a = q → (p && q) = false → decide (a = b) = (!p && !q) := by
    intro p q hp hq hpq
    cases p <;> cases q
    · simp [tot_Sb a b hp hq]
    · have : a ≠ b := fun e => by subst e; rw [hirr] at hq; cases hq
      simp [this]
    · have : a ≠ b := fun e => by subst e; rw [hirr] at hp; cases hp
      simp [this]
    · cases hpq
  cases hp : ltSb a b <;> cases hq : ltSb b a
  · have hd := mid false false hp hq rfl
    rw [hd] at hvs
    simp -dsimp only [↓w_seq, ↓w_ops, ↓w_skip, ↓w_ret, ↓w_exit, ↓w_scope, ↓w_block, ↓w_cond, cond_true', cond_false', ↓t_nil, ↓t_plain, ↓t_guard, ↓t_again, t_val, t_call, g_true, g_false, a_val, a_call, ↓n_normal, ↓n_ret, ↓n_exit, ↓b_normal, ↓b_ret, ↓b_exit, ↓e_normal, ↓e_ret, e_some, go_sem, ↓reduceIte, Nat.reduceEqDiff, Nat.reduceLT, Nat.reduceSub, A_law11_OrderOne_0, A_law11_OrderOne_1, A_law11_OrderOne_2, A_law11_OrderOne_3, A_law11_OrderOne_4, A_law11_OrderOne_5, A_law11_OrderOne_6, hl3, n0, n1, n2, Nat.reduceAdd, Nat.reduceLeDiff, Nat.zero_add, Nat.zero_mul, Nat.reduceMul, vload, Mem.read, f1, f2, f3, r0, r1, r2, hr, hvs, Bool.and_self, Bool.and_true, Bool.and_false, Bool.true_and]
    refine call_of (before_runs a a M4) ?_
    intro v M5 hv
    rw [hv.1]
    have k5 := hv.2
    rw [haa]
    simp -dsimp only [↓w_seq, ↓w_ops, ↓w_skip, ↓w_ret, ↓w_exit, ↓w_scope, ↓w_block, ↓w_cond, cond_true', cond_false', ↓t_nil, ↓t_plain, ↓t_guard, ↓t_again, t_val, t_call, g_true, g_false, a_val, a_call, ↓n_normal, ↓n_ret, ↓n_exit, ↓b_normal, ↓b_ret, ↓b_exit, ↓e_normal, ↓e_ret, e_some, go_sem, ↓reduceIte, Nat.reduceEqDiff, Nat.reduceLT, Nat.reduceSub, A_law11_OrderOne_0, A_law11_OrderOne_1, A_law11_OrderOne_2, A_law11_OrderOne_3, A_law11_OrderOne_4, A_law11_OrderOne_5, A_law11_OrderOne_6]
    refine call_eq (knows_runs _) ?_
    simp -dsimp only [↓w_seq, ↓w_ops, ↓w_skip, ↓w_ret, ↓w_exit, ↓w_scope, ↓w_block, ↓w_cond, cond_true', cond_false', ↓t_nil, ↓t_plain, ↓t_guard, ↓t_again, t_val, t_call, g_true, g_false, a_val, a_call, ↓n_normal, ↓n_ret, ↓n_exit, ↓b_normal, ↓b_ret, ↓b_exit, ↓e_normal, ↓e_ret, e_some, go_sem, ↓reduceIte, Nat.reduceEqDiff, Nat.reduceLT, Nat.reduceSub]
  · have hd := mid false true hp hq rfl
    rw [hd] at hvs
    simp -dsimp only [↓w_seq, ↓w_ops, ↓w_skip, ↓w_ret, ↓w_exit, ↓w_scope, ↓w_block, ↓w_cond, cond_true', cond_false', ↓t_nil, ↓t_plain, ↓t_guard, ↓t_again, t_val, t_call, g_true, g_false, a_val, a_call, ↓n_normal, ↓n_ret, ↓n_exit, ↓b_normal, ↓b_ret, ↓b_exit, ↓e_normal, ↓e_ret, e_some, go_sem, ↓reduceIte, Nat.reduceEqDiff, Nat.reduceLT, Nat.reduceSub, A_law11_OrderOne_0, A_law11_OrderOne_1, A_law11_OrderOne_2, A_law11_OrderOne_3, A_law11_OrderOne_4, A_law11_OrderOne_5, A_law11_OrderOne_6, hl3, n0, n1, n2, Nat.reduceAdd, Nat.reduceLeDiff, Nat.zero_add, Nat.zero_mul, Nat.reduceMul, vload, Mem.read, f1, f2, f3, r0, r1, r2, hr, hvs, Bool.and_self, Bool.and_true, Bool.and_false, Bool.true_and]
    refine call_of (before_runs a a M4) ?_
    intro v M5 hv
    rw [hv.1]
    have k5 := hv.2
    rw [haa]
    simp -dsimp only [↓w_seq, ↓w_ops, ↓w_skip, ↓w_ret, ↓w_exit, ↓w_scope, ↓w_block, ↓w_cond, cond_true', cond_false', ↓t_nil, ↓t_plain, ↓t_guard, ↓t_again, t_val, t_call, g_true, g_false, a_val, a_call, ↓n_normal, ↓n_ret, ↓n_exit, ↓b_normal, ↓b_ret, ↓b_exit, ↓e_normal, ↓e_ret, e_some, go_sem, ↓reduceIte, Nat.reduceEqDiff, Nat.reduceLT, Nat.reduceSub, A_law11_OrderOne_0, A_law11_OrderOne_1, A_law11_OrderOne_2, A_law11_OrderOne_3, A_law11_OrderOne_4, A_law11_OrderOne_5, A_law11_OrderOne_6]
    refine call_eq (knows_runs _) ?_
    simp -dsimp only [↓w_seq, ↓w_ops, ↓w_skip, ↓w_ret, ↓w_exit, ↓w_scope, ↓w_block, ↓w_cond, cond_true', cond_false', ↓t_nil, ↓t_plain, ↓t_guard, ↓t_again, t_val, t_call, g_true, g_false, a_val, a_call, ↓n_normal, ↓n_ret, ↓n_exit, ↓b_normal, ↓b_ret, ↓b_exit, ↓e_normal, ↓e_ret, e_some, go_sem, ↓reduceIte, Nat.reduceEqDiff, Nat.reduceLT, Nat.reduceSub]
  · have hd := mid true false hp hq rfl
    rw [hd] at hvs
    simp -dsimp only [↓w_seq, ↓w_ops, ↓w_skip, ↓w_ret, ↓w_exit, ↓w_scope, ↓w_block, ↓w_cond, cond_true', cond_false', ↓t_nil, ↓t_plain, ↓t_guard, ↓t_again, t_val, t_call, g_true, g_false, a_val, a_call, ↓n_normal, ↓n_ret, ↓n_exit, ↓b_normal, ↓b_ret, ↓b_exit, ↓e_normal, ↓e_ret, e_some, go_sem, ↓reduceIte, Nat.reduceEqDiff, Nat.reduceLT, Nat.reduceSub, A_law11_OrderOne_0, A_law11_OrderOne_1, A_law11_OrderOne_2, A_law11_OrderOne_3, A_law11_OrderOne_4, A_law11_OrderOne_5, A_law11_OrderOne_6, hl3, n0, n1, n2, Nat.reduceAdd, Nat.reduceLeDiff, Nat.zero_add, Nat.zero_mul, Nat.reduceMul, vload, Mem.read, f1, f2, f3, r0, r1, r2, hr, hvs, Bool.and_self, Bool.and_true, Bool.and_false, Bool.true_and]
    refine call_of (before_runs a a M4) ?_
    intro v M5 hv
    rw [hv.1]
    have k5 := hv.2
    rw [haa]
    obtain ⟨f1, f2, f3⟩ := hF M5 ((k3.trans k4).trans k5)
    simp -dsimp only [↓w_seq, ↓w_ops, ↓w_skip, ↓w_ret, ↓w_exit, ↓w_scope, ↓w_block, ↓w_cond, cond_true', cond_false', ↓t_nil, ↓t_plain, ↓t_guard, ↓t_again, t_val, t_call, g_true, g_false, a_val, a_call, ↓n_normal, ↓n_ret, ↓n_exit, ↓b_normal, ↓b_ret, ↓b_exit, ↓e_normal, ↓e_ret, e_some, go_sem, ↓reduceIte, Nat.reduceEqDiff, Nat.reduceLT, Nat.reduceSub, A_law11_OrderOne_0, A_law11_OrderOne_1, A_law11_OrderOne_2, A_law11_OrderOne_3, A_law11_OrderOne_4, A_law11_OrderOne_5, A_law11_OrderOne_6, hl3, n0, n1, n2, Nat.reduceAdd, Nat.reduceLeDiff, Nat.zero_add, Nat.zero_mul, Nat.reduceMul, vload, Mem.read, f1, r0, r1, r2]
    refine call_of (before_runs b c M5) ?_
    intro v M6 hv
    rw [hv.1]
    have k6 := hv.2
    obtain ⟨f1, f2, f3⟩ := hF M6 (((k3.trans k4).trans k5).trans k6)
    rw [bef_is]
    cases hbc : ltSb b c with
    | false =>
      simp -dsimp only [↓w_seq, ↓w_ops, ↓w_skip, ↓w_ret, ↓w_exit, ↓w_scope, ↓w_block, ↓w_cond, cond_true', cond_false', ↓t_nil, ↓t_plain, ↓t_guard, ↓t_again, t_val, t_call, g_true, g_false, a_val, a_call, ↓n_normal, ↓n_ret, ↓n_exit, ↓b_normal, ↓b_ret, ↓b_exit, ↓e_normal, ↓e_ret, e_some, go_sem, ↓reduceIte, Nat.reduceEqDiff, Nat.reduceLT, Nat.reduceSub, A_law11_OrderOne_0, A_law11_OrderOne_1, A_law11_OrderOne_2, A_law11_OrderOne_3, A_law11_OrderOne_4, A_law11_OrderOne_5, A_law11_OrderOne_6]
      refine call_eq (knows_runs _) ?_
      simp -dsimp only [↓w_seq, ↓w_ops, ↓w_skip, ↓w_ret, ↓w_exit, ↓w_scope, ↓w_block, ↓w_cond, cond_true', cond_false', ↓t_nil, ↓t_plain, ↓t_guard, ↓t_again, t_val, t_call, g_true, g_false, a_val, a_call, ↓n_normal, ↓n_ret, ↓n_exit, ↓b_normal, ↓b_ret, ↓b_exit, ↓e_normal, ↓e_ret, e_some, go_sem, ↓reduceIte, Nat.reduceEqDiff, Nat.reduceLT, Nat.reduceSub]
    | true =>
      simp -dsimp only [↓w_seq, ↓w_ops, ↓w_skip, ↓w_ret, ↓w_exit, ↓w_scope, ↓w_block, ↓w_cond, cond_true', cond_false', ↓t_nil, ↓t_plain, ↓t_guard, ↓t_again, t_val, t_call, g_true, g_false, a_val, a_call, ↓n_normal, ↓n_ret, ↓n_exit, ↓b_normal, ↓b_ret, ↓b_exit, ↓e_normal, ↓e_ret, e_some, go_sem, ↓reduceIte, Nat.reduceEqDiff, Nat.reduceLT, Nat.reduceSub, A_law11_OrderOne_0, A_law11_OrderOne_1, A_law11_OrderOne_2, A_law11_OrderOne_3, A_law11_OrderOne_4, A_law11_OrderOne_5, A_law11_OrderOne_6, hl3, n0, n1, n2, Nat.reduceAdd, Nat.reduceLeDiff, Nat.zero_add, Nat.zero_mul, Nat.reduceMul, vload, Mem.read, f1, r0, r1, r2]
      refine call_of (before_runs a c M6) ?_
      intro v M7 hv
      rw [hv.1, bef_is, swo_Sb.trans _ _ _ hp hbc]
      simp -dsimp only [↓w_seq, ↓w_ops, ↓w_skip, ↓w_ret, ↓w_exit, ↓w_scope, ↓w_block, ↓w_cond, cond_true', cond_false', ↓t_nil, ↓t_plain, ↓t_guard, ↓t_again, t_val, t_call, g_true, g_false, a_val, a_call, ↓n_normal, ↓n_ret, ↓n_exit, ↓b_normal, ↓b_ret, ↓b_exit, ↓e_normal, ↓e_ret, e_some, go_sem, ↓reduceIte, Nat.reduceEqDiff, Nat.reduceLT, Nat.reduceSub, A_law11_OrderOne_0, A_law11_OrderOne_1, A_law11_OrderOne_2, A_law11_OrderOne_3, A_law11_OrderOne_4, A_law11_OrderOne_5, A_law11_OrderOne_6]
      refine call_eq (knows_runs _) ?_
      simp -dsimp only [↓w_seq, ↓w_ops, ↓w_skip, ↓w_ret, ↓w_exit, ↓w_scope, ↓w_block, ↓w_cond, cond_true', cond_false', ↓t_nil, ↓t_plain, ↓t_guard, ↓t_again, t_val, t_call, g_true, g_false, a_val, a_call, ↓n_normal, ↓n_ret, ↓n_exit, ↓b_normal, ↓b_ret, ↓b_exit, ↓e_normal, ↓e_ret, e_some, go_sem, ↓reduceIte, Nat.reduceEqDiff, Nat.reduceLT, Nat.reduceSub]
  · rw [hab hp] at hq; cases hq
end Go.Am.Try

/- The program's digit, above and greatest, on the machine. -/
namespace Go.Am.Try
open Go Go.Am Go.Proofs
set_option maxRecDepth 100000
set_option linter.unusedSimpArgs false
set_option linter.unusedVariables false

def digitL (k : List UInt8) (i : Nat) : Nat := (k.getD i 0).toNat

theorem digit_runs (k : List UInt8) (i : Nat) (hi : i < 2 ^ 62) (M : Mem) : Runs D2 F_poskey_digit [.str k, .int .i64 (i : Int)] M fun v M' => v = .int .i64 (digitL k i : Int) ∧ M' = M := by
  refine Runs.of (F := A_poskey_digit) rfl (by rfl) (by rfl) ?_
  unfold A_poskey_digit
  refine WC.seq (WC.ops ?_)
  simp only [A_poskey_digit_0, go_sem, ↓reduceIte, Nat.reduceEqDiff, Nat.reduceLT]
  refine WC.seq (WC.seq (WC.ops ?_))
  simp only [A_poskey_digit_1, go_sem, ↓reduceIte, Nat.reduceEqDiff, Nat.reduceLT]
  refine WC.test (by simp only [go_sem, ↓reduceIte, Nat.reduceEqDiff, Nat.reduceLT]; rfl) (fun h => ?_) (fun h => ?_)
  · have h : i < k.length := by have := of_decide_eq_true h; omega
    refine WC.seq (WC.ops ?_)
    have hg : k[i]? = some k[i] := List.getElem?_eq_getElem h
    have hd : digitL k i = k[i].toNat := by simp [digitL, List.getD_eq_getElem?_getD, hg]
    have h8 : k[i].toNat < 256 := k[i].toNat_lt
    simp only [A_poskey_digit_2, go_sem, ↓reduceIte, Nat.reduceEqDiff, Nat.reduceLT, hg]
    refine WC.ret ?_
    simp only [go_sem, ↓reduceIte, Nat.reduceEqDiff, Nat.reduceLT]
    rw [IntWalk.i64_in _ (by omega), hd]
    exact ⟨rfl, trivial⟩
  · have h : k.length ≤ i := by have := of_decide_eq_false h; omega
    have hd : digitL k i = 0 := by simp [digitL, List.getD_eq_getElem?_getD, List.getElem?_eq_none h]
    refine WC.skip ?_
    simp only [go_sem]
    refine WC.seq (WC.ops ?_)
    simp only [A_poskey_digit_3, go_sem, ↓reduceIte, Nat.reduceEqDiff, Nat.reduceLT]
    refine WC.ret ?_
    simp only [go_sem, ↓reduceIte, Nat.reduceEqDiff, Nat.reduceLT]
    rw [hd]
    exact ⟨rfl, trivial⟩

/-- One more, from a place on to the left. -/
def incFrom : List UInt8 → Nat → Option (List UInt8)
  | _, 0 => none
  | l, i + 1 => if l.getD i 0 + 1 ≠ 0 then some (l.set i (l.getD i 0 + 1)) else incFrom (l.set i 0) i

theorem u8_succ (c : UInt8) : IntKind.u8.wrap ((c.toNat : Int) + 1) = ((c + 1).toNat : Int) := by
  rw [IntKind.wrap_u8, UInt8.toNat_add]
  simp

theorem above_loop {Q : AExit → Fr → Mem → Prop} (b : Nat) (m : Nat) (hm : m < 2 ^ 62) : ∀ (i : Nat) (l : List UInt8) (fr : Fr) (M : Mem), l.length = m → i ≤ m → fr.rd 6 = .slice (some (b, 0)) m (.exact m) → fr.rd 7 = .int .i64 ((i : Int) - 1) → M.get b = some (.cells (bytesC l) false) →
    (∀ fr' M' l', incFrom l i = some l' → l'.length = m → fr'.rd 4 = .slice (some (b, 0)) m (.exact m) → fr'.rd 5 = .bool true → Upd M b (.cells (bytesC l') false) M' → Q .ret fr' M') →
    (∀ fr' M' l', incFrom l i = none → Upd M b (.cells (bytesC l') false) M' → Q (.exit 0) fr' M') → WC D2 31 (.loop A_poskey_above_9) fr M Q := by
  intro i
  induction i with
  | zero =>
    intro l fr M hl hi h6 h7 hM hQ1 hQ2
    refine WC.loop ?_
    unfold A_poskey_above_9
    refine WC.seq (WC.seq (WC.ops ?_))
    simp only [A_poskey_above_4, go_sem, ↓reduceIte, Nat.reduceEqDiff, Nat.reduceLT, h7]
    refine WC.test (t := false) (by simp only [go_sem, ↓reduceIte, Nat.reduceEqDiff, Nat.reduceLT]; rfl) (fun h => by cases h) (fun _ => ?_)
    refine WC.exit ?_
    simp only [go_sem]
    exact hQ2 _ _ l rfl (Upd.same hM)
  | succ i ih =>
    intro l fr M hl hi h6 h7 hM hQ1 hQ2
    have e7 : ((i + 1 : Nat) : Int) - 1 = (i : Int) := by omega
    rw [e7] at h7
    refine WC.loop ?_
    unfold A_poskey_above_9
    refine WC.seq (WC.seq (WC.ops ?_))
    simp only [A_poskey_above_4, go_sem, ↓reduceIte, Nat.reduceEqDiff, Nat.reduceLT, h7]
    refine WC.test (t := true) (by simp only [go_sem, ↓reduceIte, Nat.reduceEqDiff, Nat.reduceLT]; simp) (fun _ => ?_) (fun h => by cases h)
    refine WC.skip ?_
    simp only [go_sem]
    refine WC.seq (WC.block (WC.seq (WC.ops ?_)))
    have hil : i < l.length := by omega
    have hg : l[i]? = some l[i] := List.getElem?_eq_getElem hil
    have hc : (bytesC l)[i]? = some (.int .u8 (l[i].toNat : Int)) := by rw [bytesC_get, hg]; rfl
    have hlt : i + 1 ≤ m := by omega
    have hD : l.getD i 0 = l[i] := by rw [List.getD_eq_getElem?_getD, hg]; rfl
    simp only [A_poskey_above_5, go_sem, ↓reduceIte, Nat.reduceEqDiff, Nat.reduceLT, h6, h7, decide_eq_true hlt, vload, hM, Nat.zero_add, Nat.mul_one, hc, vstore, V.cells, List.length_cons, List.length_nil, u8_succ]
    rw [write_one hM (by rw [bytesC_len]; omega) rfl, bytesC_set]
    simp only [go_sem, ↓reduceIte, Nat.reduceEqDiff, Nat.reduceLT]
    have hu := Upd.set M b (.cells (bytesC (l.set i (l[i] + 1))) false)
    generalize M.set b _ = M1 at hu
    refine WC.seq (WC.ops ?_)
    have hc1 : (bytesC (l.set i (l[i] + 1)))[i]? = some (.int .u8 ((l[i] + 1).toNat : Int)) := by rw [bytesC_get, List.getElem?_set_self (by omega)]; rfl
    simp only [A_poskey_above_6, go_sem, ↓reduceIte, Nat.reduceEqDiff, Nat.reduceLT, h6, h7, decide_eq_true hlt, vload, hu.at_, Nat.zero_add, Nat.mul_one, hc1]
    by_cases hz : l[i] + 1 = 0
    · have hz' : ((l[i] + 1).toNat : Int) = 0 := by rw [hz]; rfl
      refine WC.test (t := false) (by simp only [go_sem, ↓reduceIte, Nat.reduceEqDiff, Nat.reduceLT, hz']) (fun h => by cases h) (fun _ => ?_)
      refine WC.skip ?_
      simp only [go_sem]
      refine WC.ops ?_
      simp only [A_poskey_above_8, go_sem, ↓reduceIte, Nat.reduceEqDiff, Nat.reduceLT, h7]
      rw [IntWalk.i64_in _ (by omega)]
      have hinc : incFrom l (i + 1) = incFrom (l.set i 0) i := by
        simp only [incFrom, hD, hz]
        simp
      rw [hz] at hu
      refine ih (l.set i 0) _ M1 (by simp [hl]) (by omega) (by simp only [go_sem, ↓reduceIte, Nat.reduceEqDiff, Nat.reduceLT, h6]) (by simp only [go_sem, ↓reduceIte, Nat.reduceEqDiff, Nat.reduceLT]) hu.at_ ?_ ?_
      · intro fr' M' l' h1 h2 h3 h4 h5
        exact hQ1 fr' M' l' (hinc.trans h1) h2 h3 h4 (hu.trans h5)
      · intro fr' M' l' h1 h2
        exact hQ2 fr' M' l' (hinc.trans h1) (hu.trans h2)
    · have hz' : ((l[i] + 1).toNat : Int) ≠ 0 := by
        intro e
        exact hz (UInt8.toNat_inj.1 (Int.natCast_eq_zero.1 e))
      refine WC.test (t := true) (by simp only [go_sem, ↓reduceIte, Nat.reduceEqDiff, Nat.reduceLT, decide_eq_false hz']) (fun _ => ?_) (fun h => by cases h)
      refine WC.seq (WC.ops ?_)
      simp only [A_poskey_above_7, go_sem, ↓reduceIte, Nat.reduceEqDiff, Nat.reduceLT, h6]
      refine WC.ret ?_
      simp only [go_sem]
      refine hQ1 _ M1 (l.set i (l[i] + 1)) ?_ (by simp [hl]) (by simp only [go_sem, ↓reduceIte, Nat.reduceEqDiff, Nat.reduceLT]) (by simp only [go_sem, ↓reduceIte, Nat.reduceEqDiff, Nat.reduceLT]) hu
      simp only [incFrom, hD]
      simp [hz]

def padTo (a : List UInt8) (n : Nat) : List UInt8 := a.take n ++ List.replicate (n - a.length) 0
theorem padTo_len (a : List UInt8) (n : Nat) : (padTo a n).length = n := by simp [padTo]; omega
theorem padTo_get (a : List UInt8) (n i : Nat) (h : i < n) : (padTo a n).getD i 0 = a.getD i 0 := by
  unfold padTo
  simp only [List.getD_eq_getElem?_getD]
  by_cases hi : i < a.length
  · rw [List.getElem?_append_left (by simp; omega), List.getElem?_take_of_lt h]
  · rw [List.getElem?_append_right (by simp; omega), List.getElem?_replicate, List.getElem?_eq_none (l := a) (by omega)]
    split <;> rfl
theorem repl_one (v : V) : ∀ n, repl n [v] = List.replicate n v
  | 0 => rfl
  | n + 1 => by rw [repl, repl_one v n, List.replicate_succ]; rfl
theorem wr_zero : ∀ (cs vs : List V), vs.length ≤ cs.length → wrCells cs 0 vs = vs ++ cs.drop vs.length
  | [], [], _ => rfl
  | _ :: _, [], _ => rfl
  | [], _ :: _, h => by simp at h
  | _ :: cs, v :: vs, h => by simp only [wrCells, wr_zero cs vs (by simpa using h), List.length_cons, List.drop_succ_cons, List.cons_append]
theorem allOne_bytes : ∀ l : List UInt8, allOne (bytesC l) = true
  | [] => rfl
  | _ :: l => by simp only [bytesC, List.map_cons, allOne, V.one, cond_true]; exact allOne_bytes l
theorem copy_str {M : Mem} {b n : Nat} (a : List UInt8) (h : M.get b = some (.cells (bytesC (List.replicate n 0)) false)) : ∃ v M', vcopy 1 M (.slice (some (b, 0)) n (.exact n)) (.str a) = some (v, M') ∧ Upd M b (.cells (bytesC (padTo a n)) false) M' := by
  unfold vcopy
  simp only [srcLen, Option.bind_some, beq_dec]
  by_cases hz : Nat.min a.length n = 0
  · simp only [decide_eq_true hz, cond_true]
    refine ⟨_, _, rfl, ?_⟩
    have : padTo a n = List.replicate n 0 := by
      unfold padTo
      have : a = [] ∨ n = 0 := by
        cases a with
        | nil => exact .inl rfl
        | cons x a => right; simp [Nat.min_def] at hz; split at hz <;> omega
      rcases this with rfl | rfl <;> simp
    rw [this]
    exact Upd.same h
  · have hk : (a.take (Nat.min a.length n)).length = Nat.min a.length n := by
      rw [List.length_take]
      exact Nat.min_eq_left (Nat.min_le_left ..)
    have hle : Nat.min a.length n ≤ n := Nat.min_le_right ..
    simp only [decide_eq_false hz, cond_false, srcCells, beq_dec, decide_true, cond_true, Option.bind_some, Mem.write, h, ble_iff, bytesC_len, List.length_map, hk, List.length_replicate, Nat.zero_add, decide_eq_true hle]
    have e1 : (List.map (fun c => V.int IntKind.u8 (c.toNat : Int)) (List.take (a.length.min n) a)) = bytesC (a.take (Nat.min a.length n)) := rfl
    rw [e1, allOne_bytes]
    simp only [cond_true, Option.map_some]
    refine ⟨_, _, rfl, ?_⟩
    have e2 : wrCells (bytesC (List.replicate n 0)) 0 (bytesC (a.take (Nat.min a.length n))) = bytesC (padTo a n) := by
      rw [wr_zero _ _ (by rw [bytesC_len, bytesC_len, hk, List.length_replicate]; exact hle)]
      rw [bytesC_len, hk]
      simp only [bytesC, ← List.map_drop, ← List.map_append]
      congr 1
      rw [List.drop_replicate]
      unfold padTo
      have e3 : a.take (Nat.min a.length n) = a.take n := by
        rcases Nat.le_total a.length n with hh | hh
        · rw [show Nat.min a.length n = a.length from Nat.min_eq_left hh, List.take_length, List.take_of_length_le hh]
        · rw [show Nat.min a.length n = n from Nat.min_eq_right hh]
      rw [e3]
      congr 2
      rcases Nat.le_total a.length n with hh | hh
      · rw [show Nat.min a.length n = a.length from Nat.min_eq_left hh]
      · rw [show Nat.min a.length n = n from Nat.min_eq_right hh]; omega
    rw [e2]
    exact Upd.set _ _ _

theorem above_runs (a : List UInt8) (n : Nat) (hn : n < 2 ^ 40) (M : Mem) : Runs D2 F_poskey_above [.str a, .int .i64 (n : Int)] M fun v M' => Grew M M' ∧
    ((∃ l, incFrom (padTo a n) n = some l ∧ l.length = n ∧ v = .tup [.slice (some (M.next, 0)) n (.exact n), .bool true] ∧ M'.get M.next = some (.cells (bytesC l) false) ∧ M.next < M'.next) ∨
     (incFrom (padTo a n) n = none ∧ v = .tup [.slice none 0 (.exact 0), .bool false])) := by
  refine Runs.of (F := A_poskey_above) rfl (by rfl) (by rfl) ?_
  unfold A_poskey_above
  refine WC.seq (WC.ops ?_)
  simp only [A_poskey_above_0, go_sem, ↓reduceIte, Nat.reduceEqDiff, Nat.reduceLT]
  refine WC.seq (WC.ops ?_)
  simp only [A_poskey_above_1, go_sem, ↓reduceIte, Nat.reduceEqDiff, Nat.reduceLT, Nat.le_refl, Nat.mul_one, decide_eq_true (show n ≤ maxRoom by unfold maxRoom; omega)]
  refine WC.seq (WC.ops ?_)
  have h0 : (M.push (.cells (repl n [.int .u8 0]) false)).get M.next = some (.cells (bytesC (List.replicate n 0)) false) := by
    rw [Mem.get_push_same, repl_one]
    simp [bytesC]
  obtain ⟨vc, M1, hc, hu⟩ := copy_str a h0
  have hg1 : Grew M M1 := (Grew.push M _).upd (Nat.le_refl _) hu
  have hnx : M.next < M1.next := by rw [hu.next]; exact Nat.lt_succ_self _
  simp only [A_poskey_above_2, go_sem, ↓reduceIte, Nat.reduceEqDiff, Nat.reduceLT, hc]
  refine WC.seq (WC.seq (WC.ops ?_))
  simp only [A_poskey_above_3, go_sem, ↓reduceIte, Nat.reduceEqDiff, Nat.reduceLT]
  rw [IntWalk.i64_in _ (by omega)]
  refine WC.block (above_loop M.next n (by omega) n (padTo a n) _ M1 (padTo_len a n) (Nat.le_refl _) (by simp only [go_sem, ↓reduceIte, Nat.reduceEqDiff, Nat.reduceLT]) (by simp only [go_sem, ↓reduceIte, Nat.reduceEqDiff, Nat.reduceLT]) hu.at_ ?_ ?_)
  · intro fr' M' l' h1 h2 h3 h4 h5
    simp only [go_sem, h3, h4]
    exact ⟨hg1.upd (Nat.le_refl _) h5, .inl ⟨l', h1, h2, trivial, h5.at_, by rw [h5.next]; exact hnx⟩⟩
  · intro fr' M' l' h1 h5
    simp only [go_sem]
    refine WC.seq (WC.ops ?_)
    simp only [A_poskey_above_10, go_sem, ↓reduceIte, Nat.reduceEqDiff, Nat.reduceLT]
    refine WC.ret ?_
    simp only [go_sem, ↓reduceIte, Nat.reduceEqDiff, Nat.reduceLT]
    exact ⟨hg1.upd (Nat.le_refl _) h5, .inr ⟨h1, trivial⟩⟩
end Go.Am.Try

/- The program's greatest, on the machine. -/
namespace Go.Am.Try
open Go Go.Am Go.Proofs
set_option maxRecDepth 100000
set_option linter.unusedSimpArgs false
set_option linter.unusedVariables false

def grEnd (b : List UInt8) (n : Nat) : Int := if b = [] then 255 else if n + 1 < b.length then digitL b n else (digitL b n : Int) - 1
def grAt (l b : List UInt8) (n : Nat) : Nat → Nat → Int
  | 0, _ => grEnd b n
  | k + 1, i => if b = [] then 255 else if (l.getD i 0).toNat < digitL b i then 255 else if digitL b i < (l.getD i 0).toNat then -1 else grAt l b n k (i + 1)
def greatL (l b : List UInt8) : Int := grAt l b (l.length - 1) (l.length - 1) 0
theorem digit_lt (b : List UInt8) (i : Nat) : digitL b i < 256 := (b.getD i 0).toNat_lt

theorem great_end (l b : List UInt8) (n : Nat) (hn : n < 2 ^ 40) (fr : Fr) (M : Mem) (h1 : fr.rd 1 = .str b) (h5 : fr.rd 5 = .int .i64 (n : Int)) (hb : b.length < 2 ^ 63) {R : V → Mem → Prop} (hR : R (.int .i64 (grEnd b n)) M) :
    WC D2 55 (.seq (.block 3 (.seq (.ops A_poskey_greatest_12) (.cond (r 39) (.seq (.ops A_poskey_greatest_13) .ret) (.seq (.ops A_poskey_greatest_14) (.cond (r 42) (.seq (.ops A_poskey_greatest_15) .ret) .skip))))) (.seq (.ops A_poskey_greatest_16) .ret)) fr M (endQ [.tmp 4] R) := by
  refine WC.seq (WC.block (WC.seq (WC.ops ?_)))
  simp only [A_poskey_greatest_12, go_sem, ↓reduceIte, Nat.reduceEqDiff, Nat.reduceLT, h1]
  refine WC.test (by simp only [go_sem, ↓reduceIte, Nat.reduceEqDiff, Nat.reduceLT]; rfl) (fun h => ?_) (fun h => ?_)
  · refine WC.seq (WC.ops ?_)
    simp only [A_poskey_greatest_13, go_sem, ↓reduceIte, Nat.reduceEqDiff, Nat.reduceLT]
    refine WC.ret ?_
    simp only [go_sem, ↓reduceIte, Nat.reduceEqDiff, Nat.reduceLT]
    simpa only [grEnd, of_decide_eq_true h, if_true] using hR
  · have hne := of_decide_eq_false h
    refine WC.seq (WC.ops ?_)
    simp only [A_poskey_greatest_14, go_sem, ↓reduceIte, Nat.reduceEqDiff, Nat.reduceLT, h1, h5]
    rw [IntWalk.i64_in _ (by omega)]
    refine WC.test (by simp only [go_sem, ↓reduceIte, Nat.reduceEqDiff, Nat.reduceLT]; rfl) (fun h => ?_) (fun h => ?_)
    · have hlt : n + 1 < b.length := by have := of_decide_eq_true h; omega
      refine WC.seq (WC.ops ?_)
      simp only [A_poskey_greatest_15, go_sem, ↓reduceIte, Nat.reduceEqDiff, Nat.reduceLT, h1, h5]
      refine callI_of (digit_runs b n (by omega) M) ?_
      rintro v M' ⟨rfl, rfl⟩
      simp only [go_sem, ↓reduceIte, Nat.reduceEqDiff, Nat.reduceLT]
      refine WC.ret ?_
      simp only [go_sem, ↓reduceIte, Nat.reduceEqDiff, Nat.reduceLT]
      simpa only [grEnd, hne, hlt, if_true, if_false] using hR
    · have hlt : ¬ n + 1 < b.length := by have := of_decide_eq_false h; omega
      refine WC.skip ?_
      simp only [go_sem]
      refine WC.seq (WC.ops ?_)
      simp only [A_poskey_greatest_16, go_sem, ↓reduceIte, Nat.reduceEqDiff, Nat.reduceLT, h1, h5]
      refine callI_of (digit_runs b n (by omega) M) ?_
      rintro v M' ⟨rfl, rfl⟩
      simp only [go_sem, ↓reduceIte, Nat.reduceEqDiff, Nat.reduceLT]
      refine WC.ret ?_
      simp only [go_sem, ↓reduceIte, Nat.reduceEqDiff, Nat.reduceLT]
      have := digit_lt b n
      rw [IntWalk.i64_in _ (by omega)]
      simpa only [grEnd, hne, hlt, if_false] using hR

theorem great_loop (l b : List UInt8) (c : Nat) (n : Nat) (hl : l.length = n + 1) (hn : n < 2 ^ 40) (hb : b.length < 2 ^ 63) (M : Mem) (hM : M.get c = some (.cells (bytesC l) false)) {R : V → Mem → Prop} {cap : Cap} : ∀ (k i : Nat) (fr : Fr), i + k = n →
    fr.rd 1 = .str b → fr.rd 5 = .int .i64 (n : Int) → fr.rd 14 = .slice (some (c, 0)) n cap → fr.rd 15 = .int .i64 (n : Int) → fr.rd 16 = .int .i64 (i : Int) → R (.int .i64 (grAt l b n k i)) M →
    WC D2 55 (.loop A_poskey_greatest_11) fr M (blockQ 0 (nextQ (fun fr M => WC D2 55 (.seq (.block 3 (.seq (.ops A_poskey_greatest_12) (.cond (r 39) (.seq (.ops A_poskey_greatest_13) .ret) (.seq (.ops A_poskey_greatest_14) (.cond (r 42) (.seq (.ops A_poskey_greatest_15) .ret) .skip))))) (.seq (.ops A_poskey_greatest_16) .ret)) fr M (endQ [.tmp 4] R)) (endQ [.tmp 4] R))) := by
  intro k
  induction k with
  | zero =>
    intro i fr hi h1 h5 h14 h15 h16 hR
    refine WC.loop ?_
    unfold A_poskey_greatest_11
    refine WC.seq (WC.ops ?_)
    simp only [A_poskey_greatest_3, go_sem, ↓reduceIte, Nat.reduceEqDiff, Nat.reduceLT, h15, h16]
    refine WC.seq (WC.test (t := false) (by simp only [go_sem, ↓reduceIte, Nat.reduceEqDiff, Nat.reduceLT]; rw [decide_eq_false (by omega)]) (fun h => by cases h) (fun _ => WC.exit ?_))
    simp only [go_sem]
    exact great_end l b n hn _ M (by simp only [go_sem, ↓reduceIte, Nat.reduceEqDiff, Nat.reduceLT, h1]) (by simp only [go_sem, ↓reduceIte, Nat.reduceEqDiff, Nat.reduceLT, h5]) hb hR
  | succ k ih =>
    intro i fr hi h1 h5 h14 h15 h16 hR
    refine WC.loop ?_
    unfold A_poskey_greatest_11
    refine WC.seq (WC.ops ?_)
    simp only [A_poskey_greatest_3, go_sem, ↓reduceIte, Nat.reduceEqDiff, Nat.reduceLT, h15, h16]
    refine WC.seq (WC.test (t := true) (by simp only [go_sem, ↓reduceIte, Nat.reduceEqDiff, Nat.reduceLT]; rw [decide_eq_true (by omega)]) (fun _ => WC.skip ?_) (fun h => by cases h))
    simp only [go_sem]
    refine WC.seq (WC.block (WC.seq (WC.ops ?_)))
    have hil : i < l.length := by omega
    have hg : l[i]? = some l[i] := List.getElem?_eq_getElem hil
    have hD : l.getD i 0 = l[i] := by rw [List.getD_eq_getElem?_getD, hg]; rfl
    have hc : (bytesC l)[i]? = some (.int .u8 (l[i].toNat : Int)) := by rw [bytesC_get, hg]; rfl
    have hd := digit_lt b i
    have h8 := l[i].toNat_lt
    simp only [A_poskey_greatest_4, go_sem, ↓reduceIte, Nat.reduceEqDiff, Nat.reduceLT, h14, h16, decide_eq_true (show i + 1 ≤ n by omega), vload, hM, Nat.zero_add, Nat.mul_one, hc]
    refine WC.seq (WC.ops ?_)
    simp only [A_poskey_greatest_5, go_sem, ↓reduceIte, Nat.reduceEqDiff, Nat.reduceLT, h1]
    refine callI_of (digit_runs b i (by omega) M) ?_
    rintro v M' ⟨rfl, rfl⟩
    simp only [go_sem, ↓reduceIte, Nat.reduceEqDiff, Nat.reduceLT]
    refine WC.block (WC.seq (WC.ops ?_))
    simp only [A_poskey_greatest_6, go_sem, ↓reduceIte, Nat.reduceEqDiff, Nat.reduceLT, h1]
    by_cases hbe : b = []
    · simp only [hbe, go_sem, ↓reduceIte, Nat.reduceEqDiff, Nat.reduceLT]
      refine WC.test (t := true) (by simp only [go_sem, ↓reduceIte, Nat.reduceEqDiff, Nat.reduceLT]) (fun _ => ?_) (fun h => by cases h)
      refine WC.seq (WC.ops ?_)
      simp only [A_poskey_greatest_7, go_sem, ↓reduceIte, Nat.reduceEqDiff, Nat.reduceLT]
      refine WC.ret ?_
      simp only [go_sem, ↓reduceIte, Nat.reduceEqDiff, Nat.reduceLT]
      simpa only [grAt, hbe, if_true] using hR
    · simp only [decide_eq_false hbe, go_sem, ↓reduceIte, Nat.reduceEqDiff, Nat.reduceLT]
      rw [IntWalk.i64_in _ (by omega)]
      refine WC.test (by simp only [go_sem, ↓reduceIte, Nat.reduceEqDiff, Nat.reduceLT]; rfl) (fun h => ?_) (fun h => ?_)
      · have hlt : l[i].toNat < digitL b i := by have := of_decide_eq_true h; omega
        refine WC.seq (WC.ops ?_)
        simp only [A_poskey_greatest_7, go_sem, ↓reduceIte, Nat.reduceEqDiff, Nat.reduceLT]
        refine WC.ret ?_
        simp only [go_sem, ↓reduceIte, Nat.reduceEqDiff, Nat.reduceLT]
        simpa only [grAt, hbe, hD, hlt, if_true, if_false] using hR
      · have hlt : ¬ l[i].toNat < digitL b i := by have := of_decide_eq_false h; omega
        refine WC.seq (WC.ops ?_)
        simp only [A_poskey_greatest_8, go_sem, ↓reduceIte, Nat.reduceEqDiff, Nat.reduceLT]
        rw [IntWalk.i64_in _ (by omega)]
        refine WC.test (by simp only [go_sem, ↓reduceIte, Nat.reduceEqDiff, Nat.reduceLT]; rfl) (fun h => ?_) (fun h => ?_)
        · have hgt : digitL b i < l[i].toNat := by have := of_decide_eq_true h; omega
          refine WC.seq (WC.ops ?_)
          simp only [A_poskey_greatest_9, go_sem, ↓reduceIte, Nat.reduceEqDiff, Nat.reduceLT]
          refine WC.ret ?_
          simp only [go_sem, ↓reduceIte, Nat.reduceEqDiff, Nat.reduceLT]
          simpa only [grAt, hbe, hD, hlt, hgt, if_true, if_false] using hR
        · have hgt : ¬ digitL b i < l[i].toNat := by have := of_decide_eq_false h; omega
          refine WC.skip ?_
          simp only [go_sem]
          refine WC.ops ?_
          simp only [A_poskey_greatest_10, go_sem, ↓reduceIte, Nat.reduceEqDiff, Nat.reduceLT, h16]
          rw [IntWalk.i64_in _ (by omega)]
          refine ih (i + 1) _ (by omega) (by simp only [go_sem, ↓reduceIte, Nat.reduceEqDiff, Nat.reduceLT, h1]) (by simp only [go_sem, ↓reduceIte, Nat.reduceEqDiff, Nat.reduceLT, h5]) (by simp only [go_sem, ↓reduceIte, Nat.reduceEqDiff, Nat.reduceLT, h14]) (by simp only [go_sem, ↓reduceIte, Nat.reduceEqDiff, Nat.reduceLT, h15]) (by simp only [go_sem, ↓reduceIte, Nat.reduceEqDiff, Nat.reduceLT]; rfl) ?_
          simpa only [grAt, hbe, hD, hlt, hgt, if_false] using hR

theorem greatest_runs (l b : List UInt8) (c : Nat) (n : Nat) (hl : l.length = n + 1) (hn : n < 2 ^ 40) (hb : b.length < 2 ^ 63) (M : Mem) (hM : M.get c = some (.cells (bytesC l) false)) :
    Runs D2 F_poskey_greatest [.slice (some (c, 0)) (n + 1) (.exact (n + 1)), .str b] M fun v M' => v = .int .i64 (greatL l b) ∧ M' = M := by
  refine Runs.of (F := A_poskey_greatest) rfl (by rfl) (by rfl) ?_
  unfold A_poskey_greatest
  refine WC.seq (WC.ops ?_)
  simp only [A_poskey_greatest_0, go_sem, ↓reduceIte, Nat.reduceEqDiff, Nat.reduceLT]
  refine WC.seq (WC.ops ?_)
  simp only [A_poskey_greatest_1, go_sem, ↓reduceIte, Nat.reduceEqDiff, Nat.reduceLT]
  rw [IntWalk.i64_in _ (by omega), show (((n + 1 : Nat) : Int) - 1) = (n : Int) by omega]
  refine WC.seq (WC.seq (WC.ops ?_))
  simp only [A_poskey_greatest_2, go_sem, ↓reduceIte, Nat.reduceEqDiff, Nat.reduceLT, vslice, Option.map_none, Option.bind_none, Option.getD_none, Option.getD_some, id, Nat.le_refl, decide_eq_true (show n ≤ n + 1 by omega), Nat.zero_le, Nat.zero_mul, Nat.add_zero, Nat.sub_zero, decide_eq_false (show ¬ n + 1 = 0 by omega)]
  refine WC.block (great_loop (cap := .exact (n + 1)) l b c n hl hn hb M hM n 0 _ (by omega) (by simp only [go_sem, ↓reduceIte, Nat.reduceEqDiff, Nat.reduceLT]) (by simp only [go_sem, ↓reduceIte, Nat.reduceEqDiff, Nat.reduceLT]) (by simp only [go_sem, ↓reduceIte, Nat.reduceEqDiff, Nat.reduceLT]) (by simp only [go_sem, ↓reduceIte, Nat.reduceEqDiff, Nat.reduceLT]) (by simp only [go_sem, ↓reduceIte, Nat.reduceEqDiff, Nat.reduceLT]; rfl) ?_)
  refine ⟨?_, rfl⟩
  simp only [greatL, hl, Nat.add_sub_cancel]
end Go.Am.Try

/- The program's Right and fine, on the machine. -/
namespace Go.Am.Try
open Go Go.Am Go.Proofs
set_option maxRecDepth 100000
set_option linter.unusedSimpArgs false
set_option linter.unusedVariables false

def rightK (k : List UInt8) : Bool := !decide (k = []) && (decide (k.length ≤ 24) && !decide (digitL k (k.length - 1) = 0))

theorem right_runs (k : List UInt8) (M : Mem) : Runs D2 F_poskey_Right [.str k] M fun v M' => v = .bool (rightK k) ∧ M' = M := by
  refine Runs.of (F := A_poskey_Right) rfl (by rfl) (by rfl) ?_
  unfold A_poskey_Right
  refine WC.seq (WC.ops ?_)
  simp only [A_poskey_Right_0, go_sem]
  refine WC.seq (WC.ops ?_)
  simp only [A_poskey_Right_1, go_sem, ↓reduceIte, Nat.reduceEqDiff, Nat.reduceLT]
  by_cases h : k = []
  · simp only [h, go_sem, ↓reduceIte, Nat.reduceEqDiff, Nat.reduceLT]
    refine WC.ret ?_
    simp only [go_sem, ↓reduceIte, Nat.reduceEqDiff, Nat.reduceLT]
    exact ⟨rfl, trivial⟩
  · have hk : 0 < k.length := by cases k <;> simp at h ⊢
    simp only [h, go_sem, ↓reduceIte, Nat.reduceEqDiff, Nat.reduceLT]
    by_cases h2 : (k.length : Int) ≤ 24
    · have hl : k[k.length - 1]? = some k[k.length - 1] := List.getElem?_eq_getElem (by omega)
      have hd : digitL k (k.length - 1) = k[k.length - 1].toNat := by simp [digitL, List.getD_eq_getElem?_getD, hl]
      simp only [h2, go_sem, ↓reduceIte, Nat.reduceEqDiff, Nat.reduceLT]
      rw [IntWalk.i64_in _ (by omega), as_nat _ _ (by omega), show ((k.length : Int) - 1).toNat = k.length - 1 by omega]
      simp only [hl, go_sem, ↓reduceIte, Nat.reduceEqDiff, Nat.reduceLT]
      refine WC.ret ?_
      simp only [go_sem, ↓reduceIte, Nat.reduceEqDiff, Nat.reduceLT]
      refine ⟨?_, trivial⟩
      simp only [rightK, h, hd, show k.length ≤ 24 by omega, Int.natCast_eq_zero, decide_true, decide_false, Bool.not_false, Bool.true_and]
    · simp only [h2, go_sem, ↓reduceIte, Nat.reduceEqDiff, Nat.reduceLT]
      refine WC.ret ?_
      simp only [go_sem, ↓reduceIte, Nat.reduceEqDiff, Nat.reduceLT]
      refine ⟨?_, trivial⟩
      simp only [rightK, h, show ¬ k.length ≤ 24 by omega, decide_true, decide_false, Bool.not_false, Bool.true_and, Bool.false_and]

def inK (k : List UInt8) : Bool := decide (k = []) || rightK k
def fineK (a b : List UInt8) : Bool := inK a && (inK b && (decide (a = []) || (decide (b = []) || strLess a b)))

theorem in_runs (k : List UInt8) (M : Mem) : Runs D2 F_poskey_fine_c1 [.str k] M fun v M' => v = .bool (inK k) ∧ M' = M := by
  refine Runs.of (F := A_poskey_fine_c1) rfl (by rfl) (by rfl) ?_
  unfold A_poskey_fine_c1
  refine WC.seq (WC.ops ?_)
  simp only [A_poskey_fine_c1_0, go_sem]
  refine WC.seq (WC.ops ?_)
  simp only [A_poskey_fine_c1_1, go_sem, ↓reduceIte, Nat.reduceEqDiff, Nat.reduceLT]
  by_cases h : k = []
  · simp only [h, go_sem, ↓reduceIte, Nat.reduceEqDiff, Nat.reduceLT]
    refine WC.ret ?_
    simp only [go_sem, ↓reduceIte, Nat.reduceEqDiff, Nat.reduceLT]
    exact ⟨rfl, trivial⟩
  · simp only [h, go_sem, ↓reduceIte, Nat.reduceEqDiff, Nat.reduceLT]
    refine callI_of (right_runs k M) ?_
    rintro v M' ⟨rfl, rfl⟩
    simp only [go_sem, ↓reduceIte, Nat.reduceEqDiff, Nat.reduceLT]
    refine WC.ret ?_
    simp only [go_sem, ↓reduceIte, Nat.reduceEqDiff, Nat.reduceLT]
    refine ⟨?_, trivial⟩
    simp only [inK, h, decide_false, Bool.false_or]

theorem fine_runs (a b : List UInt8) (M : Mem) : Runs D2 F_poskey_fine [.str a, .str b] M fun v M' => v = .bool (fineK a b) ∧ M' = M := by
  refine Runs.of (F := A_poskey_fine) rfl (by rfl) (by rfl) ?_
  unfold A_poskey_fine
  refine WC.seq (WC.ops ?_)
  simp only [A_poskey_fine_0, go_sem]
  refine WC.seq (WC.ops ?_)
  simp only [A_poskey_fine_1, go_sem, ↓reduceIte, Nat.reduceEqDiff, Nat.reduceLT]
  refine WC.seq (WC.ops ?_)
  simp only [A_poskey_fine_2, go_sem, ↓reduceIte, Nat.reduceEqDiff, Nat.reduceLT, List.nil_append, List.append_nil]
  refine callI_of (in_runs a M) ?_
  rintro v M' ⟨rfl, rfl⟩
  simp only [go_sem, ↓reduceIte, Nat.reduceEqDiff, Nat.reduceLT]
  cases hA : inK a with
  | false =>
    simp only [go_sem, ↓reduceIte, Nat.reduceEqDiff, Nat.reduceLT]
    refine WC.ret ?_
    simp only [go_sem, ↓reduceIte, Nat.reduceEqDiff, Nat.reduceLT]
    exact ⟨by simp only [fineK, hA, Bool.false_and], trivial⟩
  | true =>
    simp only [go_sem, ↓reduceIte, Nat.reduceEqDiff, Nat.reduceLT, List.nil_append, List.append_nil]
    refine callI_of (in_runs b M') ?_
    rintro v M'' ⟨rfl, rfl⟩
    simp only [go_sem, ↓reduceIte, Nat.reduceEqDiff, Nat.reduceLT]
    cases hB : inK b with
    | false =>
      simp only [go_sem, ↓reduceIte, Nat.reduceEqDiff, Nat.reduceLT]
      refine WC.ret ?_
      simp only [go_sem, ↓reduceIte, Nat.reduceEqDiff, Nat.reduceLT]
      exact ⟨by simp only [fineK, hA, hB, Bool.false_and, Bool.true_and], trivial⟩
    | true =>
      by_cases ha : a = []
      · simp only [ha, go_sem, ↓reduceIte, Nat.reduceEqDiff, Nat.reduceLT]
        refine WC.ret ?_
        simp only [go_sem, ↓reduceIte, Nat.reduceEqDiff, Nat.reduceLT]
        subst ha
        exact ⟨by simp only [fineK, hA, hB, Bool.true_and, decide_true, Bool.true_or], trivial⟩
      · by_cases hb : b = []
        · simp only [ha, hb, go_sem, ↓reduceIte, Nat.reduceEqDiff, Nat.reduceLT]
          refine WC.ret ?_
          simp only [go_sem, ↓reduceIte, Nat.reduceEqDiff, Nat.reduceLT]
          subst hb
          exact ⟨by simp only [fineK, hA, hB, ha, Bool.true_and, decide_true, decide_false, Bool.true_or, Bool.false_or], trivial⟩
        · simp only [ha, hb, go_sem, ↓reduceIte, Nat.reduceEqDiff, Nat.reduceLT]
          refine WC.ret ?_
          simp only [go_sem, ↓reduceIte, Nat.reduceEqDiff, Nat.reduceLT]
          exact ⟨by simp only [fineK, hA, hB, ha, hb, Bool.true_and, decide_true, decide_false, Bool.true_or, Bool.false_or], trivial⟩
end Go.Am.Try

/- The program's Between, on the machine. -/
namespace Go.Am.Try
open Go Go.Am Go.Proofs
set_option maxRecDepth 100000
set_option linter.unusedSimpArgs false
set_option linter.unusedVariables false

def btwAt (a b : List UInt8) : Nat → Nat → Option (List UInt8)
  | 0, _ => none
  | f + 1, n => match incFrom (padTo a n) n with
    | none => btwAt a b f (n + 1)
    | some l => if greatL l b < max (digitL l (n - 1)) 1 then btwAt a b f (n + 1) else some (l.set (n - 1) (UInt8.ofNat ((max (digitL l (n - 1)) 1 + (greatL l b).toNat) / 2)))
def btwK (a b : List UInt8) : Option (List UInt8) := btwAt a b 24 1
def btwV (a b : List UInt8) : V := if fineK a b = true then (match btwK a b with | some k => .tup [.str k, .int .i64 0] | none => .tup [.str [], .int .i64 32]) else .tup [.str [], .int .i64 1]

theorem grAt_le (l b : List UInt8) (n : Nat) : ∀ k i, -1 ≤ grAt l b n k i ∧ grAt l b n k i ≤ 255
  | 0, _ => by
    have := digit_lt b n
    simp only [grAt, grEnd]
    split
    · omega
    · split <;> omega
  | k + 1, i => by
    simp only [grAt]
    split
    · omega
    · split
      · omega
      · split
        · omega
        · exact grAt_le l b n k (i + 1)
theorem greatL_le (l b : List UInt8) : -1 ≤ greatL l b ∧ greatL l b ≤ 255 := grAt_le _ _ _ _ _

theorem btw_loop (a b : List UInt8) (hb : b.length < 2 ^ 63) {R : V → Mem → Prop} (M0 : Mem) (hR : ∀ l M', Grew M0 M' → btwK a b = some l → R (.tup [.str l, .int .i64 0]) M') (hR2 : ∀ M', Grew M0 M' → btwK a b = none → R (.tup [.str [], .int .i64 32]) M') :
    ∀ (f n : Nat) (fr : Fr) (M : Mem), Grew M0 M → n + f = 25 → 1 ≤ n → btwAt a b f n = btwK a b → fr.rd 0 = .str a → fr.rd 1 = .str b → fr.rd 6 = .int .i64 (n : Int) →
    WC D2 51 (.loop A_poskey_Between_12) fr M (blockQ 0 (nextQ (fun fr M => WC D2 51 (.seq (.ops A_poskey_Between_13) .ret) fr M (endQ [.tmp 4, .tmp 5] R)) (endQ [.tmp 4, .tmp 5] R))) := by
  intro f
  induction f with
  | zero =>
    intro n fr M hG hn h1 hbt h0 h1' h6
    have : n = 25 := by omega
    subst this
    refine WC.loop ?_
    unfold A_poskey_Between_12
    refine WC.seq (WC.seq (WC.ops ?_))
    simp only [A_poskey_Between_4, go_sem, ↓reduceIte, Nat.reduceEqDiff, Nat.reduceLT, h6]
    refine WC.test (t := false) (by simp only [go_sem, ↓reduceIte, Nat.reduceEqDiff, Nat.reduceLT]; rfl) (fun h => by cases h) (fun _ => WC.exit ?_)
    simp only [go_sem]
    refine WC.seq (WC.ops ?_)
    simp only [A_poskey_Between_13, go_sem, ↓reduceIte, Nat.reduceEqDiff, Nat.reduceLT]
    refine WC.ret ?_
    simp only [go_sem, ↓reduceIte, Nat.reduceEqDiff, Nat.reduceLT]
    exact hR2 _ hG hbt.symm
  | succ f ih =>
    intro n fr M hG hn h1 hbt h0 h1' h6
    refine WC.loop ?_
    unfold A_poskey_Between_12
    refine WC.seq (WC.seq (WC.ops ?_))
    simp only [A_poskey_Between_4, go_sem, ↓reduceIte, Nat.reduceEqDiff, Nat.reduceLT, h6]
    refine WC.test (t := true) (by simp only [go_sem, ↓reduceIte, Nat.reduceEqDiff, Nat.reduceLT]; rw [decide_eq_true (by omega)]) (fun _ => WC.skip ?_) (fun h => by cases h)
    simp only [go_sem]
    have hnext : ∀ (fr' : Fr) (M' : Mem), Grew M0 M' → btwAt a b f (n + 1) = btwK a b → fr'.rd 0 = .str a → fr'.rd 1 = .str b → fr'.rd 6 = .int .i64 (n : Int) →
        WC D2 51 (.ops A_poskey_Between_11) fr' M' (nextQ (fun fr M => WC D2 51 (.loop A_poskey_Between_12) fr M (blockQ 0 (nextQ (fun fr M => WC D2 51 (.seq (.ops A_poskey_Between_13) .ret) fr M (endQ [.tmp 4, .tmp 5] R)) (endQ [.tmp 4, .tmp 5] R)))) (blockQ 0 (nextQ (fun fr M => WC D2 51 (.seq (.ops A_poskey_Between_13) .ret) fr M (endQ [.tmp 4, .tmp 5] R)) (endQ [.tmp 4, .tmp 5] R)))) := by
      intro fr' M' hG' hbt' g0 g1 g6
      refine WC.ops ?_
      simp only [A_poskey_Between_11, go_sem, ↓reduceIte, Nat.reduceEqDiff, Nat.reduceLT, g6]
      rw [IntWalk.i64_in _ (by omega)]
      exact ih (n + 1) _ M' hG' (by omega) (by omega) hbt' (by simp only [go_sem, ↓reduceIte, Nat.reduceEqDiff, Nat.reduceLT, g0]) (by simp only [go_sem, ↓reduceIte, Nat.reduceEqDiff, Nat.reduceLT, g1]) (by simp only [go_sem, ↓reduceIte, Nat.reduceEqDiff, Nat.reduceLT]; rfl)
    refine WC.seq (WC.block (WC.seq (WC.ops ?_)))
    simp only [A_poskey_Between_5, go_sem, ↓reduceIte, Nat.reduceEqDiff, Nat.reduceLT, h0, h6]
    refine callI_of (above_runs a n (by omega) M) ?_
    rintro v M1 ⟨hg, hv⟩
    rcases hv with ⟨l, hi, hl, rfl, hM1, hlt⟩ | ⟨hi, rfl⟩
    · simp only [go_sem, ↓reduceIte, Nat.reduceEqDiff, Nat.reduceLT, List.getElem?_cons_zero, List.getElem?_cons_succ]
      refine WC.seq (WC.seq (WC.ops ?_))
      simp only [A_poskey_Between_6, go_sem, ↓reduceIte, Nat.reduceEqDiff, Nat.reduceLT]
      refine WC.test (t := false) (by simp only [go_sem, ↓reduceIte, Nat.reduceEqDiff, Nat.reduceLT]) (fun h => by cases h) (fun _ => WC.skip ?_)
      simp only [go_sem]
      obtain ⟨m, rfl⟩ : ∃ m, n = m + 1 := ⟨n - 1, by omega⟩
      have hm : l[m]? = some l[m] := List.getElem?_eq_getElem (by omega)
      have hc : (bytesC l)[m]? = some (.int .u8 (l[m].toNat : Int)) := by rw [bytesC_get, hm]; rfl
      have hD : digitL l m = l[m].toNat := by simp [digitL, List.getD_eq_getElem?_getD, hm]
      have h8 := l[m].toNat_lt
      refine WC.seq (WC.ops ?_)
      have hw : IntKind.i64.wrap (((m + 1 : Nat) : Int) - 1) = (m : Int) := by rw [IntWalk.i64_in _ (by omega)]; omega
      simp only [A_poskey_Between_7, go_sem, ↓reduceIte, Nat.reduceEqDiff, Nat.reduceLT, h1', h6, hw, decide_eq_true (show m + 1 ≤ m + 1 from Nat.le_refl _), Nat.le_refl, vload, hM1, Nat.zero_add, Nat.mul_one, hc]
      refine callA_of (greatest_runs l b M.next m hl (by omega) hb M1 hM1) ?_
      rintro v M2 ⟨rfl, rfl⟩
      refine ⟨?_, ?_⟩
      · simp only [List.all_cons, List.all_nil, Bool.and_true, againOk, wantedA, cond_true, go_sem, ↓reduceIte, Nat.reduceEqDiff, Nat.reduceLT, Nat.reduceLeDiff, vload, hM1, hc, Nat.reduceAdd]
      · simp only [go_sem, ↓reduceIte, Nat.reduceEqDiff, Nat.reduceLT]
        refine WC.seq (WC.seq (WC.ops ?_))
        simp only [A_poskey_Between_8, go_sem, ↓reduceIte, Nat.reduceEqDiff, Nat.reduceLT]
        have hgr := greatL_le l b
        have hlo : max (IntKind.i64.wrap (l[m].toNat : Int)) 1 = ((max (digitL l m) 1 : Nat) : Int) := by
          rw [IntWalk.i64_in _ (by omega), hD]; omega
        have hmx : max (digitL l m) 1 ≤ 255 ∧ 1 ≤ max (digitL l m) 1 := by omega
        refine WC.test (by simp only [go_sem, ↓reduceIte, Nat.reduceEqDiff, Nat.reduceLT]; rfl) (fun h => WC.exit ?_) (fun h => WC.skip ?_)
        · have h := of_decide_eq_true h
          rw [hlo] at h
          simp only [go_sem]
          refine hnext _ _ (hG.trans hg) ?_ (by simp only [go_sem, ↓reduceIte, Nat.reduceEqDiff, Nat.reduceLT, h0]) (by simp only [go_sem, ↓reduceIte, Nat.reduceEqDiff, Nat.reduceLT, h1']) (by simp only [go_sem, ↓reduceIte, Nat.reduceEqDiff, Nat.reduceLT, h6])
          rw [← hbt]
          simp only [btwAt, hi, Nat.add_sub_cancel]
          rw [if_pos h]
        · have h := of_decide_eq_false h
          rw [hlo] at h
          simp only [go_sem]
          refine WC.seq (WC.ops ?_)
          simp only [A_poskey_Between_9, go_sem, ↓reduceIte, Nat.reduceEqDiff, Nat.reduceLT, h1', h6, hw, ne_eq, Int.reduceEq, not_false_eq_true, Nat.le_refl, Nat.zero_add, Nat.mul_one, hlo]
          have hq : IntKind.u8.wrap (IntKind.i64.wrap ((IntKind.i64.wrap (((max (digitL l m) 1 : Nat) : Int) + greatL l b)).tdiv 2)) = ((UInt8.ofNat ((max (digitL l m) 1 + (greatL l b).toNat) / 2)).toNat : Int) := by
            rw [IntWalk.i64_in (((max (digitL l m) 1 : Nat) : Int) + greatL l b) (by omega), Int.tdiv_eq_ediv_of_nonneg (by omega), IntWalk.i64_in _ (by omega), IntWalk.u8_in _ (by omega)]
            simp only [UInt8.toNat_ofNat']
            omega
          rw [hq]
          simp only [vstore, V.cells, List.length_cons, List.length_nil, Nat.zero_add, Nat.reduceEqDiff, go_sem]
          rw [write_one hM1 (by rw [bytesC_len]; omega) rfl, bytesC_set]
          simp only [go_sem, ↓reduceIte, Nat.reduceEqDiff, Nat.reduceLT]
          have hu := Upd.set M2 M.next (.cells (bytesC (l.set m (UInt8.ofNat ((max (digitL l m) 1 + (greatL l b).toNat) / 2)))) false)
          generalize M2.set M.next _ = M3 at hu
          refine WC.seq (WC.ops ?_)
          have hr := read_all hu.at_
          rw [bytesC_len, List.length_set, hl] at hr
          simp only [A_poskey_Between_10, go_sem, ↓reduceIte, Nat.reduceEqDiff, Nat.reduceLT, show ¬ m + 1 = 0 by omega, hr, bytesOf_bytesC]
          refine WC.ret ?_
          simp only [go_sem, ↓reduceIte, Nat.reduceEqDiff, Nat.reduceLT]
          refine hR _ _ ((hG.trans hg).upd hG.next hu) ?_
          rw [← hbt]
          simp only [btwAt, hi, Nat.add_sub_cancel]
          rw [if_neg h]
    · simp only [go_sem, ↓reduceIte, Nat.reduceEqDiff, Nat.reduceLT, List.getElem?_cons_zero, List.getElem?_cons_succ]
      refine WC.seq (WC.seq (WC.ops ?_))
      simp only [A_poskey_Between_6, go_sem, ↓reduceIte, Nat.reduceEqDiff, Nat.reduceLT]
      refine WC.test (t := true) (by simp only [go_sem, ↓reduceIte, Nat.reduceEqDiff, Nat.reduceLT]) (fun _ => WC.exit ?_) (fun h => by cases h)
      simp only [go_sem]
      refine hnext _ _ (hG.trans hg) ?_ (by simp only [go_sem, ↓reduceIte, Nat.reduceEqDiff, Nat.reduceLT, h0]) (by simp only [go_sem, ↓reduceIte, Nat.reduceEqDiff, Nat.reduceLT, h1']) (by simp only [go_sem, ↓reduceIte, Nat.reduceEqDiff, Nat.reduceLT, h6])
      rw [← hbt]
      simp only [btwAt, hi]

theorem between_runs (a b : List UInt8) (hb : b.length < 2 ^ 63) (M : Mem) : Runs D2 F_poskey_Between [.str a, .str b] M fun v M' => v = btwV a b ∧ Grew M M' := by
  refine Runs.of (F := A_poskey_Between) rfl (by rfl) (by rfl) ?_
  unfold A_poskey_Between
  refine WC.seq (WC.ops ?_)
  simp only [A_poskey_Between_0, go_sem]
  refine WC.scope (WC.seq (WC.seq (WC.ops ?_)))
  simp only [A_poskey_Between_1, go_sem, ↓reduceIte, Nat.reduceEqDiff, Nat.reduceLT]
  refine callI_of (fine_runs a b M) ?_
  rintro v M' ⟨rfl, rfl⟩
  simp only [go_sem, ↓reduceIte, Nat.reduceEqDiff, Nat.reduceLT]
  cases hf : fineK a b with
  | false =>
    refine WC.test (t := true) (by simp only [go_sem, ↓reduceIte, Nat.reduceEqDiff, Nat.reduceLT]) (fun _ => ?_) (fun h => by cases h)
    refine WC.seq (WC.ops ?_)
    simp only [A_poskey_Between_2, go_sem, ↓reduceIte, Nat.reduceEqDiff, Nat.reduceLT]
    refine WC.ret ?_
    simp only [go_sem, ↓reduceIte, Nat.reduceEqDiff, Nat.reduceLT, btwV, hf, Bool.false_eq_true]
    exact ⟨trivial, Grew.refl _⟩
  | true =>
    refine WC.test (t := false) (by simp only [go_sem, ↓reduceIte, Nat.reduceEqDiff, Nat.reduceLT]) (fun h => by cases h) (fun _ => WC.skip ?_)
    simp only [go_sem]
    refine WC.seq (WC.skip ?_)
    simp only [go_sem]
    refine WC.seq (WC.seq (WC.ops ?_))
    simp only [A_poskey_Between_3, go_sem, ↓reduceIte, Nat.reduceEqDiff, Nat.reduceLT]
    refine WC.block (btw_loop a b hb M' ?_ ?_ 24 1 _ M' (Grew.refl _) rfl (Nat.le_refl _) rfl (by simp only [go_sem, ↓reduceIte, Nat.reduceEqDiff, Nat.reduceLT]) (by simp only [go_sem, ↓reduceIte, Nat.reduceEqDiff, Nat.reduceLT]) (by simp only [go_sem, ↓reduceIte, Nat.reduceEqDiff, Nat.reduceLT]; rfl))
    · intro l M2 hg h
      exact ⟨by simp only [btwV, hf, h, if_true], hg⟩
    · intro M2 hg h
      exact ⟨by simp only [btwV, hf, h, if_true], hg⟩
end Go.Am.Try

/- The plain law of a key between: it stands between, and may be; where there is room there is one. -/
namespace Go.Am.Try
open Go Go.Am Go.Proofs
set_option maxRecDepth 100000
set_option linter.unusedSimpArgs false
set_option linter.unusedVariables false

theorem digit_cons (c : UInt8) (a : List UInt8) (i : Nat) : digitL (c :: a) (i + 1) = digitL a i := by simp [digitL]
theorem digit_zero (c : UInt8) (a : List UInt8) : digitL (c :: a) 0 = c.toNat := by simp [digitL]
theorem digit_nil (i : Nat) : digitL [] i = 0 := by simp [digitL]
theorem digit_out {a : List UInt8} {i : Nat} (h : a.length ≤ i) : digitL a i = 0 := by simp [digitL, List.getD_eq_getElem?_getD, List.getElem?_eq_none h]

/-- By the first digit in which they differ. -/
theorem less_of_digit : ∀ (i : Nat) (a k : List UInt8), i < k.length → (∀ j, j < i → digitL k j = digitL a j) → digitL a i < digitL k i → strLess a k = true
  | _, _, [], h, _, _ => by simp at h
  | _, [], _ :: _, _, _, _ => rfl
  | 0, x :: a, y :: k, _, _, h => by
    rw [digit_zero, digit_zero] at h
    simp only [strLess, ble_iff, decide_eq_true (show x.toNat + 1 ≤ y.toNat from h), cond_true]
  | i + 1, x :: a, y :: k, hk, hj, h => by
    have h0 := hj 0 (by omega)
    rw [digit_zero, digit_zero] at h0
    rw [digit_cons, digit_cons] at h
    have := less_of_digit i a k (by simpa using hk) (fun j hji => by have := hj (j + 1) (by omega); rwa [digit_cons, digit_cons] at this) h
    simp only [strLess, ble_iff, beq_dec, decide_eq_false (show ¬ x.toNat + 1 ≤ y.toNat by omega), decide_eq_true h0.symm, cond_false, cond_true, this]
/-- The beginning of another. -/
theorem less_of_begin : ∀ (a k : List UInt8), a.length < k.length → (∀ j, j < a.length → digitL k j = digitL a j) → strLess a k = true
  | _, [], h, _ => by simp at h
  | [], _ :: _, _, _ => rfl
  | x :: a, y :: k, hl, hj => by
    have h0 := hj 0 (by simp)
    rw [digit_zero, digit_zero] at h0
    have := less_of_begin a k (by simpa using hl) (fun j hji => by have := hj (j + 1) (by simpa using hji); rwa [digit_cons, digit_cons] at this)
    simp only [strLess, ble_iff, beq_dec, decide_eq_false (show ¬ x.toNat + 1 ≤ y.toNat by omega), decide_eq_true h0.symm, cond_false, cond_true, this]

theorem digit_set (l : List UInt8) (i j : Nat) (c : UInt8) (h : i < l.length) : digitL (l.set i c) j = if j = i then c.toNat else digitL l j := by
  unfold digitL
  simp only [List.getD_eq_getElem?_getD]
  by_cases e : j = i
  · subst e; rw [if_pos rfl, List.getElem?_set_self h]; rfl
  · rw [if_neg e, List.getElem?_set_ne (by omega)]
theorem digit_pad (a : List UInt8) (n i : Nat) (h : i < n) : digitL (padTo a n) i = digitL a i := by
  unfold digitL; rw [padTo_get a n i h]

/-- What one more is: one digit is more by one, those behind it nought. -/
theorem inc_spec : ∀ (m : Nat) (l l' : List UInt8), m ≤ l.length → incFrom l m = some l' → l'.length = l.length ∧ ∃ i, i < m ∧ (∀ j, j < i → digitL l' j = digitL l j) ∧ digitL l' i = digitL l i + 1 ∧ (∀ j, i < j → j < m → digitL l' j = 0 ∧ digitL l j = 255) ∧ (∀ j, m ≤ j → digitL l' j = digitL l j)
  | 0, _, _, _, h => by cases h
  | m + 1, l, l', hl, h => by
    simp only [incFrom] at h
    have hm : m < l.length := by omega
    have hc : (l.getD m 0).toNat = digitL l m := rfl
    by_cases hz : l.getD m 0 + 1 = 0
    · have h255 : digitL l m = 255 := by
        have : ((l.getD m 0) + 1).toNat = (0 : UInt8).toNat := by rw [hz]
        rw [UInt8.toNat_add] at this
        have h2 := (l.getD m 0).toNat_lt
        rw [← hc]
        simp at this
        simp at h2 ⊢
        omega
      rw [if_neg (by simpa using hz)] at h
      obtain ⟨h1, i, h2, h3, h4, h5, h6⟩ := inc_spec m (l.set m 0) l' (by simp; omega) h
      have hs : ∀ j, digitL (l.set m 0) j = if j = m then 0 else digitL l j := fun j => by rw [digit_set l m j 0 hm]; rfl
      refine ⟨by simpa using h1, i, by omega, fun j hj => ?_, ?_, fun j hij hjm => ?_, fun j hj => ?_⟩
      · rw [h3 j hj, hs, if_neg (by omega)]
      · rw [h4, hs, if_neg (by omega)]
      · by_cases e : j = m
        · subst e
          exact ⟨by rw [h6 j (Nat.le_refl _), hs, if_pos rfl], h255⟩
        · obtain ⟨q1, q2⟩ := h5 j hij (by omega)
          rw [hs, if_neg e] at q2
          exact ⟨q1, q2⟩
      · rw [h6 j (by omega), hs, if_neg (by omega)]
    · rw [if_pos (by simpa using hz)] at h
      cases h
      refine ⟨by simp, m, by omega, fun j hj => ?_, ?_, fun j hij hjm => by omega, fun j hj => ?_⟩
      · rw [digit_set _ _ _ _ hm, if_neg (by omega)]
      · rw [digit_set _ _ _ _ hm, if_pos rfl, UInt8.toNat_add, hc]
        have : digitL l m ≠ 255 := by
          intro e
          apply hz
          apply UInt8.toNat_inj.1
          rw [UInt8.toNat_add, hc, e]
          rfl
        have h2 := digit_lt l m
        simp
        omega
      · rw [digit_set _ _ _ _ hm, if_neg (by omega)]

/-- What the greatest last byte is. -/
theorem gr_spec (l b : List UInt8) (hb : b ≠ []) (n : Nat) (c : Nat) (hc : 1 ≤ c) : ∀ (k i : Nat), i + k = n → (∀ j, j < i → digitL l j = digitL b j) → (c : Int) ≤ grAt l b n k i →
    (∃ i, i < n ∧ (∀ j, j < i → digitL l j = digitL b j) ∧ digitL l i < digitL b i) ∨ ((∀ j, j < n → digitL l j = digitL b j) ∧ ((n + 1 < b.length ∧ c ≤ digitL b n) ∨ c < digitL b n))
  | 0, i, hi, hj, h => by
    have : i = n := by omega
    subst this
    simp only [grAt, grEnd, hb, if_false] at h
    refine .inr ⟨hj, ?_⟩
    split at h
    · rename_i h1; exact .inl ⟨h1, by omega⟩
    · exact .inr (by omega)
  | k + 1, i, hi, hj, h => by
    simp only [grAt, hb, if_false] at h
    have hd : (l.getD i 0).toNat = digitL l i := rfl
    rw [hd] at h
    by_cases h1 : digitL l i < digitL b i
    · exact .inl ⟨i, by omega, hj, h1⟩
    · rw [if_neg h1] at h
      by_cases h2 : digitL b i < digitL l i
      · rw [if_pos h2] at h; omega
      · rw [if_neg h2] at h
        exact gr_spec l b hb n c hc k (i + 1) (by omega) (fun j hj' => by
          by_cases e : j = i
          · subst e; omega
          · exact hj j (by omega)) h

/-- The key that is found. -/
theorem btw_one {a b l : List UInt8} {n : Nat} (hn : 1 ≤ n) (hn2 : n ≤ 24) (hi : incFrom (padTo a n) n = some l) (hg : ¬ greatL l b < max (digitL l (n - 1)) 1) :
    let k := l.set (n - 1) (UInt8.ofNat ((max (digitL l (n - 1)) 1 + (greatL l b).toNat) / 2))
    k.length = n ∧ rightK k = true ∧ strLess a k = true ∧ (b ≠ [] → strLess k b = true) := by
  intro k
  obtain ⟨m, rfl⟩ : ∃ m, n = m + 1 := ⟨n - 1, by omega⟩
  have hgl := greatL_le l b
  have hpl := padTo_len a (m + 1)
  obtain ⟨hl, i, hi1, hi2, hi3, hi4, _⟩ := inc_spec (m + 1) _ _ (by rw [hpl]; exact Nat.le_refl _) hi
  rw [hpl] at hl
  have h8 := digit_lt l m
  simp only [Nat.add_sub_cancel] at hg
  generalize hc : (max (digitL l m) 1 + (greatL l b).toNat) / 2 = c
  have hc1 : max (digitL l m) 1 ≤ c ∧ c ≤ 255 ∧ (c : Int) ≤ greatL l b := by omega
  have hk : k = l.set m (UInt8.ofNat c) := by simp only [k, Nat.add_sub_cancel, hc]
  have hcn : (UInt8.ofNat c).toNat = c := by simp only [UInt8.toNat_ofNat']; omega
  have hd : ∀ j, digitL k j = if j = m then c else digitL l j := fun j => by rw [hk, digit_set l m j _ (by omega), hcn]
  have hkl : k.length = m + 1 := by rw [hk, List.length_set, hl]
  have hp : ∀ j, j < m + 1 → digitL (padTo a (m + 1)) j = digitL a j := fun j hj => digit_pad a (m + 1) j hj
  refine ⟨hkl, ?_, ?_, fun hb => ?_⟩
  · have e1 : k ≠ [] := by intro e; rw [e] at hkl; simp at hkl
    have e2 : digitL k (k.length - 1) ≠ 0 := by rw [hkl, hd]; simp; omega
    simp only [rightK, e1, e2, show k.length ≤ 24 by omega, decide_true, decide_false, Bool.not_false, Bool.true_and]
  · refine less_of_digit i a k (by omega) (fun j hj => ?_) ?_
    · rw [hd, if_neg (by omega), hi2 j hj, hp j (by omega)]
    · rw [hd]
      rw [hp i hi1] at hi3
      split
      · rename_i e; subst e; omega
      · omega
  · have hgs := gr_spec l b hb m c (by omega) m 0 (by omega) (fun j hj => by omega) (by have := hc1.2.2; simpa only [greatL, hl, Nat.add_sub_cancel] using this)
    rcases hgs with ⟨i, h1, h2, h3⟩ | ⟨h1, h2⟩
    · have hib : i < b.length := by
        apply Nat.lt_of_not_le
        intro h
        rw [digit_out h] at h3
        omega
      exact less_of_digit i k b hib (fun j hj => by rw [hd, if_neg (by omega)]; exact (h2 j hj).symm) (by rw [hd, if_neg (by omega)]; exact h3)
    · have hpre : ∀ j, j < m → digitL b j = digitL k j := fun j hj => by rw [hd, if_neg (by omega)]; exact (h1 j hj).symm
      by_cases hlt : c < digitL b m
      · have hib : m < b.length := by
          apply Nat.lt_of_not_le
          intro h
          rw [digit_out h] at hlt
          omega
        exact less_of_digit m k b hib hpre (by rw [hd, if_pos rfl]; exact hlt)
      · rcases h2 with ⟨h2, h3⟩ | h2
        · refine less_of_begin k b (by omega) fun j hj => ?_
          by_cases e : j = m
          · subst e; rw [hd, if_pos rfl]; omega
          · exact hpre j (by omega)
        · exact absurd h2 hlt

theorem btw_spec {a b : List UInt8} : ∀ (f n : Nat) (k : List UInt8), 1 ≤ n → n + f = 25 → btwAt a b f n = some k → rightK k = true ∧ strLess a k = true ∧ (b ≠ [] → strLess k b = true)
  | 0, _, _, _, _, h => by cases h
  | f + 1, n, k, h1, h2, h => by
    simp only [btwAt] at h
    cases hi : incFrom (padTo a n) n with
    | none => rw [hi] at h; exact btw_spec f (n + 1) k (by omega) (by omega) h
    | some l =>
      rw [hi] at h
      simp only at h
      by_cases hg : greatL l b < max (digitL l (n - 1)) 1
      · rw [if_pos hg] at h; exact btw_spec f (n + 1) k (by omega) (by omega) h
      · rw [if_neg hg] at h
        cases h
        exact (btw_one h1 (by omega) hi hg).2
/-- Where a length will do, one is found, of that length at most. -/
theorem btw_found {a b l : List UInt8} (n0 : Nat) (hi0 : incFrom (padTo a n0) n0 = some l) (hg0 : ¬ greatL l b < max (digitL l (n0 - 1)) 1) : ∀ (f n : Nat), 1 ≤ n → n + f = 25 → n ≤ n0 → n0 ≤ 24 → ∃ k, btwAt a b f n = some k ∧ k.length ≤ n0
  | 0, n, h1, h2, h3, h4 => by omega
  | f + 1, n, h1, h2, h3, h4 => by
    simp only [btwAt]
    by_cases e : n = n0
    · subst e
      rw [hi0]
      simp only
      rw [if_neg hg0]
      exact ⟨_, rfl, Nat.le_of_eq (btw_one h1 h4 hi0 hg0).1⟩
    · cases hi : incFrom (padTo a n) n with
      | none => exact btw_found n0 hi0 hg0 f (n + 1) (by omega) (by omega) (by omega) h4
      | some l' =>
        simp only
        by_cases hg : greatL l' b < max (digitL l' (n - 1)) 1
        · rw [if_pos hg]; exact btw_found n0 hi0 hg0 f (n + 1) (by omega) (by omega) (by omega) h4
        · rw [if_neg hg]
          exact ⟨_, rfl, by rw [(btw_one h1 (by omega) hi hg).1]; omega⟩
end Go.Am.Try

/- The plain law of a key between: where both ends are short there is one. -/
namespace Go.Am.Try
open Go Go.Am Go.Proofs
set_option maxRecDepth 100000
set_option linter.unusedSimpArgs false
set_option linter.unusedVariables false

theorem first_digit : ∀ (b : List UInt8), b ≠ [] → digitL b (b.length - 1) ≠ 0 → ∃ i, i < b.length ∧ (∀ j, j < i → digitL b j = 0) ∧ 0 < digitL b i
  | [], h, _ => absurd rfl h
  | y :: b, _, h2 => by
    by_cases h0 : y.toNat = 0
    · cases b with
      | nil => exact absurd (by rw [List.length_cons, List.length_nil, Nat.zero_add, Nat.sub_self, digit_zero]; exact h0) h2
      | cons z b =>
        obtain ⟨i, h3, h4, h5⟩ := first_digit (z :: b) (by simp) (by
          have : (y :: z :: b).length - 1 = ((z :: b).length - 1) + 1 := by simp
          rw [this, digit_cons] at h2
          exact h2)
        refine ⟨i + 1, by simpa using h3, fun j hj => ?_, by rw [digit_cons]; exact h5⟩
        cases j with
        | zero => rw [digit_zero]; exact h0
        | succ j => rw [digit_cons]; exact h4 j (by omega)
    · exact ⟨0, by simp, fun j hj => by omega, by rw [digit_zero]; omega⟩
theorem digit_of_less : ∀ (a b : List UInt8), strLess a b = true → digitL b (b.length - 1) ≠ 0 → ∃ i, i < b.length ∧ (∀ j, j < i → digitL a j = digitL b j) ∧ digitL a i < digitL b i
  | _, [], h, _ => by cases ‹List UInt8› <;> simp [strLess] at h
  | [], y :: b, _, h2 => by
    obtain ⟨i, h3, h4, h5⟩ := first_digit (y :: b) (by simp) h2
    exact ⟨i, h3, fun j hj => by rw [digit_nil, h4 j hj], by rw [digit_nil]; exact h5⟩
  | x :: a, y :: b, h, h2 => by
    simp only [strLess, ble_iff, beq_dec] at h
    by_cases h1 : x.toNat + 1 ≤ y.toNat
    · exact ⟨0, by simp, fun j hj => by omega, by rw [digit_zero, digit_zero]; omega⟩
    · rw [decide_eq_false h1] at h
      by_cases h3 : x.toNat = y.toNat
      · rw [decide_eq_true h3] at h
        simp only [cond_false, cond_true] at h
        have hne : b ≠ [] := by intro e; subst e; cases a <;> simp [strLess] at h
        have hl : (y :: b).length - 1 = (b.length - 1) + 1 := by cases b <;> simp at hne ⊢
        rw [hl, digit_cons] at h2
        obtain ⟨i, h4, h5, h6⟩ := digit_of_less a b h h2
        refine ⟨i + 1, by simpa using h4, fun j hj => ?_, by rw [digit_cons, digit_cons]; exact h6⟩
        cases j with
        | zero => rw [digit_zero, digit_zero, h3]
        | succ j => rw [digit_cons, digit_cons]; exact h5 j (by omega)
      · rw [decide_eq_false h3] at h; cases h

theorem right_last {k : List UInt8} (h : rightK k = true) : k ≠ [] ∧ k.length ≤ 24 ∧ digitL k (k.length - 1) ≠ 0 := by
  simp only [rightK, Bool.and_eq_true, Bool.not_eq_true', decide_eq_false_iff_not, decide_eq_true_eq] at h
  exact ⟨h.1, h.2.1, h.2.2⟩
theorem fine_parts {a b : List UInt8} (h : fineK a b = true) : (a = [] ∨ rightK a = true) ∧ (b = [] ∨ rightK b = true) ∧ (a = [] ∨ b = [] ∨ strLess a b = true) := by
  simpa only [fineK, inK, Bool.and_eq_true, Bool.or_eq_true, decide_eq_true_eq] using h

theorem gr_less (l b : List UInt8) (hb : b ≠ []) (n i : Nat) (hi : i < n) (h1 : ∀ j, j < i → digitL l j = digitL b j) (h2 : digitL l i < digitL b i) : ∀ (k s : Nat), s + k = n → s ≤ i → grAt l b n k s = 255
  | 0, s, h, hs => by omega
  | k + 1, s, h, hs => by
    simp only [grAt, hb, if_false]
    have hd : (l.getD s 0).toNat = digitL l s := rfl
    rw [hd]
    by_cases e : s = i
    · subst e; rw [if_pos h2]
    · have := h1 s (by omega)
      rw [if_neg (by omega), if_neg (by omega)]
      exact gr_less l b hb n i hi h1 h2 k (s + 1) (by omega) (by omega)
theorem gr_open (l : List UInt8) (n : Nat) : ∀ (k s : Nat), grAt l [] n k s = 255
  | 0, _ => rfl
  | _ + 1, _ => rfl

theorem fine_found {a b : List UInt8} (h : fineK a b = true) (hl : max a.length b.length + 1 ≤ 24) : ∃ k, btwK a b = some k ∧ k.length ≤ max a.length b.length + 1 := by
  obtain ⟨ha, hb, hab⟩ := fine_parts h
  generalize hm : max a.length b.length = m at hl ⊢
  have hma : a.length ≤ m ∧ b.length ≤ m := by omega
  have hp := padTo_len a (m + 1)
  have hz : (padTo a (m + 1)).getD m 0 = 0 := by
    rw [padTo_get a _ _ (by omega), List.getD_eq_getElem?_getD, List.getElem?_eq_none (by omega)]; rfl
  have hi : incFrom (padTo a (m + 1)) (m + 1) = some ((padTo a (m + 1)).set m 1) := by
    simp only [incFrom, hz]
    rfl
  have hd : ∀ j, digitL ((padTo a (m + 1)).set m 1) j = if j = m then 1 else digitL (padTo a (m + 1)) j := fun j => digit_set _ m j 1 (by omega)
  have hg : ¬ greatL ((padTo a (m + 1)).set m 1) b < max (digitL ((padTo a (m + 1)).set m 1) m) 1 := by
    have h255 : greatL ((padTo a (m + 1)).set m 1) b = 255 := by
      unfold greatL
      have hlen : ((padTo a (m + 1)).set m 1).length - 1 = m := by rw [List.length_set, hp]; rfl
      rw [hlen]
      by_cases hbe : b = []
      · subst hbe; exact gr_open _ _ _ _
      · have hbr := right_last (hb.resolve_left hbe)
        have hs : strLess a b = true := by
          rcases hab with rfl | e | e
          · cases b with
            | nil => exact absurd rfl hbe
            | cons y b => rfl
          · exact absurd e hbe
          · exact e
        obtain ⟨i, h1, h2, h3⟩ := digit_of_less a b hs hbr.2.2
        refine gr_less _ b hbe m i (by omega) (fun j hj => ?_) ?_ m 0 (by omega) (Nat.zero_le _)
        · rw [hd, if_neg (by omega), digit_pad a _ _ (by omega)]; exact h2 j hj
        · rw [hd, if_neg (by omega), digit_pad a _ _ (by omega)]; exact h3
    rw [h255, hd, if_pos rfl]
    decide
  exact btw_found (m + 1) hi (by rw [Nat.add_sub_cancel]; exact hg) 24 1 (Nat.le_refl _) rfl (by omega) hl
theorem btw_right {a b k : List UInt8} (h : btwK a b = some k) : rightK k = true ∧ strLess a k = true ∧ (b ≠ [] → strLess k b = true) := btw_spec 24 1 k (Nat.le_refl _) rfl h
end Go.Am.Try

/- The functions of the order laws: long, fine, Sort. -/
namespace Go.Am.Try
open Go Go.Am Go.Proofs Go.Sort Go.Shelf
set_option maxRecDepth 100000
set_option linter.unusedSimpArgs false
set_option linter.unusedVariables false

theorem long_loop (s : V) (xs : List Sb) (hk : ∀ x ∈ xs, x.1.length < 2 ^ 63) (M : Mem) (hs : SlR elSb M s xs) {Q : AExit → Fr → Mem → Prop} (hR : ∀ fr, fr.rd 2 = .bool true → Q .ret fr M) (hE : ∀ fr, fr.rd 0 = s → Q (.exit 0) fr M) :
    ∀ (f i : Nat) (fr : Fr), i + f = xs.length → fr.rd 0 = s → fr.rd 3 = .int .i64 (i : Int) → WC D2 24 (.loop A_law11_long_6) fr M Q := by
  intro f
  induction f with
  | zero =>
    intro i fr hi h0 h3
    refine WC.loop (W_of ?_)
    unfold A_law11_long_6
    obtain ⟨a, cap, rfl, _⟩ := hs
    have : ¬ (i : Int) < xs.length := by omega
    simp -dsimp only [↓w_seq, ↓w_ops, ↓w_skip, ↓w_ret, ↓w_exit, ↓w_scope, ↓w_block, ↓w_cond, cond_true', cond_false', ↓t_nil, ↓t_plain, ↓t_guard, ↓t_again, t_val, t_call, g_true, g_false, a_val, a_call, ↓n_normal, ↓n_ret, ↓n_exit, ↓b_normal, ↓b_ret, ↓b_exit, ↓e_normal, ↓e_ret, e_some, go_sem, ↓reduceIte, Nat.reduceEqDiff, Nat.reduceLT, Nat.reduceSub, A_law11_long_0, A_law11_long_1, A_law11_long_2, A_law11_long_3, A_law11_long_4, A_law11_long_5, A_law11_long_7, h0, h3, this, decide_false]
    exact hE _ (by simp only [go_sem, ↓reduceIte, Nat.reduceEqDiff, Nat.reduceLT, Nat.reduceSub, h0])
  | succ f ih =>
    intro i fr hi h0 h3
    refine WC.loop (W_of ?_)
    unfold A_law11_long_6
    have hil : i < xs.length := by omega
    have hkl := hk xs[i] (List.getElem_mem hil)
    obtain ⟨b, o, cs, ro, cap, rfl, hM, hr3, hr1, hr2⟩ := sl_at hs hil
    have h1 : (i : Int) < xs.length := by omega
    have h2 : i + 1 ≤ xs.length := by omega
    have h5' : (i : Int) + 1 = ((i + 1 : Nat) : Int) := by omega
    by_cases h5 : (i : Int) < 200
    · by_cases h6 : (200 : Int) < xs[i].1.length
      · simp -dsimp only [↓w_seq, ↓w_ops, ↓w_skip, ↓w_ret, ↓w_exit, ↓w_scope, ↓w_block, ↓w_cond, cond_true', cond_false', ↓t_nil, ↓t_plain, ↓t_guard, ↓t_again, t_val, t_call, g_true, g_false, a_val, a_call, ↓n_normal, ↓n_ret, ↓n_exit, ↓b_normal, ↓b_ret, ↓b_exit, ↓e_normal, ↓e_ret, e_some, go_sem, ↓reduceIte, Nat.reduceEqDiff, Nat.reduceLT, Nat.reduceSub, A_law11_long_0, A_law11_long_1, A_law11_long_2, A_law11_long_3, A_law11_long_4, A_law11_long_5, A_law11_long_7, h0, h3, h1, h2, h5, h6, vload, vptr, hM, Mem.read, hr1, Nat.add_zero]
        exact hR _ (by simp only [go_sem, ↓reduceIte, Nat.reduceEqDiff, Nat.reduceLT, Nat.reduceSub])
      · simp -dsimp only [↓w_seq, ↓w_ops, ↓w_skip, ↓w_ret, ↓w_exit, ↓w_scope, ↓w_block, ↓w_cond, cond_true', cond_false', ↓t_nil, ↓t_plain, ↓t_guard, ↓t_again, t_val, t_call, g_true, g_false, a_val, a_call, ↓n_normal, ↓n_ret, ↓n_exit, ↓b_normal, ↓b_ret, ↓b_exit, ↓e_normal, ↓e_ret, e_some, go_sem, ↓reduceIte, Nat.reduceEqDiff, Nat.reduceLT, Nat.reduceSub, A_law11_long_0, A_law11_long_1, A_law11_long_2, A_law11_long_3, A_law11_long_4, A_law11_long_5, A_law11_long_7, h0, h3, h1, h2, h5, h6, vload, vptr, hM, Mem.read, hr1, Nat.add_zero, IntWalk.i64_in ((i : Int) + 1) (by omega)]
        refine ih (i + 1) _ (by omega) ?_ ?_
        all_goals simp only [go_sem, ↓reduceIte, Nat.reduceEqDiff, Nat.reduceLT, Nat.reduceSub, h0, h5']
    · simp -dsimp only [↓w_seq, ↓w_ops, ↓w_skip, ↓w_ret, ↓w_exit, ↓w_scope, ↓w_block, ↓w_cond, cond_true', cond_false', ↓t_nil, ↓t_plain, ↓t_guard, ↓t_again, t_val, t_call, g_true, g_false, a_val, a_call, ↓n_normal, ↓n_ret, ↓n_exit, ↓b_normal, ↓b_ret, ↓b_exit, ↓e_normal, ↓e_ret, e_some, go_sem, ↓reduceIte, Nat.reduceEqDiff, Nat.reduceLT, Nat.reduceSub, A_law11_long_0, A_law11_long_1, A_law11_long_2, A_law11_long_3, A_law11_long_4, A_law11_long_5, A_law11_long_7, h0, h3, h1, h2, h5, vload, vptr, hM, Mem.read, hr1, Nat.add_zero]
      exact hE _ (by simp only [go_sem, ↓reduceIte, Nat.reduceEqDiff, Nat.reduceLT, Nat.reduceSub, h0])

theorem long_runs (s : V) (xs : List Sb) (hk : ∀ x ∈ xs, x.1.length < 2 ^ 63) (M : Mem) (hs : SlR elSb M s xs) :
    Runs D2 F_law11_long [s] M fun v M' => ∃ t, v = .bool t ∧ (t = false → xs.length ≤ 100) ∧ M' = M := by
  refine Runs.walk (F := A_law11_long) rfl (by rfl) (by rfl) ?_
  unfold A_law11_long
  simp -dsimp only [↓w_seq, ↓w_ops, ↓w_skip, ↓w_ret, ↓w_exit, ↓w_scope, ↓w_block, ↓w_cond, cond_true', cond_false', ↓t_nil, ↓t_plain, ↓t_guard, ↓t_again, t_val, t_call, g_true, g_false, a_val, a_call, ↓n_normal, ↓n_ret, ↓n_exit, ↓b_normal, ↓b_ret, ↓b_exit, ↓e_normal, ↓e_ret, e_some, go_sem, ↓reduceIte, Nat.reduceEqDiff, Nat.reduceLT, Nat.reduceSub, A_law11_long_0, A_law11_long_1, A_law11_long_2, A_law11_long_3, A_law11_long_4, A_law11_long_5, A_law11_long_7]
  refine long_loop s xs hk M hs ?_ ?_ xs.length 0 _ (by omega) ?_ ?_
  · intro fr h
    simp -dsimp only [↓w_seq, ↓w_ops, ↓w_skip, ↓w_ret, ↓w_exit, ↓w_scope, ↓w_block, ↓w_cond, cond_true', cond_false', ↓t_nil, ↓t_plain, ↓t_guard, ↓t_again, t_val, t_call, g_true, g_false, a_val, a_call, ↓n_normal, ↓n_ret, ↓n_exit, ↓b_normal, ↓b_ret, ↓b_exit, ↓e_normal, ↓e_ret, e_some, go_sem, ↓reduceIte, Nat.reduceEqDiff, Nat.reduceLT, Nat.reduceSub, A_law11_long_0, A_law11_long_1, A_law11_long_2, A_law11_long_3, A_law11_long_4, A_law11_long_5, A_law11_long_7, h]
    exact ⟨true, rfl, by simp, trivial⟩
  · intro fr h
    obtain ⟨a, cap, rfl, _⟩ := hs
    by_cases h6 : (100 : Int) < xs.length
    · simp -dsimp only [↓w_seq, ↓w_ops, ↓w_skip, ↓w_ret, ↓w_exit, ↓w_scope, ↓w_block, ↓w_cond, cond_true', cond_false', ↓t_nil, ↓t_plain, ↓t_guard, ↓t_again, t_val, t_call, g_true, g_false, a_val, a_call, ↓n_normal, ↓n_ret, ↓n_exit, ↓b_normal, ↓b_ret, ↓b_exit, ↓e_normal, ↓e_ret, e_some, go_sem, ↓reduceIte, Nat.reduceEqDiff, Nat.reduceLT, Nat.reduceSub, A_law11_long_0, A_law11_long_1, A_law11_long_2, A_law11_long_3, A_law11_long_4, A_law11_long_5, A_law11_long_7, h, h6]
      exact ⟨true, rfl, by simp, trivial⟩
    · simp -dsimp only [↓w_seq, ↓w_ops, ↓w_skip, ↓w_ret, ↓w_exit, ↓w_scope, ↓w_block, ↓w_cond, cond_true', cond_false', ↓t_nil, ↓t_plain, ↓t_guard, ↓t_again, t_val, t_call, g_true, g_false, a_val, a_call, ↓n_normal, ↓n_ret, ↓n_exit, ↓b_normal, ↓b_ret, ↓b_exit, ↓e_normal, ↓e_ret, e_some, go_sem, ↓reduceIte, Nat.reduceEqDiff, Nat.reduceLT, Nat.reduceSub, A_law11_long_0, A_law11_long_1, A_law11_long_2, A_law11_long_3, A_law11_long_4, A_law11_long_5, A_law11_long_7, h, h6]
      exact ⟨false, rfl, fun _ => by omega, trivial⟩
  · simp only [go_sem, ↓reduceIte, Nat.reduceEqDiff, Nat.reduceLT, Nat.reduceSub]
  · simp only [go_sem, ↓reduceIte, Nat.reduceEqDiff, Nat.reduceLT, Nat.reduceSub]; rfl

/-- May all keys be? -/
def fineL (xs : List Sb) : Bool := xs.all fun x => rightK x.1

theorem lawfine_loop (s : V) (xs : List Sb) (hl : xs.length < 2 ^ 62) (M : Mem) (hs : SlR elSb M s xs) {Q : AExit → Fr → Mem → Prop} (hR : ∀ fr, fr.rd 2 = .bool false → fineL xs = false → Q .ret fr M) (hE : ∀ fr, fineL xs = true → Q (.exit 0) fr M) :
    ∀ (f i : Nat) (fr : Fr), i + f = xs.length → fineL (xs.take i) = true → fr.rd 0 = s → fr.rd 3 = .int .i64 (i : Int) → WC D2 17 (.loop A_law11_fine_6) fr M Q := by
  intro f
  induction f with
  | zero =>
    intro i fr hi hp h0 h3
    refine WC.loop (W_of ?_)
    unfold A_law11_fine_6
    obtain ⟨a, cap, rfl, _⟩ := hs
    have : ¬ (i : Int) < xs.length := by omega
    simp -dsimp only [↓w_seq, ↓w_ops, ↓w_skip, ↓w_ret, ↓w_exit, ↓w_scope, ↓w_block, ↓w_cond, cond_true', cond_false', ↓t_nil, ↓t_plain, ↓t_guard, ↓t_again, t_val, t_call, g_true, g_false, a_val, a_call, ↓n_normal, ↓n_ret, ↓n_exit, ↓b_normal, ↓b_ret, ↓b_exit, ↓e_normal, ↓e_ret, e_some, go_sem, ↓reduceIte, Nat.reduceEqDiff, Nat.reduceLT, Nat.reduceSub, A_law11_fine_0, A_law11_fine_1, A_law11_fine_2, A_law11_fine_3, A_law11_fine_4, A_law11_fine_5, A_law11_fine_7, h0, h3, this, decide_false]
    have : i = xs.length := by omega
    subst this
    rw [List.take_length] at hp
    exact hE _ hp
  | succ f ih =>
    intro i fr hi hp h0 h3
    refine WC.loop (W_of ?_)
    unfold A_law11_fine_6
    have hil : i < xs.length := by omega
    obtain ⟨b, o, cs, ro, cap, rfl, hM, hr3, hr1, hr2⟩ := sl_at hs hil
    have h1 : (i : Int) < xs.length := by omega
    have h2 : i + 1 ≤ xs.length := by omega
    have h5' : (i : Int) + 1 = ((i + 1 : Nat) : Int) := by omega
    simp -dsimp only [↓w_seq, ↓w_ops, ↓w_skip, ↓w_ret, ↓w_exit, ↓w_scope, ↓w_block, ↓w_cond, cond_true', cond_false', ↓t_nil, ↓t_plain, ↓t_guard, ↓t_again, t_val, t_call, g_true, g_false, a_val, a_call, ↓n_normal, ↓n_ret, ↓n_exit, ↓b_normal, ↓b_ret, ↓b_exit, ↓e_normal, ↓e_ret, e_some, go_sem, ↓reduceIte, Nat.reduceEqDiff, Nat.reduceLT, Nat.reduceSub, A_law11_fine_0, A_law11_fine_1, A_law11_fine_2, A_law11_fine_3, A_law11_fine_4, A_law11_fine_5, A_law11_fine_7, h0, h3, h1, h2, vload, vptr, hM, Mem.read, hr1, Nat.add_zero]
    refine call_eq (right_runs xs[i].1 M) ?_
    cases hk : rightK xs[i].1 with
    | false =>
      simp -dsimp only [↓w_seq, ↓w_ops, ↓w_skip, ↓w_ret, ↓w_exit, ↓w_scope, ↓w_block, ↓w_cond, cond_true', cond_false', ↓t_nil, ↓t_plain, ↓t_guard, ↓t_again, t_val, t_call, g_true, g_false, a_val, a_call, ↓n_normal, ↓n_ret, ↓n_exit, ↓b_normal, ↓b_ret, ↓b_exit, ↓e_normal, ↓e_ret, e_some, go_sem, ↓reduceIte, Nat.reduceEqDiff, Nat.reduceLT, Nat.reduceSub, A_law11_fine_0, A_law11_fine_1, A_law11_fine_2, A_law11_fine_3, A_law11_fine_4, A_law11_fine_5, A_law11_fine_7]
      refine hR _ (by simp only [go_sem, ↓reduceIte, Nat.reduceEqDiff, Nat.reduceLT, Nat.reduceSub]) ?_
      unfold fineL
      rw [List.all_eq_false]
      exact ⟨xs[i], List.getElem_mem hil, by rw [hk]; decide⟩
    | true =>
      simp -dsimp only [↓w_seq, ↓w_ops, ↓w_skip, ↓w_ret, ↓w_exit, ↓w_scope, ↓w_block, ↓w_cond, cond_true', cond_false', ↓t_nil, ↓t_plain, ↓t_guard, ↓t_again, t_val, t_call, g_true, g_false, a_val, a_call, ↓n_normal, ↓n_ret, ↓n_exit, ↓b_normal, ↓b_ret, ↓b_exit, ↓e_normal, ↓e_ret, e_some, go_sem, ↓reduceIte, Nat.reduceEqDiff, Nat.reduceLT, Nat.reduceSub, A_law11_fine_0, A_law11_fine_1, A_law11_fine_2, A_law11_fine_3, A_law11_fine_4, A_law11_fine_5, A_law11_fine_7, h3, IntWalk.i64_in ((i : Int) + 1) (by omega)]
      refine ih (i + 1) _ (by omega) ?_ ?_ ?_
      · rw [List.take_add_one, List.getElem?_eq_getElem hil]
        unfold fineL at hp ⊢
        rw [List.all_append, hp]
        simp [hk]
      all_goals simp only [go_sem, ↓reduceIte, Nat.reduceEqDiff, Nat.reduceLT, Nat.reduceSub, h0, h5']

theorem lawfine_runs (s : V) (xs : List Sb) (hl : xs.length < 2 ^ 62) (M : Mem) (hs : SlR elSb M s xs) :
    Runs D2 F_law11_fine [s] M fun v M' => v = .bool (fineL xs) ∧ M' = M := by
  refine Runs.walk (F := A_law11_fine) rfl (by rfl) (by rfl) ?_
  unfold A_law11_fine
  simp -dsimp only [↓w_seq, ↓w_ops, ↓w_skip, ↓w_ret, ↓w_exit, ↓w_scope, ↓w_block, ↓w_cond, cond_true', cond_false', ↓t_nil, ↓t_plain, ↓t_guard, ↓t_again, t_val, t_call, g_true, g_false, a_val, a_call, ↓n_normal, ↓n_ret, ↓n_exit, ↓b_normal, ↓b_ret, ↓b_exit, ↓e_normal, ↓e_ret, e_some, go_sem, ↓reduceIte, Nat.reduceEqDiff, Nat.reduceLT, Nat.reduceSub, A_law11_fine_0, A_law11_fine_1, A_law11_fine_2, A_law11_fine_3, A_law11_fine_4, A_law11_fine_5, A_law11_fine_7]
  refine lawfine_loop s xs hl M hs ?_ ?_ xs.length 0 _ (by omega) rfl ?_ ?_
  · intro fr h hf
    simp -dsimp only [↓w_seq, ↓w_ops, ↓w_skip, ↓w_ret, ↓w_exit, ↓w_scope, ↓w_block, ↓w_cond, cond_true', cond_false', ↓t_nil, ↓t_plain, ↓t_guard, ↓t_again, t_val, t_call, g_true, g_false, a_val, a_call, ↓n_normal, ↓n_ret, ↓n_exit, ↓b_normal, ↓b_ret, ↓b_exit, ↓e_normal, ↓e_ret, e_some, go_sem, ↓reduceIte, Nat.reduceEqDiff, Nat.reduceLT, Nat.reduceSub, A_law11_fine_0, A_law11_fine_1, A_law11_fine_2, A_law11_fine_3, A_law11_fine_4, A_law11_fine_5, A_law11_fine_7, h]
    exact ⟨by rw [hf], trivial⟩
  · intro fr hf
    simp -dsimp only [↓w_seq, ↓w_ops, ↓w_skip, ↓w_ret, ↓w_exit, ↓w_scope, ↓w_block, ↓w_cond, cond_true', cond_false', ↓t_nil, ↓t_plain, ↓t_guard, ↓t_again, t_val, t_call, g_true, g_false, a_val, a_call, ↓n_normal, ↓n_ret, ↓n_exit, ↓b_normal, ↓b_ret, ↓b_exit, ↓e_normal, ↓e_ret, e_some, go_sem, ↓reduceIte, Nat.reduceEqDiff, Nat.reduceLT, Nat.reduceSub, A_law11_fine_0, A_law11_fine_1, A_law11_fine_2, A_law11_fine_3, A_law11_fine_4, A_law11_fine_5, A_law11_fine_7]
    exact ⟨by rw [hf], trivial⟩
  · simp only [go_sem, ↓reduceIte, Nat.reduceEqDiff, Nat.reduceLT, Nat.reduceSub]
  · simp only [go_sem, ↓reduceIte, Nat.reduceEqDiff, Nat.reduceLT, Nat.reduceSub]; rfl

theorem lawnum_runs (n : Int) (M : Mem) : Runs D2 F_law11_num [.int .i64 n] M fun v M' => v = .int .i64 n ∧ M' = M := by
  refine Runs.walk (F := A_law11_num) rfl (by rfl) (by rfl) ?_
  unfold A_law11_num
  simp -dsimp only [↓w_seq, ↓w_ops, ↓w_skip, ↓w_ret, ↓w_exit, ↓w_scope, ↓w_block, ↓w_cond, cond_true', cond_false', ↓t_nil, ↓t_plain, ↓t_guard, ↓t_again, t_val, t_call, g_true, g_false, a_val, a_call, ↓n_normal, ↓n_ret, ↓n_exit, ↓b_normal, ↓b_ret, ↓b_exit, ↓e_normal, ↓e_ret, e_some, go_sem, ↓reduceIte, Nat.reduceEqDiff, Nat.reduceLT, Nat.reduceSub, A_law11_num_0, A_law11_num_1]
  exact ⟨trivial, trivial⟩

/-- Sort. -/
theorem order_Sort_runs (s : V) (xs : List Sb) {lo : Nat} (hl : (xs.length + 1) * 32 ≤ maxRoom) (M : Mem) (hH : Hold lo M 3 s xs.length (elSb.all xs)) :
    Runs D2 F_order_Sort [s] M fun v M' => Grew M M' ∧ Hold M.next M' 3 v xs.length (elSb.all (isort ltSb xs)) := by
  refine Runs.walk (F := A_order_Sort) rfl (by rfl) (by rfl) ?_
  unfold A_order_Sort
  simp -dsimp only [↓w_seq, ↓w_ops, ↓w_skip, ↓w_ret, ↓w_exit, ↓w_scope, ↓w_block, ↓w_cond, cond_true', cond_false', ↓t_nil, ↓t_plain, ↓t_guard, ↓t_again, t_val, t_call, g_true, g_false, a_val, a_call, ↓n_normal, ↓n_ret, ↓n_exit, ↓b_normal, ↓b_ret, ↓b_exit, ↓e_normal, ↓e_ret, e_some, go_sem, ↓reduceIte, Nat.reduceEqDiff, Nat.reduceLT, Nat.reduceSub, A_order_Sort_0, A_order_Sort_1, A_order_Sort_2]
  refine call_of (Values_runs s M) ?_
  intro v M1 hv
  rw [hv.1]
  obtain ⟨_, hG, hn, hb⟩ := hv
  have hmx : maxRoom = 17592186044416 := rfl
  have hH1 : Hold lo M1 3 s xs.length (elSb.all xs) := hH.keep (fun c hc => hG.old c (hH.blk_le hc).2.1) hG.next
  have hle : xs.length ≤ maxRoom := by rw [hmx] at hl ⊢; omega
  have hrd := readSl_of (e := elSb) hH1 hle
  have hcell : s.cells = [s] := by
    obtain ⟨a, cap, rfl⟩ := hH.shape
    rfl
  rw [hcell] at hb
  simp -dsimp only [↓w_seq, ↓w_ops, ↓w_skip, ↓w_ret, ↓w_exit, ↓w_scope, ↓w_block, ↓w_cond, cond_true', cond_false', ↓t_nil, ↓t_plain, ↓t_guard, ↓t_again, t_val, t_call, g_true, g_false, a_val, a_call, ↓n_normal, ↓n_ret, ↓n_exit, ↓b_normal, ↓b_ret, ↓b_exit, ↓e_normal, ↓e_ret, e_some, go_sem, ↓reduceIte, Nat.reduceEqDiff, Nat.reduceLT, Nat.reduceSub, A_order_Sort_0, A_order_Sort_1, A_order_Sort_2]
  cases xs with
  | nil =>
    have hp : pSorted [.fn F_slices_Values_Sib_c1 [] [.ptr (some (M.next, 0))], .fn F_order_Sort_c1 [] []] M1 = some (.flat (.slice none 0 (.exact 0))) := by
      simp only [pSorted, hb, hrd, Option.bind_some, ble_iff, decide_eq_true hl, cond_true, Nat.beq_refl]
    refine call_of (Runs.prim (R := fun v M' => v = .slice none 0 (.exact 0) ∧ M' = M1) rfl (by simp only [hp, Option.map_some, KeepR.res]) ⟨rfl, rfl⟩) ?_
    intro v M2 hv2
    rw [hv2.1, hv2.2]
    simp -dsimp only [↓w_seq, ↓w_ops, ↓w_skip, ↓w_ret, ↓w_exit, ↓w_scope, ↓w_block, ↓w_cond, cond_true', cond_false', ↓t_nil, ↓t_plain, ↓t_guard, ↓t_again, t_val, t_call, g_true, g_false, a_val, a_call, ↓n_normal, ↓n_ret, ↓n_exit, ↓b_normal, ↓b_ret, ↓b_exit, ↓e_normal, ↓e_ret, e_some, go_sem, ↓reduceIte, Nat.reduceEqDiff, Nat.reduceLT, Nat.reduceSub, A_order_Sort_0, A_order_Sort_1, A_order_Sort_2]
    exact ⟨hG, .nil⟩
  | cons x xs =>
    have hp : pSorted [.fn F_slices_Values_Sib_c1 [] [.ptr (some (M.next, 0))], .fn F_order_Sort_c1 [] []] M1 = some (.row (xs.length + 1) 3 (elSb.all (isort ltSb (x :: xs)))) := by
      simp only [pSorted, hb, hrd, Option.bind_some, ble_iff, decide_eq_true hl, cond_true, Nat.beq_refl]
    refine call_of (Runs.prim (R := fun v M' => v = .slice (some (M1.next, 0)) (xs.length + 1) (.upto 3) ∧ M' = M1.push (.cells (elSb.all (isort ltSb (x :: xs))) false)) rfl (by simp only [hp, Option.map_some, KeepR.res]) ⟨rfl, rfl⟩) ?_
    intro v M2 hv2
    rw [hv2.1, hv2.2]
    simp -dsimp only [↓w_seq, ↓w_ops, ↓w_skip, ↓w_ret, ↓w_exit, ↓w_scope, ↓w_block, ↓w_cond, cond_true', cond_false', ↓t_nil, ↓t_plain, ↓t_guard, ↓t_again, t_val, t_call, g_true, g_false, a_val, a_call, ↓n_normal, ↓n_ret, ↓n_exit, ↓b_normal, ↓b_ret, ↓b_exit, ↓e_normal, ↓e_ret, e_some, go_sem, ↓reduceIte, Nat.reduceEqDiff, Nat.reduceLT, Nat.reduceSub, A_order_Sort_0, A_order_Sort_1, A_order_Sort_2]
    refine ⟨hG.trans (Grew.push _ _), .row (Mem.get_push_same _ _) ?_ (by omega) (by simp)⟩
    rw [elSb.all_len, isort_len]
    rfl
end Go.Am.Try

/- The reference's digit, Right, Compare and fine, on the machine. -/
namespace Go.Am.Try
open Go Go.Am Go.Proofs
set_option maxRecDepth 100000
set_option linter.unusedSimpArgs false
set_option linter.unusedVariables false

theorem rdigit_runs (k : List UInt8) (i : Nat) (hi : i < 2 ^ 62) (M : Mem) : Runs D2 F_ref04_digit [.str k, .int .i64 (i : Int)] M fun v M' => v = .int .i64 (digitL k i : Int) ∧ M' = M := by
  refine Runs.of (F := A_ref04_digit) rfl (by rfl) (by rfl) ?_
  unfold A_ref04_digit
  refine WC.seq (WC.ops ?_)
  simp only [A_ref04_digit_0, go_sem, ↓reduceIte, Nat.reduceEqDiff, Nat.reduceLT]
  refine WC.seq (WC.seq (WC.ops ?_))
  simp only [A_ref04_digit_1, go_sem, ↓reduceIte, Nat.reduceEqDiff, Nat.reduceLT]
  refine WC.test (by simp only [go_sem, ↓reduceIte, Nat.reduceEqDiff, Nat.reduceLT]; rfl) (fun h => ?_) (fun h => ?_)
  · have h : i < k.length := by have := of_decide_eq_true h; omega
    refine WC.seq (WC.ops ?_)
    have hg : k[i]? = some k[i] := List.getElem?_eq_getElem h
    have hd : digitL k i = k[i].toNat := by simp [digitL, List.getD_eq_getElem?_getD, hg]
    have h8 : k[i].toNat < 256 := k[i].toNat_lt
    simp only [A_ref04_digit_2, go_sem, ↓reduceIte, Nat.reduceEqDiff, Nat.reduceLT, hg]
    refine WC.ret ?_
    simp only [go_sem, ↓reduceIte, Nat.reduceEqDiff, Nat.reduceLT]
    rw [IntWalk.i64_in _ (by omega), hd]
    exact ⟨rfl, trivial⟩
  · have h : k.length ≤ i := by have := of_decide_eq_false h; omega
    have hd : digitL k i = 0 := by simp [digitL, List.getD_eq_getElem?_getD, List.getElem?_eq_none h]
    refine WC.skip ?_
    simp only [go_sem]
    refine WC.seq (WC.ops ?_)
    simp only [A_ref04_digit_3, go_sem, ↓reduceIte, Nat.reduceEqDiff, Nat.reduceLT]
    refine WC.ret ?_
    simp only [go_sem, ↓reduceIte, Nat.reduceEqDiff, Nat.reduceLT]
    rw [hd]
    exact ⟨rfl, trivial⟩


theorem rright_runs (k : List UInt8) (M : Mem) : Runs D2 F_ref04_Right [.str k] M fun v M' => v = .bool (rightK k) ∧ M' = M := by
  refine Runs.of (F := A_ref04_Right) rfl (by rfl) (by rfl) ?_
  unfold A_ref04_Right
  refine WC.seq (WC.ops ?_)
  simp only [A_ref04_Right_0, go_sem]
  refine WC.seq (WC.ops ?_)
  simp only [A_ref04_Right_1, go_sem, ↓reduceIte, Nat.reduceEqDiff, Nat.reduceLT]
  by_cases h : k = []
  · subst h
    simp only [List.length_nil, Int.ofNat_zero, Int.reduceLE, go_sem, ↓reduceIte, Nat.reduceEqDiff, Nat.reduceLT, Int.natCast_zero, Int.cast_ofNat_Int]
    refine WC.ret ?_
    simp only [go_sem, ↓reduceIte, Nat.reduceEqDiff, Nat.reduceLT]
    exact ⟨rfl, trivial⟩
  · have hk : 0 < k.length := by cases k <;> simp at h ⊢
    have h1 : (1 : Int) ≤ (k.length : Int) := by omega
    simp only [h1, go_sem, ↓reduceIte, Nat.reduceEqDiff, Nat.reduceLT]
    by_cases h2 : (k.length : Int) ≤ 24
    · have hl : k[k.length - 1]? = some k[k.length - 1] := List.getElem?_eq_getElem (by omega)
      have hd : digitL k (k.length - 1) = k[k.length - 1].toNat := by simp [digitL, List.getD_eq_getElem?_getD, hl]
      simp only [h2, go_sem, ↓reduceIte, Nat.reduceEqDiff, Nat.reduceLT]
      rw [IntWalk.i64_in _ (by omega), as_nat _ _ (by omega), show ((k.length : Int) - 1).toNat = k.length - 1 by omega]
      simp only [hl, go_sem, ↓reduceIte, Nat.reduceEqDiff, Nat.reduceLT]
      refine WC.ret ?_
      simp only [go_sem, ↓reduceIte, Nat.reduceEqDiff, Nat.reduceLT]
      refine ⟨?_, trivial⟩
      simp only [rightK, h, hd, show k.length ≤ 24 by omega, Int.natCast_eq_zero, decide_true, decide_false, Bool.not_false, Bool.true_and]
    · simp only [h2, go_sem, ↓reduceIte, Nat.reduceEqDiff, Nat.reduceLT]
      refine WC.ret ?_
      simp only [go_sem, ↓reduceIte, Nat.reduceEqDiff, Nat.reduceLT]
      refine ⟨?_, trivial⟩
      simp only [rightK, h, show ¬ k.length ≤ 24 by omega, decide_true, decide_false, Bool.not_false, Bool.true_and, Bool.false_and]

/-- The order of texts, from a place on. -/
theorem cmp_drop_lt {a b : List UInt8} {i : Nat} (ha : i < a.length) (hb : i < b.length) : cmpB (a.drop i) (b.drop i) = if a[i] < b[i] then -1 else if b[i] < a[i] then 1 else cmpB (a.drop (i + 1)) (b.drop (i + 1)) := by
  rw [List.drop_eq_getElem_cons ha, List.drop_eq_getElem_cons hb]
  rfl
theorem cmp_loop (a b : List UInt8) (ha : a.length < 2 ^ 63) (hb : b.length < 2 ^ 63) {Q : AExit → Fr → Mem → Prop} (M : Mem) (hQ : ∀ fr, fr.rd 4 = .int .i64 (cmpB a b) → Q .ret fr M)
    (hQ2 : ∀ fr i, fr.rd 0 = .str a → fr.rd 1 = .str b → i ≤ a.length → i ≤ b.length → (i = a.length ∨ i = b.length) → cmpB a b = cmpB (a.drop i) (b.drop i) → Q (.exit 0) fr M) :
    ∀ (f i : Nat) (fr : Fr), i + f = min a.length b.length → cmpB a b = cmpB (a.drop i) (b.drop i) → fr.rd 0 = .str a → fr.rd 1 = .str b → fr.rd 5 = .int .i64 (i : Int) → WC D2 42 (.loop A_ref04_Compare_8) fr M Q := by
  intro f
  induction f with
  | zero =>
    intro i fr hi hc h0 h1 h5
    refine WC.loop ?_
    unfold A_ref04_Compare_8
    refine WC.seq (WC.seq (WC.ops ?_))
    simp only [A_ref04_Compare_2, go_sem, ↓reduceIte, Nat.reduceEqDiff, Nat.reduceLT, h0, h1, h5]
    by_cases hia : (i : Int) < (a.length : Int)
    · have hib : ¬ (i : Int) < (b.length : Int) := by omega
      simp only [hia, hib, go_sem, ↓reduceIte, Nat.reduceEqDiff, Nat.reduceLT, h0, h1, h5]
      refine WC.test (t := false) (by simp only [go_sem, ↓reduceIte, Nat.reduceEqDiff, Nat.reduceLT]) (fun h => by cases h) (fun _ => WC.exit ?_)
      simp only [nextQ]
      exact hQ2 _ i (by simp only [go_sem, ↓reduceIte, Nat.reduceEqDiff, Nat.reduceLT, h0]) (by simp only [go_sem, ↓reduceIte, Nat.reduceEqDiff, Nat.reduceLT, h1]) (by omega) (by omega) (by omega) hc
    · simp only [hia, go_sem, ↓reduceIte, Nat.reduceEqDiff, Nat.reduceLT, h0, h1, h5]
      refine WC.test (t := false) (by simp only [go_sem, ↓reduceIte, Nat.reduceEqDiff, Nat.reduceLT]) (fun h => by cases h) (fun _ => WC.exit ?_)
      simp only [nextQ]
      exact hQ2 _ i (by simp only [go_sem, ↓reduceIte, Nat.reduceEqDiff, Nat.reduceLT, h0]) (by simp only [go_sem, ↓reduceIte, Nat.reduceEqDiff, Nat.reduceLT, h1]) (by omega) (by omega) (by omega) hc
  | succ f ih =>
    intro i fr hi hc h0 h1 h5
    have hia : (i : Int) < (a.length : Int) := by omega
    have hib : (i : Int) < (b.length : Int) := by omega
    have hla : i < a.length := by omega
    have hlb : i < b.length := by omega
    have ga : a[i]? = some a[i] := List.getElem?_eq_getElem hla
    have gb : b[i]? = some b[i] := List.getElem?_eq_getElem hlb
    rw [cmp_drop_lt hla hlb] at hc
    refine WC.loop ?_
    unfold A_ref04_Compare_8
    refine WC.seq (WC.seq (WC.ops ?_))
    simp only [A_ref04_Compare_2, hia, hib, go_sem, ↓reduceIte, Nat.reduceEqDiff, Nat.reduceLT, h0, h1, h5]
    refine WC.test (t := true) (by simp only [go_sem, ↓reduceIte, Nat.reduceEqDiff, Nat.reduceLT]) (fun _ => WC.skip ?_) (fun h => by cases h)
    simp only [nextQ]
    refine WC.seq (WC.block (WC.seq (WC.seq (WC.ops ?_))))
    simp only [A_ref04_Compare_3, ga, gb, go_sem, ↓reduceIte, Nat.reduceEqDiff, Nat.reduceLT, h0, h1, h5]
    refine WC.test (by simp only [go_sem, ↓reduceIte, Nat.reduceEqDiff, Nat.reduceLT]; rfl) (fun h => ?_) (fun h => WC.skip ?_)
    · have hlt : a[i] < b[i] := by have := of_decide_eq_true h; exact UInt8.lt_iff_toNat_lt.2 (by omega)
      refine WC.seq (WC.ops ?_)
      simp only [A_ref04_Compare_4, go_sem, ↓reduceIte, Nat.reduceEqDiff, Nat.reduceLT]
      refine WC.ret ?_
      simp only [nextQ, blockQ]
      refine hQ _ ?_
      simp only [go_sem, ↓reduceIte, Nat.reduceEqDiff, Nat.reduceLT]
      rw [hc, if_pos hlt]
    · have hlt : ¬ a[i] < b[i] := by
        have := of_decide_eq_false h
        intro e
        have := UInt8.lt_iff_toNat_lt.1 e
        omega
      simp only [nextQ]
      refine WC.seq (WC.ops ?_)
      simp only [A_ref04_Compare_5, ga, gb, go_sem, ↓reduceIte, Nat.reduceEqDiff, Nat.reduceLT, h0, h1, h5]
      refine WC.test (by simp only [go_sem, ↓reduceIte, Nat.reduceEqDiff, Nat.reduceLT]; rfl) (fun h => ?_) (fun h => WC.skip ?_)
      · have hgt : b[i] < a[i] := by have := of_decide_eq_true h; exact UInt8.lt_iff_toNat_lt.2 (by omega)
        refine WC.seq (WC.ops ?_)
        simp only [A_ref04_Compare_6, go_sem, ↓reduceIte, Nat.reduceEqDiff, Nat.reduceLT]
        refine WC.ret ?_
        simp only [nextQ, blockQ]
        refine hQ _ ?_
        simp only [go_sem, ↓reduceIte, Nat.reduceEqDiff, Nat.reduceLT]
        rw [hc, if_neg hlt, if_pos hgt]
      · have hgt : ¬ b[i] < a[i] := by
          have := of_decide_eq_false h
          intro e
          have := UInt8.lt_iff_toNat_lt.1 e
          omega
        simp only [nextQ, blockQ]
        refine WC.ops ?_
        simp only [A_ref04_Compare_7, go_sem, ↓reduceIte, Nat.reduceEqDiff, Nat.reduceLT, h5]
        rw [IntWalk.i64_in _ (by omega)]
        rw [if_neg hlt, if_neg hgt] at hc
        exact ih (i + 1) _ (by omega) hc (by simp only [go_sem, ↓reduceIte, Nat.reduceEqDiff, Nat.reduceLT, h0]) (by simp only [go_sem, ↓reduceIte, Nat.reduceEqDiff, Nat.reduceLT, h1]) (by simp only [go_sem, ↓reduceIte, Nat.reduceEqDiff, Nat.reduceLT]; rfl)

theorem cmp_end (a b : List UInt8) (i : Nat) (h1 : i ≤ a.length) (h2 : i ≤ b.length) (h3 : i = a.length ∨ i = b.length) : cmpB (a.drop i) (b.drop i) = if a.length < b.length then -1 else if b.length < a.length then 1 else 0 := by
  rcases h3 with rfl | rfl
  · rw [List.drop_length]
    cases hd : b.drop a.length with
    | nil =>
      have := List.drop_eq_nil_iff.1 hd
      rw [if_neg (by omega), if_neg (by omega)]; rfl
    | cons y l =>
      have : a.length < b.length := by
        apply Nat.lt_of_not_le
        intro h
        rw [List.drop_eq_nil_of_le h] at hd; cases hd
      rw [if_pos this]; rfl
  · rw [List.drop_length]
    cases hd : a.drop b.length with
    | nil =>
      have := List.drop_eq_nil_iff.1 hd
      rw [if_neg (by omega), if_neg (by omega)]; rfl
    | cons y l =>
      have : b.length < a.length := by
        apply Nat.lt_of_not_le
        intro h
        rw [List.drop_eq_nil_of_le h] at hd; cases hd
      rw [if_neg (by omega), if_pos this]; rfl

theorem rcompare_runs (a b : List UInt8) (ha : a.length < 2 ^ 63) (hb : b.length < 2 ^ 63) (M : Mem) : Runs D2 F_ref04_Compare [.str a, .str b] M fun v M' => v = .int .i64 (cmpB a b) ∧ M' = M := by
  refine Runs.of (F := A_ref04_Compare) rfl (by rfl) (by rfl) ?_
  unfold A_ref04_Compare
  refine WC.seq (WC.ops ?_)
  simp only [A_ref04_Compare_0, go_sem]
  refine WC.seq (WC.seq (WC.ops ?_))
  simp only [A_ref04_Compare_1, go_sem, ↓reduceIte, Nat.reduceEqDiff, Nat.reduceLT]
  refine WC.block (cmp_loop a b ha hb M ?_ ?_ (min a.length b.length) 0 _ (by omega) rfl (by simp only [go_sem, ↓reduceIte, Nat.reduceEqDiff, Nat.reduceLT]) (by simp only [go_sem, ↓reduceIte, Nat.reduceEqDiff, Nat.reduceLT]) (by simp only [go_sem, ↓reduceIte, Nat.reduceEqDiff, Nat.reduceLT]; rfl))
  · intro fr h
    simp only [go_sem, h]
    exact ⟨trivial, trivial⟩
  · intro fr i h0 h1 l1 l2 l3 hc
    rw [cmp_end a b i l1 l2 l3] at hc
    simp only [go_sem]
    refine WC.seq (WC.seq (WC.ops ?_))
    simp only [A_ref04_Compare_9, go_sem, ↓reduceIte, Nat.reduceEqDiff, Nat.reduceLT, h0, h1]
    refine WC.test (by simp only [go_sem, ↓reduceIte, Nat.reduceEqDiff, Nat.reduceLT]; rfl) (fun h => ?_) (fun h => WC.skip ?_)
    · have hlt : a.length < b.length := by have := of_decide_eq_true h; omega
      refine WC.seq (WC.ops ?_)
      simp only [A_ref04_Compare_10, go_sem, ↓reduceIte, Nat.reduceEqDiff, Nat.reduceLT]
      refine WC.ret ?_
      simp only [go_sem, ↓reduceIte, Nat.reduceEqDiff, Nat.reduceLT]
      rw [hc, if_pos hlt]
      exact ⟨rfl, trivial⟩
    · have hlt : ¬ a.length < b.length := by have := of_decide_eq_false h; omega
      simp only [nextQ]
      refine WC.seq (WC.seq (WC.ops ?_))
      simp only [A_ref04_Compare_11, go_sem, ↓reduceIte, Nat.reduceEqDiff, Nat.reduceLT, h0, h1]
      refine WC.test (by simp only [go_sem, ↓reduceIte, Nat.reduceEqDiff, Nat.reduceLT]; rfl) (fun h => ?_) (fun h => WC.skip ?_)
      · have hgt : b.length < a.length := by have := of_decide_eq_true h; omega
        refine WC.seq (WC.ops ?_)
        simp only [A_ref04_Compare_12, go_sem, ↓reduceIte, Nat.reduceEqDiff, Nat.reduceLT]
        refine WC.ret ?_
        simp only [go_sem, ↓reduceIte, Nat.reduceEqDiff, Nat.reduceLT]
        rw [hc, if_neg hlt, if_pos hgt]
        exact ⟨rfl, trivial⟩
      · have hgt : ¬ b.length < a.length := by have := of_decide_eq_false h; omega
        simp only [nextQ]
        refine WC.seq (WC.ops ?_)
        simp only [A_ref04_Compare_13, go_sem, ↓reduceIte, Nat.reduceEqDiff, Nat.reduceLT]
        refine WC.ret ?_
        simp only [go_sem, ↓reduceIte, Nat.reduceEqDiff, Nat.reduceLT]
        rw [hc, if_neg hlt, if_neg hgt]
        exact ⟨rfl, trivial⟩
end Go.Am.Try

/- The reference's fine, carry and first, on the machine. -/
namespace Go.Am.Try
open Go Go.Am Go.Proofs
set_option maxRecDepth 100000
set_option linter.unusedSimpArgs false
set_option linter.unusedVariables false

theorem rfine_runs (a b : List UInt8) (ha : a.length < 2 ^ 63) (hb : b.length < 2 ^ 63) (M : Mem) : Runs D2 F_ref04_fine [.str a, .str b] M fun v M' => v = .bool (fineK a b) ∧ M' = M := by
  have hl : decide (cmpB a b < 0) = strLess a b := by
    rw [cmp_less]
    rcases cmp_three a b with h | h | h <;> rw [h] <;> rfl
  refine Runs.of (F := A_ref04_fine) rfl (by rfl) (by rfl) ?_
  unfold A_ref04_fine
  refine WC.seq (WC.ops ?_)
  simp only [A_ref04_fine_0, go_sem]
  have hno : ∀ (fr : Fr) (Q : AExit → Fr → Mem → Prop), (∀ fr, fr.rd 4 = .bool false → Q .ret fr M) → WC D2 33 (.seq (.ops A_ref04_fine_2) .ret) fr M Q := by
    intro fr Q hQ
    refine WC.seq (WC.ops ?_)
    simp only [A_ref04_fine_2, go_sem, ↓reduceIte, Nat.reduceEqDiff, Nat.reduceLT]
    exact WC.ret (hQ _ (by simp only [go_sem, ↓reduceIte, Nat.reduceEqDiff, Nat.reduceLT]))
  have hyes : ∀ (fr : Fr) (Q : AExit → Fr → Mem → Prop), fr.rd 0 = .str a → fr.rd 1 = .str b → (∀ fr, fr.rd 4 = .bool (decide (a = []) || (decide (b = []) || strLess a b)) → Q .ret fr M) → WC D2 33 (.seq (.ops A_ref04_fine_3) .ret) fr M Q := by
    intro fr Q h0 h1 hQ
    refine WC.seq (WC.ops ?_)
    simp only [A_ref04_fine_3, go_sem, ↓reduceIte, Nat.reduceEqDiff, Nat.reduceLT, h0, h1]
    by_cases hae : a = [] <;> by_cases hbe : b = []
    · simp only [hae, hbe, go_sem, ↓reduceIte, Nat.reduceEqDiff, Nat.reduceLT, h0, h1]
      refine WC.ret (hQ _ ?_)
      simp only [go_sem, ↓reduceIte, Nat.reduceEqDiff, Nat.reduceLT, hae] <;> simp
    · simp only [hae, hbe, go_sem, ↓reduceIte, Nat.reduceEqDiff, Nat.reduceLT, h0, h1]
      refine WC.ret (hQ _ ?_)
      simp only [go_sem, ↓reduceIte, Nat.reduceEqDiff, Nat.reduceLT, hae] <;> simp
    · simp only [hae, hbe, go_sem, ↓reduceIte, Nat.reduceEqDiff, Nat.reduceLT, h0, h1]
      refine WC.ret (hQ _ ?_)
      simp only [go_sem, ↓reduceIte, Nat.reduceEqDiff, Nat.reduceLT, hae, hbe] <;> simp
    · simp only [hae, hbe, go_sem, ↓reduceIte, Nat.reduceEqDiff, Nat.reduceLT, h0, h1]
      refine callI_eq (rcompare_runs a b ha hb M) ?_
      simp only [hae, hbe, hl, go_sem, ↓reduceIte, Nat.reduceEqDiff, Nat.reduceLT, h0, h1]
      refine WC.ret (hQ _ ?_)
      simp only [go_sem, ↓reduceIte, Nat.reduceEqDiff, Nat.reduceLT, hae, hbe] <;> simp
  refine WC.seq (WC.seq (WC.ops ?_))
  simp only [A_ref04_fine_1, go_sem, ↓reduceIte, Nat.reduceEqDiff, Nat.reduceLT]
  have hB : ∀ t, inK a = true → t = fineK a b → t = (inK b && (decide (a = []) || (decide (b = []) || strLess a b))) := fun t h e => by rw [e, fineK, h, Bool.true_and]
  have fin : ∀ (fr : Fr), fr.rd 0 = .str a → fr.rd 1 = .str b → inK a = true → inK b = true → nextQ (fun fr M_1 => WC D2 33 (.seq (.ops A_ref04_fine_3) .ret) fr M_1 (endQ [.tmp 4] fun v M' => v = .bool (fineK a b) ∧ M' = M)) (endQ [.tmp 4] fun v M' => v = .bool (fineK a b) ∧ M' = M) .normal fr M := by
    intro fr h0 h1 hia hib
    refine hyes fr _ h0 h1 fun fr h4 => ?_
    simp only [go_sem, h4]
    exact ⟨by simp only [fineK, hia, hib, Bool.true_and], trivial⟩
  by_cases hae : a = []
  · by_cases hbe : b = []
    · simp only [hae, hbe, go_sem, ↓reduceIte, Nat.reduceEqDiff, Nat.reduceLT]
      refine WC.test (t := false) (by simp only [go_sem, ↓reduceIte, Nat.reduceEqDiff, Nat.reduceLT]) (fun h => by cases h) (fun _ => WC.skip ?_)
      rw [hae, hbe] at fin
      refine fin _ ?_ ?_ rfl rfl
      all_goals simp only [go_sem, ↓reduceIte, Nat.reduceEqDiff, Nat.reduceLT]
    · simp only [hae, hbe, go_sem, ↓reduceIte, Nat.reduceEqDiff, Nat.reduceLT]
      refine callI_eq (rright_runs _ _) ?_
      have hia : inK a = true := by rw [hae]; rfl
      cases hr : rightK b with
      | false =>
        simp only [go_sem, ↓reduceIte, Nat.reduceEqDiff, Nat.reduceLT]
        refine WC.test (t := true) (by simp only [go_sem, ↓reduceIte, Nat.reduceEqDiff, Nat.reduceLT]) (fun _ => ?_) (fun h => by cases h)
        refine hno _ _ fun fr h4 => ?_
        simp only [go_sem, h4]
        exact ⟨by simp only [fineK, inK, hbe, hr, decide_false, Bool.false_or, Bool.false_and, Bool.and_false], trivial⟩
      | true =>
        simp only [go_sem, ↓reduceIte, Nat.reduceEqDiff, Nat.reduceLT]
        refine WC.test (t := false) (by simp only [go_sem, ↓reduceIte, Nat.reduceEqDiff, Nat.reduceLT]) (fun h => by cases h) (fun _ => WC.skip ?_)
        rw [hae] at fin
        refine fin _ ?_ ?_ rfl (by simp only [inK, hr, Bool.or_true])
        all_goals simp only [go_sem, ↓reduceIte, Nat.reduceEqDiff, Nat.reduceLT]
  · simp only [hae, go_sem, ↓reduceIte, Nat.reduceEqDiff, Nat.reduceLT]
    refine callI_eq (rright_runs _ _) ?_
    cases hr : rightK a with
    | false =>
      simp only [go_sem, ↓reduceIte, Nat.reduceEqDiff, Nat.reduceLT]
      refine WC.test (t := true) (by simp only [go_sem, ↓reduceIte, Nat.reduceEqDiff, Nat.reduceLT]) (fun _ => ?_) (fun h => by cases h)
      refine hno _ _ fun fr h4 => ?_
      simp only [go_sem, h4]
      exact ⟨by simp only [fineK, inK, hae, hr, decide_false, Bool.false_or, Bool.false_and], trivial⟩
    | true =>
      have hia : inK a = true := by simp only [inK, hr, Bool.or_true]
      simp only [go_sem, ↓reduceIte, Nat.reduceEqDiff, Nat.reduceLT]
      by_cases hbe : b = []
      · simp only [hbe, go_sem, ↓reduceIte, Nat.reduceEqDiff, Nat.reduceLT]
        refine WC.test (t := false) (by simp only [go_sem, ↓reduceIte, Nat.reduceEqDiff, Nat.reduceLT]) (fun h => by cases h) (fun _ => WC.skip ?_)
        rw [hbe] at fin
        refine fin _ ?_ ?_ hia rfl
        all_goals simp only [go_sem, ↓reduceIte, Nat.reduceEqDiff, Nat.reduceLT]
      · simp only [hbe, go_sem, ↓reduceIte, Nat.reduceEqDiff, Nat.reduceLT]
        refine callI_eq (rright_runs _ _) ?_
        cases hr2 : rightK b with
        | false =>
          simp only [go_sem, ↓reduceIte, Nat.reduceEqDiff, Nat.reduceLT]
          refine WC.test (t := true) (by simp only [go_sem, ↓reduceIte, Nat.reduceEqDiff, Nat.reduceLT]) (fun _ => ?_) (fun h => by cases h)
          refine hno _ _ fun fr h4 => ?_
          simp only [go_sem, h4]
          exact ⟨by simp only [fineK, inK, hbe, hr2, decide_false, Bool.false_or, Bool.false_and, Bool.and_false], trivial⟩
        | true =>
          simp only [go_sem, ↓reduceIte, Nat.reduceEqDiff, Nat.reduceLT]
          refine WC.test (t := false) (by simp only [go_sem, ↓reduceIte, Nat.reduceEqDiff, Nat.reduceLT]) (fun h => by cases h) (fun _ => WC.skip ?_)
          refine fin _ ?_ ?_ hia (by simp only [inK, hr2, Bool.or_true])
          all_goals simp only [go_sem, ↓reduceIte, Nat.reduceEqDiff, Nat.reduceLT]
end Go.Am.Try

/- The reference's carry, first and text, on the machine. -/
namespace Go.Am.Try
open Go Go.Am Go.Proofs
set_option maxRecDepth 100000
set_option linter.unusedSimpArgs false
set_option linter.unusedVariables false

/-- A row's cells: bytes, as numbers. -/
def numsC (l : List UInt8) : List V := l.map fun c => .int .i64 (c.toNat : Int)
@[go_sem] theorem numsC_len (l : List UInt8) : (numsC l).length = l.length := by simp [numsC]
theorem numsC_get (l : List UInt8) (i : Nat) : (numsC l)[i]? = (l[i]?).map fun c => .int .i64 (c.toNat : Int) := by simp [numsC]
theorem numsC_set (l : List UInt8) (i : Nat) (c : UInt8) : (numsC l).set i (.int .i64 (c.toNat : Int)) = numsC (l.set i c) := by simp [numsC, List.map_set]

theorem carry_loop {Q : AExit → Fr → Mem → Prop} (b : Nat) (m : Nat) (hm : m < 2 ^ 40) : ∀ (i : Nat) (l : List UInt8) (fr : Fr) (M : Mem), l.length = m → i ≤ m → fr.rd 0 = .slice (some (b, 0)) m (.exact m) → fr.rd 3 = .int .i64 ((i : Int) - 1) → M.get b = some (.cells (numsC l) false) →
    (∀ fr' M' l', incFrom l i = some l' → l'.length = m → fr'.rd 2 = .bool true → Upd M b (.cells (numsC l') false) M' → Q .ret fr' M') →
    (∀ fr' M' l', incFrom l i = none → Upd M b (.cells (numsC l') false) M' → Q (.exit 0) fr' M') → WC D2 25 (.loop A_ref04_carry_8) fr M Q := by
  intro i
  induction i with
  | zero =>
    intro l fr M hl hi h6 h7 hM hQ1 hQ2
    refine WC.loop ?_
    unfold A_ref04_carry_8
    refine WC.seq (WC.seq (WC.ops ?_))
    simp only [A_ref04_carry_2, go_sem, ↓reduceIte, Nat.reduceEqDiff, Nat.reduceLT, h7]
    refine WC.test (t := false) (by simp only [go_sem, ↓reduceIte, Nat.reduceEqDiff, Nat.reduceLT]; rfl) (fun h => by cases h) (fun _ => ?_)
    refine WC.exit ?_
    simp only [go_sem]
    exact hQ2 _ _ l rfl (Upd.same hM)
  | succ i ih =>
    intro l fr M hl hi h6 h7 hM hQ1 hQ2
    have e7 : ((i + 1 : Nat) : Int) - 1 = (i : Int) := by omega
    rw [e7] at h7
    refine WC.loop ?_
    unfold A_ref04_carry_8
    refine WC.seq (WC.seq (WC.ops ?_))
    simp only [A_ref04_carry_2, go_sem, ↓reduceIte, Nat.reduceEqDiff, Nat.reduceLT, h7]
    refine WC.test (t := true) (by simp only [go_sem, ↓reduceIte, Nat.reduceEqDiff, Nat.reduceLT]; simp) (fun _ => ?_) (fun h => by cases h)
    refine WC.skip ?_
    simp only [go_sem]
    have hil : i < l.length := by omega
    have hg : l[i]? = some l[i] := List.getElem?_eq_getElem hil
    have hc : (numsC l)[i]? = some (.int .i64 (l[i].toNat : Int)) := by rw [numsC_get, hg]; rfl
    have hlt : i + 1 ≤ m := by omega
    have hD : l.getD i 0 = l[i] := by rw [List.getD_eq_getElem?_getD, hg]; rfl
    have h8 := l[i].toNat_lt
    refine WC.seq (WC.block (WC.seq (WC.seq (WC.ops ?_))))
    simp only [A_ref04_carry_3, go_sem, ↓reduceIte, Nat.reduceEqDiff, Nat.reduceLT, h6, h7, decide_eq_true hlt, vload, hM, Nat.zero_add, Nat.mul_one, hc]
    refine WC.test (by simp only [go_sem, ↓reduceIte, Nat.reduceEqDiff, Nat.reduceLT]; rfl) (fun h => ?_) (fun h => WC.skip ?_)
    · have hlt5 : l[i].toNat < 255 := by have := of_decide_eq_true h; omega
      have hs : ((l[i] + 1).toNat : Int) = (l[i].toNat : Int) + 1 := by
        rw [UInt8.toNat_add]
        simp
        omega
      refine WC.seq (WC.ops ?_)
      simp only [A_ref04_carry_4, go_sem, ↓reduceIte, Nat.reduceEqDiff, Nat.reduceLT, h6, h7, decide_eq_true hlt, vload, hM, Nat.zero_add, Nat.mul_one, hc, vstore, V.cells, List.length_cons, List.length_nil]
      rw [IntWalk.i64_in _ (by omega), ← hs, write_one hM (by rw [numsC_len]; omega) rfl, numsC_set]
      simp only [go_sem, ↓reduceIte, Nat.reduceEqDiff, Nat.reduceLT]
      have hu := Upd.set M b (.cells (numsC (l.set i (l[i] + 1))) false)
      generalize M.set b _ = M1 at hu
      refine WC.seq (WC.ops ?_)
      simp only [A_ref04_carry_5, go_sem, ↓reduceIte, Nat.reduceEqDiff, Nat.reduceLT]
      refine WC.ret ?_
      simp only [go_sem]
      refine hQ1 _ M1 (l.set i (l[i] + 1)) ?_ (by simp [hl]) (by simp only [go_sem, ↓reduceIte, Nat.reduceEqDiff, Nat.reduceLT]) hu
      have hnz : l[i] + 1 ≠ 0 := by
        intro e
        rw [e] at hs
        simp at hs
        omega
      simp only [incFrom, hD]
      simp [hnz]
    · have h255 : l[i].toNat = 255 := by have := of_decide_eq_false h; omega
      have hz : l[i] + 1 = 0 := by
        apply UInt8.toNat_inj.1
        rw [UInt8.toNat_add, h255]
        rfl
      simp only [nextQ]
      refine WC.ops ?_
      simp only [A_ref04_carry_6, go_sem, ↓reduceIte, Nat.reduceEqDiff, Nat.reduceLT, h6, h7, decide_eq_true hlt, Nat.zero_add, Nat.mul_one, vstore, V.cells, List.length_cons, List.length_nil]
      have h0 : (V.int .i64 0) = .int .i64 (((0 : UInt8).toNat : Nat) : Int) := rfl
      rw [h0, write_one hM (by rw [numsC_len]; omega) rfl, numsC_set]
      simp only [go_sem, ↓reduceIte, Nat.reduceEqDiff, Nat.reduceLT]
      have hu := Upd.set M b (.cells (numsC (l.set i 0)) false)
      generalize M.set b _ = M1 at hu
      refine WC.ops ?_
      simp only [A_ref04_carry_7, go_sem, ↓reduceIte, Nat.reduceEqDiff, Nat.reduceLT, h7]
      rw [IntWalk.i64_in _ (by omega)]
      have hinc : incFrom l (i + 1) = incFrom (l.set i 0) i := by
        simp only [incFrom, hD, hz]
        simp
      refine ih (l.set i 0) _ M1 (by simp [hl]) (by omega) (by simp only [go_sem, ↓reduceIte, Nat.reduceEqDiff, Nat.reduceLT, h6]) (by simp only [go_sem, ↓reduceIte, Nat.reduceEqDiff, Nat.reduceLT]) hu.at_ ?_ ?_
      · intro fr' M' l' h1 h2 h3 h5
        exact hQ1 fr' M' l' (hinc.trans h1) h2 h3 (hu.trans h5)
      · intro fr' M' l' h1 h2
        exact hQ2 fr' M' l' (hinc.trans h1) (hu.trans h2)

theorem carry_runs (b : Nat) (l : List UInt8) (hm : l.length < 2 ^ 40) (M : Mem) (hM : M.get b = some (.cells (numsC l) false)) : Runs D2 F_ref04_carry [.slice (some (b, 0)) l.length (.exact l.length)] M fun v M' =>
    (∃ l', incFrom l l.length = some l' ∧ l'.length = l.length ∧ v = .bool true ∧ Upd M b (.cells (numsC l') false) M') ∨ (∃ l', incFrom l l.length = none ∧ v = .bool false ∧ Upd M b (.cells (numsC l') false) M') := by
  refine Runs.of (F := A_ref04_carry) rfl (by rfl) (by rfl) ?_
  unfold A_ref04_carry
  refine WC.seq (WC.ops ?_)
  simp only [A_ref04_carry_0, go_sem]
  refine WC.seq (WC.seq (WC.ops ?_))
  simp only [A_ref04_carry_1, go_sem, ↓reduceIte, Nat.reduceEqDiff, Nat.reduceLT]
  rw [IntWalk.i64_in _ (by omega)]
  refine WC.block (carry_loop b l.length hm l.length l _ M rfl (Nat.le_refl _) (by simp only [go_sem, ↓reduceIte, Nat.reduceEqDiff, Nat.reduceLT]) (by simp only [go_sem, ↓reduceIte, Nat.reduceEqDiff, Nat.reduceLT]) hM ?_ ?_)
  · intro fr' M' l' h1 h2 h3 h5
    simp only [go_sem, h3]
    exact .inl ⟨l', h1, h2, trivial, h5⟩
  · intro fr' M' l' h1 h5
    simp only [go_sem]
    refine WC.seq (WC.ops ?_)
    simp only [A_ref04_carry_9, go_sem, ↓reduceIte, Nat.reduceEqDiff, Nat.reduceLT]
    refine WC.ret ?_
    simp only [go_sem, ↓reduceIte, Nat.reduceEqDiff, Nat.reduceLT]
    exact .inr ⟨l', h1, trivial, h5⟩
end Go.Am.Try

/- The reference's first and text, on the machine. -/
namespace Go.Am.Try
open Go Go.Am Go.Proofs
set_option maxRecDepth 100000
set_option linter.unusedSimpArgs false
set_option linter.unusedVariables false

def stage (p : List UInt8) (i : Nat) : List UInt8 := p.take i ++ List.replicate (p.length - i) 0
theorem stage_len (p : List UInt8) (i : Nat) (h : i ≤ p.length) : (stage p i).length = p.length := by simp [stage]; omega
theorem stage_next (p : List UInt8) (i : Nat) (h : i < p.length) : (stage p i).set i p[i] = stage p (i + 1) := by
  unfold stage
  rw [List.set_append_right _ _ (by simp; omega)]
  have e : i - (p.take i).length = 0 := by simp; omega
  rw [e, show p.length - i = (p.length - (i + 1)) + 1 by omega, List.replicate_succ, List.set_cons_zero, List.take_succ_eq_append_getElem h, List.append_assoc]
  rfl
theorem stage_full (p : List UInt8) : stage p p.length = p := by simp [stage]

theorem first_loop {Q : AExit → Fr → Mem → Prop} (a : List UInt8) (b : Nat) (n : Nat) (hn : n < 2 ^ 40) : ∀ (f i : Nat) (fr : Fr) (M M0 : Mem), i + f = n → fr.rd 0 = .str a → fr.rd 1 = .int .i64 (n : Int) → fr.rd 5 = .slice (some (b, 0)) n (.exact n) → fr.rd 6 = .int .i64 (i : Int) →
    Upd M0 b (.cells (numsC (stage (padTo a n) i)) false) M →
    (∀ fr' M', fr'.rd 5 = .slice (some (b, 0)) n (.exact n) → Upd M0 b (.cells (numsC (padTo a n)) false) M' → Q (.exit 0) fr' M') → WC D2 24 (.loop A_ref04_first_6) fr M Q := by
  have hp := padTo_len a n
  intro f
  induction f with
  | zero =>
    intro i fr M M0 hi h0 h1 h5 h6 hM hQ
    have : i = n := by omega
    subst this
    refine WC.loop ?_
    unfold A_ref04_first_6
    refine WC.seq (WC.seq (WC.ops ?_))
    simp only [A_ref04_first_3, go_sem, ↓reduceIte, Nat.reduceEqDiff, Nat.reduceLT, h6, h1]
    refine WC.test (t := false) (by simp only [go_sem, ↓reduceIte, Nat.reduceEqDiff, Nat.reduceLT]; simp) (fun h => by cases h) (fun _ => WC.exit ?_)
    simp only [nextQ]
    have := stage_full (padTo a i)
    rw [hp] at this
    rw [this] at hM
    exact hQ _ _ (by simp only [go_sem, ↓reduceIte, Nat.reduceEqDiff, Nat.reduceLT, h5]) hM
  | succ f ih =>
    intro i fr M M0 hi h0 h1 h5 h6 hM hQ
    refine WC.loop ?_
    unfold A_ref04_first_6
    refine WC.seq (WC.seq (WC.ops ?_))
    simp only [A_ref04_first_3, go_sem, ↓reduceIte, Nat.reduceEqDiff, Nat.reduceLT, h6, h1]
    refine WC.test (t := true) (by simp only [go_sem, ↓reduceIte, Nat.reduceEqDiff, Nat.reduceLT]; rw [decide_eq_true (by omega)]) (fun _ => WC.skip ?_) (fun h => by cases h)
    simp only [nextQ]
    refine WC.seq (WC.block (WC.ops ?_))
    simp only [A_ref04_first_4, go_sem, ↓reduceIte, Nat.reduceEqDiff, Nat.reduceLT, h0, h5, h6]
    refine callI_eq (rdigit_runs a i (by omega) M) ?_
    have hpi : (digitL a i : Int) = ((padTo a n)[i]'(by omega)).toNat := by
      have := digit_pad a n i (by omega)
      rw [← this]
      simp [digitL, List.getD_eq_getElem?_getD, List.getElem?_eq_getElem (show i < (padTo a n).length by omega)]
    simp only [go_sem, ↓reduceIte, Nat.reduceEqDiff, Nat.reduceLT, h5, h6, decide_eq_true (show i + 1 ≤ n by omega), Nat.zero_add, Nat.mul_one, vstore, V.cells, List.length_cons, List.length_nil, hpi]
    rw [write_one hM.at_ (by rw [numsC_len, stage_len _ _ (by omega), hp]; omega) rfl, numsC_set, stage_next _ _ (by omega)]
    simp only [go_sem, ↓reduceIte, Nat.reduceEqDiff, Nat.reduceLT]
    have hu := hM.trans (Upd.set M b (.cells (numsC (stage (padTo a n) (i + 1))) false))
    generalize M.set b _ = M1 at hu
    refine WC.ops ?_
    simp only [A_ref04_first_5, go_sem, ↓reduceIte, Nat.reduceEqDiff, Nat.reduceLT, h6]
    rw [IntWalk.i64_in _ (by omega)]
    exact ih (i + 1) _ M1 M0 (by omega) (by simp only [go_sem, ↓reduceIte, Nat.reduceEqDiff, Nat.reduceLT, h0]) (by simp only [go_sem, ↓reduceIte, Nat.reduceEqDiff, Nat.reduceLT, h1]) (by simp only [go_sem, ↓reduceIte, Nat.reduceEqDiff, Nat.reduceLT, h5]) (by simp only [go_sem, ↓reduceIte, Nat.reduceEqDiff, Nat.reduceLT]; rfl) hu hQ

theorem first_runs (a : List UInt8) (n : Nat) (h1n : 1 ≤ n) (hn : n < 2 ^ 40) (M : Mem) : Runs D2 F_ref04_first [.str a, .int .i64 (n : Int)] M fun v M' => Grew M M' ∧
    ((∃ l, incFrom (padTo a n) n = some l ∧ l.length = n ∧ v = .slice (some (M.next, 0)) n (.exact n) ∧ M'.get M.next = some (.cells (numsC l) false) ∧ M.next < M'.next) ∨
     (incFrom (padTo a n) n = none ∧ v = .slice none 0 (.exact 0))) := by
  have hp := padTo_len a n
  refine Runs.of (F := A_ref04_first) rfl (by rfl) (by rfl) ?_
  unfold A_ref04_first
  refine WC.seq (WC.ops ?_)
  simp only [A_ref04_first_0, go_sem]
  refine WC.seq (WC.ops ?_)
  simp only [A_ref04_first_1, go_sem, ↓reduceIte, Nat.reduceEqDiff, Nat.reduceLT, Nat.le_refl, decide_eq_true (show n * 8 ≤ maxRoom by unfold maxRoom; omega), decide_eq_true (show n ≤ maxRoom by unfold maxRoom; omega)]
  refine WC.seq (WC.seq (WC.ops ?_))
  simp only [A_ref04_first_2, go_sem, ↓reduceIte, Nat.reduceEqDiff, Nat.reduceLT]
  have h0 : (M.push (.cells (repl n [.int .i64 0]) false)).get M.next = some (.cells (numsC (stage (padTo a n) 0)) false) := by
    rw [Mem.get_push_same, repl_one]
    simp [numsC, stage, hp]
  have hg : Grew M (M.push (.cells (repl n [.int .i64 0]) false)) := Grew.push M _
  have hnx : M.next < (M.push (.cells (repl n [.int .i64 0]) false)).next := Nat.lt_succ_self _
  generalize M.push (.cells (repl n [.int .i64 0]) false) = M1 at h0 hg hnx
  refine WC.block (first_loop a M.next n hn n 0 _ M1 M1 (by omega) (by simp only [go_sem, ↓reduceIte, Nat.reduceEqDiff, Nat.reduceLT]) (by simp only [go_sem, ↓reduceIte, Nat.reduceEqDiff, Nat.reduceLT]) (by simp only [go_sem, ↓reduceIte, Nat.reduceEqDiff, Nat.reduceLT]) (by simp only [go_sem, ↓reduceIte, Nat.reduceEqDiff, Nat.reduceLT]; rfl) (Upd.same h0) ?_)
  intro fr M2 h5 hu
  simp only [go_sem]
  refine WC.seq (WC.seq (WC.ops ?_))
  simp only [A_ref04_first_7, go_sem, ↓reduceIte, Nat.reduceEqDiff, Nat.reduceLT, h5]
  have hc := carry_runs M.next (padTo a n) (by omega) M2 hu.at_
  rw [hp] at hc
  refine callI_of hc ?_
  intro v M3 hv
  rcases hv with ⟨l, h1, h2, rfl, h4⟩ | ⟨l, h1, rfl, h4⟩
  · simp only [go_sem, ↓reduceIte, Nat.reduceEqDiff, Nat.reduceLT]
    refine WC.test (t := false) (by simp only [go_sem, ↓reduceIte, Nat.reduceEqDiff, Nat.reduceLT]) (fun h => by cases h) (fun _ => WC.skip ?_)
    simp only [nextQ]
    refine WC.seq (WC.ops ?_)
    simp only [A_ref04_first_9, go_sem, ↓reduceIte, Nat.reduceEqDiff, Nat.reduceLT, h5]
    refine WC.ret ?_
    simp only [go_sem, ↓reduceIte, Nat.reduceEqDiff, Nat.reduceLT]
    exact ⟨hg.upd (Nat.le_refl _) (hu.trans h4), .inl ⟨l, h1, h2, trivial, h4.at_, by rw [(hu.trans h4).next]; exact hnx⟩⟩
  · simp only [go_sem, ↓reduceIte, Nat.reduceEqDiff, Nat.reduceLT]
    refine WC.test (t := true) (by simp only [go_sem, ↓reduceIte, Nat.reduceEqDiff, Nat.reduceLT]) (fun _ => ?_) (fun h => by cases h)
    refine WC.seq (WC.ops ?_)
    simp only [A_ref04_first_8, go_sem, ↓reduceIte, Nat.reduceEqDiff, Nat.reduceLT, h5]
    refine WC.ret ?_
    simp only [go_sem, ↓reduceIte, Nat.reduceEqDiff, Nat.reduceLT]
    exact ⟨hg.upd (Nat.le_refl _) (hu.trans h4), .inr ⟨h1, trivial⟩⟩
end Go.Am.Try

/- The reference's text, on the machine. -/
namespace Go.Am.Try
open Go Go.Am Go.Proofs
set_option maxRecDepth 100000
set_option linter.unusedSimpArgs false
set_option linter.unusedVariables false

theorem text_loop {Q : AExit → Fr → Mem → Prop} (l : List UInt8) (c b : Nat) (hcb : c ≠ b) (hn : l.length < 2 ^ 40) : ∀ (f i : Nat) (fr : Fr) (M M0 : Mem), i + f = l.length → fr.rd 0 = .slice (some (c, 0)) l.length (.exact l.length) → fr.rd 3 = .slice (some (b, 0)) l.length (.exact l.length) → fr.rd 4 = .int .i64 (i : Int) →
    M0.get c = some (.cells (numsC l) false) → Upd M0 b (.cells (bytesC (stage l i)) false) M →
    (∀ fr' M', fr'.rd 3 = .slice (some (b, 0)) l.length (.exact l.length) → Upd M0 b (.cells (bytesC l) false) M' → Q (.exit 0) fr' M') → WC D2 24 (.loop A_ref04_text_6) fr M Q := by
  intro f
  induction f with
  | zero =>
    intro i fr M M0 hi h0 h3 h4 hc hM hQ
    have : i = l.length := by omega
    subst this
    refine WC.loop ?_
    unfold A_ref04_text_6
    refine WC.seq (WC.seq (WC.ops ?_))
    simp only [A_ref04_text_3, go_sem, ↓reduceIte, Nat.reduceEqDiff, Nat.reduceLT, h0, h4]
    refine WC.test (t := false) (by simp only [go_sem, ↓reduceIte, Nat.reduceEqDiff, Nat.reduceLT]; simp) (fun h => by cases h) (fun _ => WC.exit ?_)
    simp only [nextQ]
    rw [stage_full] at hM
    exact hQ _ _ (by simp only [go_sem, ↓reduceIte, Nat.reduceEqDiff, Nat.reduceLT, h3]) hM
  | succ f ih =>
    intro i fr M M0 hi h0 h3 h4 hc hM hQ
    have hil : i < l.length := by omega
    have hg : (numsC l)[i]? = some (.int .i64 (l[i].toNat : Int)) := by rw [numsC_get, List.getElem?_eq_getElem hil]; rfl
    have h8 := l[i].toNat_lt
    have hcM : M.get c = some (.cells (numsC l) false) := (hM.other c hcb).trans hc
    refine WC.loop ?_
    unfold A_ref04_text_6
    refine WC.seq (WC.seq (WC.ops ?_))
    simp only [A_ref04_text_3, go_sem, ↓reduceIte, Nat.reduceEqDiff, Nat.reduceLT, h0, h4]
    refine WC.test (t := true) (by simp only [go_sem, ↓reduceIte, Nat.reduceEqDiff, Nat.reduceLT]; rw [decide_eq_true (by omega)]) (fun _ => WC.skip ?_) (fun h => by cases h)
    simp only [nextQ]
    refine WC.seq (WC.block (WC.ops ?_))
    simp only [A_ref04_text_4, go_sem, ↓reduceIte, Nat.reduceEqDiff, Nat.reduceLT, h0, h3, h4, decide_eq_true (show i + 1 ≤ l.length by omega), vload, hcM, hg, Nat.zero_add, Nat.mul_one, vstore, V.cells, List.length_cons, List.length_nil]
    rw [IntWalk.u8_in _ (by omega), write_one hM.at_ (by rw [bytesC_len, stage_len _ _ (by omega)]; omega) rfl, bytesC_set, stage_next _ _ hil]
    simp only [go_sem, ↓reduceIte, Nat.reduceEqDiff, Nat.reduceLT]
    have hu := hM.trans (Upd.set M b (.cells (bytesC (stage l (i + 1))) false))
    generalize M.set b _ = M1 at hu
    refine WC.ops ?_
    simp only [A_ref04_text_5, go_sem, ↓reduceIte, Nat.reduceEqDiff, Nat.reduceLT, h4]
    rw [IntWalk.i64_in _ (by omega)]
    exact ih (i + 1) _ M1 M0 (by omega) (by simp only [go_sem, ↓reduceIte, Nat.reduceEqDiff, Nat.reduceLT, h0]) (by simp only [go_sem, ↓reduceIte, Nat.reduceEqDiff, Nat.reduceLT, h3]) (by simp only [go_sem, ↓reduceIte, Nat.reduceEqDiff, Nat.reduceLT]; rfl) hc hu hQ

theorem text_runs (l : List UInt8) (c : Nat) (h0l : 0 < l.length) (hn : l.length < 2 ^ 40) (M : Mem) (hM : M.get c = some (.cells (numsC l) false)) (hc : c < M.next) : Runs D2 F_ref04_text [.slice (some (c, 0)) l.length (.exact l.length)] M fun v M' => v = .str l ∧ Grew M M' := by
  refine Runs.of (F := A_ref04_text) rfl (by rfl) (by rfl) ?_
  unfold A_ref04_text
  refine WC.seq (WC.ops ?_)
  simp only [A_ref04_text_0, go_sem]
  refine WC.seq (WC.ops ?_)
  simp only [A_ref04_text_1, go_sem, ↓reduceIte, Nat.reduceEqDiff, Nat.reduceLT, Nat.le_refl, Nat.mul_one, decide_eq_true (show l.length ≤ maxRoom by unfold maxRoom; omega)]
  refine WC.seq (WC.seq (WC.ops ?_))
  simp only [A_ref04_text_2, go_sem, ↓reduceIte, Nat.reduceEqDiff, Nat.reduceLT]
  have h0 : (M.push (.cells (repl l.length [.int .u8 0]) false)).get M.next = some (.cells (bytesC (stage l 0)) false) := by
    rw [Mem.get_push_same, repl_one]
    simp [bytesC, stage]
  have hc1 : (M.push (.cells (repl l.length [.int .u8 0]) false)).get c = some (.cells (numsC l) false) := by
    rw [Mem.get_push_ne _ _ (by omega)]; exact hM
  have hg : Grew M (M.push (.cells (repl l.length [.int .u8 0]) false)) := Grew.push M _
  generalize M.push (.cells (repl l.length [.int .u8 0]) false) = M1 at h0 hc1 hg
  refine WC.block (text_loop l c M.next (by omega) hn l.length 0 _ M1 M1 (by omega) (by simp only [go_sem, ↓reduceIte, Nat.reduceEqDiff, Nat.reduceLT]) (by simp only [go_sem, ↓reduceIte, Nat.reduceEqDiff, Nat.reduceLT]) (by simp only [go_sem, ↓reduceIte, Nat.reduceEqDiff, Nat.reduceLT]; rfl) hc1 (Upd.same h0) ?_)
  intro fr M2 h3 hu
  simp only [go_sem]
  refine WC.seq (WC.ops ?_)
  have hr := read_all hu.at_
  rw [bytesC_len] at hr
  simp only [A_ref04_text_7, go_sem, ↓reduceIte, Nat.reduceEqDiff, Nat.reduceLT, h3, show ¬ l.length = 0 by omega, hr, bytesOf_bytesC]
  refine WC.ret ?_
  simp only [go_sem, ↓reduceIte, Nat.reduceEqDiff, Nat.reduceLT]
  exact ⟨trivial, hg.upd (Nat.le_refl _) hu⟩
end Go.Am.Try

/- The reference's below, on the machine. -/
namespace Go.Am.Try
open Go Go.Am Go.Proofs
set_option maxRecDepth 100000
set_option linter.unusedSimpArgs false
set_option linter.unusedVariables false

def belAt (l b : List UInt8) : Nat → Nat → Bool
  | 0, _ => false
  | k + 1, i => if digitL l i = digitL b i then belAt l b k (i + 1) else decide (digitL l i < digitL b i)
def belowL (l b : List UInt8) : Bool := decide (b = []) || belAt l b (max l.length b.length) 0

theorem below_loop {Q : AExit → Fr → Mem → Prop} (l b : List UInt8) (c : Nat) (hl : l.length < 2 ^ 40) (hb : b.length < 2 ^ 40) (M : Mem) (hM : M.get c = some (.cells (numsC l) false)) (t : Bool) (hQ : ∀ fr, fr.rd 4 = .bool t → Q .ret fr M) (hQ2 : ∀ fr, t = false → Q (.exit 0) fr M) : ∀ (f i : Nat) (fr : Fr), i + f = max l.length b.length → belAt l b f i = t →
    fr.rd 0 = .slice (some (c, 0)) l.length (.exact l.length) → fr.rd 1 = .str b → fr.rd 5 = .int .i64 (i : Int) → WC D2 39 (.loop A_ref04_below_11) fr M Q := by
  intro f
  induction f with
  | zero =>
    intro i fr hi ht h0 h1 h5
    have hia : ¬ (i : Int) < (l.length : Int) := by omega
    have hib : ¬ (i : Int) < (b.length : Int) := by omega
    refine WC.loop ?_
    unfold A_ref04_below_11
    refine WC.seq (WC.seq (WC.ops ?_))
    simp only [A_ref04_below_4, hia, hib, go_sem, ↓reduceIte, Nat.reduceEqDiff, Nat.reduceLT, h0, h1, h5]
    refine WC.test (t := false) (by simp only [go_sem, ↓reduceIte, Nat.reduceEqDiff, Nat.reduceLT]) (fun h => by cases h) (fun _ => WC.exit ?_)
    simp only [nextQ]
    exact hQ2 _ ht.symm
  | succ f ih =>
    intro i fr hi ht h0 h1 h5
    have hd := digit_lt b i
    have hd' := digit_lt l i
    simp only [belAt] at ht
    refine WC.loop ?_
    unfold A_ref04_below_11
    refine WC.seq (WC.seq (WC.ops ?_))
    have hin : (i : Int) < (l.length : Int) ∨ (i : Int) < (b.length : Int) := by omega
    have hgo : ∀ fr' : Fr, fr'.rd 18 = .bool true → fr'.rd 0 = .slice (some (c, 0)) l.length (.exact l.length) → fr'.rd 1 = .str b → fr'.rd 5 = .int .i64 (i : Int) →
        WC D2 39 (.cond (r 18) .skip (.exit 0)) fr' M (nextQ (fun fr M => WC D2 39 (.seq (.block 1 (.seq (.ops A_ref04_below_5) (.seq (.seq (.ops A_ref04_below_6) (.cond (r 24) (.ops A_ref04_below_7) .skip)) (.seq (.ops A_ref04_below_8) (.cond (r 33) (.seq (.ops A_ref04_below_9) .ret) .skip))))) (.ops A_ref04_below_10)) fr M (nextQ (fun fr M => WC D2 39 (.loop A_ref04_below_11) fr M Q) Q)) (nextQ (fun fr M => WC D2 39 (.loop A_ref04_below_11) fr M Q) Q)) := by
      intro fr' q18 q0 q1 q5
      refine WC.test (t := true) (by simp only [go_sem, q18]) (fun _ => WC.skip ?_) (fun h => by cases h)
      simp only [nextQ]
      refine WC.seq (WC.block (WC.seq (WC.ops ?_)))
      simp only [A_ref04_below_5, go_sem, ↓reduceIte, Nat.reduceEqDiff, Nat.reduceLT]
      have hmid : ∀ fr2 : Fr, fr2.rd 6 = .int .i64 (digitL l i : Int) → fr2.rd 0 = .slice (some (c, 0)) l.length (.exact l.length) → fr2.rd 1 = .str b → fr2.rd 5 = .int .i64 (i : Int) →
          WC D2 39 (.seq (.ops A_ref04_below_8) (.cond (r 33) (.seq (.ops A_ref04_below_9) .ret) .skip)) fr2 M (blockQ 1 (nextQ (fun fr M => WC D2 39 (.ops A_ref04_below_10) fr M (nextQ (fun fr M => WC D2 39 (.loop A_ref04_below_11) fr M Q) Q)) (nextQ (fun fr M => WC D2 39 (.loop A_ref04_below_11) fr M Q) Q))) := by
        intro fr2 p6 p0 p1 p5
        refine WC.seq (WC.ops ?_)
        simp only [A_ref04_below_8, go_sem, ↓reduceIte, Nat.reduceEqDiff, Nat.reduceLT, p6, p1, p5]
        refine callI_eq (rdigit_runs b i (by omega) M) ?_
        simp only [go_sem, ↓reduceIte, Nat.reduceEqDiff, Nat.reduceLT, p6, p1, p5]
        by_cases he : digitL l i = digitL b i
        · have he' : (digitL l i : Int) = (digitL b i : Int) := by omega
          rw [if_pos he] at ht
          refine WC.test (t := false) (by simp only [he', go_sem, ↓reduceIte, Nat.reduceEqDiff, Nat.reduceLT]) (fun h => by cases h) (fun _ => WC.skip ?_)
          simp only [nextQ, blockQ]
          refine WC.ops ?_
          simp only [A_ref04_below_10, go_sem, ↓reduceIte, Nat.reduceEqDiff, Nat.reduceLT, p5]
          rw [IntWalk.i64_in _ (by omega)]
          exact ih (i + 1) _ (by omega) ht (by simp only [go_sem, ↓reduceIte, Nat.reduceEqDiff, Nat.reduceLT, p0]) (by simp only [go_sem, ↓reduceIte, Nat.reduceEqDiff, Nat.reduceLT, p1]) (by simp only [go_sem, ↓reduceIte, Nat.reduceEqDiff, Nat.reduceLT]; rfl)
        · have he' : ¬ (digitL l i : Int) = (digitL b i : Int) := by omega
          rw [if_neg he] at ht
          refine WC.test (t := true) (by simp only [he', go_sem, ↓reduceIte, Nat.reduceEqDiff, Nat.reduceLT]) (fun _ => ?_) (fun h => by cases h)
          refine WC.seq (WC.ops ?_)
          simp only [A_ref04_below_9, go_sem, ↓reduceIte, Nat.reduceEqDiff, Nat.reduceLT, p6, p1, p5]
          refine callI_eq (rdigit_runs b i (by omega) M) ?_
          simp only [go_sem, ↓reduceIte, Nat.reduceEqDiff, Nat.reduceLT, p6, p1, p5]
          refine WC.ret ?_
          simp only [nextQ, blockQ]
          refine hQ _ ?_
          simp only [go_sem, ↓reduceIte, Nat.reduceEqDiff, Nat.reduceLT]
          rw [← ht]
          simp only [Int.ofNat_lt]
      refine WC.seq (WC.seq (WC.ops ?_))
      simp only [A_ref04_below_6, go_sem, ↓reduceIte, Nat.reduceEqDiff, Nat.reduceLT, q0, q5]
      refine WC.test (by simp only [go_sem, ↓reduceIte, Nat.reduceEqDiff, Nat.reduceLT]; rfl) (fun h => WC.ops ?_) (fun h => WC.skip ?_)
      · have hil : i < l.length := by have := of_decide_eq_true h; omega
        have hg : (numsC l)[i]? = some (.int .i64 (l[i].toNat : Int)) := by rw [numsC_get, List.getElem?_eq_getElem hil]; rfl
        have hD : digitL l i = l[i].toNat := by simp [digitL, List.getD_eq_getElem?_getD, List.getElem?_eq_getElem hil]
        simp only [A_ref04_below_7, go_sem, ↓reduceIte, Nat.reduceEqDiff, Nat.reduceLT, q0, q5, decide_eq_true (show i + 1 ≤ l.length by omega), vload, hM, hg, Nat.zero_add, Nat.mul_one]
        refine hmid _ ?_ ?_ ?_ ?_
        all_goals simp only [go_sem, ↓reduceIte, Nat.reduceEqDiff, Nat.reduceLT, q0, q1, q5, hD]
      · have hil : l.length ≤ i := by have := of_decide_eq_false h; omega
        simp only [nextQ]
        refine hmid _ ?_ ?_ ?_ ?_
        all_goals simp only [go_sem, ↓reduceIte, Nat.reduceEqDiff, Nat.reduceLT, q0, q1, q5, digit_out hil]
        rfl
    simp only [A_ref04_below_4, go_sem, ↓reduceIte, Nat.reduceEqDiff, Nat.reduceLT, h0, h1, h5]
    by_cases hia : (i : Int) < (l.length : Int)
    · simp only [hia, go_sem, ↓reduceIte, Nat.reduceEqDiff, Nat.reduceLT, h0, h1, h5]
      refine hgo _ ?_ ?_ ?_ ?_
      all_goals simp only [go_sem, ↓reduceIte, Nat.reduceEqDiff, Nat.reduceLT, h0, h1, h5]
    · have hib := hin.resolve_left hia
      simp only [hia, hib, go_sem, ↓reduceIte, Nat.reduceEqDiff, Nat.reduceLT, h0, h1, h5]
      refine hgo _ ?_ ?_ ?_ ?_
      all_goals simp only [go_sem, ↓reduceIte, Nat.reduceEqDiff, Nat.reduceLT, h0, h1, h5]

theorem below_runs (l b : List UInt8) (c : Nat) (hl : l.length < 2 ^ 40) (hb : b.length < 2 ^ 40) (M : Mem) (hM : M.get c = some (.cells (numsC l) false)) : Runs D2 F_ref04_below [.slice (some (c, 0)) l.length (.exact l.length), .str b] M fun v M' => v = .bool (belowL l b) ∧ M' = M := by
  refine Runs.of (F := A_ref04_below) rfl (by rfl) (by rfl) ?_
  unfold A_ref04_below
  refine WC.seq (WC.ops ?_)
  simp only [A_ref04_below_0, go_sem]
  refine WC.seq (WC.seq (WC.ops ?_))
  simp only [A_ref04_below_1, go_sem, ↓reduceIte, Nat.reduceEqDiff, Nat.reduceLT]
  by_cases hbe : b = []
  · refine WC.test (t := true) (by simp only [hbe, go_sem, ↓reduceIte, Nat.reduceEqDiff, Nat.reduceLT]) (fun _ => ?_) (fun h => by cases h)
    refine WC.seq (WC.ops ?_)
    simp only [A_ref04_below_2, go_sem, ↓reduceIte, Nat.reduceEqDiff, Nat.reduceLT]
    refine WC.ret ?_
    simp only [go_sem, ↓reduceIte, Nat.reduceEqDiff, Nat.reduceLT]
    exact ⟨by simp [belowL, hbe], trivial⟩
  · refine WC.test (t := false) (by simp only [hbe, go_sem, ↓reduceIte, Nat.reduceEqDiff, Nat.reduceLT]) (fun h => by cases h) (fun _ => WC.skip ?_)
    simp only [nextQ]
    refine WC.seq (WC.seq (WC.ops ?_))
    simp only [A_ref04_below_3, go_sem, ↓reduceIte, Nat.reduceEqDiff, Nat.reduceLT]
    have hB : belowL l b = belAt l b (max l.length b.length) 0 := by simp [belowL, hbe]
    refine WC.block (below_loop l b c hl hb M hM (belowL l b) ?_ ?_ (max l.length b.length) 0 _ (by omega) hB.symm ?_ ?_ ?_)
    · intro fr h4
      simp only [go_sem, h4]
      exact ⟨trivial, trivial⟩
    · intro fr hf
      simp only [go_sem]
      refine WC.seq (WC.ops ?_)
      simp only [A_ref04_below_12, go_sem, ↓reduceIte, Nat.reduceEqDiff, Nat.reduceLT]
      refine WC.ret ?_
      simp only [go_sem, ↓reduceIte, Nat.reduceEqDiff, Nat.reduceLT]
      exact ⟨by rw [hf], trivial⟩
    all_goals simp only [go_sem, ↓reduceIte, Nat.reduceEqDiff, Nat.reduceLT]
    rfl
end Go.Am.Try

/- The plain law of the reference's scan: the last byte that is below is the greatest. -/
namespace Go.Am.Try
open Go Go.Am Go.Proofs
set_option maxRecDepth 100000
set_option linter.unusedSimpArgs false
set_option linter.unusedVariables false

/-- Behind the end of a number the other one has a digit that is not nought. -/
theorem bel_tail (l b : List UInt8) (hb : b ≠ []) (hr : digitL b (b.length - 1) ≠ 0) : ∀ (k i : Nat), l.length ≤ i → i + k = max l.length b.length → belAt l b k i = decide (i < b.length)
  | 0, i, hl, hi => by
    simp only [belAt]
    rw [decide_eq_false (by omega)]
  | k + 1, i, hl, hi => by
    simp only [belAt, digit_out hl]
    by_cases he : 0 = digitL b i
    · rw [if_pos he, bel_tail l b hb hr k (i + 1) (by omega) (by omega)]
      have : i ≠ b.length - 1 := by intro e; rw [e] at he; exact hr he.symm
      by_cases h : i < b.length
      · rw [decide_eq_true h, decide_eq_true (by omega)]
      · rw [decide_eq_false h, decide_eq_false (by omega)]
    · rw [if_neg he, decide_eq_true (by omega)]
      rw [decide_eq_true]
      apply Nat.lt_of_not_le
      intro h
      exact he (digit_out h).symm
theorem bel_great (l b : List UInt8) (m c : Nat) (hl : l.length = m + 1) (hc : 1 ≤ c) (hc2 : c ≤ 255) (hb : b ≠ []) (hr : digitL b (b.length - 1) ≠ 0) : ∀ (j i k : Nat), i + j = m → i + k = max (m + 1) b.length →
    belAt (l.set m (UInt8.ofNat c)) b k i = decide ((c : Int) ≤ grAt l b m j i)
  | 0, i, k, hi, hk => by
    have : i = m := by omega
    subst this
    obtain ⟨k, rfl⟩ : ∃ k', k = k' + 1 := ⟨k - 1, by omega⟩
    have hcn : (UInt8.ofNat c).toNat = c := by simp only [UInt8.toNat_ofNat']; omega
    have hd : digitL (l.set i (UInt8.ofNat c)) i = c := by rw [digit_set _ _ _ _ (by omega), if_pos rfl, hcn]
    simp only [belAt, hd, grAt, grEnd, hb, if_false]
    by_cases he : c = digitL b i
    · rw [if_pos he, bel_tail _ b hb hr k (i + 1) (by simp [hl]) (by simp only [List.length_set, hl]; omega)]
      by_cases h : i + 1 < b.length
      · rw [if_pos h, decide_eq_true h, decide_eq_true (by omega)]
      · rw [if_neg h, decide_eq_false h, decide_eq_false (by omega)]
    · rw [if_neg he]
      by_cases h : i + 1 < b.length
      · rw [if_pos h]
        by_cases h2 : c < digitL b i
        · rw [decide_eq_true h2, decide_eq_true (by omega)]
        · rw [decide_eq_false h2, decide_eq_false (by omega)]
      · rw [if_neg h]
        by_cases h2 : c < digitL b i
        · rw [decide_eq_true h2, decide_eq_true (by omega)]
        · rw [decide_eq_false h2, decide_eq_false (by omega)]
  | j + 1, i, k, hi, hk => by
    obtain ⟨k, rfl⟩ : ∃ k', k = k' + 1 := ⟨k - 1, by omega⟩
    have hd : digitL (l.set m (UInt8.ofNat c)) i = digitL l i := by rw [digit_set _ _ _ _ (by omega), if_neg (by omega)]
    have hl2 : (l.getD i 0).toNat = digitL l i := rfl
    simp only [belAt, hd, grAt, hb, if_false, hl2]
    by_cases he : digitL l i = digitL b i
    · rw [if_pos he, if_neg (by omega), if_neg (by omega)]
      exact bel_great l b m c hl hc hc2 hb hr j (i + 1) k (by omega) (by omega)
    · rw [if_neg he]
      by_cases h : digitL l i < digitL b i
      · rw [if_pos h, decide_eq_true h, decide_eq_true (by omega)]
      · rw [if_neg h, if_pos (by omega), decide_eq_false h, decide_eq_false (by omega)]
theorem below_great {l b : List UInt8} {m c : Nat} (hl : l.length = m + 1) (hc : 1 ≤ c) (hc2 : c ≤ 255) (hb : b = [] ∨ rightK b = true) : belowL (l.set m (UInt8.ofNat c)) b = decide ((c : Int) ≤ greatL l b) := by
  by_cases hbe : b = []
  · subst hbe
    simp only [belowL, decide_true, Bool.true_or]
    unfold greatL
    rw [gr_open, decide_eq_true (by omega)]
  · have hr := (right_last (hb.resolve_left hbe)).2.2
    simp only [belowL, hbe, decide_false, Bool.false_or, List.length_set, hl]
    rw [bel_great l b m c hl hc hc2 hbe hr m 0 _ (by omega) (by omega)]
    simp only [greatL, hl, Nat.add_sub_cancel]
end Go.Am.Try

/- The reference's scan for the last byte, on the machine. -/
namespace Go.Am.Try
open Go Go.Am Go.Proofs
set_option maxRecDepth 100000
set_option linter.unusedSimpArgs false
set_option linter.unusedVariables false

theorem scan_loop {Q : AExit → Fr → Mem → Prop} (a b l : List UInt8) (p m lo : Nat) (hl : l.length = m + 1) (hm : m < 24) (hlo : 1 ≤ lo) (hlo2 : lo ≤ 255) (hb : b = [] ∨ rightK b = true) (hbl : b.length < 2 ^ 40) (M0 : Mem)
    (hQ : ∀ fr M x, fr.rd 0 = .str a → fr.rd 1 = .str b → fr.rd 6 = .int .i64 ((m + 1 : Nat) : Int) → fr.rd 7 = .slice (some (p, 0)) (m + 1) (.exact (m + 1)) → fr.rd 8 = .int .i64 (lo : Int) → fr.rd 9 = .int .i64 (if greatL l b < lo then (lo : Int) - 1 else greatL l b) →
      Upd M0 p (.cells (numsC (l.set m x)) false) M → Q (.exit 2) fr M) :
    ∀ (f c : Nat) (fr : Fr) (M : Mem) (x : UInt8), c + f = 256 → lo ≤ c → (c = lo ∨ (c : Int) - 1 ≤ greatL l b) → Upd M0 p (.cells (numsC (l.set m x)) false) M →
      fr.rd 0 = .str a → fr.rd 1 = .str b → fr.rd 6 = .int .i64 ((m + 1 : Nat) : Int) → fr.rd 7 = .slice (some (p, 0)) (m + 1) (.exact (m + 1)) → fr.rd 8 = .int .i64 (lo : Int) → fr.rd 9 = .int .i64 ((c : Int) - 1) → fr.rd 10 = .int .i64 (c : Int) →
      WC D2 60 (.loop A_ref04_Between_15) fr M Q := by
  have hG := greatL_le l b
  intro f
  induction f with
  | zero =>
    intro c fr M x hc hcl hinv hM h0 h1 h6 h7 h8 h9 h10
    have : c = 256 := by omega
    subst this
    refine WC.loop ?_
    unfold A_ref04_Between_15
    refine WC.seq (WC.seq (WC.ops ?_))
    simp only [A_ref04_Between_10, go_sem, ↓reduceIte, Nat.reduceEqDiff, Nat.reduceLT, h10]
    refine WC.test (t := false) (by simp only [go_sem, ↓reduceIte, Nat.reduceEqDiff, Nat.reduceLT]; rfl) (fun h => by cases h) (fun _ => WC.exit ?_)
    simp only [nextQ]
    refine hQ _ M x ?_ ?_ ?_ ?_ ?_ ?_ hM
    all_goals simp only [go_sem, ↓reduceIte, Nat.reduceEqDiff, Nat.reduceLT, h0, h1, h6, h7, h8, h9]
    rw [if_neg (by omega)]
    congr 1
    omega
  | succ f ih =>
    intro c fr M x hc hcl hinv hM h0 h1 h6 h7 h8 h9 h10
    have hcn : (UInt8.ofNat c).toNat = c := by simp only [UInt8.toNat_ofNat']; omega
    have hw : IntKind.i64.wrap (((m + 1 : Nat) : Int) - 1) = (m : Int) := by rw [IntWalk.i64_in _ (by omega)]; omega
    refine WC.loop ?_
    unfold A_ref04_Between_15
    refine WC.seq (WC.seq (WC.ops ?_))
    simp only [A_ref04_Between_10, go_sem, ↓reduceIte, Nat.reduceEqDiff, Nat.reduceLT, h10]
    refine WC.test (t := true) (by simp only [go_sem, ↓reduceIte, Nat.reduceEqDiff, Nat.reduceLT]; rw [decide_eq_true (by omega)]) (fun _ => WC.skip ?_) (fun h => by cases h)
    simp only [nextQ]
    refine WC.seq (WC.block (WC.seq (WC.ops ?_)))
    have hcell : (V.int .i64 (c : Int)) = .int .i64 ((UInt8.ofNat c).toNat : Int) := by rw [hcn]
    simp only [A_ref04_Between_11, go_sem, ↓reduceIte, Nat.reduceEqDiff, Nat.reduceLT, h6, h7, h10, hw, Nat.le_refl, vstore, V.cells, List.length_cons, List.length_nil, Nat.zero_add, Nat.mul_one]
    rw [hcell, write_one hM.at_ (by rw [numsC_len, List.length_set]; omega) rfl, numsC_set, List.set_set]
    simp only [go_sem, ↓reduceIte, Nat.reduceEqDiff, Nat.reduceLT]
    have hu := hM.trans (Upd.set M p (.cells (numsC (l.set m (UInt8.ofNat c))) false))
    generalize M.set p _ = M1 at hu
    refine WC.seq (WC.seq (WC.ops ?_))
    simp only [A_ref04_Between_12, go_sem, ↓reduceIte, Nat.reduceEqDiff, Nat.reduceLT, h7, h1]
    have hbr := below_runs (l.set m (UInt8.ofNat c)) b p (by rw [List.length_set]; omega) hbl M1 hu.at_
    rw [List.length_set, hl, below_great hl (by omega) (by omega) hb] at hbr
    refine callI_eq hbr ?_
    simp only [go_sem, ↓reduceIte, Nat.reduceEqDiff, Nat.reduceLT]
    refine WC.test (by simp only [go_sem, ↓reduceIte, Nat.reduceEqDiff, Nat.reduceLT]; rfl) (fun h => WC.exit ?_) (fun h => WC.skip ?_)
    · have hgt : ¬ (c : Int) ≤ greatL l b := by simpa using h
      simp only [nextQ, blockQ, Nat.reduceEqDiff, beq_dec, decide_false, cond_false]
      refine hQ _ M1 (UInt8.ofNat c) ?_ ?_ ?_ ?_ ?_ ?_ hu
      all_goals simp only [go_sem, ↓reduceIte, Nat.reduceEqDiff, Nat.reduceLT, h0, h1, h6, h7, h8, h9]
      congr 1
      split <;> omega
    · have hle : (c : Int) ≤ greatL l b := by simpa using h
      simp only [nextQ]
      refine WC.ops ?_
      simp only [A_ref04_Between_13, go_sem, ↓reduceIte, Nat.reduceEqDiff, Nat.reduceLT, h10]
      refine WC.ops ?_
      simp only [A_ref04_Between_14, go_sem, ↓reduceIte, Nat.reduceEqDiff, Nat.reduceLT, h10]
      rw [IntWalk.i64_in _ (by omega)]
      refine ih (c + 1) _ M1 (UInt8.ofNat c) (by omega) (by omega) (.inr (by omega)) hu ?_ ?_ ?_ ?_ ?_ ?_ ?_
      all_goals simp only [go_sem, ↓reduceIte, Nat.reduceEqDiff, Nat.reduceLT, h0, h1, h6, h7, h8, h9]
      · congr 1; omega
      · rfl
end Go.Am.Try

/- The reference's Between, on the machine: it answers what the program's does. -/
namespace Go.Am.Try
open Go Go.Am Go.Proofs
set_option maxRecDepth 100000
set_option linter.unusedSimpArgs false
set_option linter.unusedVariables false

theorem rbtw_loop (a b : List UInt8) (hbr : b = [] ∨ rightK b = true) (hb : b.length < 2 ^ 40) {R : V → Mem → Prop} (Mz : Mem) (hR : ∀ l M', Grew Mz M' → btwK a b = some l → R (.tup [.str l, .int .i64 0]) M') (hR2 : ∀ M', Grew Mz M' → btwK a b = none → R (.tup [.str [], .int .i64 32]) M') :
    ∀ (f n : Nat) (fr : Fr) (M : Mem), Grew Mz M → n + f = 25 → 1 ≤ n → btwAt a b f n = btwK a b → fr.rd 0 = .str a → fr.rd 1 = .str b → fr.rd 6 = .int .i64 (n : Int) →
    WC D2 60 (.loop A_ref04_Between_20) fr M (blockQ 0 (nextQ (fun fr M => WC D2 60 (.seq (.ops A_ref04_Between_21) .ret) fr M (endQ [.tmp 4, .tmp 5] R)) (endQ [.tmp 4, .tmp 5] R))) := by
  intro f
  induction f with
  | zero =>
    intro n fr M hG hn h1 hbt h0 h1' h6
    have : n = 25 := by omega
    subst this
    refine WC.loop ?_
    unfold A_ref04_Between_20
    refine WC.seq (WC.seq (WC.ops ?_))
    simp only [A_ref04_Between_4, go_sem, ↓reduceIte, Nat.reduceEqDiff, Nat.reduceLT, h6]
    refine WC.test (t := false) (by simp only [go_sem, ↓reduceIte, Nat.reduceEqDiff, Nat.reduceLT]; rfl) (fun h => by cases h) (fun _ => WC.exit ?_)
    simp only [go_sem]
    refine WC.seq (WC.ops ?_)
    simp only [A_ref04_Between_21, go_sem, ↓reduceIte, Nat.reduceEqDiff, Nat.reduceLT]
    refine WC.ret ?_
    simp only [go_sem, ↓reduceIte, Nat.reduceEqDiff, Nat.reduceLT]
    exact hR2 _ hG hbt.symm
  | succ f ih =>
    intro n fr M hG hn h1 hbt h0 h1' h6
    refine WC.loop ?_
    unfold A_ref04_Between_20
    refine WC.seq (WC.seq (WC.ops ?_))
    simp only [A_ref04_Between_4, go_sem, ↓reduceIte, Nat.reduceEqDiff, Nat.reduceLT, h6]
    refine WC.test (t := true) (by simp only [go_sem, ↓reduceIte, Nat.reduceEqDiff, Nat.reduceLT]; rw [decide_eq_true (by omega)]) (fun _ => WC.skip ?_) (fun h => by cases h)
    simp only [go_sem]
    have hnext : ∀ (fr' : Fr) (M' : Mem), Grew Mz M' → btwAt a b f (n + 1) = btwK a b → fr'.rd 0 = .str a → fr'.rd 1 = .str b → fr'.rd 6 = .int .i64 (n : Int) →
        WC D2 60 (.ops A_ref04_Between_19) fr' M' (nextQ (fun fr M => WC D2 60 (.loop A_ref04_Between_20) fr M (blockQ 0 (nextQ (fun fr M => WC D2 60 (.seq (.ops A_ref04_Between_21) .ret) fr M (endQ [.tmp 4, .tmp 5] R)) (endQ [.tmp 4, .tmp 5] R)))) (blockQ 0 (nextQ (fun fr M => WC D2 60 (.seq (.ops A_ref04_Between_21) .ret) fr M (endQ [.tmp 4, .tmp 5] R)) (endQ [.tmp 4, .tmp 5] R)))) := by
      intro fr' M' hG' hbt' g0 g1 g6
      refine WC.ops ?_
      simp only [A_ref04_Between_19, go_sem, ↓reduceIte, Nat.reduceEqDiff, Nat.reduceLT, g6]
      rw [IntWalk.i64_in _ (by omega)]
      exact ih (n + 1) _ M' hG' (by omega) (by omega) hbt' (by simp only [go_sem, ↓reduceIte, Nat.reduceEqDiff, Nat.reduceLT, g0]) (by simp only [go_sem, ↓reduceIte, Nat.reduceEqDiff, Nat.reduceLT, g1]) (by simp only [go_sem, ↓reduceIte, Nat.reduceEqDiff, Nat.reduceLT]; rfl)
    refine WC.seq (WC.block (WC.seq (WC.ops ?_)))
    simp only [A_ref04_Between_5, go_sem, ↓reduceIte, Nat.reduceEqDiff, Nat.reduceLT, h0, h6]
    refine callI_of (first_runs a n h1 (by omega) M) ?_
    rintro v M1 ⟨hg, hv⟩
    rcases hv with ⟨l, hi, hl, rfl, hM1, hlt⟩ | ⟨hi, rfl⟩
    · simp only [go_sem, ↓reduceIte, Nat.reduceEqDiff, Nat.reduceLT]
      refine WC.seq (WC.seq (WC.ops ?_))
      simp only [A_ref04_Between_6, vnil, Option.isNone_some, go_sem, ↓reduceIte, Nat.reduceEqDiff, Nat.reduceLT]
      refine WC.test (t := false) (by simp only [go_sem, ↓reduceIte, Nat.reduceEqDiff, Nat.reduceLT]) (fun h => by cases h) (fun _ => WC.skip ?_)
      simp only [go_sem]
      obtain ⟨m, rfl⟩ : ∃ m, n = m + 1 := ⟨n - 1, by omega⟩
      have hm : l[m]? = some l[m] := List.getElem?_eq_getElem (by omega)
      have hc : (numsC l)[m]? = some (.int .i64 (l[m].toNat : Int)) := by rw [numsC_get, hm]; rfl
      have hD : digitL l m = l[m].toNat := by simp [digitL, List.getD_eq_getElem?_getD, hm]
      have h8 := l[m].toNat_lt
      have hw : IntKind.i64.wrap (((m + 1 : Nat) : Int) - 1) = (m : Int) := by rw [IntWalk.i64_in _ (by omega)]; omega
      have hlo : max (l[m].toNat : Int) 1 = ((max (digitL l m) 1 : Nat) : Int) := by rw [hD]; omega
      have hmx : max (digitL l m) 1 ≤ 255 ∧ 1 ≤ max (digitL l m) 1 := by omega
      have hgr := greatL_le l b
      refine WC.seq (WC.ops ?_)
      simp only [A_ref04_Between_7, go_sem, ↓reduceIte, Nat.reduceEqDiff, Nat.reduceLT, h6, hw, Nat.le_refl, vload, hM1, hc, Nat.zero_add, Nat.mul_one, hlo]
      refine WC.seq (WC.ops ?_)
      simp only [A_ref04_Between_8, go_sem, ↓reduceIte, Nat.reduceEqDiff, Nat.reduceLT]
      rw [IntWalk.i64_in _ (by omega)]
      refine WC.seq (WC.seq (WC.ops ?_))
      simp only [A_ref04_Between_9, go_sem, ↓reduceIte, Nat.reduceEqDiff, Nat.reduceLT]
      have hset : l.set m l[m] = l := List.set_getElem_self _
      refine WC.block (scan_loop a b l M.next m (max (digitL l m) 1) hl (by omega) hmx.2 hmx.1 hbr hb M1 ?_ (256 - max (digitL l m) 1) (max (digitL l m) 1) _ M1 l[m] (by omega) (Nat.le_refl _) (.inl rfl) (by rw [hset]; exact Upd.same hM1) ?_ ?_ ?_ ?_ ?_ ?_ ?_)
      · intro fr M2 x q0 q1 q6 q7 q8 q9 hu
        simp only [nextQ, blockQ, beq_dec, decide_true, cond_true]
        refine WC.seq (WC.ops ?_)
        simp only [A_ref04_Between_16, go_sem, ↓reduceIte, Nat.reduceEqDiff, Nat.reduceLT, q8, q9]
        by_cases hlt2 : greatL l b < ((max (digitL l m) 1 : Nat) : Int)
        · refine WC.test (t := false) (by simp only [go_sem, ↓reduceIte, Nat.reduceEqDiff, Nat.reduceLT, if_pos hlt2]; rw [decide_eq_false (by omega)]) (fun h => by cases h) (fun _ => WC.skip ?_)
          simp only [nextQ, blockQ]
          refine hnext _ _ ((hG.trans hg).upd hG.next hu) ?_ (by simp only [go_sem, ↓reduceIte, Nat.reduceEqDiff, Nat.reduceLT, q0]) (by simp only [go_sem, ↓reduceIte, Nat.reduceEqDiff, Nat.reduceLT, q1]) (by simp only [go_sem, ↓reduceIte, Nat.reduceEqDiff, Nat.reduceLT, q6])
          rw [← hbt]
          simp only [btwAt, hi, Nat.add_sub_cancel]
          rw [if_pos hlt2]
        · simp only [if_neg hlt2] at q9 ⊢
          refine WC.test (t := true) (by simp only [go_sem, ↓reduceIte, Nat.reduceEqDiff, Nat.reduceLT]; rw [decide_eq_true (by omega)]) (fun _ => ?_) (fun h => by cases h)
          refine WC.seq (WC.ops ?_)
          simp only [A_ref04_Between_17, go_sem, ↓reduceIte, Nat.reduceEqDiff, Nat.reduceLT, q6, q7, q8, q9, hw, ne_eq, Int.reduceEq, not_false_eq_true, Nat.le_refl, Nat.zero_add, Nat.mul_one]
          have hq : IntKind.i64.wrap ((IntKind.i64.wrap (((max (digitL l m) 1 : Nat) : Int) + greatL l b)).tdiv 2) = ((UInt8.ofNat ((max (digitL l m) 1 + (greatL l b).toNat) / 2)).toNat : Int) := by
            rw [IntWalk.i64_in (((max (digitL l m) 1 : Nat) : Int) + greatL l b) (by omega), Int.tdiv_eq_ediv_of_nonneg (by omega), IntWalk.i64_in _ (by omega)]
            simp only [UInt8.toNat_ofNat']
            omega
          rw [hq]
          simp only [vstore, V.cells, List.length_cons, List.length_nil, Nat.zero_add, Nat.reduceEqDiff, go_sem]
          rw [write_one hu.at_ (by rw [numsC_len, List.length_set]; omega) rfl, numsC_set, List.set_set]
          simp only [go_sem, ↓reduceIte, Nat.reduceEqDiff, Nat.reduceLT]
          have hu2 := hu.trans (Upd.set M2 M.next (.cells (numsC (l.set m (UInt8.ofNat ((max (digitL l m) 1 + (greatL l b).toNat) / 2)))) false))
          generalize M2.set M.next _ = M3 at hu2
          refine WC.seq (WC.ops ?_)
          simp only [A_ref04_Between_18, go_sem, ↓reduceIte, Nat.reduceEqDiff, Nat.reduceLT, q7]
          have ht := text_runs (l.set m (UInt8.ofNat ((max (digitL l m) 1 + (greatL l b).toNat) / 2))) M.next (by rw [List.length_set]; omega) (by rw [List.length_set]; omega) M3 hu2.at_ (by rw [hu2.next]; exact hlt)
          rw [List.length_set, hl] at ht
          refine callI_of ht ?_
          intro v M4 hv
          rw [hv.1]
          simp only [go_sem, ↓reduceIte, Nat.reduceEqDiff, Nat.reduceLT]
          refine WC.ret ?_
          simp only [go_sem, ↓reduceIte, Nat.reduceEqDiff, Nat.reduceLT]
          refine hR _ _ (((hG.trans hg).upd hG.next hu2).trans hv.2) ?_
          rw [← hbt]
          simp only [btwAt, hi, Nat.add_sub_cancel]
          rw [if_neg hlt2]
      all_goals simp only [go_sem, ↓reduceIte, Nat.reduceEqDiff, Nat.reduceLT, h0, h1', h6]
    · simp only [go_sem, ↓reduceIte, Nat.reduceEqDiff, Nat.reduceLT]
      refine WC.seq (WC.seq (WC.ops ?_))
      simp only [A_ref04_Between_6, vnil, Option.isNone_none, go_sem, ↓reduceIte, Nat.reduceEqDiff, Nat.reduceLT]
      refine WC.test (t := true) (by simp only [go_sem, ↓reduceIte, Nat.reduceEqDiff, Nat.reduceLT]) (fun _ => WC.exit ?_) (fun h => by cases h)
      simp only [go_sem]
      refine hnext _ _ (hG.trans hg) ?_ (by simp only [go_sem, ↓reduceIte, Nat.reduceEqDiff, Nat.reduceLT, h0]) (by simp only [go_sem, ↓reduceIte, Nat.reduceEqDiff, Nat.reduceLT, h1']) (by simp only [go_sem, ↓reduceIte, Nat.reduceEqDiff, Nat.reduceLT, h6])
      rw [← hbt]
      simp only [btwAt, hi]

theorem rbetween_runs (a b : List UInt8) (ha : a.length < 2 ^ 63) (hb : b.length < 2 ^ 63) (M : Mem) : Runs D2 F_ref04_Between [.str a, .str b] M fun v M' => v = btwV a b ∧ Grew M M' := by
  refine Runs.of (F := A_ref04_Between) rfl (by rfl) (by rfl) ?_
  unfold A_ref04_Between
  refine WC.seq (WC.ops ?_)
  simp only [A_ref04_Between_0, go_sem]
  refine WC.seq (WC.seq (WC.ops ?_))
  simp only [A_ref04_Between_1, go_sem, ↓reduceIte, Nat.reduceEqDiff, Nat.reduceLT]
  refine callI_eq (rfine_runs a b ha hb M) ?_
  simp only [go_sem, ↓reduceIte, Nat.reduceEqDiff, Nat.reduceLT]
  cases hf : fineK a b with
  | false =>
    refine WC.test (t := true) (by simp only [go_sem, ↓reduceIte, Nat.reduceEqDiff, Nat.reduceLT]) (fun _ => ?_) (fun h => by cases h)
    refine WC.seq (WC.ops ?_)
    simp only [A_ref04_Between_2, go_sem, ↓reduceIte, Nat.reduceEqDiff, Nat.reduceLT]
    refine WC.ret ?_
    simp only [go_sem, ↓reduceIte, Nat.reduceEqDiff, Nat.reduceLT, btwV, hf, Bool.false_eq_true]
    exact ⟨trivial, Grew.refl _⟩
  | true =>
    have hbr := (fine_parts hf).2.1
    have hbl : b.length < 2 ^ 40 := by
      rcases hbr with h | h
      · rw [h]; decide
      · have := (right_last h).2.1; omega
    refine WC.test (t := false) (by simp only [go_sem, ↓reduceIte, Nat.reduceEqDiff, Nat.reduceLT]) (fun h => by cases h) (fun _ => WC.skip ?_)
    simp only [go_sem]
    refine WC.seq (WC.seq (WC.ops ?_))
    simp only [A_ref04_Between_3, go_sem, ↓reduceIte, Nat.reduceEqDiff, Nat.reduceLT]
    refine WC.block (rbtw_loop a b hbr hbl M ?_ ?_ 24 1 _ M (Grew.refl _) rfl (Nat.le_refl _) rfl (by simp only [go_sem, ↓reduceIte, Nat.reduceEqDiff, Nat.reduceLT]) (by simp only [go_sem, ↓reduceIte, Nat.reduceEqDiff, Nat.reduceLT]) (by simp only [go_sem, ↓reduceIte, Nat.reduceEqDiff, Nat.reduceLT]; rfl))
    · intro l M2 hg h
      exact ⟨by simp only [btwV, hf, h, if_true], hg⟩
    · intro M2 hg h
      exact ⟨by simp only [btwV, hf, h, if_true], hg⟩
end Go.Am.Try

/- The program's Spread, on the machine: what its closure adds to the row. -/
namespace Go.Am.Try
open Go Go.Am Go.Proofs
set_option maxRecDepth 100000
set_option linter.unusedSimpArgs false
set_option linter.unusedVariables false

def btwE (a b : List UInt8) : List UInt8 × Int := if fineK a b = true then (match btwK a b with | some k => (k, 0) | none => ([], 32)) else ([], 1)
theorem btwV_is (a b : List UInt8) : btwV a b = .tup [.str (btwE a b).1, .int .i64 (btwE a b).2] := by
  unfold btwV btwE
  split
  · cases btwK a b <;> rfl
  · rfl
/-- What so many keys between two are, and the error. -/
def spr : Nat → List UInt8 → List UInt8 → Nat → List (List UInt8) × Int
  | 0, _, _, _ => ([], 0)
  | f + 1, a, b, n =>
    if n = 0 then ([], 0) else
    if (btwE a b).2 ≠ 0 then ([], (btwE a b).2) else
    if (spr f a (btwE a b).1 ((n - 1) / 2)).2 ≠ 0 then ([], (spr f a (btwE a b).1 ((n - 1) / 2)).2) else
    if (spr f (btwE a b).1 b (n - 1 - (n - 1) / 2)).2 ≠ 0 then ([], (spr f (btwE a b).1 b (n - 1 - (n - 1) / 2)).2) else
    ((spr f a (btwE a b).1 ((n - 1) / 2)).1 ++ (btwE a b).1 :: (spr f (btwE a b).1 b (n - 1 - (n - 1) / 2)).1, 0)

theorem spr_succ (f n : Nat) (a b : List UInt8) : spr (f + 1) a b n =
    if n = 0 then ([], 0) else
    if (btwE a b).2 ≠ 0 then ([], (btwE a b).2) else
    if (spr f a (btwE a b).1 ((n - 1) / 2)).2 ≠ 0 then ([], (spr f a (btwE a b).1 ((n - 1) / 2)).2) else
    if (spr f (btwE a b).1 b (n - 1 - (n - 1) / 2)).2 ≠ 0 then ([], (spr f (btwE a b).1 b (n - 1 - (n - 1) / 2)).2) else
    ((spr f a (btwE a b).1 ((n - 1) / 2)).1 ++ (btwE a b).1 :: (spr f (btwE a b).1 b (n - 1 - (n - 1) / 2)).1, 0) := rfl

theorem spr_len : ∀ (f n : Nat) (a b : List UInt8), n ≤ f → (spr f a b n).2 = 0 → (spr f a b n).1.length = n
  | 0, n, a, b, hn, _ => by
    have : n = 0 := by omega
    subst this; rfl
  | f + 1, n, a, b, hn, h => by
    unfold spr at h ⊢
    by_cases h0 : n = 0
    · simp [h0]
    · simp only [if_neg h0] at h ⊢
      by_cases h1 : (btwE a b).2 = 0
      · simp only [h1, ne_eq, not_true_eq_false, if_false] at h ⊢
        by_cases h2 : (spr f a (btwE a b).1 ((n - 1) / 2)).2 = 0
        · simp only [h2, not_true_eq_false, if_false] at h ⊢
          by_cases h3 : (spr f (btwE a b).1 b (n - 1 - (n - 1) / 2)).2 = 0
          · simp only [h3, not_true_eq_false, if_false] at h ⊢
            rw [List.length_append, List.length_cons, spr_len f _ _ _ (by omega) h2, spr_len f _ _ _ (by omega) h3]
            omega
          · simp only [h3, not_false_eq_true, if_true] at h
        · simp only [h2, not_false_eq_true, if_true] at h
      · simp only [ne_eq, h1, not_false_eq_true, if_true] at h

theorem btwE_fine {a b : List UInt8} (hf : fineK a b = true) (h : (btwE a b).2 = 0) : btwK a b = some (btwE a b).1 := by
  unfold btwE at h ⊢
  rw [if_pos hf] at h ⊢
  cases hb : btwK a b with
  | none => rw [hb] at h; cases h
  | some k => rfl
theorem fine_mid {a b : List UInt8} (hf : fineK a b = true) (h : (btwE a b).2 = 0) : fineK a (btwE a b).1 = true ∧ fineK (btwE a b).1 b = true ∧ (btwE a b).1.length ≤ 24 ∧ rightK (btwE a b).1 = true := by
  obtain ⟨h1, h2, h3⟩ := btw_right (btwE_fine hf h)
  obtain ⟨p1, p2, p3⟩ := fine_parts hf
  have hl := (right_last h1).2.1
  generalize (btwE a b).1 = k at *
  refine ⟨?_, ?_, hl, h1⟩
  · unfold fineK inK
    rcases p1 with q | q <;> simp [h1, h2, q]
  · unfold fineK inK
    by_cases hb : b = []
    · simp [h1, hb]
    · rcases p2 with q | q
      · exact absurd q hb
      · simp [h1, q, h3 hb]

def strsC (l : List (List UInt8)) : List V := l.map .str
theorem strsC_app (l m : List (List UInt8)) : strsC (l ++ m) = strsC l ++ strsC m := by simp [strsC]

theorem spread1_zero (a b : List UInt8) (p q : V) (M : Mem) : Runs D2 F_poskey_Spread_c1 [.str a, .str b, .int .i64 0, p, q] M fun v M' => v = .int .i64 0 ∧ M' = M := by
  refine Runs.walk (F := A_poskey_Spread_c1) rfl (by rfl) (by rfl) ?_
  unfold A_poskey_Spread_c1
  simp -dsimp only [↓w_seq, ↓w_ops, ↓w_skip, ↓w_ret, ↓w_exit, ↓w_scope, ↓w_block, ↓w_cond, cond_true', cond_false', ↓t_nil, ↓t_plain, ↓t_guard, ↓t_again, t_val, t_call, g_true, g_false, a_val, a_call, ↓n_normal, ↓n_ret, ↓n_exit, ↓b_normal, ↓b_ret, ↓b_exit, ↓e_normal, ↓e_ret, e_some, go_sem, ↓reduceIte, Nat.reduceEqDiff, Nat.reduceLT, Nat.reduceSub, A_poskey_Spread_c1_0, A_poskey_Spread_c1_1, A_poskey_Spread_c1_2]
  exact ⟨trivial, trivial⟩

theorem spread1_runs (M0 : Mem) (bf bl : Nat) (hbf : M0.next ≤ bf) (hbl : M0.next ≤ bl) (hne : bf ≠ bl) : ∀ (f n : Nat) (a b : List UInt8) (M : Mem) (s : V) (L : List (List UInt8)) (cnt : Nat), n ≤ f → cnt + n ≤ 64 → fineK a b = true → b.length < 2 ^ 63 →
    Grew M0 M → bf < M.next → bl < M.next → M.get bf = some (.cells [.fn F_poskey_Spread_c1 [] [.ptr (some (bf, 0)), .ptr (some (bl, 0))]] false) → M.get bl = some (.cells [s] false) → Hold M0.next M 1 s cnt (strsC L) → s.blk ≠ some bf → s.blk ≠ some bl →
    Runs D2 F_poskey_Spread_c1 [.str a, .str b, .int .i64 (n : Int), .ptr (some (bf, 0)), .ptr (some (bl, 0))] M fun v M' => v = .int .i64 (spr f a b n).2 ∧ Grew M0 M' ∧ M.next ≤ M'.next ∧
      ((spr f a b n).2 = 0 → M'.get bf = some (.cells [.fn F_poskey_Spread_c1 [] [.ptr (some (bf, 0)), .ptr (some (bl, 0))]] false) ∧ ∃ s', M'.get bl = some (.cells [s'] false) ∧ Hold M0.next M' 1 s' (cnt + n) (strsC (L ++ (spr f a b n).1)) ∧ s'.blk ≠ some bf ∧ s'.blk ≠ some bl) := by
  intro f
  induction f with
  | zero =>
    intro n a b M s L cnt hn hc hf hb hG hlf hll hMf hMl hH hs1 hs2
    have : n = 0 := by omega
    subst this
    refine (spread1_zero a b _ _ M).mono ?_
    intro v M' h
    rw [h.1, h.2]
    exact ⟨rfl, hG, Nat.le_refl _, fun _ => ⟨hMf, s, hMl, by simpa [spr] using hH, hs1, hs2⟩⟩
  | succ f ih =>
    intro n a b M s L cnt hn hc hf hb hG hlf hll hMf hMl hH hs1 hs2
    by_cases h0 : n = 0
    · subst h0
      refine (spread1_zero a b _ _ M).mono ?_
      intro v M' h
      rw [h.1, h.2]
      exact ⟨rfl, hG, Nat.le_refl _, fun _ => ⟨hMf, s, hMl, by simpa [spr] using hH, hs1, hs2⟩⟩
    have h0' : ¬ (n : Int) = 0 := by omega
    refine Runs.walk (F := A_poskey_Spread_c1) rfl (by rfl) (by rfl) ?_
    unfold A_poskey_Spread_c1
    simp -dsimp only [↓w_seq, ↓w_ops, ↓w_skip, ↓w_ret, ↓w_exit, ↓w_scope, ↓w_block, ↓w_cond, cond_true', cond_false', ↓t_nil, ↓t_plain, ↓t_guard, ↓t_again, t_val, t_call, g_true, g_false, a_val, a_call, ↓n_normal, ↓n_ret, ↓n_exit, ↓b_normal, ↓b_ret, ↓b_exit, ↓e_normal, ↓e_ret, e_some, go_sem, ↓reduceIte, Nat.reduceEqDiff, Nat.reduceLT, Nat.reduceSub, A_poskey_Spread_c1_0, A_poskey_Spread_c1_1, A_poskey_Spread_c1_2, A_poskey_Spread_c1_3, h0']
    refine call_of (between_runs a b hb M) ?_
    intro v M1 hv
    rw [hv.1, btwV_is]
    have hG1 := hG.trans hv.2
    have kf : M1.get bf = M.get bf := hv.2.old bf hlf
    have kl : M1.get bl = M.get bl := hv.2.old bl hll
    have hH1 : Hold M0.next M1 1 s cnt (strsC L) := hH.keep (fun b hb => hv.2.old b (hH.blk_le hb).2.1) hv.2.next
    have hle1 := hv.2.next
    have hm : IntKind.i64.wrap ((IntKind.i64.wrap ((n : Int) - 1)).tdiv 2) = (((n - 1) / 2 : Nat) : Int) := by
      rw [IntWalk.i64_in ((n : Int) - 1) (by omega), Int.tdiv_eq_ediv_of_nonneg (by omega), IntWalk.i64_in _ (by omega)]; omega
    simp -dsimp only [↓w_seq, ↓w_ops, ↓w_skip, ↓w_ret, ↓w_exit, ↓w_scope, ↓w_block, ↓w_cond, cond_true', cond_false', ↓t_nil, ↓t_plain, ↓t_guard, ↓t_again, t_val, t_call, g_true, g_false, a_val, a_call, ↓n_normal, ↓n_ret, ↓n_exit, ↓b_normal, ↓b_ret, ↓b_exit, ↓e_normal, ↓e_ret, e_some, go_sem, ↓reduceIte, Nat.reduceEqDiff, Nat.reduceLT, Nat.reduceSub, List.getElem?_cons_zero, List.getElem?_cons_succ, A_poskey_Spread_c1_4, A_poskey_Spread_c1_5, hm, ne_eq, Int.reduceEq, not_false_eq_true]
    by_cases he : (btwE a b).2 = 0
    · obtain ⟨f1, f2, kl24, kr⟩ := fine_mid hf he
      rw [he]
      simp -dsimp only [↓w_seq, ↓w_ops, ↓w_skip, ↓w_ret, ↓w_exit, ↓w_scope, ↓w_block, ↓w_cond, cond_true', cond_false', ↓t_nil, ↓t_plain, ↓t_guard, ↓t_again, t_val, t_call, g_true, g_false, a_val, a_call, ↓n_normal, ↓n_ret, ↓n_exit, ↓b_normal, ↓b_ret, ↓b_exit, ↓e_normal, ↓e_ret, e_some, go_sem, ↓reduceIte, Nat.reduceEqDiff, Nat.reduceLT, Nat.reduceSub, A_poskey_Spread_c1_6, vload, kf, hMf, List.getElem?_cons_zero, List.cons_append]
      refine call_of (ih ((n - 1) / 2) a (btwE a b).1 M1 s L cnt (by omega) (by omega) f1 (by omega) hG1 (by omega) (by omega) (kf.trans hMf) (kl.trans hMl) hH1 hs1 hs2) ?_
      intro v M2 hv2
      obtain ⟨rfl, hG2, hle2, hrest⟩ := hv2
      simp -dsimp only [↓w_seq, ↓w_ops, ↓w_skip, ↓w_ret, ↓w_exit, ↓w_scope, ↓w_block, ↓w_cond, cond_true', cond_false', ↓t_nil, ↓t_plain, ↓t_guard, ↓t_again, t_val, t_call, g_true, g_false, a_val, a_call, ↓n_normal, ↓n_ret, ↓n_exit, ↓b_normal, ↓b_ret, ↓b_exit, ↓e_normal, ↓e_ret, e_some, go_sem, ↓reduceIte, Nat.reduceEqDiff, Nat.reduceLT, Nat.reduceSub, A_poskey_Spread_c1_7]
      by_cases h2 : (spr f a (btwE a b).1 ((n - 1) / 2)).2 = 0
      · obtain ⟨hMf2, s2, hMl2, hH2, p1, p2⟩ := hrest h2
        rw [h2]
        have hcnt := spr_len f _ _ _ (show (n - 1) / 2 ≤ f by omega) h2
        simp -dsimp only [↓w_seq, ↓w_ops, ↓w_skip, ↓w_ret, ↓w_exit, ↓w_scope, ↓w_block, ↓w_cond, cond_true', cond_false', ↓t_nil, ↓t_plain, ↓t_guard, ↓t_again, t_val, t_call, g_true, g_false, a_val, a_call, ↓n_normal, ↓n_ret, ↓n_exit, ↓b_normal, ↓b_ret, ↓b_exit, ↓e_normal, ↓e_ret, e_some, go_sem, ↓reduceIte, Nat.reduceEqDiff, Nat.reduceLT, Nat.reduceSub, A_poskey_Spread_c1_8, A_poskey_Spread_c1_9, vload, hMl2, List.getElem?_cons_zero, fillCells, repl, V.cells, List.length_cons, List.length_nil, Nat.zero_add, wrCells, List.append_nil, Nat.reduceAdd, Nat.reduceLeDiff, decide_true]
        have hH2' : Hold M0.next (M2.push (.cells [.str (btwE a b).1] false)) 1 s2 (cnt + (n - 1) / 2) (strsC (L ++ (spr f a (btwE a b).1 ((n - 1) / 2)).1)) :=
          hH2.keep (fun b hb => Mem.get_push_ne _ _ (Nat.ne_of_lt (hH2.blk_le hb).2.1)) (by simp)
        obtain ⟨M3, hap, hH3, hn3, ho3⟩ := hH2'.append (bytes := 16) (m := 1) (x := .slice (some (M2.next, 0)) 1 (.exact 1)) (new := [.str (btwE a b).1]) (by have := hG2.next; simp; omega) rfl
          (by simp only [srcCells, beq_dec, Nat.one_mul, Nat.reduceEqDiff, decide_false, cond_false]; exact read_all (Mem.get_push_same _ _)) (by omega) rfl (by unfold maxRoom; omega) rfl
        rw [hap]
        have e1 : M3.get bl = some (.cells [s2] false) := by
          rw [ho3 bl (by simp; omega) p2, Mem.get_push_ne _ _ (by omega)]; exact hMl2
        have e2 : M3.get bf = some (.cells [.fn F_poskey_Spread_c1 [] [.ptr (some (bf, 0)), .ptr (some (bl, 0))]] false) := by
          rw [ho3 bf (by simp; omega) p1, Mem.get_push_ne _ _ (by omega)]; exact hMf2
        have hG3 : Grew M0 M3 := ⟨by rw [hn3]; simp; have := hG2.next; omega, fun c hc => by
          rw [ho3 c (by simp; have := hG2.next; omega) (fun e => by have := (hH2.blk_le e).1; omega), Mem.get_push_ne _ _ (by have := hG2.next; omega)]
          exact hG2.old c hc⟩
        simp only [Mem.next_push] at hap hH3 hn3 ho3
        have hw := write_one (v := .slice (some (M2.next + 1, 0)) (cnt + (n - 1) / 2 + 1) (.upto 1)) e1 (show 0 < 1 by omega) rfl
        simp -dsimp only [↓w_seq, ↓w_ops, ↓w_skip, ↓w_ret, ↓w_exit, ↓w_scope, ↓w_block, ↓w_cond, cond_true', cond_false', ↓t_nil, ↓t_plain, ↓t_guard, ↓t_again, t_val, t_call, g_true, g_false, a_val, a_call, ↓n_normal, ↓n_ret, ↓n_exit, ↓b_normal, ↓b_ret, ↓b_exit, ↓e_normal, ↓e_ret, e_some, go_sem, ↓reduceIte, Nat.reduceEqDiff, Nat.reduceLT, Nat.reduceSub, vstore, V.cells, List.length_cons, List.length_nil, Nat.zero_add, hw, List.set_cons_zero, A_poskey_Spread_c1_10, Mem.next_push]
        have hu := Upd.set M3 bl (.cells [.slice (some (M2.next + 1, 0)) (cnt + (n - 1) / 2 + 1) (.upto 1)] false)
        generalize M3.set bl _ = M4 at hu
        simp -dsimp only [↓w_seq, ↓w_ops, ↓w_skip, ↓w_ret, ↓w_exit, ↓w_scope, ↓w_block, ↓w_cond, cond_true', cond_false', ↓t_nil, ↓t_plain, ↓t_guard, ↓t_again, t_val, t_call, g_true, g_false, a_val, a_call, ↓n_normal, ↓n_ret, ↓n_exit, ↓b_normal, ↓b_ret, ↓b_exit, ↓e_normal, ↓e_ret, e_some, go_sem, ↓reduceIte, Nat.reduceEqDiff, Nat.reduceLT, Nat.reduceSub, vload, hu.other bf hne, e2, List.getElem?_cons_zero, List.cons_append]
        have hm2 : IntKind.i64.wrap (IntKind.i64.wrap ((n : Int) - 1) - (((n - 1) / 2 : Nat) : Int)) = ((n - 1 - (n - 1) / 2 : Nat) : Int) := by
          rw [IntWalk.i64_in ((n : Int) - 1) (by omega), IntWalk.i64_in _ (by omega)]; omega
        rw [hm2]
        have hG4 : Grew M0 M4 := hG3.upd hbl hu
        have hlt4 : M2.next + 2 = M4.next := by rw [hu.next, hn3]
        refine call_of (ih (n - 1 - (n - 1) / 2) (btwE a b).1 b M4 (.slice (some (M2.next + 1, 0)) (cnt + (n - 1) / 2 + 1) (.upto 1)) (L ++ (spr f a (btwE a b).1 ((n - 1) / 2)).1 ++ [(btwE a b).1]) (cnt + (n - 1) / 2 + 1) (by omega) (by omega) f2 hb hG4 (by omega) (by omega)
          ((hu.other bf hne).trans e2) hu.at_ ?_ ?_ ?_) ?_
        · have hH3' : Hold M0.next M3 1 (.slice (some (M2.next + 1, 0)) (cnt + (n - 1) / 2 + 1) (.upto 1)) (cnt + (n - 1) / 2 + 1) (strsC (L ++ (spr f a (btwE a b).1 ((n - 1) / 2)).1 ++ [(btwE a b).1])) := by
            rw [strsC_app]; exact hH3
          refine hH3'.keep (fun c hc => hu.other c ?_) (by rw [hu.next]; exact Nat.le_refl _)
          simp only [V.blk, Option.some.injEq] at hc
          omega
        · simp only [V.blk, ne_eq, Option.some.injEq]; omega
        · simp only [V.blk, ne_eq, Option.some.injEq]; omega
        intro v M5 hv5
        obtain ⟨rfl, hG5, hle5, hrest5⟩ := hv5
        simp -dsimp only [↓w_seq, ↓w_ops, ↓w_skip, ↓w_ret, ↓w_exit, ↓w_scope, ↓w_block, ↓w_cond, cond_true', cond_false', ↓t_nil, ↓t_plain, ↓t_guard, ↓t_again, t_val, t_call, g_true, g_false, a_val, a_call, ↓n_normal, ↓n_ret, ↓n_exit, ↓b_normal, ↓b_ret, ↓b_exit, ↓e_normal, ↓e_ret, e_some, go_sem, ↓reduceIte, Nat.reduceEqDiff, Nat.reduceLT, Nat.reduceSub]
        refine ⟨?_, hG5, by omega, ?_⟩
        · rw [spr_succ]; simp [h0, he, h2]
          by_cases h5 : (spr f (btwE a b).1 b (n - 1 - (n - 1) / 2)).2 = 0 <;> simp [h5]
        · intro h5
          have h6 : (spr f (btwE a b).1 b (n - 1 - (n - 1) / 2)).2 = 0 := by
            rw [spr_succ] at h5
            simp only [h0, he, h2, if_false, ne_eq, not_true_eq_false] at h5
            by_cases h6 : (spr f (btwE a b).1 b (n - 1 - (n - 1) / 2)).2 = 0
            · exact h6
            · simp only [h6, not_false_eq_true, if_true] at h5
          obtain ⟨q1, s5, q2, q3, q4, q5⟩ := hrest5 h6
          refine ⟨q1, s5, q2, ?_, q4, q5⟩
          rw [spr_succ]
          simp only [h0, he, h2, h6, if_false, ne_eq, not_true_eq_false]
          rw [show cnt + n = cnt + (n - 1) / 2 + 1 + (n - 1 - (n - 1) / 2) by omega, show L ++ ((spr f a (btwE a b).1 ((n - 1) / 2)).1 ++ (btwE a b).1 :: (spr f (btwE a b).1 b (n - 1 - (n - 1) / 2)).1) = L ++ (spr f a (btwE a b).1 ((n - 1) / 2)).1 ++ [(btwE a b).1] ++ (spr f (btwE a b).1 b (n - 1 - (n - 1) / 2)).1 by simp]
          exact q3
      · simp -dsimp only [↓w_seq, ↓w_ops, ↓w_skip, ↓w_ret, ↓w_exit, ↓w_scope, ↓w_block, ↓w_cond, cond_true', cond_false', ↓t_nil, ↓t_plain, ↓t_guard, ↓t_again, t_val, t_call, g_true, g_false, a_val, a_call, ↓n_normal, ↓n_ret, ↓n_exit, ↓b_normal, ↓b_ret, ↓b_exit, ↓e_normal, ↓e_ret, e_some, go_sem, ↓reduceIte, Nat.reduceEqDiff, Nat.reduceLT, Nat.reduceSub, h2, decide_false, A_poskey_Spread_c1_8]
        refine ⟨?_, hG2, by omega, ?_⟩
        · rw [spr_succ]; simp [h0, he, h2]
        · intro h; rw [spr_succ] at h; simp [h0, he, h2] at h
    · simp -dsimp only [↓w_seq, ↓w_ops, ↓w_skip, ↓w_ret, ↓w_exit, ↓w_scope, ↓w_block, ↓w_cond, cond_true', cond_false', ↓t_nil, ↓t_plain, ↓t_guard, ↓t_again, t_val, t_call, g_true, g_false, a_val, a_call, ↓n_normal, ↓n_ret, ↓n_exit, ↓b_normal, ↓b_ret, ↓b_exit, ↓e_normal, ↓e_ret, e_some, go_sem, ↓reduceIte, Nat.reduceEqDiff, Nat.reduceLT, Nat.reduceSub, he, decide_false, A_poskey_Spread_c1_7, A_poskey_Spread_c1_8]
      refine ⟨?_, hG1, by omega, ?_⟩
      · rw [spr_succ]; simp [h0, he]
      · intro h; rw [spr_succ] at h; simp [h0, he] at h

/-- Spread: its row and its error. -/
def sprE (a b : List UInt8) (n : Int) : List (List UInt8) × Int := if n < 0 ∨ 64 < n ∨ fineK a b = false then ([], 1) else if (spr n.toNat a b n.toNat).2 = 0 then ((spr n.toNat a b n.toNat).1, 0) else ([], (spr n.toNat a b n.toNat).2)
theorem spread_runs (a b : List UInt8) (n : Int) (hb : b.length < 2 ^ 63) (M : Mem) : Runs D2 F_poskey_Spread [.str a, .str b, .int .i64 n] M fun v M' => Grew M M' ∧ ∃ s, v = .tup [s, .int .i64 (sprE a b n).2] ∧ Hold M.next M' 1 s (sprE a b n).1.length (strsC (sprE a b n).1) := by
  refine Runs.walk (F := A_poskey_Spread) rfl (by rfl) (by rfl) ?_
  unfold A_poskey_Spread
  have hbad : sprE a b n = ([], 1) → Grew M M ∧ ∃ s, V.tup [.slice none 0 (.exact 0), .int .i64 1] = .tup [s, .int .i64 (sprE a b n).2] ∧ Hold M.next M 1 s (sprE a b n).1.length (strsC (sprE a b n).1) := fun h => by
    rw [h]; exact ⟨Grew.refl M, _, rfl, .nil⟩
  by_cases h1 : n < 0
  · simp -dsimp only [↓w_seq, ↓w_ops, ↓w_skip, ↓w_ret, ↓w_exit, ↓w_scope, ↓w_block, ↓w_cond, cond_true', cond_false', ↓t_nil, ↓t_plain, ↓t_guard, ↓t_again, t_val, t_call, g_true, g_false, a_val, a_call, ↓n_normal, ↓n_ret, ↓n_exit, ↓b_normal, ↓b_ret, ↓b_exit, ↓e_normal, ↓e_ret, e_some, go_sem, ↓reduceIte, Nat.reduceEqDiff, Nat.reduceLT, Nat.reduceSub, A_poskey_Spread_0, A_poskey_Spread_1, A_poskey_Spread_2, h1]
    exact hbad (by simp [sprE, h1])
  by_cases h2 : 64 < n
  · simp -dsimp only [↓w_seq, ↓w_ops, ↓w_skip, ↓w_ret, ↓w_exit, ↓w_scope, ↓w_block, ↓w_cond, cond_true', cond_false', ↓t_nil, ↓t_plain, ↓t_guard, ↓t_again, t_val, t_call, g_true, g_false, a_val, a_call, ↓n_normal, ↓n_ret, ↓n_exit, ↓b_normal, ↓b_ret, ↓b_exit, ↓e_normal, ↓e_ret, e_some, go_sem, ↓reduceIte, Nat.reduceEqDiff, Nat.reduceLT, Nat.reduceSub, A_poskey_Spread_0, A_poskey_Spread_1, A_poskey_Spread_2, h1, h2]
    exact hbad (by simp [sprE, h2])
  simp -dsimp only [↓w_seq, ↓w_ops, ↓w_skip, ↓w_ret, ↓w_exit, ↓w_scope, ↓w_block, ↓w_cond, cond_true', cond_false', ↓t_nil, ↓t_plain, ↓t_guard, ↓t_again, t_val, t_call, g_true, g_false, a_val, a_call, ↓n_normal, ↓n_ret, ↓n_exit, ↓b_normal, ↓b_ret, ↓b_exit, ↓e_normal, ↓e_ret, e_some, go_sem, ↓reduceIte, Nat.reduceEqDiff, Nat.reduceLT, Nat.reduceSub, A_poskey_Spread_0, A_poskey_Spread_1, A_poskey_Spread_2, h1, h2]
  refine call_eq (fine_runs a b M) ?_
  cases hf : fineK a b with
  | false =>
    simp -dsimp only [↓w_seq, ↓w_ops, ↓w_skip, ↓w_ret, ↓w_exit, ↓w_scope, ↓w_block, ↓w_cond, cond_true', cond_false', ↓t_nil, ↓t_plain, ↓t_guard, ↓t_again, t_val, t_call, g_true, g_false, a_val, a_call, ↓n_normal, ↓n_ret, ↓n_exit, ↓b_normal, ↓b_ret, ↓b_exit, ↓e_normal, ↓e_ret, e_some, go_sem, ↓reduceIte, Nat.reduceEqDiff, Nat.reduceLT, Nat.reduceSub]
    exact hbad (by simp [sprE, hf])
  | true =>
    obtain ⟨k, rfl⟩ : ∃ k : Nat, n = (k : Int) := ⟨n.toNat, by omega⟩
    simp -dsimp only [↓w_seq, ↓w_ops, ↓w_skip, ↓w_ret, ↓w_exit, ↓w_scope, ↓w_block, ↓w_cond, cond_true', cond_false', ↓t_nil, ↓t_plain, ↓t_guard, ↓t_again, t_val, t_call, g_true, g_false, a_val, a_call, ↓n_normal, ↓n_ret, ↓n_exit, ↓b_normal, ↓b_ret, ↓b_exit, ↓e_normal, ↓e_ret, e_some, go_sem, ↓reduceIte, Nat.reduceEqDiff, Nat.reduceLT, Nat.reduceSub, A_poskey_Spread_3, A_poskey_Spread_4, A_poskey_Spread_5, Mem.next_push, vstore, V.cells, List.length_cons, List.length_nil, Nat.zero_add]
    have g1 : ((M.push (.cells [.slice none 0 (.exact 0)] false)).push (.cells [.nilFn] false)).get (M.next + 1) = some (.cells [.nilFn] false) := Mem.get_push_same _ _
    have g0 : ((M.push (.cells [.slice none 0 (.exact 0)] false)).push (.cells [.nilFn] false)).get M.next = some (.cells [.slice none 0 (.exact 0)] false) := by
      rw [Mem.get_push_ne _ _ (by simp), Mem.get_push_same]
    have gG : Grew M ((M.push (.cells [.slice none 0 (.exact 0)] false)).push (.cells [.nilFn] false)) := (Grew.push M _).trans (Grew.push _ _)
    have gn : ((M.push (.cells [.slice none 0 (.exact 0)] false)).push (.cells [.nilFn] false)).next = M.next + 2 := rfl
    generalize (M.push (.cells [.slice none 0 (.exact 0)] false)).push (.cells [.nilFn] false) = M2 at *
    rw [write_one (v := .fn F_poskey_Spread_c1 [] [.ptr (some (M.next + 1, 0)), .ptr (some (M.next, 0))]) g1 (show 0 < 1 by omega) rfl]
    have hu := Upd.set M2 (M.next + 1) (.cells [.fn F_poskey_Spread_c1 [] [.ptr (some (M.next + 1, 0)), .ptr (some (M.next, 0))]] false)
    simp only [List.set_cons_zero]
    generalize M2.set (M.next + 1) _ = M3 at *
    simp -dsimp only [↓w_seq, ↓w_ops, ↓w_skip, ↓w_ret, ↓w_exit, ↓w_scope, ↓w_block, ↓w_cond, cond_true', cond_false', ↓t_nil, ↓t_plain, ↓t_guard, ↓t_again, t_val, t_call, g_true, g_false, a_val, a_call, ↓n_normal, ↓n_ret, ↓n_exit, ↓b_normal, ↓b_ret, ↓b_exit, ↓e_normal, ↓e_ret, e_some, go_sem, ↓reduceIte, Nat.reduceEqDiff, Nat.reduceLT, Nat.reduceSub, A_poskey_Spread_6, vload, hu.at_, List.getElem?_cons_zero, List.cons_append]
    have hl3 : M3.get M.next = some (.cells [.slice none 0 (.exact 0)] false) := (hu.other _ (by omega)).trans g0
    have hn3 : M3.next = M.next + 2 := hu.next.trans gn
    have hG3 : Grew M M3 := gG.upd (by omega) hu
    refine call_of (spread1_runs M (M.next + 1) M.next (by omega) (by omega) (by omega) k k a b M3 (.slice none 0 (.exact 0)) [] 0 (Nat.le_refl _) (by omega) hf hb hG3 (by omega) (by omega) hu.at_ hl3 .nil (by simp [V.blk]) (by simp [V.blk])) ?_
    intro v M4 hv
    obtain ⟨rfl, hG4, hle4, hrest⟩ := hv
    have hE : sprE a b (k : Int) = if (spr k a b k).2 = 0 then ((spr k a b k).1, 0) else ([], (spr k a b k).2) := by
      unfold sprE
      rw [if_neg (by simp [hf]; omega)]
      simp
    by_cases he : (spr k a b k).2 = 0
    · obtain ⟨q1, s', q2, q3, q4, q5⟩ := hrest he
      simp -dsimp only [↓w_seq, ↓w_ops, ↓w_skip, ↓w_ret, ↓w_exit, ↓w_scope, ↓w_block, ↓w_cond, cond_true', cond_false', ↓t_nil, ↓t_plain, ↓t_guard, ↓t_again, t_val, t_call, g_true, g_false, a_val, a_call, ↓n_normal, ↓n_ret, ↓n_exit, ↓b_normal, ↓b_ret, ↓b_exit, ↓e_normal, ↓e_ret, e_some, go_sem, ↓reduceIte, Nat.reduceEqDiff, Nat.reduceLT, Nat.reduceSub, he, A_poskey_Spread_7, A_poskey_Spread_8, A_poskey_Spread_9, vload, q2, List.getElem?_cons_zero]
      refine ⟨hG4, s', ?_, ?_⟩
      · rw [hE, if_pos he]
      · rw [hE, if_pos he]
        simp only [List.nil_append, Nat.zero_add] at q3
        rw [spr_len k k a b (Nat.le_refl _) he]
        exact q3
    · simp -dsimp only [↓w_seq, ↓w_ops, ↓w_skip, ↓w_ret, ↓w_exit, ↓w_scope, ↓w_block, ↓w_cond, cond_true', cond_false', ↓t_nil, ↓t_plain, ↓t_guard, ↓t_again, t_val, t_call, g_true, g_false, a_val, a_call, ↓n_normal, ↓n_ret, ↓n_exit, ↓b_normal, ↓b_ret, ↓b_exit, ↓e_normal, ↓e_ret, e_some, go_sem, ↓reduceIte, Nat.reduceEqDiff, Nat.reduceLT, Nat.reduceSub, he, A_poskey_Spread_7, A_poskey_Spread_8, A_poskey_Spread_9]
      refine ⟨hG4, .slice none 0 (.exact 0), ?_, ?_⟩
      · rw [hE, if_neg he]
      · rw [hE, if_neg he]; exact .nil
end Go.Am.Try

/- The reference's Spread, on the machine. -/
namespace Go.Am.Try
open Go Go.Am Go.Proofs
set_option maxRecDepth 100000
set_option linter.unusedSimpArgs false
set_option linter.unusedVariables false

theorem allOne_strs : ∀ l : List (List UInt8), allOne (strsC l) = true
  | [] => rfl
  | _ :: l => allOne_strs l
theorem rspread_bad (a b : List UInt8) (n : Int) (ha : a.length < 2 ^ 63) (hb : b.length < 2 ^ 63) (M : Mem) (h : n < 0 ∨ 64 < n ∨ fineK a b = false) : Runs D2 F_ref04_Spread [.str a, .str b, .int .i64 n] M fun v M' => v = .tup [.slice none 0 (.exact 0), .int .i64 1] ∧ M' = M := by
  refine Runs.walk (F := A_ref04_Spread) rfl (by rfl) (by rfl) ?_
  unfold A_ref04_Spread
  by_cases h1 : n < 0
  · simp -dsimp only [↓w_seq, ↓w_ops, ↓w_skip, ↓w_ret, ↓w_exit, ↓w_scope, ↓w_block, ↓w_cond, cond_true', cond_false', ↓t_nil, ↓t_plain, ↓t_guard, ↓t_again, t_val, t_call, g_true, g_false, a_val, a_call, ↓n_normal, ↓n_ret, ↓n_exit, ↓b_normal, ↓b_ret, ↓b_exit, ↓e_normal, ↓e_ret, e_some, go_sem, ↓reduceIte, Nat.reduceEqDiff, Nat.reduceLT, Nat.reduceSub, A_ref04_Spread_0, A_ref04_Spread_1, A_ref04_Spread_2, A_ref04_Spread_3, A_ref04_Spread_4, A_ref04_Spread_5, A_ref04_Spread_6, A_ref04_Spread_7, A_ref04_Spread_8, A_ref04_Spread_9, A_ref04_Spread_10, A_ref04_Spread_11, A_ref04_Spread_12, A_ref04_Spread_13, A_ref04_Spread_14, A_ref04_Spread_15, h1]
    exact ⟨trivial, trivial⟩
  by_cases h2 : 64 < n
  · simp -dsimp only [↓w_seq, ↓w_ops, ↓w_skip, ↓w_ret, ↓w_exit, ↓w_scope, ↓w_block, ↓w_cond, cond_true', cond_false', ↓t_nil, ↓t_plain, ↓t_guard, ↓t_again, t_val, t_call, g_true, g_false, a_val, a_call, ↓n_normal, ↓n_ret, ↓n_exit, ↓b_normal, ↓b_ret, ↓b_exit, ↓e_normal, ↓e_ret, e_some, go_sem, ↓reduceIte, Nat.reduceEqDiff, Nat.reduceLT, Nat.reduceSub, A_ref04_Spread_0, A_ref04_Spread_1, A_ref04_Spread_2, A_ref04_Spread_3, A_ref04_Spread_4, A_ref04_Spread_5, A_ref04_Spread_6, A_ref04_Spread_7, A_ref04_Spread_8, A_ref04_Spread_9, A_ref04_Spread_10, A_ref04_Spread_11, A_ref04_Spread_12, A_ref04_Spread_13, A_ref04_Spread_14, A_ref04_Spread_15, h1, h2]
    exact ⟨trivial, trivial⟩
  have hf : fineK a b = false := by
    rcases h with h | h | h
    · exact absurd h h1
    · exact absurd h h2
    · exact h
  simp -dsimp only [↓w_seq, ↓w_ops, ↓w_skip, ↓w_ret, ↓w_exit, ↓w_scope, ↓w_block, ↓w_cond, cond_true', cond_false', ↓t_nil, ↓t_plain, ↓t_guard, ↓t_again, t_val, t_call, g_true, g_false, a_val, a_call, ↓n_normal, ↓n_ret, ↓n_exit, ↓b_normal, ↓b_ret, ↓b_exit, ↓e_normal, ↓e_ret, e_some, go_sem, ↓reduceIte, Nat.reduceEqDiff, Nat.reduceLT, Nat.reduceSub, A_ref04_Spread_0, A_ref04_Spread_1, A_ref04_Spread_2, A_ref04_Spread_3, A_ref04_Spread_4, A_ref04_Spread_5, A_ref04_Spread_6, A_ref04_Spread_7, A_ref04_Spread_8, A_ref04_Spread_9, A_ref04_Spread_10, A_ref04_Spread_11, A_ref04_Spread_12, A_ref04_Spread_13, A_ref04_Spread_14, A_ref04_Spread_15, h1, h2]
  refine call_eq (rfine_runs a b ha hb M) ?_
  simp -dsimp only [↓w_seq, ↓w_ops, ↓w_skip, ↓w_ret, ↓w_exit, ↓w_scope, ↓w_block, ↓w_cond, cond_true', cond_false', ↓t_nil, ↓t_plain, ↓t_guard, ↓t_again, t_val, t_call, g_true, g_false, a_val, a_call, ↓n_normal, ↓n_ret, ↓n_exit, ↓b_normal, ↓b_ret, ↓b_exit, ↓e_normal, ↓e_ret, e_some, go_sem, ↓reduceIte, Nat.reduceEqDiff, Nat.reduceLT, Nat.reduceSub, hf]
  exact ⟨trivial, trivial⟩

theorem rspread_runs : ∀ (f n : Nat) (a b : List UInt8) (M : Mem), n ≤ f → n ≤ 64 → fineK a b = true → a.length < 2 ^ 63 → b.length < 2 ^ 63 →
    Runs D2 F_ref04_Spread [.str a, .str b, .int .i64 (n : Int)] M fun v M' => Grew M M' ∧ ∃ s, v = .tup [s, .int .i64 (spr f a b n).2] ∧ ((spr f a b n).2 = 0 → Hold M.next M' 1 s n (strsC (spr f a b n).1)) ∧ ((spr f a b n).2 ≠ 0 → s = .slice none 0 (.exact 0)) := by
  intro f
  induction f with
  | zero =>
    intro n a b M hn h64 hf ha hb
    have : n = 0 := by omega
    subst this
    refine Runs.walk (F := A_ref04_Spread) rfl (by rfl) (by rfl) ?_
    unfold A_ref04_Spread
    have h1 : ¬ ((0 : Nat) : Int) < 0 := by omega
    have h2 : ¬ 64 < ((0 : Nat) : Int) := by omega
    have h3 : ((0 : Nat) : Int) = 0 := by omega
    simp -dsimp only [↓w_seq, ↓w_ops, ↓w_skip, ↓w_ret, ↓w_exit, ↓w_scope, ↓w_block, ↓w_cond, cond_true', cond_false', ↓t_nil, ↓t_plain, ↓t_guard, ↓t_again, t_val, t_call, g_true, g_false, a_val, a_call, ↓n_normal, ↓n_ret, ↓n_exit, ↓b_normal, ↓b_ret, ↓b_exit, ↓e_normal, ↓e_ret, e_some, go_sem, ↓reduceIte, Nat.reduceEqDiff, Nat.reduceLT, Nat.reduceSub, A_ref04_Spread_0, A_ref04_Spread_1, A_ref04_Spread_2, A_ref04_Spread_3, A_ref04_Spread_4, A_ref04_Spread_5, A_ref04_Spread_6, A_ref04_Spread_7, A_ref04_Spread_8, A_ref04_Spread_9, A_ref04_Spread_10, A_ref04_Spread_11, A_ref04_Spread_12, A_ref04_Spread_13, A_ref04_Spread_14, A_ref04_Spread_15, h1, h2]
    refine call_eq (rfine_runs a b ha hb M) ?_
    simp -dsimp only [↓w_seq, ↓w_ops, ↓w_skip, ↓w_ret, ↓w_exit, ↓w_scope, ↓w_block, ↓w_cond, cond_true', cond_false', ↓t_nil, ↓t_plain, ↓t_guard, ↓t_again, t_val, t_call, g_true, g_false, a_val, a_call, ↓n_normal, ↓n_ret, ↓n_exit, ↓b_normal, ↓b_ret, ↓b_exit, ↓e_normal, ↓e_ret, e_some, go_sem, ↓reduceIte, Nat.reduceEqDiff, Nat.reduceLT, Nat.reduceSub, hf, A_ref04_Spread_0, A_ref04_Spread_1, A_ref04_Spread_2, A_ref04_Spread_3, A_ref04_Spread_4, A_ref04_Spread_5, A_ref04_Spread_6, A_ref04_Spread_7, A_ref04_Spread_8, A_ref04_Spread_9, A_ref04_Spread_10, A_ref04_Spread_11, A_ref04_Spread_12, A_ref04_Spread_13, A_ref04_Spread_14, A_ref04_Spread_15, h3]
    exact ⟨Grew.refl M, _, rfl, fun _ => .nil, fun h => absurd rfl h⟩
  | succ f ih =>
    intro n a b M hn h64 hf ha hb
    refine Runs.walk (F := A_ref04_Spread) rfl (by rfl) (by rfl) ?_
    unfold A_ref04_Spread
    have h1 : ¬ (n : Int) < 0 := by omega
    have h2 : ¬ 64 < (n : Int) := by omega
    simp -dsimp only [↓w_seq, ↓w_ops, ↓w_skip, ↓w_ret, ↓w_exit, ↓w_scope, ↓w_block, ↓w_cond, cond_true', cond_false', ↓t_nil, ↓t_plain, ↓t_guard, ↓t_again, t_val, t_call, g_true, g_false, a_val, a_call, ↓n_normal, ↓n_ret, ↓n_exit, ↓b_normal, ↓b_ret, ↓b_exit, ↓e_normal, ↓e_ret, e_some, go_sem, ↓reduceIte, Nat.reduceEqDiff, Nat.reduceLT, Nat.reduceSub, A_ref04_Spread_0, A_ref04_Spread_1, A_ref04_Spread_2, A_ref04_Spread_3, A_ref04_Spread_4, A_ref04_Spread_5, A_ref04_Spread_6, A_ref04_Spread_7, A_ref04_Spread_8, A_ref04_Spread_9, A_ref04_Spread_10, A_ref04_Spread_11, A_ref04_Spread_12, A_ref04_Spread_13, A_ref04_Spread_14, A_ref04_Spread_15, h1, h2]
    refine call_eq (rfine_runs a b ha hb M) ?_
    by_cases h0 : n = 0
    · have h3 : (n : Int) = 0 := by omega
      simp -dsimp only [↓w_seq, ↓w_ops, ↓w_skip, ↓w_ret, ↓w_exit, ↓w_scope, ↓w_block, ↓w_cond, cond_true', cond_false', ↓t_nil, ↓t_plain, ↓t_guard, ↓t_again, t_val, t_call, g_true, g_false, a_val, a_call, ↓n_normal, ↓n_ret, ↓n_exit, ↓b_normal, ↓b_ret, ↓b_exit, ↓e_normal, ↓e_ret, e_some, go_sem, ↓reduceIte, Nat.reduceEqDiff, Nat.reduceLT, Nat.reduceSub, hf, A_ref04_Spread_0, A_ref04_Spread_1, A_ref04_Spread_2, A_ref04_Spread_3, A_ref04_Spread_4, A_ref04_Spread_5, A_ref04_Spread_6, A_ref04_Spread_7, A_ref04_Spread_8, A_ref04_Spread_9, A_ref04_Spread_10, A_ref04_Spread_11, A_ref04_Spread_12, A_ref04_Spread_13, A_ref04_Spread_14, A_ref04_Spread_15, h3]
      rw [spr_succ]
      simp only [h0, if_true]
      exact ⟨Grew.refl M, _, rfl, fun _ => .nil, fun h => absurd rfl h⟩
    have h3 : ¬ (n : Int) = 0 := by omega
    simp -dsimp only [↓w_seq, ↓w_ops, ↓w_skip, ↓w_ret, ↓w_exit, ↓w_scope, ↓w_block, ↓w_cond, cond_true', cond_false', ↓t_nil, ↓t_plain, ↓t_guard, ↓t_again, t_val, t_call, g_true, g_false, a_val, a_call, ↓n_normal, ↓n_ret, ↓n_exit, ↓b_normal, ↓b_ret, ↓b_exit, ↓e_normal, ↓e_ret, e_some, go_sem, ↓reduceIte, Nat.reduceEqDiff, Nat.reduceLT, Nat.reduceSub, hf, A_ref04_Spread_0, A_ref04_Spread_1, A_ref04_Spread_2, A_ref04_Spread_3, A_ref04_Spread_4, A_ref04_Spread_5, A_ref04_Spread_6, A_ref04_Spread_7, A_ref04_Spread_8, A_ref04_Spread_9, A_ref04_Spread_10, A_ref04_Spread_11, A_ref04_Spread_12, A_ref04_Spread_13, A_ref04_Spread_14, A_ref04_Spread_15, h3]
    refine call_of (rbetween_runs a b ha hb M) ?_
    intro v M1 hv
    rw [hv.1, btwV_is]
    have hG1 := hv.2
    have hm : IntKind.i64.wrap ((IntKind.i64.wrap ((n : Int) - 1)).tdiv 2) = (((n - 1) / 2 : Nat) : Int) := by
      rw [IntWalk.i64_in ((n : Int) - 1) (by omega), Int.tdiv_eq_ediv_of_nonneg (by omega), IntWalk.i64_in _ (by omega)]; omega
    simp -dsimp only [↓w_seq, ↓w_ops, ↓w_skip, ↓w_ret, ↓w_exit, ↓w_scope, ↓w_block, ↓w_cond, cond_true', cond_false', ↓t_nil, ↓t_plain, ↓t_guard, ↓t_again, t_val, t_call, g_true, g_false, a_val, a_call, ↓n_normal, ↓n_ret, ↓n_exit, ↓b_normal, ↓b_ret, ↓b_exit, ↓e_normal, ↓e_ret, e_some, go_sem, ↓reduceIte, Nat.reduceEqDiff, Nat.reduceLT, Nat.reduceSub, List.getElem?_cons_zero, List.getElem?_cons_succ, A_ref04_Spread_0, A_ref04_Spread_1, A_ref04_Spread_2, A_ref04_Spread_3, A_ref04_Spread_4, A_ref04_Spread_5, A_ref04_Spread_6, A_ref04_Spread_7, A_ref04_Spread_8, A_ref04_Spread_9, A_ref04_Spread_10, A_ref04_Spread_11, A_ref04_Spread_12, A_ref04_Spread_13, A_ref04_Spread_14, A_ref04_Spread_15, ne_eq, Int.reduceEq, not_false_eq_true]
    by_cases he : (btwE a b).2 = 0
    · obtain ⟨f1, f2, kl24, kr⟩ := fine_mid hf he
      rw [he]
      simp -dsimp only [↓w_seq, ↓w_ops, ↓w_skip, ↓w_ret, ↓w_exit, ↓w_scope, ↓w_block, ↓w_cond, cond_true', cond_false', ↓t_nil, ↓t_plain, ↓t_guard, ↓t_again, t_val, t_call, g_true, g_false, a_val, a_call, ↓n_normal, ↓n_ret, ↓n_exit, ↓b_normal, ↓b_ret, ↓b_exit, ↓e_normal, ↓e_ret, e_some, go_sem, ↓reduceIte, Nat.reduceEqDiff, Nat.reduceLT, Nat.reduceSub, A_ref04_Spread_0, A_ref04_Spread_1, A_ref04_Spread_2, A_ref04_Spread_3, A_ref04_Spread_4, A_ref04_Spread_5, A_ref04_Spread_6, A_ref04_Spread_7, A_ref04_Spread_8, A_ref04_Spread_9, A_ref04_Spread_10, A_ref04_Spread_11, A_ref04_Spread_12, A_ref04_Spread_13, A_ref04_Spread_14, A_ref04_Spread_15, hm, ne_eq, Int.reduceEq, not_false_eq_true]
      refine call_of (ih ((n - 1) / 2) a (btwE a b).1 M1 (by omega) (by omega) f1 ha (by omega)) ?_
      rintro v M2 ⟨hG2, s2, rfl, hs2, hn2⟩
      simp -dsimp only [↓w_seq, ↓w_ops, ↓w_skip, ↓w_ret, ↓w_exit, ↓w_scope, ↓w_block, ↓w_cond, cond_true', cond_false', ↓t_nil, ↓t_plain, ↓t_guard, ↓t_again, t_val, t_call, g_true, g_false, a_val, a_call, ↓n_normal, ↓n_ret, ↓n_exit, ↓b_normal, ↓b_ret, ↓b_exit, ↓e_normal, ↓e_ret, e_some, go_sem, ↓reduceIte, Nat.reduceEqDiff, Nat.reduceLT, Nat.reduceSub, List.getElem?_cons_zero, List.getElem?_cons_succ, A_ref04_Spread_0, A_ref04_Spread_1, A_ref04_Spread_2, A_ref04_Spread_3, A_ref04_Spread_4, A_ref04_Spread_5, A_ref04_Spread_6, A_ref04_Spread_7, A_ref04_Spread_8, A_ref04_Spread_9, A_ref04_Spread_10, A_ref04_Spread_11, A_ref04_Spread_12, A_ref04_Spread_13, A_ref04_Spread_14, A_ref04_Spread_15]
      by_cases h4 : (spr f a (btwE a b).1 ((n - 1) / 2)).2 = 0
      · have hm2 : IntKind.i64.wrap (IntKind.i64.wrap ((n : Int) - 1) - (((n - 1) / 2 : Nat) : Int)) = ((n - 1 - (n - 1) / 2 : Nat) : Int) := by
          rw [IntWalk.i64_in ((n : Int) - 1) (by omega), IntWalk.i64_in _ (by omega)]; omega
        rw [h4]
        simp -dsimp only [↓w_seq, ↓w_ops, ↓w_skip, ↓w_ret, ↓w_exit, ↓w_scope, ↓w_block, ↓w_cond, cond_true', cond_false', ↓t_nil, ↓t_plain, ↓t_guard, ↓t_again, t_val, t_call, g_true, g_false, a_val, a_call, ↓n_normal, ↓n_ret, ↓n_exit, ↓b_normal, ↓b_ret, ↓b_exit, ↓e_normal, ↓e_ret, e_some, go_sem, ↓reduceIte, Nat.reduceEqDiff, Nat.reduceLT, Nat.reduceSub, A_ref04_Spread_0, A_ref04_Spread_1, A_ref04_Spread_2, A_ref04_Spread_3, A_ref04_Spread_4, A_ref04_Spread_5, A_ref04_Spread_6, A_ref04_Spread_7, A_ref04_Spread_8, A_ref04_Spread_9, A_ref04_Spread_10, A_ref04_Spread_11, A_ref04_Spread_12, A_ref04_Spread_13, A_ref04_Spread_14, A_ref04_Spread_15, hm2]
        refine call_of (ih (n - 1 - (n - 1) / 2) (btwE a b).1 b M2 (by omega) (by omega) f2 (by omega) hb) ?_
        rintro v M3 ⟨hG3, s3, rfl, hs3, hn3⟩
        simp -dsimp only [↓w_seq, ↓w_ops, ↓w_skip, ↓w_ret, ↓w_exit, ↓w_scope, ↓w_block, ↓w_cond, cond_true', cond_false', ↓t_nil, ↓t_plain, ↓t_guard, ↓t_again, t_val, t_call, g_true, g_false, a_val, a_call, ↓n_normal, ↓n_ret, ↓n_exit, ↓b_normal, ↓b_ret, ↓b_exit, ↓e_normal, ↓e_ret, e_some, go_sem, ↓reduceIte, Nat.reduceEqDiff, Nat.reduceLT, Nat.reduceSub, List.getElem?_cons_zero, List.getElem?_cons_succ, A_ref04_Spread_0, A_ref04_Spread_1, A_ref04_Spread_2, A_ref04_Spread_3, A_ref04_Spread_4, A_ref04_Spread_5, A_ref04_Spread_6, A_ref04_Spread_7, A_ref04_Spread_8, A_ref04_Spread_9, A_ref04_Spread_10, A_ref04_Spread_11, A_ref04_Spread_12, A_ref04_Spread_13, A_ref04_Spread_14, A_ref04_Spread_15]
        by_cases h5 : (spr f (btwE a b).1 b (n - 1 - (n - 1) / 2)).2 = 0
        · have hH2 := hs2 h4
          have hH3 := hs3 h5
          rw [h5]
          simp -dsimp only [↓w_seq, ↓w_ops, ↓w_skip, ↓w_ret, ↓w_exit, ↓w_scope, ↓w_block, ↓w_cond, cond_true', cond_false', ↓t_nil, ↓t_plain, ↓t_guard, ↓t_again, t_val, t_call, g_true, g_false, a_val, a_call, ↓n_normal, ↓n_ret, ↓n_exit, ↓b_normal, ↓b_ret, ↓b_exit, ↓e_normal, ↓e_ret, e_some, go_sem, ↓reduceIte, Nat.reduceEqDiff, Nat.reduceLT, Nat.reduceSub, A_ref04_Spread_0, A_ref04_Spread_1, A_ref04_Spread_2, A_ref04_Spread_3, A_ref04_Spread_4, A_ref04_Spread_5, A_ref04_Spread_6, A_ref04_Spread_7, A_ref04_Spread_8, A_ref04_Spread_9, A_ref04_Spread_10, A_ref04_Spread_11, A_ref04_Spread_12, A_ref04_Spread_13, A_ref04_Spread_14, A_ref04_Spread_15, fillCells, repl, V.cells, List.length_cons, List.length_nil, Nat.zero_add, wrCells, List.append_nil, Nat.reduceAdd, Nat.reduceLeDiff, decide_true]
          have n12 := hG1.next
          have n23 := hG2.next
          have n34 := hG3.next
          have hH2' : Hold M.next (M3.push (.cells [.str (btwE a b).1] false)) 1 s2 ((n - 1) / 2) (strsC (spr f a (btwE a b).1 ((n - 1) / 2)).1) := by
            have : Hold M.next M2 1 s2 ((n - 1) / 2) (strsC (spr f a (btwE a b).1 ((n - 1) / 2)).1) := hH2.lower (by omega)
            refine this.keep (fun b hb => ?_) (by simp; omega)
            have := (this.blk_le hb).2.1
            rw [Mem.get_push_ne _ _ (by omega), hG3.old b this]
          obtain ⟨M4, hap, hH4, hn4, ho4⟩ := hH2'.append (bytes := 16) (m := 1) (x := .slice (some (M3.next, 0)) 1 (.exact 1)) (new := [.str (btwE a b).1]) (by simp; omega) rfl
            (by simp only [srcCells, beq_dec, Nat.one_mul, Nat.reduceEqDiff, decide_false, cond_false]; exact read_all (Mem.get_push_same _ _)) (by omega) rfl (by unfold maxRoom; omega) rfl
          rw [hap]
          have hG4 : Grew M M4 := ⟨by rw [hn4]; simp; omega, fun c hc => by
            rw [ho4 c (by simp; omega) (fun e => by have := (hH2'.blk_le e).1; omega), Mem.get_push_ne _ _ (by omega)]
            exact ((hG1.trans hG2).trans hG3).old c hc⟩
          have hH3' : Hold M2.next M4 1 s3 (n - 1 - (n - 1) / 2) (strsC (spr f (btwE a b).1 b (n - 1 - (n - 1) / 2)).1) := by
            refine hH3.keep (fun c hc => ?_) (by rw [hn4]; simp; omega)
            have h6 := hH3.blk_le hc
            rw [ho4 c (by simp; omega) (fun e => ?_), Mem.get_push_ne _ _ (by omega)]
            have := (hH2.blk_le e).2.1; omega
          simp only [Mem.next_push] at hap hH4 hn4 ho4
          have hsrc := hH3'.src
          obtain ⟨s5, M5, hap5, hH5, hn5, ho5, _⟩ := hH4.append_any (bytes := 16) (x := s3) (by omega) hsrc.1 hsrc.2 hH3'.len (by unfold maxRoom; omega) (allOne_strs _)
          simp -dsimp only [↓w_seq, ↓w_ops, ↓w_skip, ↓w_ret, ↓w_exit, ↓w_scope, ↓w_block, ↓w_cond, cond_true', cond_false', ↓t_nil, ↓t_plain, ↓t_guard, ↓t_again, t_val, t_call, g_true, g_false, a_val, a_call, ↓n_normal, ↓n_ret, ↓n_exit, ↓b_normal, ↓b_ret, ↓b_exit, ↓e_normal, ↓e_ret, e_some, go_sem, ↓reduceIte, Nat.reduceEqDiff, Nat.reduceLT, Nat.reduceSub, A_ref04_Spread_0, A_ref04_Spread_1, A_ref04_Spread_2, A_ref04_Spread_3, A_ref04_Spread_4, A_ref04_Spread_5, A_ref04_Spread_6, A_ref04_Spread_7, A_ref04_Spread_8, A_ref04_Spread_9, A_ref04_Spread_10, A_ref04_Spread_11, A_ref04_Spread_12, A_ref04_Spread_13, A_ref04_Spread_14, A_ref04_Spread_15, Mem.next_push]
          rw [hap5]
          simp -dsimp only [↓w_seq, ↓w_ops, ↓w_skip, ↓w_ret, ↓w_exit, ↓w_scope, ↓w_block, ↓w_cond, cond_true', cond_false', ↓t_nil, ↓t_plain, ↓t_guard, ↓t_again, t_val, t_call, g_true, g_false, a_val, a_call, ↓n_normal, ↓n_ret, ↓n_exit, ↓b_normal, ↓b_ret, ↓b_exit, ↓e_normal, ↓e_ret, e_some, go_sem, ↓reduceIte, Nat.reduceEqDiff, Nat.reduceLT, Nat.reduceSub, A_ref04_Spread_0, A_ref04_Spread_1, A_ref04_Spread_2, A_ref04_Spread_3, A_ref04_Spread_4, A_ref04_Spread_5, A_ref04_Spread_6, A_ref04_Spread_7, A_ref04_Spread_8, A_ref04_Spread_9, A_ref04_Spread_10, A_ref04_Spread_11, A_ref04_Spread_12, A_ref04_Spread_13, A_ref04_Spread_14, A_ref04_Spread_15]
          refine ⟨⟨by omega, fun c hc => ?_⟩, s5, ?_, ?_, fun h => absurd ?_ h⟩
          · rw [ho5 c (by omega) (by simp only [V.blk, ne_eq, Option.some.injEq]; omega)]
            exact hG4.old c hc
          · rw [spr_succ]; simp [h0, he, h4, h5]
          · intro _
            rw [spr_succ]
            simp only [h0, he, h4, h5, if_false, ne_eq, not_true_eq_false]
            rw [show (n - 1) / 2 + 1 + (n - 1 - (n - 1) / 2) = n by omega] at hH5
            rw [show ((spr f a (btwE a b).1 ((n - 1) / 2)).1 ++ (btwE a b).1 :: (spr f (btwE a b).1 b (n - 1 - (n - 1) / 2)).1) = (spr f a (btwE a b).1 ((n - 1) / 2)).1 ++ [(btwE a b).1] ++ (spr f (btwE a b).1 b (n - 1 - (n - 1) / 2)).1 by simp, strsC_app, strsC_app]
            exact hH5
          · rw [spr_succ]; simp [h0, he, h4, h5]
        · simp -dsimp only [↓w_seq, ↓w_ops, ↓w_skip, ↓w_ret, ↓w_exit, ↓w_scope, ↓w_block, ↓w_cond, cond_true', cond_false', ↓t_nil, ↓t_plain, ↓t_guard, ↓t_again, t_val, t_call, g_true, g_false, a_val, a_call, ↓n_normal, ↓n_ret, ↓n_exit, ↓b_normal, ↓b_ret, ↓b_exit, ↓e_normal, ↓e_ret, e_some, go_sem, ↓reduceIte, Nat.reduceEqDiff, Nat.reduceLT, Nat.reduceSub, h5, decide_false, A_ref04_Spread_0, A_ref04_Spread_1, A_ref04_Spread_2, A_ref04_Spread_3, A_ref04_Spread_4, A_ref04_Spread_5, A_ref04_Spread_6, A_ref04_Spread_7, A_ref04_Spread_8, A_ref04_Spread_9, A_ref04_Spread_10, A_ref04_Spread_11, A_ref04_Spread_12, A_ref04_Spread_13, A_ref04_Spread_14, A_ref04_Spread_15]
          refine ⟨(hG1.trans hG2).trans hG3, .slice none 0 (.exact 0), ?_, ?_, fun _ => rfl⟩
          · rw [spr_succ]; simp [h0, he, h4, h5]
          · intro h; rw [spr_succ] at h; simp [h0, he, h4, h5] at h
      · simp -dsimp only [↓w_seq, ↓w_ops, ↓w_skip, ↓w_ret, ↓w_exit, ↓w_scope, ↓w_block, ↓w_cond, cond_true', cond_false', ↓t_nil, ↓t_plain, ↓t_guard, ↓t_again, t_val, t_call, g_true, g_false, a_val, a_call, ↓n_normal, ↓n_ret, ↓n_exit, ↓b_normal, ↓b_ret, ↓b_exit, ↓e_normal, ↓e_ret, e_some, go_sem, ↓reduceIte, Nat.reduceEqDiff, Nat.reduceLT, Nat.reduceSub, h4, decide_false, A_ref04_Spread_0, A_ref04_Spread_1, A_ref04_Spread_2, A_ref04_Spread_3, A_ref04_Spread_4, A_ref04_Spread_5, A_ref04_Spread_6, A_ref04_Spread_7, A_ref04_Spread_8, A_ref04_Spread_9, A_ref04_Spread_10, A_ref04_Spread_11, A_ref04_Spread_12, A_ref04_Spread_13, A_ref04_Spread_14, A_ref04_Spread_15]
        refine ⟨hG1.trans hG2, .slice none 0 (.exact 0), ?_, ?_, fun _ => rfl⟩
        · rw [spr_succ]; simp [h0, he, h4]
        · intro h; rw [spr_succ] at h; simp [h0, he, h4] at h
    · simp -dsimp only [↓w_seq, ↓w_ops, ↓w_skip, ↓w_ret, ↓w_exit, ↓w_scope, ↓w_block, ↓w_cond, cond_true', cond_false', ↓t_nil, ↓t_plain, ↓t_guard, ↓t_again, t_val, t_call, g_true, g_false, a_val, a_call, ↓n_normal, ↓n_ret, ↓n_exit, ↓b_normal, ↓b_ret, ↓b_exit, ↓e_normal, ↓e_ret, e_some, go_sem, ↓reduceIte, Nat.reduceEqDiff, Nat.reduceLT, Nat.reduceSub, he, decide_false, A_ref04_Spread_0, A_ref04_Spread_1, A_ref04_Spread_2, A_ref04_Spread_3, A_ref04_Spread_4, A_ref04_Spread_5, A_ref04_Spread_6, A_ref04_Spread_7, A_ref04_Spread_8, A_ref04_Spread_9, A_ref04_Spread_10, A_ref04_Spread_11, A_ref04_Spread_12, A_ref04_Spread_13, A_ref04_Spread_14, A_ref04_Spread_15]
      refine ⟨hG1, .slice none 0 (.exact 0), ?_, ?_, fun _ => rfl⟩
      · rw [spr_succ]; simp [h0, he]
      · intro h; rw [spr_succ] at h; simp [h0, he] at h

theorem rspread_all (a b : List UInt8) (n : Int) (ha : a.length < 2 ^ 63) (hb : b.length < 2 ^ 63) (M : Mem) : Runs D2 F_ref04_Spread [.str a, .str b, .int .i64 n] M fun v M' => Grew M M' ∧ ∃ s, v = .tup [s, .int .i64 (sprE a b n).2] ∧ Hold M.next M' 1 s (sprE a b n).1.length (strsC (sprE a b n).1) := by
  by_cases h : n < 0 ∨ 64 < n ∨ fineK a b = false
  · refine (rspread_bad a b n ha hb M h).mono ?_
    rintro v M' ⟨rfl, rfl⟩
    have hE : sprE a b n = ([], 1) := by unfold sprE; rw [if_pos h]
    rw [hE]
    exact ⟨Grew.refl _, _, rfl, .nil⟩
  · obtain ⟨k, rfl⟩ : ∃ k : Nat, n = (k : Int) := ⟨n.toNat, by omega⟩
    have hf : fineK a b = true := by
      cases hq : fineK a b with
      | true => rfl
      | false => exact absurd (.inr (.inr hq)) h
    have hE : sprE a b (k : Int) = if (spr k a b k).2 = 0 then ((spr k a b k).1, 0) else ([], (spr k a b k).2) := by
      unfold sprE
      rw [if_neg h]
      simp
    refine (rspread_runs k k a b M (Nat.le_refl _) (by omega) hf ha hb).mono ?_
    rintro v M' ⟨hG, s, rfl, h1, h2⟩
    by_cases he : (spr k a b k).2 = 0
    · refine ⟨hG, s, ?_, ?_⟩
      · rw [hE, if_pos he, he]
      · rw [hE, if_pos he, spr_len k k a b (Nat.le_refl _) he]; exact h1 he
    · refine ⟨hG, s, ?_, ?_⟩
      · rw [hE, if_neg he]
      · rw [hE, if_neg he, h2 he]; exact .nil
end Go.Am.Try
