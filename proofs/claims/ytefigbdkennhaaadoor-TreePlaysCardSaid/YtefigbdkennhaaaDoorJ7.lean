/- The machine and what is proved of its runs, part 7: what each part says stands at its head. -/
import Derived.Test.YtefigbdkennhaaaDoorJ6
import Derived.Test.YtefigbdkennhaaaDoorRows
import Derived.WalkKit
import Derived.ProofKit
import Derived.OpenShut
import Derived.Below
import Derived.LaidMore
import Derived.Stop.Joined
import Derived.SevenTiedAt
set_option linter.unusedSimpArgs false
set_option linter.unusedVariables false
set_option linter.unusedSectionVars false
/- The law's look at both: they tell the same. -/
namespace Go.Am.Tryd
open Go Go.Am Go.Proofs Go.Sort Go.Shelf
set_option maxRecDepth 100000
set_option linter.unusedSimpArgs false
set_option linter.unusedVariables false

theorem bool_same (t : Bool) : vsame ⟨false, [.bool]⟩ (.bool t) (.bool t) = some true := by cases t <;> rfl
/-- A slice of stamps that was told. -/
def SlG (M : Mem) (v : V) (xs : List St) : Prop := SlR elSt M v xs ∧ ∀ b, v.blk = some b → b < M.next
theorem SlG.grew {M M' : Mem} {v : V} {xs : List St} (h : SlG M v xs) (hG : Grew M M') : SlG M' v xs := ⟨h.1.keep fun b hb => hG.old b (h.2 b hb), fun b hb => Nat.lt_of_lt_of_le (h.2 b hb) hG.next⟩
theorem SlG.of {lo : Nat} {M : Mem} {v : V} {xs : List St} (h : Hold lo M 2 v xs.length (elSt.all xs)) : SlG M v xs := ⟨Hold.slR h, fun b hb => (h.blk_le hb).2.1⟩
theorem above_g (M : Mem) (tc bm : Nat) (l : Tr) (T : TreeIn M tc bm l) (n : St) {path : List St} (hp : PathN l n path) (hN : (path.length + 1) * 16 ≤ maxRoom) :
    Runs D2 F_tree_Tree_Above [.ptr (some (tc, 0)), .agg (stC n)] M fun v M' => SlG M' v path ∧ Grew M M' := by
  by_cases hne : path = []
  · subst hne
    refine Runs.prim (v := .slice none 0 (.exact 0)) (M' := M) rfl ?_ ⟨⟨⟨_, _, rfl, .inl rfl⟩, fun b hb => by cases hb⟩, Grew.refl _⟩
    have e : pAbove [.ptr (some (tc, 0)), .agg (stC n)] M = some (.flat (.slice none 0 (.exact 0))) := by
      show (match M.get tc with
        | some (.cells [.map none] _) => some (KeepR.flat (.slice none 0 (.exact 0)))
        | some (.cells [.map (some bm)] _) => (match M.get bm with
          | some (.map es) => (decM es).bind fun l => (upL l (l.length + 1) n).bind fun path => cond (Nat.ble ((path.length + 1) * 16) maxRoom) (some (match path with
            | [] => KeepR.flat (.slice none 0 (.exact 0))
            | x :: xs => KeepR.row (xs.length + 1) 2 (elSt.all (x :: xs)))) none
          | _ => none)
        | _ => none) = _
      simp only [T.c, T.m, decM_enc, Option.bind_some, hp.of, ble_iff, decide_eq_true hN, cond_true]
    show ((pAbove [.ptr (some (tc, 0)), .agg (stC n)] M).map fun r => r.res M) = _
    rw [e]
    rfl
  · refine (above_p M tc bm l T n hp hne hN).mono fun v M' hv => ?_
    rw [hv.1, hv.2]
    refine ⟨⟨⟨_, _, rfl, .inr ⟨M.next, 0, _, false, rfl, Mem.get_push_same _ _, fun i hi => by rw [Nat.zero_add]; exact elSt.rd path i hi⟩⟩, fun b hb => ?_⟩, Grew.push _ _⟩
    simp only [V.blk, Option.some.injEq] at hb
    subst hb
    simp

set_option maxHeartbeats 2000000 in
theorem same_runs (M : Mem) (tc bm rc : Nat) (s : V) (l : Tr) (n p : St) (T : TreeIn M tc bm l) (r : RefIn M rc s (rowsL l)) (hI : Inv l) (hl : l.length ≤ 1000) (hg : isG M = true) (hn2 : 2 ≤ M.next) :
    Runs D2 F_law10_same [.ptr (some (tc, 0)), .ptr (some (rc, 0)), .agg (stC n), .agg (stC p)] M fun v M' => v = .bool true ∧ Grew M M' := by
  refine R_opq fun R hR => ?_
  refine Runs.walk (F := A_law10_same) rfl (by rfl) (by rfl) ?_
  unfold A_law10_same
  have hcn : ∀ x : St, V.cells (.agg (stC x)) = stC x := fun _ => rfl
  have hcs : ∀ s, V.cells (.agg (spC s)) = spC s := fun _ => rfl
  have hrn : ∀ x : St, rdCells (stC x) 0 2 = some (stC x) := fun _ => rfl
  have hrs : ∀ s, rdCells (spC s) 0 3 = some (spC s) := fun _ => rfl
  have hG := (Grew.push M (.cells (stC n) false)).trans (Grew.push _ (.cells (stC p) false))
  have g6 : ((M.push (.cells (stC n) false)).push (.cells (stC p) false)).get M.next = some (.cells (stC n) false) := by rw [Mem.get_push_ne _ _ (by simp), Mem.get_push_same]
  have g7 : ((M.push (.cells (stC n) false)).push (.cells (stC p) false)).get (M.next + 1) = some (.cells (stC p) false) := Mem.get_push_same (M.push _) _
  have hnx : ((M.push (.cells (stC n) false)).push (.cells (stC p) false)).next = M.next + 2 := rfl
  simp -dsimp only [↓w_seq, ↓w_ops, ↓w_skip, ↓w_ret, ↓w_exit, ↓w_scope, ↓w_block, ↓w_cond, cond_true', cond_false', ↓t_nil, ↓t_plain, ↓t_guard, ↓t_gagain, ↓t_again, t_val, t_call, g_true, g_false, ga_true, ga_false, a_val, a_call, ↓n_normal, ↓n_ret, ↓n_exit, ↓b_normal, ↓b_ret, ↓b_exit, ↓e_normal, ↓e_ret, e_some, go_sem, ↓reduceIte, Nat.reduceEqDiff, Nat.reduceLT, Nat.reduceSub, A_law10_same_0, A_law10_same_1, hcn, Mem.next_push]
  generalize (M.push (.cells (stC n) false)).push (.cells (stC p) false) = M1 at *
  have T1 := T.grew hG
  have r1 := r.grew hG
  simp -dsimp only [↓w_seq, ↓w_ops, ↓w_skip, ↓w_ret, ↓w_exit, ↓w_scope, ↓w_block, ↓w_cond, cond_true', cond_false', ↓t_nil, ↓t_plain, ↓t_guard, ↓t_gagain, ↓t_again, t_val, t_call, g_true, g_false, ga_true, ga_false, a_val, a_call, ↓n_normal, ↓n_ret, ↓n_exit, ↓b_normal, ↓b_ret, ↓b_exit, ↓e_normal, ↓e_ret, e_some, go_sem, ↓reduceIte, Nat.reduceEqDiff, Nat.reduceLT, Nat.reduceSub, vload, vptr, Mem.read, g6, hrn]
  refine call_eq (spot_p rfl T1.of n) ?_
  have w9 := write_full (M := M1.push (.cells [.int .i64 0, .int .i64 0, .str []] false)) (b := M1.next) (vs := spC ((getS l n).getD sp0)) (Mem.get_push_same _ _) rfl rfl
  simp -dsimp only [↓w_seq, ↓w_ops, ↓w_skip, ↓w_ret, ↓w_exit, ↓w_scope, ↓w_block, ↓w_cond, cond_true', cond_false', ↓t_nil, ↓t_plain, ↓t_guard, ↓t_gagain, ↓t_again, t_val, t_call, g_true, g_false, ga_true, ga_false, a_val, a_call, ↓n_normal, ↓n_ret, ↓n_exit, ↓b_normal, ↓b_ret, ↓b_exit, ↓e_normal, ↓e_ret, e_some, go_sem, ↓reduceIte, Nat.reduceEqDiff, Nat.reduceLT, Nat.reduceSub, A_law10_same_2, List.getElem?_cons_zero, List.getElem?_cons_succ, vstore, hcs, spC_len, w9, Nat.reduceEqDiff]
  have hG2 : Grew M1 ((M1.push (.cells [.int .i64 0, .int .i64 0, .str []] false)).set M1.next (.cells (spC ((getS l n).getD sp0)) false)) := (Grew.push M1 _).upd (Nat.le_refl _) (Upd.set _ _ _)
  have g9 := Mem.get_set_same (M1.push (.cells [.int .i64 0, .int .i64 0, .str []] false)) M1.next (.cells (spC ((getS l n).getD sp0)) false)
  have hn9 : ((M1.push (.cells [.int .i64 0, .int .i64 0, .str []] false)).set M1.next (.cells (spC ((getS l n).getD sp0)) false)).next = M1.next + 1 := rfl
  clear w9
  generalize (M1.push (.cells [.int .i64 0, .int .i64 0, .str []] false)).set M1.next (.cells (spC ((getS l n).getD sp0)) false) = M2 at *
  have g62 := (hG2.old _ (by omega)).trans g6
  have g72 := (hG2.old _ (by omega)).trans g7
  have r2 := r1.grew hG2
  simp -dsimp only [↓w_seq, ↓w_ops, ↓w_skip, ↓w_ret, ↓w_exit, ↓w_scope, ↓w_block, ↓w_cond, cond_true', cond_false', ↓t_nil, ↓t_plain, ↓t_guard, ↓t_gagain, ↓t_again, t_val, t_call, g_true, g_false, ga_true, ga_false, a_val, a_call, ↓n_normal, ↓n_ret, ↓n_exit, ↓b_normal, ↓b_ret, ↓b_exit, ↓e_normal, ↓e_ret, e_some, go_sem, ↓reduceIte, Nat.reduceEqDiff, Nat.reduceLT, Nat.reduceSub, vload, vptr, Mem.read, g62, hrn]
  refine call_eq (rspot_p rfl r2.rows n) ?_
  rw [spot_is hI, find_is hI]
  have w11 := write_full (M := M2.push (.cells [.int .i64 0, .int .i64 0, .str []] false)) (b := M2.next) (vs := spC ((getS l n).getD sp0)) (Mem.get_push_same _ _) rfl rfl
  simp -dsimp only [↓w_seq, ↓w_ops, ↓w_skip, ↓w_ret, ↓w_exit, ↓w_scope, ↓w_block, ↓w_cond, cond_true', cond_false', ↓t_nil, ↓t_plain, ↓t_guard, ↓t_gagain, ↓t_again, t_val, t_call, g_true, g_false, ga_true, ga_false, a_val, a_call, ↓n_normal, ↓n_ret, ↓n_exit, ↓b_normal, ↓b_ret, ↓b_exit, ↓e_normal, ↓e_ret, e_some, go_sem, ↓reduceIte, Nat.reduceEqDiff, Nat.reduceLT, Nat.reduceSub, A_law10_same_2, List.getElem?_cons_zero, List.getElem?_cons_succ, vstore, hcs, spC_len, w11, Nat.reduceEqDiff]
  have hG3 : Grew M2 ((M2.push (.cells [.int .i64 0, .int .i64 0, .str []] false)).set M2.next (.cells (spC ((getS l n).getD sp0)) false)) := (Grew.push M2 _).upd (Nat.le_refl _) (Upd.set _ _ _)
  have g11 := Mem.get_set_same (M2.push (.cells [.int .i64 0, .int .i64 0, .str []] false)) M2.next (.cells (spC ((getS l n).getD sp0)) false)
  clear w11
  generalize (M2.push (.cells [.int .i64 0, .int .i64 0, .str []] false)).set M2.next (.cells (spC ((getS l n).getD sp0)) false) = M3 at *
  have g63 := (hG3.old _ (by omega)).trans g62
  have g73 := (hG3.old _ (by omega)).trans g72
  have g93 := (hG3.old _ (by omega)).trans g9
  have hG03 := (hG.trans hG2).trans hG3
  have T3 := T.grew hG03
  have r3 := r.grew hG03
  have hg3 := isG_keep hg hn2 hG03.old
  have l63 : M.next < M3.next := by have := hG3.next; omega
  have l73 : M.next + 1 < M3.next := by have := hG3.next; omega
  refine WT_abs (fun fr => fr.rd 0 = .ptr (some (tc, 0)) ∧ fr.rd 1 = .ptr (some (rc, 0)) ∧ fr.rd 6 = .ptr (some (M.next, 0)) ∧ fr.rd 7 = .ptr (some (M.next + 1, 0)) ∧ fr.rd 9 = .ptr (some (M1.next, 0)) ∧ fr.rd 10 = .bool (getS l n).isSome ∧ fr.rd 11 = .ptr (some (M2.next, 0)) ∧ fr.rd 12 = .bool (getS l n).isSome) ⟨by simp only [go_sem, ↓reduceIte, Nat.reduceEqDiff, Nat.reduceLT, Nat.reduceSub], by simp only [go_sem, ↓reduceIte, Nat.reduceEqDiff, Nat.reduceLT, Nat.reduceSub], by simp only [go_sem, ↓reduceIte, Nat.reduceEqDiff, Nat.reduceLT, Nat.reduceSub], by simp only [go_sem, ↓reduceIte, Nat.reduceEqDiff, Nat.reduceLT, Nat.reduceSub], by simp only [go_sem, ↓reduceIte, Nat.reduceEqDiff, Nat.reduceLT, Nat.reduceSub], by simp only [go_sem, ↓reduceIte, Nat.reduceEqDiff, Nat.reduceLT, Nat.reduceSub], by simp only [go_sem, ↓reduceIte, Nat.reduceEqDiff, Nat.reduceLT, Nat.reduceSub], by simp only [go_sem, ↓reduceIte, Nat.reduceEqDiff, Nat.reduceLT, Nat.reduceSub]⟩ ?_
  intro fr hfr
  obtain ⟨f0, f1, f6, f7, f9, f10, f11, f12⟩ := hfr
  simp -dsimp only [↓w_seq, ↓w_ops, ↓w_skip, ↓w_ret, ↓w_exit, ↓w_scope, ↓w_block, ↓w_cond, cond_true', cond_false', ↓t_nil, ↓t_plain, ↓t_guard, ↓t_gagain, ↓t_again, t_val, t_call, g_true, g_false, ga_true, ga_false, a_val, a_call, ↓n_normal, ↓n_ret, ↓n_exit, ↓b_normal, ↓b_ret, ↓b_exit, ↓e_normal, ↓e_ret, e_some, go_sem, ↓reduceIte, Nat.reduceEqDiff, Nat.reduceLT, Nat.reduceSub, A_law10_same_3, f9, f11, vload, vptr, Mem.read, g93, g11, hrs]
  refine callA_by (k := ⟨⟩) (l' := ⟨⟩) (g' := ⟨⟩) (own_p rfl ((getS l n).getD sp0)) ?_
  intro v M4 hv
  rw [hv.1, hv.2]
  clear hv
  refine ⟨?_, ?_⟩
  · simp only [List.all_cons, List.all_nil, Bool.and_true, againOk, wantedA, cond_true, go_sem, ↓reduceIte, Nat.reduceEqDiff, Nat.reduceLT, Nat.reduceSub, vload, vptr, Mem.read, f9, g93, hrs, sameCells, Nat.zero_add, V.beq, V.beq_self, V.beqs_self, Bool.and_self, Nat.reduceAdd, Nat.reduceLeDiff, decide_true, cond_true]
  simp -dsimp only [↓w_seq, ↓w_ops, ↓w_skip, ↓w_ret, ↓w_exit, ↓w_scope, ↓w_block, ↓w_cond, cond_true', cond_false', ↓t_nil, ↓t_plain, ↓t_guard, ↓t_gagain, ↓t_again, t_val, t_call, g_true, g_false, ga_true, ga_false, a_val, a_call, ↓n_normal, ↓n_ret, ↓n_exit, ↓b_normal, ↓b_ret, ↓b_exit, ↓e_normal, ↓e_ret, e_some, go_sem, ↓reduceIte, Nat.reduceEqDiff, Nat.reduceLT, Nat.reduceSub, sp_same, decide_true, f10, f12, bool_same, f0, f1, f6, vload, vptr, Mem.read, g63, hrn]
  refine callA_by (k := ⟨⟩) (l' := ⟨⟩) (g' := ⟨⟩) (has_p rfl T3.of hg3 n) ?_
  intro v M4 hv
  rw [hv.1, hv.2]
  clear hv
  refine ⟨?_, ?_⟩
  · simp only [List.all_cons, List.all_nil, Bool.and_true, againOk, wantedA, cond_true, go_sem, ↓reduceIte, Nat.reduceEqDiff, Nat.reduceLT, Nat.reduceSub, vload, vptr, Mem.read, f6, g63, hrn, sameCells, Nat.zero_add, V.beq, V.beq_self, V.beqs_self, Bool.and_self, Nat.reduceAdd, Nat.reduceLeDiff, decide_true, cond_true]
  simp -dsimp only [↓w_seq, ↓w_ops, ↓w_skip, ↓w_ret, ↓w_exit, ↓w_scope, ↓w_block, ↓w_cond, cond_true', cond_false', ↓t_nil, ↓t_plain, ↓t_guard, ↓t_gagain, ↓t_again, t_val, t_call, g_true, g_false, ga_true, ga_false, a_val, a_call, ↓n_normal, ↓n_ret, ↓n_exit, ↓b_normal, ↓b_ret, ↓b_exit, ↓e_normal, ↓e_ret, e_some, go_sem, ↓reduceIte, Nat.reduceEqDiff, Nat.reduceLT, Nat.reduceSub]
  refine call_eq (rhas_p rfl r3.rows n) ?_
  rw [has_is hI]
  refine WT_abs (fun fr => fr.rd 0 = .ptr (some (tc, 0)) ∧ fr.rd 1 = .ptr (some (rc, 0)) ∧ fr.rd 6 = .ptr (some (M.next, 0)) ∧ fr.rd 7 = .ptr (some (M.next + 1, 0)) ∧ fr.rd 34 = .bool true ∧ fr.rd 37 = .bool (hasB l n) ∧ fr.rd 40 = .bool (hasB l n)) ⟨by simp only [go_sem, ↓reduceIte, Nat.reduceEqDiff, Nat.reduceLT, Nat.reduceSub, f0], by simp only [go_sem, ↓reduceIte, Nat.reduceEqDiff, Nat.reduceLT, Nat.reduceSub, f1], by simp only [go_sem, ↓reduceIte, Nat.reduceEqDiff, Nat.reduceLT, Nat.reduceSub, f6], by simp only [go_sem, ↓reduceIte, Nat.reduceEqDiff, Nat.reduceLT, Nat.reduceSub, f7], by simp only [go_sem, ↓reduceIte, Nat.reduceEqDiff, Nat.reduceLT, Nat.reduceSub], by simp only [go_sem, ↓reduceIte, Nat.reduceEqDiff, Nat.reduceLT, Nat.reduceSub], by simp only [go_sem, ↓reduceIte, Nat.reduceEqDiff, Nat.reduceLT, Nat.reduceSub]⟩ ?_
  clear f0 f1 f6 f7 f9 f10 f11 f12 fr
  intro fr hfr
  obtain ⟨f0, f1, f6, f7, f34, f37, f40⟩ := hfr
  simp -dsimp only [↓w_seq, ↓w_ops, ↓w_skip, ↓w_ret, ↓w_exit, ↓w_scope, ↓w_block, ↓w_cond, cond_true', cond_false', ↓t_nil, ↓t_plain, ↓t_guard, ↓t_gagain, ↓t_again, t_val, t_call, g_true, g_false, ga_true, ga_false, a_val, a_call, ↓n_normal, ↓n_ret, ↓n_exit, ↓b_normal, ↓b_ret, ↓b_exit, ↓e_normal, ↓e_ret, e_some, go_sem, ↓reduceIte, Nat.reduceEqDiff, Nat.reduceLT, Nat.reduceSub, f34, f37, f40, bool_same, f0, f1, f6, vload, vptr, Mem.read, g63, hrn]
  refine callA_by (k := ⟨⟩) (l' := ⟨⟩) (g' := ⟨⟩) (Below_runs M3 tc bm l n T3 (room_small hl)) ?_
  intro v M4 hv
  obtain ⟨hG4, hH4⟩ := hv
  have B1 := SlG.of hH4
  have g64 := (hG4.old _ l63).trans g63
  have r4 := r3.grew hG4
  refine ⟨?_, ?_⟩
  · simp only [List.all_cons, List.all_nil, Bool.and_true, againOk, wantedA, cond_true, go_sem, ↓reduceIte, Nat.reduceEqDiff, Nat.reduceLT, Nat.reduceSub, vload, vptr, Mem.read, f6, g64, hrn, sameCells, Nat.zero_add, V.beq, V.beq_self, V.beqs_self, Bool.and_self, Nat.reduceAdd, Nat.reduceLeDiff, decide_true, cond_true]
  simp -dsimp only [↓w_seq, ↓w_ops, ↓w_skip, ↓w_ret, ↓w_exit, ↓w_scope, ↓w_block, ↓w_cond, cond_true', cond_false', ↓t_nil, ↓t_plain, ↓t_guard, ↓t_gagain, ↓t_again, t_val, t_call, g_true, g_false, ga_true, ga_false, a_val, a_call, ↓n_normal, ↓n_ret, ↓n_exit, ↓b_normal, ↓b_ret, ↓b_exit, ↓e_normal, ↓e_ret, e_some, go_sem, ↓reduceIte, Nat.reduceEqDiff, Nat.reduceLT, Nat.reduceSub]
  refine call_of (rBelow_runs rc s (rowsL l) n M4 r4) ?_
  intro v' M5 hv
  obtain ⟨hG5, hH5⟩ := hv
  rw [bel_is hI] at hH5
  have B2 := SlG.of hH5
  have hbl : (belowL l n).length ≤ 1000 := by
    have : (belowL l n).length ≤ (nodesL l).length := List.length_filter_le _ _
    rw [nodes_len] at this; omega
  simp -dsimp only [↓w_seq, ↓w_ops, ↓w_skip, ↓w_ret, ↓w_exit, ↓w_scope, ↓w_block, ↓w_cond, cond_true', cond_false', ↓t_nil, ↓t_plain, ↓t_guard, ↓t_gagain, ↓t_again, t_val, t_call, g_true, g_false, ga_true, ga_false, a_val, a_call, ↓n_normal, ↓n_ret, ↓n_exit, ↓b_normal, ↓b_ret, ↓b_exit, ↓e_normal, ↓e_ret, e_some, go_sem, ↓reduceIte, Nat.reduceEqDiff, Nat.reduceLT, Nat.reduceSub]
  refine call_eq (lSame_runs v v' _ _ (by omega) M5 (B1.grew hG5).1 B2.1) ?_
  rw [decide_eq_true rfl]
  have hG05 := (hG03.trans hG4).trans hG5
  have T5 := T.grew hG05
  have r5 := r.grew hG05
  have g65 := (hG5.old _ (by have := hG4.next; omega)).trans g64
  refine WT_abs (fun fr => fr.rd 0 = .ptr (some (tc, 0)) ∧ fr.rd 1 = .ptr (some (rc, 0)) ∧ fr.rd 6 = .ptr (some (M.next, 0)) ∧ fr.rd 7 = .ptr (some (M.next + 1, 0)) ∧ fr.rd 43 = .bool true ∧ fr.rd 50 = .bool true) ⟨by simp only [go_sem, ↓reduceIte, Nat.reduceEqDiff, Nat.reduceLT, Nat.reduceSub, f0], by simp only [go_sem, ↓reduceIte, Nat.reduceEqDiff, Nat.reduceLT, Nat.reduceSub, f1], by simp only [go_sem, ↓reduceIte, Nat.reduceEqDiff, Nat.reduceLT, Nat.reduceSub, f6], by simp only [go_sem, ↓reduceIte, Nat.reduceEqDiff, Nat.reduceLT, Nat.reduceSub, f7], by simp only [go_sem, ↓reduceIte, Nat.reduceEqDiff, Nat.reduceLT, Nat.reduceSub], by simp only [go_sem, ↓reduceIte, Nat.reduceEqDiff, Nat.reduceLT, Nat.reduceSub]⟩ ?_
  clear f0 f1 f6 f7 f34 f37 f40 fr
  intro fr hfr
  obtain ⟨f0, f1, f6, f7, f43, f50⟩ := hfr
  have hp := hI.path n
  have hpl := hp.len
  simp -dsimp only [↓w_seq, ↓w_ops, ↓w_skip, ↓w_ret, ↓w_exit, ↓w_scope, ↓w_block, ↓w_cond, cond_true', cond_false', ↓t_nil, ↓t_plain, ↓t_guard, ↓t_gagain, ↓t_again, t_val, t_call, g_true, g_false, ga_true, ga_false, a_val, a_call, ↓n_normal, ↓n_ret, ↓n_exit, ↓b_normal, ↓b_ret, ↓b_exit, ↓e_normal, ↓e_ret, e_some, go_sem, ↓reduceIte, Nat.reduceEqDiff, Nat.reduceLT, Nat.reduceSub, f43, f50, f0, f1, f6, vload, vptr, Mem.read, g65, hrn]
  refine callA_by (k := ⟨⟩) (l' := ⟨⟩) (g' := ⟨⟩) (above_g M5 tc bm l T5 n hp (room_small (by omega))) ?_
  intro v M6 hv
  obtain ⟨A1, hG6⟩ := hv
  have l65 : M.next < M5.next := by have := hG4.next; have := hG5.next; omega
  have l75 : M.next + 1 < M5.next := by have := hG4.next; have := hG5.next; omega
  have g66 := (hG6.old _ l65).trans g65
  have r6 := r5.grew hG6
  refine ⟨?_, ?_⟩
  · simp only [List.all_cons, List.all_nil, Bool.and_true, againOk, wantedA, cond_true, go_sem, ↓reduceIte, Nat.reduceEqDiff, Nat.reduceLT, Nat.reduceSub, vload, vptr, Mem.read, f6, g66, hrn, sameCells, Nat.zero_add, V.beq, V.beq_self, V.beqs_self, Bool.and_self, Nat.reduceAdd, Nat.reduceLeDiff, decide_true, cond_true]
  simp -dsimp only [↓w_seq, ↓w_ops, ↓w_skip, ↓w_ret, ↓w_exit, ↓w_scope, ↓w_block, ↓w_cond, cond_true', cond_false', ↓t_nil, ↓t_plain, ↓t_guard, ↓t_gagain, ↓t_again, t_val, t_call, g_true, g_false, ga_true, ga_false, a_val, a_call, ↓n_normal, ↓n_ret, ↓n_exit, ↓b_normal, ↓b_ret, ↓b_exit, ↓e_normal, ↓e_ret, e_some, go_sem, ↓reduceIte, Nat.reduceEqDiff, Nat.reduceLT, Nat.reduceSub]
  refine call_of (rAbove_runs rc s (rowsL l) n M6 r6) ?_
  intro v' M7 hv
  obtain ⟨hG7, hH7⟩ := hv
  rw [upto_is hI] at hH7
  have A2 := SlG.of hH7
  simp -dsimp only [↓w_seq, ↓w_ops, ↓w_skip, ↓w_ret, ↓w_exit, ↓w_scope, ↓w_block, ↓w_cond, cond_true', cond_false', ↓t_nil, ↓t_plain, ↓t_guard, ↓t_gagain, ↓t_again, t_val, t_call, g_true, g_false, ga_true, ga_false, a_val, a_call, ↓n_normal, ↓n_ret, ↓n_exit, ↓b_normal, ↓b_ret, ↓b_exit, ↓e_normal, ↓e_ret, e_some, go_sem, ↓reduceIte, Nat.reduceEqDiff, Nat.reduceLT, Nat.reduceSub]
  refine call_eq (lSame_runs v v' _ _ (by omega) M7 (A1.grew hG7).1 A2.1) ?_
  rw [decide_eq_true rfl]
  have hG07 := (hG05.trans hG6).trans hG7
  have T7 := T.grew hG07
  have r7 := r.grew hG07
  have g67 := (hG7.old _ (by have := hG6.next; omega)).trans g66
  have g77 := ((hG7.old _ (by have := hG6.next; omega)).trans ((hG6.old _ l75).trans ((hG5.old _ (by have := hG4.next; omega)).trans (hG4.old _ l73)))).trans g73
  refine WT_abs (fun fr => fr.rd 0 = .ptr (some (tc, 0)) ∧ fr.rd 1 = .ptr (some (rc, 0)) ∧ fr.rd 6 = .ptr (some (M.next, 0)) ∧ fr.rd 7 = .ptr (some (M.next + 1, 0)) ∧ fr.rd 52 = .bool true ∧ fr.rd 59 = .bool true) ⟨by simp only [go_sem, ↓reduceIte, Nat.reduceEqDiff, Nat.reduceLT, Nat.reduceSub, f0], by simp only [go_sem, ↓reduceIte, Nat.reduceEqDiff, Nat.reduceLT, Nat.reduceSub, f1], by simp only [go_sem, ↓reduceIte, Nat.reduceEqDiff, Nat.reduceLT, Nat.reduceSub, f6], by simp only [go_sem, ↓reduceIte, Nat.reduceEqDiff, Nat.reduceLT, Nat.reduceSub, f7], by simp only [go_sem, ↓reduceIte, Nat.reduceEqDiff, Nat.reduceLT, Nat.reduceSub], by simp only [go_sem, ↓reduceIte, Nat.reduceEqDiff, Nat.reduceLT, Nat.reduceSub]⟩ ?_
  clear f0 f1 f6 f7 f43 f50 fr
  intro fr hfr
  obtain ⟨f0, f1, f6, f7, f52, f59⟩ := hfr
  simp -dsimp only [↓w_seq, ↓w_ops, ↓w_skip, ↓w_ret, ↓w_exit, ↓w_scope, ↓w_block, ↓w_cond, cond_true', cond_false', ↓t_nil, ↓t_plain, ↓t_guard, ↓t_gagain, ↓t_again, t_val, t_call, g_true, g_false, ga_true, ga_false, a_val, a_call, ↓n_normal, ↓n_ret, ↓n_exit, ↓b_normal, ↓b_ret, ↓b_exit, ↓e_normal, ↓e_ret, e_some, go_sem, ↓reduceIte, Nat.reduceEqDiff, Nat.reduceLT, Nat.reduceSub, f52, f59, f0, f1, f6, f7, vload, vptr, Mem.read, g67, g77, hrn]
  refine callA_by (k := ⟨⟩) (l' := ⟨⟩) (g' := ⟨⟩) (within_p rfl T7.of p n hp) ?_
  intro v M8 hv
  rw [hv.1, hv.2]
  clear hv
  refine ⟨?_, ?_⟩
  · simp only [List.all_cons, List.all_nil, Bool.and_true, againOk, wantedA, cond_true, go_sem, ↓reduceIte, Nat.reduceEqDiff, Nat.reduceLT, Nat.reduceSub, vload, vptr, Mem.read, f6, f7, g67, g77, hrn, sameCells, Nat.zero_add, V.beq, V.beq_self, V.beqs_self, Bool.and_self, Nat.reduceAdd, Nat.reduceLeDiff, decide_true, cond_true]
  simp -dsimp only [↓w_seq, ↓w_ops, ↓w_skip, ↓w_ret, ↓w_exit, ↓w_scope, ↓w_block, ↓w_cond, cond_true', cond_false', ↓t_nil, ↓t_plain, ↓t_guard, ↓t_gagain, ↓t_again, t_val, t_call, g_true, g_false, ga_true, ga_false, a_val, a_call, ↓n_normal, ↓n_ret, ↓n_exit, ↓b_normal, ↓b_ret, ↓b_exit, ↓e_normal, ↓e_ret, e_some, go_sem, ↓reduceIte, Nat.reduceEqDiff, Nat.reduceLT, Nat.reduceSub]
  refine call_of (rWithin_runs rc s (rowsL l) p n M7 r7) ?_
  intro v M8 hv
  rw [hv.1, within_is hI]
  have hG8 := hv.2
  clear hv
  simp -dsimp only [↓w_seq, ↓w_ops, ↓w_skip, ↓w_ret, ↓w_exit, ↓w_scope, ↓w_block, ↓w_cond, cond_true', cond_false', ↓t_nil, ↓t_plain, ↓t_guard, ↓t_gagain, ↓t_again, t_val, t_call, g_true, g_false, ga_true, ga_false, a_val, a_call, ↓n_normal, ↓n_ret, ↓n_exit, ↓b_normal, ↓b_ret, ↓b_exit, ↓e_normal, ↓e_ret, e_some, go_sem, ↓reduceIte, Nat.reduceEqDiff, Nat.reduceLT, Nat.reduceSub, bool_same]
  exact hR _ _ ⟨rfl, hG07.trans hG8⟩
end Go.Am.Tryd


/- The law's step: an act on both, and they agree. -/
namespace Go.Am.Tryd
open Go Go.Am Go.Proofs Go.Sort Go.Shelf
set_option maxRecDepth 100000
set_option linter.unusedSimpArgs false
set_option linter.unusedVariables false

/-- A tree and the reference's, apart in memory. -/
structure TR (M : Mem) (tc bm rc : Nat) (s : V) (l : Tr) : Prop where
  T : TreeIn M tc bm l
  r : RefIn M rc s (rowsL l)
  d1 : rc ≠ tc
  d2 : rc ≠ bm
  d3 : s.blk ≠ some tc
  d4 : s.blk ≠ some bm
theorem TR.grew {M M' : Mem} {tc bm rc : Nat} {s : V} {l : Tr} (h : TR M tc bm rc s l) (hG : Grew M M') : TR M' tc bm rc s l := ⟨h.T.grew hG, h.r.grew hG, h.d1, h.d2, h.d3, h.d4⟩
/-- What a step comes to. -/
def StepTo (M : Mem) (tc bm rc : Nat) (s : V) (M' : Mem) (l' : Tr) : Prop := ∃ s', TR M' tc bm rc s' l' ∧ (s' = s ∨ ∀ b, s'.blk = some b → M.next ≤ b) ∧ M.next ≤ M'.next ∧ ∀ c, c < M.next → c ≠ bm → c ≠ rc → s.blk ≠ some c → M'.get c = M.get c
theorem StepTo.same {M M' : Mem} {tc bm rc : Nat} {s : V} {l : Tr} (h : TR M tc bm rc s l) (hG : Grew M M') : StepTo M tc bm rc s M' l := ⟨s, h.grew hG, .inl rfl, hG.next, fun c hc _ _ _ => hG.old c hc⟩
/-- The one changed, then the other. -/
theorem StepTo.both {M M1 M2 M3 : Mem} {tc bm rc : Nat} {s : V} {l l' : Tr} (h : TR M tc bm rc s l) (h1 : M.next ≤ M1.next) (o1 : ∀ c, c < M.next → c ≠ bm → M1.get c = M.get c) (hT : TreeIn M1 tc bm l') (hr : RefTo M1 rc s M2 (rowsL l')) (hG : Grew M2 M3) : StepTo M tc bm rc s M3 l' := by
  obtain ⟨s', t1, t2, t3⟩ := hr
  have htl := h.T.tl
  have hbl := h.T.bl
  have hs' : ∀ b, s'.blk = some b → (s' = s ∧ s.blk = some b) ∨ M.next ≤ b := fun b hb => by
    rcases t2 with e | t2
    · exact .inl ⟨e, e ▸ hb⟩
    · exact .inr (Nat.le_trans h1 (t2 b hb))
  have hT2 : TreeIn M2 tc bm l' := ⟨(t3.old _ hT.tl h.d1.symm h.d3).trans hT.c, (t3.old _ hT.bl h.d2.symm h.d4).trans hT.m, Nat.lt_of_lt_of_le hT.tl t3.next, Nat.lt_of_lt_of_le hT.bl t3.next⟩
  refine ⟨s', ⟨hT2.grew hG, t1.grew hG, h.d1, h.d2, fun e => ?_, fun e => ?_⟩, ?_, Nat.le_trans h1 (Nat.le_trans t3.next hG.next), fun c hc a1 a2 a3 => ?_⟩
  · rcases hs' _ e with ⟨_, e2⟩ | e2
    · exact h.d3 e2
    · omega
  · rcases hs' _ e with ⟨_, e2⟩ | e2
    · exact h.d4 e2
    · omega
  · rcases t2 with e | t2
    · exact .inl e
    · exact .inr fun b hb => Nat.le_trans h1 (t2 b hb)
  · rw [hG.old c (Nat.lt_of_lt_of_le hc (Nat.le_trans h1 t3.next)), t3.old c (Nat.lt_of_lt_of_le hc h1) a2 a3]
    exact o1 c hc a1
theorem StepTo.pre {M M1 M' : Mem} {tc bm rc : Nat} {s : V} {l' : Tr} (hG : Grew M M1) (h : StepTo M1 tc bm rc s M' l') : StepTo M tc bm rc s M' l' := by
  obtain ⟨s', t1, t2, t3, t4⟩ := h
  refine ⟨s', t1, ?_, Nat.le_trans hG.next t3, fun c hc a1 a2 a3 => (t4 c (Nat.lt_of_lt_of_le hc hG.next) a1 a2 a3).trans (hG.old c hc)⟩
  rcases t2 with e | t2
  · exact .inl e
  · exact .inr fun b hb => Nat.le_trans hG.next (t2 b hb)

theorem step0 (M : Mem) (tc bm rc b5 : Nat) (s : V) (l : Tr) (k : Int) (n : St) (sp : Spot) (h : TR M tc bm rc s l) (hI : Inv l) (hl : l.length ≤ 1000) (hg : isG M = true) (hn2 : 2 ≤ M.next) (hb : M.get b5 = some (.cells (actC (k, n, sp)) false)) (lb : b5 < M.next) (nb : b5 ≠ bm) {K : Fr → Mem → Prop}
    (hK : ∀ fr M', StepTo M tc bm rc s M' (addT l n sp) → fr.rd 6 = .bool true → K fr M') (fr : Fr) (f0 : fr.rd 0 = .ptr (some (tc, 0))) (f1 : fr.rd 1 = .ptr (some (rc, 0))) (f5 : fr.rd 5 = .ptr (some (b5, 0))) : WT D2 91 A_law10_step_3 fr M (K := K) ⟨⟩ := by
  have r1 : rdCells (actC (k, n, sp)) 1 2 = some (stC n) := rfl
  have r3 : rdCells (actC (k, n, sp)) 3 3 = some (spC sp) := rfl
  simp -dsimp only [↓w_seq, ↓w_ops, ↓w_skip, ↓w_ret, ↓w_exit, ↓w_scope, ↓w_block, ↓w_cond, cond_true', cond_false', ↓t_nil, ↓t_plain, ↓t_guard, ↓t_gagain, ↓t_again, t_val, t_call, g_true, g_false, ga_true, ga_false, a_val, a_call, ↓n_normal, ↓n_ret, ↓n_exit, ↓b_normal, ↓b_ret, ↓b_exit, ↓e_normal, ↓e_ret, e_some, go_sem, ↓reduceIte, Nat.reduceEqDiff, Nat.reduceLT, Nat.reduceSub, A_law10_step_3, f0, f1, f5, vload, vptr, Mem.read, hb, r1, r3, Nat.zero_add]
  refine callA_by (k := ⟨⟩) (l' := ⟨⟩) (g' := ⟨⟩) (own_p rfl sp) ?_
  intro v M2 hv
  rw [hv.1, hv.2]
  clear hv
  refine ⟨?_, ?_⟩
  · simp only [List.all_cons, List.all_nil, Bool.and_true, againOk, wantedA, cond_true, go_sem, ↓reduceIte, Nat.reduceEqDiff, Nat.reduceLT, Nat.reduceSub, vload, vptr, Mem.read, hb, r1, r3, sameCells, Nat.zero_add, V.beq, V.beq_self, V.beqs_self, Bool.and_self, Nat.reduceAdd, Nat.reduceLeDiff, decide_true, cond_true]
  simp -dsimp only [↓w_seq, ↓w_ops, ↓w_skip, ↓w_ret, ↓w_exit, ↓w_scope, ↓w_block, ↓w_cond, cond_true', cond_false', ↓t_nil, ↓t_plain, ↓t_guard, ↓t_gagain, ↓t_again, t_val, t_call, g_true, g_false, ga_true, ga_false, a_val, a_call, ↓n_normal, ↓n_ret, ↓n_exit, ↓b_normal, ↓b_ret, ↓b_exit, ↓e_normal, ↓e_ret, e_some, go_sem, ↓reduceIte, Nat.reduceEqDiff, Nat.reduceLT, Nat.reduceSub]
  refine callA_by (k := ⟨⟩) (l' := ⟨⟩) (g' := ⟨⟩) (Add_runs M tc bm l n sp h.T hg hn2) ?_
  intro v M2 hv
  rw [hv.1]
  have hC := hv.2.1
  have hT := hv.2.2
  clear hv
  have hb2 := (hC.old _ lb nb).trans hb
  refine ⟨?_, ?_⟩
  · simp only [List.all_cons, List.all_nil, Bool.and_true, againOk, wantedA, cond_true, go_sem, ↓reduceIte, Nat.reduceEqDiff, Nat.reduceLT, Nat.reduceSub, vload, vptr, Mem.read, hb2, r1, r3, sameCells, Nat.zero_add, V.beq, V.beq_self, V.beqs_self, Bool.and_self, Nat.reduceAdd, Nat.reduceLeDiff, decide_true, cond_true]
  simp -dsimp only [↓w_seq, ↓w_ops, ↓w_skip, ↓w_ret, ↓w_exit, ↓w_scope, ↓w_block, ↓w_cond, cond_true', cond_false', ↓t_nil, ↓t_plain, ↓t_guard, ↓t_gagain, ↓t_again, t_val, t_call, g_true, g_false, ga_true, ga_false, a_val, a_call, ↓n_normal, ↓n_ret, ↓n_exit, ↓b_normal, ↓b_ret, ↓b_exit, ↓e_normal, ↓e_ret, e_some, go_sem, ↓reduceIte, Nat.reduceEqDiff, Nat.reduceLT, Nat.reduceSub]
  refine callA_by (k := ⟨⟩) (l' := ⟨⟩) (g' := ⟨⟩) (num_p M2 (addE l n sp : Int)) ?_
  intro v M3 hv
  rw [hv.1, hv.2]
  clear hv
  refine ⟨?_, ?_⟩
  · simp only [List.all_cons, List.all_nil, Bool.and_true, againOk, wantedA, cond_true, go_sem, ↓reduceIte, Nat.reduceEqDiff, Nat.reduceLT, Nat.reduceSub, vload, vptr, Mem.read, hb2, r1, r3, sameCells, Nat.zero_add, V.beq, V.beq_self, V.beqs_self, Bool.and_self, Nat.reduceAdd, Nat.reduceLeDiff, decide_true, cond_true]
  simp -dsimp only [↓w_seq, ↓w_ops, ↓w_skip, ↓w_ret, ↓w_exit, ↓w_scope, ↓w_block, ↓w_cond, cond_true', cond_false', ↓t_nil, ↓t_plain, ↓t_guard, ↓t_gagain, ↓t_again, t_val, t_call, g_true, g_false, ga_true, ga_false, a_val, a_call, ↓n_normal, ↓n_ret, ↓n_exit, ↓b_normal, ↓b_ret, ↓b_exit, ↓e_normal, ↓e_ret, e_some, go_sem, ↓reduceIte, Nat.reduceEqDiff, Nat.reduceLT, Nat.reduceSub]
  have hr2 : RefIn M2 rc s (rowsL l) := h.r.keep (hC.old _ h.r.rl h.d2) (fun b hb => hC.old b (h.r.ho.blk_le hb).2 (fun e => h.d4 (e ▸ hb))) hC.next
  refine call_of (rAdd_runs rc s (rowsL l) n sp M2 hr2 (by rw [rows_len]; omega)) ?_
  intro v M3 hv
  rw [hv.1, addE_is hI]
  have hto := hv.2
  rw [addL_is hI] at hto
  clear hv
  simp -dsimp only [↓w_seq, ↓w_ops, ↓w_skip, ↓w_ret, ↓w_exit, ↓w_scope, ↓w_block, ↓w_cond, cond_true', cond_false', ↓t_nil, ↓t_plain, ↓t_guard, ↓t_gagain, ↓t_again, t_val, t_call, g_true, g_false, ga_true, ga_false, a_val, a_call, ↓n_normal, ↓n_ret, ↓n_exit, ↓b_normal, ↓b_ret, ↓b_exit, ↓e_normal, ↓e_ret, e_some, go_sem, ↓reduceIte, Nat.reduceEqDiff, Nat.reduceLT, Nat.reduceSub, decide_true]
  exact hK _ _ (StepTo.both h hC.next hC.old hT hto (Grew.refl _)) (by simp only [go_sem, ↓reduceIte, Nat.reduceEqDiff, Nat.reduceLT, Nat.reduceSub])

set_option maxHeartbeats 1000000 in
theorem step1 (M : Mem) (tc bm rc b5 : Nat) (s : V) (l : Tr) (k : Int) (n : St) (sp : Spot) (h : TR M tc bm rc s l) (hI : Inv l) (hl : l.length ≤ 1000) (hg : isG M = true) (hn2 : 2 ≤ M.next) (hb : M.get b5 = some (.cells (actC (k, n, sp)) false)) (lb : b5 < M.next) (nb : b5 ≠ bm) (nb2 : b5 ≠ rc) (nb3 : s.blk ≠ some b5) {Q : AExit → Fr → Mem → Prop}
    (hR : ∀ fr M', StepTo M tc bm rc s M' (moveT l n sp) → fr.rd 6 = .bool true → Q .ret fr M') (fr : Fr) (f0 : fr.rd 0 = .ptr (some (tc, 0))) (f1 : fr.rd 1 = .ptr (some (rc, 0))) (f5 : fr.rd 5 = .ptr (some (b5, 0))) : W D2 91 (.seq (.ops A_law10_step_5) (.seq (.ops A_law10_step_6) (.seq (.ops A_law10_step_7) .ret))) fr M (Q := Q) ⟨⟩ := by
  have r1 : rdCells (actC (k, n, sp)) 1 2 = some (stC n) := rfl
  have r3 : rdCells (actC (k, n, sp)) 3 3 = some (spC sp) := rfl
  have hcs : ∀ s, V.cells (.agg (spC s)) = spC s := fun _ => rfl
  have hrs : ∀ s, rdCells (spC s) 0 3 = some (spC s) := fun _ => rfl
  have hGp := Grew.push M (.cells [.int .i64 0, .int .i64 0, .str []] false)
  have hp := h.grew hGp
  have hMp := (hGp.old _ lb).trans hb
  have g7 : (M.push (.cells [.int .i64 0, .int .i64 0, .str []] false)).get M.next = some (.cells (spC sp0) false) := Mem.get_push_same _ _
  have hnp : (M.push (.cells [.int .i64 0, .int .i64 0, .str []] false)).next = M.next + 1 := rfl
  have hgp := isG_keep hg hn2 hGp.old
  have hbm := h.T.bl
  have htm := h.T.tl
  have hrl := h.r.rl
  have hsb : ∀ b, s.blk = some b → b < M.next := fun b hb => (h.r.ho.blk_le hb).2
  simp -dsimp only [↓w_seq, ↓w_ops, ↓w_skip, ↓w_ret, ↓w_exit, ↓w_scope, ↓w_block, ↓w_cond, cond_true', cond_false', ↓t_nil, ↓t_plain, ↓t_guard, ↓t_gagain, ↓t_again, t_val, t_call, g_true, g_false, ga_true, ga_false, a_val, a_call, ↓n_normal, ↓n_ret, ↓n_exit, ↓b_normal, ↓b_ret, ↓b_exit, ↓e_normal, ↓e_ret, e_some, go_sem, ↓reduceIte, Nat.reduceEqDiff, Nat.reduceLT, Nat.reduceSub, A_law10_step_5, f0, f5, vload, vptr, Mem.read, hb, r1, r3, Nat.zero_add]
  generalize M.push (.cells [.int .i64 0, .int .i64 0, .str []] false) = Mp at *
  refine callA_by (k := ⟨⟩) (l' := ⟨⟩) (g' := ⟨⟩) (own_p rfl sp) ?_
  intro v M2 hv
  rw [hv.1, hv.2]
  clear hv
  refine ⟨?_, ?_⟩
  · simp only [List.all_cons, List.all_nil, Bool.and_true, againOk, wantedA, cond_true, go_sem, ↓reduceIte, Nat.reduceEqDiff, Nat.reduceLT, Nat.reduceSub, vload, vptr, Mem.read, hMp, g7, r1, sameCells, Nat.zero_add, V.beq, V.beq_self, V.beqs_self, Bool.and_self, Nat.reduceAdd, Nat.reduceLeDiff, decide_true, cond_true]
  simp -dsimp only [↓w_seq, ↓w_ops, ↓w_skip, ↓w_ret, ↓w_exit, ↓w_scope, ↓w_block, ↓w_cond, cond_true', cond_false', ↓t_nil, ↓t_plain, ↓t_guard, ↓t_gagain, ↓t_again, t_val, t_call, g_true, g_false, ga_true, ga_false, a_val, a_call, ↓n_normal, ↓n_ret, ↓n_exit, ↓b_normal, ↓b_ret, ↓b_exit, ↓e_normal, ↓e_ret, e_some, go_sem, ↓reduceIte, Nat.reduceEqDiff, Nat.reduceLT, Nat.reduceSub]
  refine callA_by (k := ⟨⟩) (l' := ⟨⟩) (g' := ⟨⟩) (Move_runs Mp tc bm l n sp hp.T hgp (by omega) hI) ?_
  intro v M2 hv
  rw [hv.1]
  have hC := hv.2.1
  have hT2 := hv.2.2
  clear hv
  have hn2' := hC.next
  have g72 := (hC.old _ (by omega) (by omega)).trans g7
  refine ⟨?_, ?_⟩
  · simp only [List.all_cons, List.all_nil, Bool.and_true, againOk, wantedA, cond_true, go_sem, ↓reduceIte, Nat.reduceEqDiff, Nat.reduceLT, Nat.reduceSub, g72, g7, sameCells, Nat.zero_add, V.beq, V.beq_self, V.beqs_self, Bool.and_self, Nat.reduceAdd, Nat.reduceLeDiff, decide_true, cond_true]
  have hw := write_full (vs := spC (moveW l n sp)) g72 rfl rfl
  simp -dsimp only [↓w_seq, ↓w_ops, ↓w_skip, ↓w_ret, ↓w_exit, ↓w_scope, ↓w_block, ↓w_cond, cond_true', cond_false', ↓t_nil, ↓t_plain, ↓t_guard, ↓t_gagain, ↓t_again, t_val, t_call, g_true, g_false, ga_true, ga_false, a_val, a_call, ↓n_normal, ↓n_ret, ↓n_exit, ↓b_normal, ↓b_ret, ↓b_exit, ↓e_normal, ↓e_ret, e_some, go_sem, ↓reduceIte, Nat.reduceEqDiff, Nat.reduceLT, Nat.reduceSub, List.getElem?_cons_zero, List.getElem?_cons_succ, vstore, hcs, spC_len, hw, Nat.reduceEqDiff]
  have u3 : ∀ c, c ≠ M.next → (M2.set M.next (.cells (spC (moveW l n sp)) false)).get c = M2.get c := fun c hc => Mem.get_set_ne _ _ hc
  have s3 := Mem.get_set_same M2 M.next (.cells (spC (moveW l n sp)) false)
  have n3 : (M2.set M.next (.cells (spC (moveW l n sp)) false)).next = M2.next := rfl
  generalize M2.set M.next (.cells (spC (moveW l n sp)) false) = M3 at *
  have o3 : ∀ c, c < M.next → c ≠ bm → M3.get c = M.get c := fun c hc hne => by rw [u3 c (by omega), hC.old c (by omega) hne, hGp.old c hc]
  have hT3 : TreeIn M3 tc bm (moveT l n sp) := ⟨(u3 _ (by omega)).trans hT2.c, (u3 _ (by omega)).trans hT2.m, by have := hT2.tl; omega, by have := hT2.bl; omega⟩
  have hr3 : RefIn M3 rc s (rowsL l) := h.r.keep (o3 _ hrl h.d2) (fun b hb => o3 b (hsb b hb) (fun e => h.d4 (e ▸ hb))) (by omega)
  have hb3 := (o3 _ lb nb).trans hb
  refine WT_abs (fun fr => fr.rd 1 = .ptr (some (rc, 0)) ∧ fr.rd 5 = .ptr (some (b5, 0)) ∧ fr.rd 7 = .ptr (some (M.next, 0)) ∧ fr.rd 8 = .int .i64 (moveE l n sp : Int)) ⟨by simp only [go_sem, ↓reduceIte, Nat.reduceEqDiff, Nat.reduceLT, Nat.reduceSub, f1], by simp only [go_sem, ↓reduceIte, Nat.reduceEqDiff, Nat.reduceLT, Nat.reduceSub, f5], by simp only [go_sem, ↓reduceIte, Nat.reduceEqDiff, Nat.reduceLT, Nat.reduceSub], by simp only [go_sem, ↓reduceIte, Nat.reduceEqDiff, Nat.reduceLT, Nat.reduceSub]⟩ ?_
  clear f0 f1 f5 fr
  intro fr hfr
  obtain ⟨f1, f5, f7, f8⟩ := hfr
  simp -dsimp only [↓w_seq, ↓w_ops, ↓w_skip, ↓w_ret, ↓w_exit, ↓w_scope, ↓w_block, ↓w_cond, cond_true', cond_false', ↓t_nil, ↓t_plain, ↓t_guard, ↓t_gagain, ↓t_again, t_val, t_call, g_true, g_false, ga_true, ga_false, a_val, a_call, ↓n_normal, ↓n_ret, ↓n_exit, ↓b_normal, ↓b_ret, ↓b_exit, ↓e_normal, ↓e_ret, e_some, go_sem, ↓reduceIte, Nat.reduceEqDiff, Nat.reduceLT, Nat.reduceSub, A_law10_step_6, f1, f5, vload, vptr, Mem.read, hb3, r1, r3, Nat.zero_add]
  refine call_of (rMove_runs rc s (rowsL l) n sp M3 hr3) ?_
  intro v M4 hv
  rw [hv.1, moveE_is hI, moveW_is hI]
  have hto := hv.2
  rw [moveL_is hI] at hto
  clear hv
  have k2 : Keep2 M3 rc s M4 := by obtain ⟨_, _, _, k⟩ := hto; exact k
  have w9 := write_full (M := M4.push (.cells [.int .i64 0, .int .i64 0, .str []] false)) (b := M4.next) (vs := spC (moveW l n sp)) (Mem.get_push_same _ _) rfl rfl
  simp -dsimp only [↓w_seq, ↓w_ops, ↓w_skip, ↓w_ret, ↓w_exit, ↓w_scope, ↓w_block, ↓w_cond, cond_true', cond_false', ↓t_nil, ↓t_plain, ↓t_guard, ↓t_gagain, ↓t_again, t_val, t_call, g_true, g_false, ga_true, ga_false, a_val, a_call, ↓n_normal, ↓n_ret, ↓n_exit, ↓b_normal, ↓b_ret, ↓b_exit, ↓e_normal, ↓e_ret, e_some, go_sem, ↓reduceIte, Nat.reduceEqDiff, Nat.reduceLT, Nat.reduceSub, List.getElem?_cons_zero, List.getElem?_cons_succ, vstore, hcs, spC_len, w9, Nat.reduceEqDiff]
  have hG5 : Grew M4 ((M4.push (.cells [.int .i64 0, .int .i64 0, .str []] false)).set M4.next (.cells (spC (moveW l n sp)) false)) := (Grew.push M4 _).upd (Nat.le_refl _) (Upd.set _ _ _)
  have g9 := Mem.get_set_same (M4.push (.cells [.int .i64 0, .int .i64 0, .str []] false)) M4.next (.cells (spC (moveW l n sp)) false)
  clear w9
  generalize (M4.push (.cells [.int .i64 0, .int .i64 0, .str []] false)).set M4.next (.cells (spC (moveW l n sp)) false) = M5 at *
  have g75 : M5.get M.next = some (.cells (spC (moveW l n sp)) false) := by
    rw [hG5.old _ (by have := k2.next; omega), k2.old _ (by omega) (by omega) (fun e => by have := hsb _ e; omega)]
    exact s3
  have fin := StepTo.both h (show M.next ≤ M3.next by omega) o3 hT3 hto hG5
  refine WT_abs (fun fr => fr.rd 7 = .ptr (some (M.next, 0)) ∧ fr.rd 8 = .int .i64 (moveE l n sp : Int) ∧ fr.rd 9 = .ptr (some (M4.next, 0)) ∧ fr.rd 10 = .int .i64 (moveE l n sp : Int)) ⟨by simp only [go_sem, ↓reduceIte, Nat.reduceEqDiff, Nat.reduceLT, Nat.reduceSub, f7], by simp only [go_sem, ↓reduceIte, Nat.reduceEqDiff, Nat.reduceLT, Nat.reduceSub, f8], by simp only [go_sem, ↓reduceIte, Nat.reduceEqDiff, Nat.reduceLT, Nat.reduceSub], by simp only [go_sem, ↓reduceIte, Nat.reduceEqDiff, Nat.reduceLT, Nat.reduceSub]⟩ ?_
  clear f1 f5 f7 f8 fr
  intro fr hfr
  obtain ⟨f7, f8, f9, f10⟩ := hfr
  simp -dsimp only [↓w_seq, ↓w_ops, ↓w_skip, ↓w_ret, ↓w_exit, ↓w_scope, ↓w_block, ↓w_cond, cond_true', cond_false', ↓t_nil, ↓t_plain, ↓t_guard, ↓t_gagain, ↓t_again, t_val, t_call, g_true, g_false, ga_true, ga_false, a_val, a_call, ↓n_normal, ↓n_ret, ↓n_exit, ↓b_normal, ↓b_ret, ↓b_exit, ↓e_normal, ↓e_ret, e_some, go_sem, ↓reduceIte, Nat.reduceEqDiff, Nat.reduceLT, Nat.reduceSub, A_law10_step_7, f7, f9, vload, vptr, Mem.read, g75, g9, hrs]
  refine callA_by (k := ⟨⟩) (l' := ⟨⟩) (g' := ⟨⟩) (own_p rfl (moveW l n sp)) ?_
  intro v M6 hv
  rw [hv.1, hv.2]
  clear hv
  refine ⟨?_, ?_⟩
  · simp only [List.all_cons, List.all_nil, Bool.and_true, againOk, wantedA, cond_true, go_sem, ↓reduceIte, Nat.reduceEqDiff, Nat.reduceLT, Nat.reduceSub, vload, vptr, Mem.read, f7, g75, hrs, sameCells, Nat.zero_add, V.beq, V.beq_self, V.beqs_self, Bool.and_self, Nat.reduceAdd, Nat.reduceLeDiff, decide_true, cond_true]
  simp -dsimp only [↓w_seq, ↓w_ops, ↓w_skip, ↓w_ret, ↓w_exit, ↓w_scope, ↓w_block, ↓w_cond, cond_true', cond_false', ↓t_nil, ↓t_plain, ↓t_guard, ↓t_gagain, ↓t_again, t_val, t_call, g_true, g_false, ga_true, ga_false, a_val, a_call, ↓n_normal, ↓n_ret, ↓n_exit, ↓b_normal, ↓b_ret, ↓b_exit, ↓e_normal, ↓e_ret, e_some, go_sem, ↓reduceIte, Nat.reduceEqDiff, Nat.reduceLT, Nat.reduceSub, sp_same, decide_true, f8, f10]
  refine call_eq (num_p M5 (moveE l n sp : Int)) ?_
  simp -dsimp only [↓w_seq, ↓w_ops, ↓w_skip, ↓w_ret, ↓w_exit, ↓w_scope, ↓w_block, ↓w_cond, cond_true', cond_false', ↓t_nil, ↓t_plain, ↓t_guard, ↓t_gagain, ↓t_again, t_val, t_call, g_true, g_false, ga_true, ga_false, a_val, a_call, ↓n_normal, ↓n_ret, ↓n_exit, ↓b_normal, ↓b_ret, ↓b_exit, ↓e_normal, ↓e_ret, e_some, go_sem, ↓reduceIte, Nat.reduceEqDiff, Nat.reduceLT, Nat.reduceSub, decide_true]
  exact hR _ _ fin (by simp only [go_sem, ↓reduceIte, Nat.reduceEqDiff, Nat.reduceLT, Nat.reduceSub])

set_option maxHeartbeats 1000000 in
theorem step2 (M : Mem) (tc bm rc b5 : Nat) (s : V) (l : Tr) (k : Int) (n : St) (sp : Spot) (h : TR M tc bm rc s l) (hI : Inv l) (hl : l.length ≤ 1000) (hb : M.get b5 = some (.cells (actC (k, n, sp)) false)) (lb : b5 < M.next) (nb : b5 ≠ bm) (nb2 : b5 ≠ rc) (nb3 : s.blk ≠ some b5) {Q : AExit → Fr → Mem → Prop}
    (hR : ∀ fr M', StepTo M tc bm rc s M' (dropT l n) → fr.rd 6 = .bool true → Q .ret fr M') (fr : Fr) (f0 : fr.rd 0 = .ptr (some (tc, 0))) (f1 : fr.rd 1 = .ptr (some (rc, 0))) (f5 : fr.rd 5 = .ptr (some (b5, 0))) : W D2 91 (.seq (.ops A_law10_step_9) (.seq (.ops A_law10_step_10) (.seq (.ops A_law10_step_11) .ret))) fr M (Q := Q) ⟨⟩ := by
  have r1 : rdCells (actC (k, n, sp)) 1 2 = some (stC n) := rfl
  have hcs : ∀ s, V.cells (.agg (spC s)) = spC s := fun _ => rfl
  have hrs : ∀ s, rdCells (spC s) 0 3 = some (spC s) := fun _ => rfl
  have hrl := h.r.rl
  have hsb : ∀ b, s.blk = some b → b < M.next := fun b hb => (h.r.ho.blk_le hb).2
  have hbm := h.T.bl
  simp -dsimp only [↓w_seq, ↓w_ops, ↓w_skip, ↓w_ret, ↓w_exit, ↓w_scope, ↓w_block, ↓w_cond, cond_true', cond_false', ↓t_nil, ↓t_plain, ↓t_guard, ↓t_gagain, ↓t_again, t_val, t_call, g_true, g_false, ga_true, ga_false, a_val, a_call, ↓n_normal, ↓n_ret, ↓n_exit, ↓b_normal, ↓b_ret, ↓b_exit, ↓e_normal, ↓e_ret, e_some, go_sem, ↓reduceIte, Nat.reduceEqDiff, Nat.reduceLT, Nat.reduceSub, A_law10_step_9, f0, f5, vload, vptr, Mem.read, hb, r1, Nat.zero_add]
  refine call_of (Drop_runs M tc bm l n h.T (room_small hl)) ?_
  intro v M2 hv
  rw [hv.1]
  have hC := hv.2.1
  have hT2 := hv.2.2
  clear hv
  have w11 := write_full (M := M2.push (.cells [.int .i64 0, .int .i64 0, .str []] false)) (b := M2.next) (vs := spC (dropW l n)) (Mem.get_push_same _ _) rfl rfl
  simp -dsimp only [↓w_seq, ↓w_ops, ↓w_skip, ↓w_ret, ↓w_exit, ↓w_scope, ↓w_block, ↓w_cond, cond_true', cond_false', ↓t_nil, ↓t_plain, ↓t_guard, ↓t_gagain, ↓t_again, t_val, t_call, g_true, g_false, ga_true, ga_false, a_val, a_call, ↓n_normal, ↓n_ret, ↓n_exit, ↓b_normal, ↓b_ret, ↓b_exit, ↓e_normal, ↓e_ret, e_some, go_sem, ↓reduceIte, Nat.reduceEqDiff, Nat.reduceLT, Nat.reduceSub, List.getElem?_cons_zero, List.getElem?_cons_succ, vstore, hcs, spC_len, w11, Nat.reduceEqDiff]
  have hG3 : Grew M2 ((M2.push (.cells [.int .i64 0, .int .i64 0, .str []] false)).set M2.next (.cells (spC (dropW l n)) false)) := (Grew.push M2 _).upd (Nat.le_refl _) (Upd.set _ _ _)
  have g11 := Mem.get_set_same (M2.push (.cells [.int .i64 0, .int .i64 0, .str []] false)) M2.next (.cells (spC (dropW l n)) false)
  have hn3 : ((M2.push (.cells [.int .i64 0, .int .i64 0, .str []] false)).set M2.next (.cells (spC (dropW l n)) false)).next = M2.next + 1 := rfl
  clear w11
  generalize (M2.push (.cells [.int .i64 0, .int .i64 0, .str []] false)).set M2.next (.cells (spC (dropW l n)) false) = M3 at *
  have hn2 := hC.next
  have o3 : ∀ c, c < M.next → c ≠ bm → M3.get c = M.get c := fun c hc hne => by rw [hG3.old c (by omega), hC.old c hc hne]
  have hT3 := hT2.grew hG3
  have hr3 : RefIn M3 rc s (rowsL l) := h.r.keep (o3 _ hrl h.d2) (fun b hb => o3 b (hsb b hb) (fun e => h.d4 (e ▸ hb))) (by omega)
  have hb3 := (o3 _ lb nb).trans hb
  refine WT_abs (fun fr => fr.rd 1 = .ptr (some (rc, 0)) ∧ fr.rd 5 = .ptr (some (b5, 0)) ∧ fr.rd 11 = .ptr (some (M2.next, 0)) ∧ fr.rd 12 = .int .i64 (dropE l n : Int)) ⟨by simp only [go_sem, ↓reduceIte, Nat.reduceEqDiff, Nat.reduceLT, Nat.reduceSub, f1], by simp only [go_sem, ↓reduceIte, Nat.reduceEqDiff, Nat.reduceLT, Nat.reduceSub, f5], by simp only [go_sem, ↓reduceIte, Nat.reduceEqDiff, Nat.reduceLT, Nat.reduceSub], by simp only [go_sem, ↓reduceIte, Nat.reduceEqDiff, Nat.reduceLT, Nat.reduceSub]⟩ ?_
  clear f0 f1 f5 fr
  intro fr hfr
  obtain ⟨f1, f5, f11, f12⟩ := hfr
  simp -dsimp only [↓w_seq, ↓w_ops, ↓w_skip, ↓w_ret, ↓w_exit, ↓w_scope, ↓w_block, ↓w_cond, cond_true', cond_false', ↓t_nil, ↓t_plain, ↓t_guard, ↓t_gagain, ↓t_again, t_val, t_call, g_true, g_false, ga_true, ga_false, a_val, a_call, ↓n_normal, ↓n_ret, ↓n_exit, ↓b_normal, ↓b_ret, ↓b_exit, ↓e_normal, ↓e_ret, e_some, go_sem, ↓reduceIte, Nat.reduceEqDiff, Nat.reduceLT, Nat.reduceSub, A_law10_step_10, f1, f5, vload, vptr, Mem.read, hb3, r1, Nat.zero_add]
  refine call_of (rDrop_runs rc s (rowsL l) n M3 hr3) ?_
  intro v M4 hv
  rw [hv.1, dropE_is hI, dropW_is hI]
  have hto := hv.2
  rw [dropL_is hI] at hto
  clear hv
  have k2 : Keep2 M3 rc s M4 := by obtain ⟨_, _, _, k⟩ := hto; exact k
  have w13 := write_full (M := M4.push (.cells [.int .i64 0, .int .i64 0, .str []] false)) (b := M4.next) (vs := spC (dropW l n)) (Mem.get_push_same _ _) rfl rfl
  simp -dsimp only [↓w_seq, ↓w_ops, ↓w_skip, ↓w_ret, ↓w_exit, ↓w_scope, ↓w_block, ↓w_cond, cond_true', cond_false', ↓t_nil, ↓t_plain, ↓t_guard, ↓t_gagain, ↓t_again, t_val, t_call, g_true, g_false, ga_true, ga_false, a_val, a_call, ↓n_normal, ↓n_ret, ↓n_exit, ↓b_normal, ↓b_ret, ↓b_exit, ↓e_normal, ↓e_ret, e_some, go_sem, ↓reduceIte, Nat.reduceEqDiff, Nat.reduceLT, Nat.reduceSub, List.getElem?_cons_zero, List.getElem?_cons_succ, vstore, hcs, spC_len, w13, Nat.reduceEqDiff]
  have hG5 : Grew M4 ((M4.push (.cells [.int .i64 0, .int .i64 0, .str []] false)).set M4.next (.cells (spC (dropW l n)) false)) := (Grew.push M4 _).upd (Nat.le_refl _) (Upd.set _ _ _)
  have g13 := Mem.get_set_same (M4.push (.cells [.int .i64 0, .int .i64 0, .str []] false)) M4.next (.cells (spC (dropW l n)) false)
  clear w13
  generalize (M4.push (.cells [.int .i64 0, .int .i64 0, .str []] false)).set M4.next (.cells (spC (dropW l n)) false) = M5 at *
  have g115 : M5.get M2.next = some (.cells (spC (dropW l n)) false) := by
    rw [hG5.old _ (by have := k2.next; omega), k2.old _ (by omega) (by omega) (fun e => by have := hsb _ e; omega)]
    exact g11
  have fin := StepTo.both h (show M.next ≤ M3.next by omega) o3 hT3 hto hG5
  refine WT_abs (fun fr => fr.rd 11 = .ptr (some (M2.next, 0)) ∧ fr.rd 12 = .int .i64 (dropE l n : Int) ∧ fr.rd 13 = .ptr (some (M4.next, 0)) ∧ fr.rd 14 = .int .i64 (dropE l n : Int)) ⟨by simp only [go_sem, ↓reduceIte, Nat.reduceEqDiff, Nat.reduceLT, Nat.reduceSub, f11], by simp only [go_sem, ↓reduceIte, Nat.reduceEqDiff, Nat.reduceLT, Nat.reduceSub, f12], by simp only [go_sem, ↓reduceIte, Nat.reduceEqDiff, Nat.reduceLT, Nat.reduceSub], by simp only [go_sem, ↓reduceIte, Nat.reduceEqDiff, Nat.reduceLT, Nat.reduceSub]⟩ ?_
  clear f1 f5 f11 f12 fr
  intro fr hfr
  obtain ⟨f11, f12, f13, f14⟩ := hfr
  simp -dsimp only [↓w_seq, ↓w_ops, ↓w_skip, ↓w_ret, ↓w_exit, ↓w_scope, ↓w_block, ↓w_cond, cond_true', cond_false', ↓t_nil, ↓t_plain, ↓t_guard, ↓t_gagain, ↓t_again, t_val, t_call, g_true, g_false, ga_true, ga_false, a_val, a_call, ↓n_normal, ↓n_ret, ↓n_exit, ↓b_normal, ↓b_ret, ↓b_exit, ↓e_normal, ↓e_ret, e_some, go_sem, ↓reduceIte, Nat.reduceEqDiff, Nat.reduceLT, Nat.reduceSub, A_law10_step_11, f11, f13, vload, vptr, Mem.read, g115, g13, hrs]
  refine callA_by (k := ⟨⟩) (l' := ⟨⟩) (g' := ⟨⟩) (own_p rfl (dropW l n)) ?_
  intro v M6 hv
  rw [hv.1, hv.2]
  clear hv
  refine ⟨?_, ?_⟩
  · simp only [List.all_cons, List.all_nil, Bool.and_true, againOk, wantedA, cond_true, go_sem, ↓reduceIte, Nat.reduceEqDiff, Nat.reduceLT, Nat.reduceSub, vload, vptr, Mem.read, f11, g115, hrs, sameCells, Nat.zero_add, V.beq, V.beq_self, V.beqs_self, Bool.and_self, Nat.reduceAdd, Nat.reduceLeDiff, decide_true, cond_true]
  simp -dsimp only [↓w_seq, ↓w_ops, ↓w_skip, ↓w_ret, ↓w_exit, ↓w_scope, ↓w_block, ↓w_cond, cond_true', cond_false', ↓t_nil, ↓t_plain, ↓t_guard, ↓t_gagain, ↓t_again, t_val, t_call, g_true, g_false, ga_true, ga_false, a_val, a_call, ↓n_normal, ↓n_ret, ↓n_exit, ↓b_normal, ↓b_ret, ↓b_exit, ↓e_normal, ↓e_ret, e_some, go_sem, ↓reduceIte, Nat.reduceEqDiff, Nat.reduceLT, Nat.reduceSub, sp_same, decide_true, f12, f14]
  refine call_eq (num_p M5 (dropE l n : Int)) ?_
  simp -dsimp only [↓w_seq, ↓w_ops, ↓w_skip, ↓w_ret, ↓w_exit, ↓w_scope, ↓w_block, ↓w_cond, cond_true', cond_false', ↓t_nil, ↓t_plain, ↓t_guard, ↓t_gagain, ↓t_again, t_val, t_call, g_true, g_false, ga_true, ga_false, a_val, a_call, ↓n_normal, ↓n_ret, ↓n_exit, ↓b_normal, ↓b_ret, ↓b_exit, ↓e_normal, ↓e_ret, e_some, go_sem, ↓reduceIte, Nat.reduceEqDiff, Nat.reduceLT, Nat.reduceSub, decide_true]
  exact hR _ _ fin (by simp only [go_sem, ↓reduceIte, Nat.reduceEqDiff, Nat.reduceLT, Nat.reduceSub])

theorem step_runs (M : Mem) (tc bm rc : Nat) (s : V) (l : Tr) (a : Act) (h : TR M tc bm rc s l) (hI : Inv l) (hl : l.length ≤ 1000) (hg : isG M = true) (hn2 : 2 ≤ M.next) :
    Runs D2 F_law10_step [.ptr (some (tc, 0)), .ptr (some (rc, 0)), .agg (actC a)] M fun v M' => v = .bool true ∧ StepTo M tc bm rc s M' (doT l a) := by
  refine R_opq fun R hR => ?_
  refine Runs.walk (F := A_law10_step) rfl (by rfl) (by rfl) ?_
  unfold A_law10_step
  obtain ⟨k, n, sp⟩ := a
  have hca : V.cells (.agg (actC (k, n, sp))) = actC (k, n, sp) := rfl
  have e0 : (actC (k, n, sp))[0]? = some (.int .i64 k) := rfl
  have hG := Grew.push M (.cells (actC (k, n, sp)) false)
  have g5 : (M.push (.cells (actC (k, n, sp)) false)).get M.next = some (.cells (actC (k, n, sp)) false) := Mem.get_push_same _ _
  have hn1 : (M.push (.cells (actC (k, n, sp)) false)).next = M.next + 1 := rfl
  have hbm := h.T.bl
  have hrl := h.r.rl
  have hsb : ∀ b, s.blk = some b → b < M.next := fun b hb => (h.r.ho.blk_le hb).2
  simp -dsimp only [↓w_seq, ↓w_ops, ↓w_skip, ↓w_ret, ↓w_exit, ↓w_scope, ↓w_block, ↓w_cond, cond_true', cond_false', ↓t_nil, ↓t_plain, ↓t_guard, ↓t_gagain, ↓t_again, t_val, t_call, g_true, g_false, ga_true, ga_false, a_val, a_call, ↓n_normal, ↓n_ret, ↓n_exit, ↓b_normal, ↓b_ret, ↓b_exit, ↓e_normal, ↓e_ret, e_some, go_sem, ↓reduceIte, Nat.reduceEqDiff, Nat.reduceLT, Nat.reduceSub, A_law10_step_0, hca]
  generalize M.push (.cells (actC (k, n, sp)) false) = M1 at *
  have h1 := h.grew hG
  have hg1 := isG_keep hg hn2 hG.old
  simp -dsimp only [↓w_seq, ↓w_ops, ↓w_skip, ↓w_ret, ↓w_exit, ↓w_scope, ↓w_block, ↓w_cond, cond_true', cond_false', ↓t_nil, ↓t_plain, ↓t_guard, ↓t_gagain, ↓t_again, t_val, t_call, g_true, g_false, ga_true, ga_false, a_val, a_call, ↓n_normal, ↓n_ret, ↓n_exit, ↓b_normal, ↓b_ret, ↓b_exit, ↓e_normal, ↓e_ret, e_some, go_sem, ↓reduceIte, Nat.reduceEqDiff, Nat.reduceLT, Nat.reduceSub, A_law10_step_1, A_law10_step_2, vload, vptr, Mem.read, g5, e0, Nat.add_zero]
  by_cases h0 : k = 0
  · subst h0
    simp -dsimp only [↓w_seq, ↓w_ops, ↓w_skip, ↓w_ret, ↓w_exit, ↓w_scope, ↓w_block, ↓w_cond, cond_true', cond_false', ↓t_nil, ↓t_plain, ↓t_guard, ↓t_gagain, ↓t_again, t_val, t_call, g_true, g_false, ga_true, ga_false, a_val, a_call, ↓n_normal, ↓n_ret, ↓n_exit, ↓b_normal, ↓b_ret, ↓b_exit, ↓e_normal, ↓e_ret, e_some, go_sem, ↓reduceIte, Nat.reduceEqDiff, Nat.reduceLT, Nat.reduceSub, decide_true]
    refine step0 M1 tc bm rc M.next s l 0 n sp h1 hI hl hg1 (by omega) g5 (by omega) (by omega) ?_ _ ?_ ?_ ?_
    · intro fr M2 hto h6
      simp -dsimp only [↓w_seq, ↓w_ops, ↓w_skip, ↓w_ret, ↓w_exit, ↓w_scope, ↓w_block, ↓w_cond, cond_true', cond_false', ↓t_nil, ↓t_plain, ↓t_guard, ↓t_gagain, ↓t_again, t_val, t_call, g_true, g_false, ga_true, ga_false, a_val, a_call, ↓n_normal, ↓n_ret, ↓n_exit, ↓b_normal, ↓b_ret, ↓b_exit, ↓e_normal, ↓e_ret, e_some, go_sem, ↓reduceIte, Nat.reduceEqDiff, Nat.reduceLT, Nat.reduceSub, h6]
      exact hR _ _ ⟨rfl, by rw [doT]; exact hto.pre hG⟩
    all_goals simp only [go_sem, ↓reduceIte, Nat.reduceEqDiff, Nat.reduceLT, Nat.reduceSub]
  · simp -dsimp only [↓w_seq, ↓w_ops, ↓w_skip, ↓w_ret, ↓w_exit, ↓w_scope, ↓w_block, ↓w_cond, cond_true', cond_false', ↓t_nil, ↓t_plain, ↓t_guard, ↓t_gagain, ↓t_again, t_val, t_call, g_true, g_false, ga_true, ga_false, a_val, a_call, ↓n_normal, ↓n_ret, ↓n_exit, ↓b_normal, ↓b_ret, ↓b_exit, ↓e_normal, ↓e_ret, e_some, go_sem, ↓reduceIte, Nat.reduceEqDiff, Nat.reduceLT, Nat.reduceSub, h0, decide_false, A_law10_step_4]
    by_cases h1' : k = 1
    · subst h1'
      rw [show decide ((1 : Int) = 1) = true from rfl, cond_true']
      refine step1 M1 tc bm rc M.next s l 1 n sp h1 hI hl hg1 (by omega) g5 (by omega) (by omega) (by omega) (fun e => by have := hsb _ e; omega) ?_ _ ?_ ?_ ?_
      · intro fr M2 hto h6
        simp -dsimp only [↓w_seq, ↓w_ops, ↓w_skip, ↓w_ret, ↓w_exit, ↓w_scope, ↓w_block, ↓w_cond, cond_true', cond_false', ↓t_nil, ↓t_plain, ↓t_guard, ↓t_gagain, ↓t_again, t_val, t_call, g_true, g_false, ga_true, ga_false, a_val, a_call, ↓n_normal, ↓n_ret, ↓n_exit, ↓b_normal, ↓b_ret, ↓b_exit, ↓e_normal, ↓e_ret, e_some, go_sem, ↓reduceIte, Nat.reduceEqDiff, Nat.reduceLT, Nat.reduceSub, h6]
        exact hR _ _ ⟨rfl, by rw [doT]; exact hto.pre hG⟩
      all_goals simp only [go_sem, ↓reduceIte, Nat.reduceEqDiff, Nat.reduceLT, Nat.reduceSub]
    · simp -dsimp only [↓w_seq, ↓w_ops, ↓w_skip, ↓w_ret, ↓w_exit, ↓w_scope, ↓w_block, ↓w_cond, cond_true', cond_false', ↓t_nil, ↓t_plain, ↓t_guard, ↓t_gagain, ↓t_again, t_val, t_call, g_true, g_false, ga_true, ga_false, a_val, a_call, ↓n_normal, ↓n_ret, ↓n_exit, ↓b_normal, ↓b_ret, ↓b_exit, ↓e_normal, ↓e_ret, e_some, go_sem, ↓reduceIte, Nat.reduceEqDiff, Nat.reduceLT, Nat.reduceSub, h1', decide_false, A_law10_step_8]
      by_cases h2 : k = 2
      · subst h2
        rw [show decide ((2 : Int) = 2) = true from rfl, cond_true']
        refine step2 M1 tc bm rc M.next s l 2 n sp h1 hI hl g5 (by omega) (by omega) (by omega) (fun e => by have := hsb _ e; omega) ?_ _ ?_ ?_ ?_
        · intro fr M2 hto h6
          simp -dsimp only [↓w_seq, ↓w_ops, ↓w_skip, ↓w_ret, ↓w_exit, ↓w_scope, ↓w_block, ↓w_cond, cond_true', cond_false', ↓t_nil, ↓t_plain, ↓t_guard, ↓t_gagain, ↓t_again, t_val, t_call, g_true, g_false, ga_true, ga_false, a_val, a_call, ↓n_normal, ↓n_ret, ↓n_exit, ↓b_normal, ↓b_ret, ↓b_exit, ↓e_normal, ↓e_ret, e_some, go_sem, ↓reduceIte, Nat.reduceEqDiff, Nat.reduceLT, Nat.reduceSub, h6]
          exact hR _ _ ⟨rfl, by rw [doT]; exact hto.pre hG⟩
        all_goals simp only [go_sem, ↓reduceIte, Nat.reduceEqDiff, Nat.reduceLT, Nat.reduceSub]
      · simp -dsimp only [↓w_seq, ↓w_ops, ↓w_skip, ↓w_ret, ↓w_exit, ↓w_scope, ↓w_block, ↓w_cond, cond_true', cond_false', ↓t_nil, ↓t_plain, ↓t_guard, ↓t_gagain, ↓t_again, t_val, t_call, g_true, g_false, ga_true, ga_false, a_val, a_call, ↓n_normal, ↓n_ret, ↓n_exit, ↓b_normal, ↓b_ret, ↓b_exit, ↓e_normal, ↓e_ret, e_some, go_sem, ↓reduceIte, Nat.reduceEqDiff, Nat.reduceLT, Nat.reduceSub, h2, decide_false, A_law10_step_12]
        exact hR _ _ ⟨rfl, by rw [doT]; simp only [h0, h1', h2, if_false]; exact StepTo.same h hG⟩
end Go.Am.Tryd


/- The law TreePlays: two trees and the reference's, by turns: what stays apart; the parts of a round. -/
namespace Go.Am.Tryd
open Go Go.Am Go.Proofs Go.Sort Go.Shelf
set_option maxRecDepth 100000
set_option linter.unusedSimpArgs false
set_option linter.unusedVariables false

def blkOf (tc bm rc : Nat) (s : V) (c : Nat) : Prop := c = tc ∨ c = bm ∨ c = rc ∨ s.blk = some c
structure TwoT (M0 M : Mem) (tc bm rc : Nat) (s : V) (l : Tr) (uc um qc : Nat) (q : V) (k : Tr) : Prop where
  old : ∀ c, c < M0.next → M.get c = M0.get c
  next : M0.next ≤ M.next
  A : TR M tc bm rc s l
  B : TR M uc um qc q k
  la : ∀ c, blkOf tc bm rc s c → M0.next ≤ c
  lb : ∀ c, blkOf uc um qc q c → M0.next ≤ c
  d : ∀ c, blkOf tc bm rc s c → ¬ blkOf uc um qc q c
theorem TR.blk_lt {M : Mem} {tc bm rc : Nat} {s : V} {l : Tr} (h : TR M tc bm rc s l) : ∀ c, blkOf tc bm rc s c → c < M.next := by
  rintro c (rfl | rfl | rfl | e)
  · exact h.T.tl
  · exact h.T.bl
  · exact h.r.rl
  · exact (h.r.ho.blk_le e).2
theorem TR.keep {M M' : Mem} {tc bm rc : Nat} {s : V} {l : Tr} (h : TR M tc bm rc s l) (hk : ∀ c, blkOf tc bm rc s c → M'.get c = M.get c) (hn : M.next ≤ M'.next) : TR M' tc bm rc s l :=
  ⟨⟨(hk _ (.inl rfl)).trans h.T.c, (hk _ (.inr (.inl rfl))).trans h.T.m, Nat.lt_of_lt_of_le h.T.tl hn, Nat.lt_of_lt_of_le h.T.bl hn⟩, h.r.keep (hk _ (.inr (.inr (.inl rfl)))) (fun b hb => hk b (.inr (.inr (.inr hb)))) hn, h.d1, h.d2, h.d3, h.d4⟩
theorem TwoT.grew {M0 M M' : Mem} {tc bm rc uc um qc : Nat} {s q : V} {l k : Tr} (h : TwoT M0 M tc bm rc s l uc um qc q k) (hG : Grew M M') : TwoT M0 M' tc bm rc s l uc um qc q k :=
  ⟨fun c hc => (hG.old c (Nat.lt_of_lt_of_le hc h.next)).trans (h.old c hc), Nat.le_trans h.next hG.next, h.A.grew hG, h.B.grew hG, h.la, h.lb, h.d⟩
theorem TwoT.swap {M0 M : Mem} {tc bm rc uc um qc : Nat} {s q : V} {l k : Tr} (h : TwoT M0 M tc bm rc s l uc um qc q k) : TwoT M0 M uc um qc q k tc bm rc s l :=
  ⟨h.old, h.next, h.B, h.A, h.lb, h.la, fun c h1 h2 => h.d c h2 h1⟩
theorem TwoT.step {M0 M M' : Mem} {tc bm rc uc um qc : Nat} {s q : V} {l l' k : Tr} (h : TwoT M0 M tc bm rc s l uc um qc q k) (ht : StepTo M tc bm rc s M' l') : ∃ s', TwoT M0 M' tc bm rc s' l' uc um qc q k := by
  obtain ⟨s', t1, t2, t3, t4⟩ := ht
  have hold : ∀ c, c < M0.next → M'.get c = M0.get c := fun c hc => by
    have h1 := h.la bm (.inr (.inl rfl))
    have h2 := h.la rc (.inr (.inr (.inl rfl)))
    rw [t4 c (Nat.lt_of_lt_of_le hc h.next) (by omega) (by omega) (fun e => by have := h.la c (.inr (.inr (.inr e))); omega)]
    exact h.old c hc
  have hnew : ∀ c, blkOf tc bm rc s' c → blkOf tc bm rc s c ∨ M.next ≤ c := by
    rintro c (e | e | e | e)
    · exact .inl (.inl e)
    · exact .inl (.inr (.inl e))
    · exact .inl (.inr (.inr (.inl e)))
    · rcases t2 with e2 | t2
      · exact .inl (.inr (.inr (.inr (e2 ▸ e))))
      · exact .inr (t2 c e)
  refine ⟨s', hold, Nat.le_trans h.next t3, t1, h.B.keep (fun c hc => ?_) t3, fun c hc => ?_, h.lb, fun c hc hc2 => ?_⟩
  · exact t4 c (h.B.blk_lt c hc) (fun e => h.d c (.inr (.inl e)) hc) (fun e => h.d c (.inr (.inr (.inl e))) hc) (fun e => h.d c (.inr (.inr (.inr e))) hc)
  · rcases hnew c hc with h1 | h1
    · exact h.la c h1
    · exact Nat.le_trans h.next h1
  · rcases hnew c hc with h1 | h1
    · exact h.d c h1 hc2
    · have := h.B.blk_lt c hc2; omega

/-- What a round is asked of its frame. -/
structure FR (fr : Fr) (s1 s2 : V) (tc uc rc qc i : Nat) : Prop where
  f0 : fr.rd 0 = s1
  f1 : fr.rd 1 = s2
  f5 : fr.rd 5 = .ptr (some (tc, 0))
  f6 : fr.rd 6 = .ptr (some (uc, 0))
  f7 : fr.rd 7 = .ptr (some (rc, 0))
  f8 : fr.rd 8 = .ptr (some (qc, 0))
  f9 : fr.rd 9 = .int .i64 (i : Int)

theorem plays_head {s1 s2 : V} {one two : List Act} {M : Mem} (h1 : ∃ a c, s1 = .slice a one.length c) (h2 : ∃ a c, s2 = .slice a two.length c) {tc uc rc qc i : Nat} {fr : Fr} (F : FR fr s1 s2 tc uc rc qc i) {Q : AExit → Fr → Mem → Prop}
    (hY : i < one.length ∨ i < two.length → ∀ fr, FR fr s1 s2 tc uc rc qc i → Q .normal fr M) (hN : ¬ (i < one.length ∨ i < two.length) → ∀ fr, FR fr s1 s2 tc uc rc qc i → Q (.exit 0) fr M) :
    WC D3 162 (.seq (.ops A_law10_TreePlays_10) (.cond (r 56) .skip (.exit 0))) fr M Q := by
  obtain ⟨a, c, rfl⟩ := h1
  obtain ⟨a', c', rfl⟩ := h2
  obtain ⟨f0, f1, f5, f6, f7, f8, f9⟩ := F
  refine W_of ?_
  by_cases e1 : i < one.length
  · have e1' : (i : Int) < one.length := by omega
    simp -dsimp only [↓w_seq, ↓w_ops, ↓w_skip, ↓w_ret, ↓w_exit, ↓w_scope, ↓w_block, ↓w_cond, cond_true', cond_false', ↓t_nil, ↓t_plain, ↓t_guard, ↓t_gagain, ↓t_again, t_val, t_call, g_true, g_false, ga_true, ga_false, a_val, a_call, ↓n_normal, ↓n_ret, ↓n_exit, ↓b_normal, ↓b_ret, ↓b_exit, ↓e_normal, ↓e_ret, e_some, go_sem, ↓reduceIte, Nat.reduceEqDiff, Nat.reduceLT, Nat.reduceSub, A_law10_TreePlays_10, f0, f1, f9, e1', decide_true]
    refine hY (.inl e1) _ ⟨?_, ?_, ?_, ?_, ?_, ?_, ?_⟩
    all_goals simp only [go_sem, ↓reduceIte, Nat.reduceEqDiff, Nat.reduceLT, Nat.reduceSub, f0, f1, f5, f6, f7, f8, f9]
  · have e1' : ¬ (i : Int) < one.length := by omega
    by_cases e2 : i < two.length
    · have e2' : (i : Int) < two.length := by omega
      simp -dsimp only [↓w_seq, ↓w_ops, ↓w_skip, ↓w_ret, ↓w_exit, ↓w_scope, ↓w_block, ↓w_cond, cond_true', cond_false', ↓t_nil, ↓t_plain, ↓t_guard, ↓t_gagain, ↓t_again, t_val, t_call, g_true, g_false, ga_true, ga_false, a_val, a_call, ↓n_normal, ↓n_ret, ↓n_exit, ↓b_normal, ↓b_ret, ↓b_exit, ↓e_normal, ↓e_ret, e_some, go_sem, ↓reduceIte, Nat.reduceEqDiff, Nat.reduceLT, Nat.reduceSub, A_law10_TreePlays_10, f0, f1, f9, e1', e2', decide_true, decide_false]
      refine hY (.inr e2) _ ⟨?_, ?_, ?_, ?_, ?_, ?_, ?_⟩
      all_goals simp only [go_sem, ↓reduceIte, Nat.reduceEqDiff, Nat.reduceLT, Nat.reduceSub, f0, f1, f5, f6, f7, f8, f9]
    · have e2' : ¬ (i : Int) < two.length := by omega
      simp -dsimp only [↓w_seq, ↓w_ops, ↓w_skip, ↓w_ret, ↓w_exit, ↓w_scope, ↓w_block, ↓w_cond, cond_true', cond_false', ↓t_nil, ↓t_plain, ↓t_guard, ↓t_gagain, ↓t_again, t_val, t_call, g_true, g_false, ga_true, ga_false, a_val, a_call, ↓n_normal, ↓n_ret, ↓n_exit, ↓b_normal, ↓b_ret, ↓b_exit, ↓e_normal, ↓e_ret, e_some, go_sem, ↓reduceIte, Nat.reduceEqDiff, Nat.reduceLT, Nat.reduceSub, A_law10_TreePlays_10, f0, f1, f9, e1', e2', decide_false]
      refine hN (by omega) _ ⟨?_, ?_, ?_, ?_, ?_, ?_, ?_⟩
      all_goals simp only [go_sem, ↓reduceIte, Nat.reduceEqDiff, Nat.reduceLT, Nat.reduceSub, f0, f1, f5, f6, f7, f8, f9]

theorem take_next (acts : List Act) (i : Nat) : actsT (acts.take (i + 1)) = if h : i < acts.length then doT (actsT (acts.take i)) acts[i] else actsT (acts.take i) := by
  split
  · rename_i h
    rw [take_snoc acts h, acts_snoc]
  · rw [List.take_of_length_le (by omega), List.take_of_length_le (by omega)]
theorem act_kind {cs : List V} {p : Nat} {a : Act} (h : rdCells cs p 6 = some (actC a)) : cs[p]? = some (.int .i64 a.1) ∧ rdCells cs (p + 1) 2 = some (stC a.2.1) ∧ rdCells cs (p + 3) 2 = some (stC a.2.2.1) :=
  ⟨rd_cell h 0 (by decide), rd_part h 1 2 (by decide), rd_part h 3 2 (by decide)⟩

set_option maxHeartbeats 1000000 in
theorem plays_a (M0 : Mem) (s1 s2 : V) (one two : List Act) (hs : SlR elAct M0 s1 one) (hlt : ∀ b, s1.blk = some b → one ≠ [] → b < M0.next) (hlen : one.length ≤ 50) (hg : isG M0 = true) (hn2 : 2 ≤ M0.next) (i : Nat) (k : Tr) {tc bm rc uc um qc : Nat} {s q : V} {fr : Fr} {M : Mem}
    (h : TwoT M0 M tc bm rc s (actsT (one.take i)) uc um qc q k) (F : FR fr s1 s2 tc uc rc qc i) {Q : AExit → Fr → Mem → Prop}
    (hQ : ∀ fr M' tc bm s, TwoT M0 M' tc bm rc s (actsT (one.take (i + 1))) uc um qc q k → FR fr s1 s2 tc uc rc qc i → Q .normal fr M') :
    WC D3 162 (.seq (.ops A_law10_TreePlays_11) (.cond (r 62) (.seq (.seq (.ops A_law10_TreePlays_12) (.cond (r 68) (.seq (.ops A_law10_TreePlays_13) (.seq (.ops A_law10_TreePlays_14) (.ops A_law10_TreePlays_15))) .skip)) (.seq (.ops A_law10_TreePlays_16) (.cond (r 87) (.seq (.ops A_law10_TreePlays_17) .ret) .skip))) .skip)) fr M Q := by
  have hI := inv_acts (one.take i)
  have hl : (actsT (one.take i)).length ≤ 1000 := by have := len_acts (one.take i); rw [List.length_take] at this; omega
  rw [take_next] at hQ
  obtain ⟨f0, f1, f5, f6, f7, f8, f9⟩ := F
  refine W_of ?_
  by_cases e1 : i < one.length
  · rw [dif_pos e1] at hQ
    obtain ⟨b, o, cs, ro, cap, rfl, hM, hr, _⟩ := act_at hs e1
    have hM' : M.get b = some (.cells cs ro) := (h.old b (hlt b rfl (by intro h; subst h; simp at e1))).trans hM
    have e1' : (i : Int) < one.length := by omega
    have e2 : i + 1 ≤ one.length := by omega
    obtain ⟨hk, _, _⟩ := act_kind hr
    have hgM := h.A.grew (Grew.refl M)
    have hggM : isG M = true := isG_keep hg hn2 h.old
    have hn2M : 2 ≤ M.next := Nat.le_trans hn2 h.next
    generalize one[i] = a at hk hr hQ
    have fin : ∀ (fr : Fr) (M2 : Mem) (tc bm : Nat) (s : V), TwoT M0 M2 tc bm rc s (actsT (one.take i)) uc um qc q k → FR fr (.slice (some (b, o)) one.length cap) s2 tc uc rc qc i → W D3 162 (.seq (.ops A_law10_TreePlays_16) (.cond (r 87) (.seq (.ops A_law10_TreePlays_17) .ret) .skip)) fr M2 (Q := Q) ⟨⟩ := by
      intro fr M2 tc bm s h2 F2
      obtain ⟨f0, f1, f5, f6, f7, f8, f9⟩ := F2
      have hM2 : M2.get b = some (.cells cs ro) := (h2.old b (hlt b rfl (by intro h; subst h; simp at e1))).trans hM
      simp -dsimp only [↓w_seq, ↓w_ops, ↓w_skip, ↓w_ret, ↓w_exit, ↓w_scope, ↓w_block, ↓w_cond, cond_true', cond_false', ↓t_nil, ↓t_plain, ↓t_guard, ↓t_gagain, ↓t_again, t_val, t_call, g_true, g_false, ga_true, ga_false, a_val, a_call, ↓n_normal, ↓n_ret, ↓n_exit, ↓b_normal, ↓b_ret, ↓b_exit, ↓e_normal, ↓e_ret, e_some, go_sem, ↓reduceIte, Nat.reduceEqDiff, Nat.reduceLT, Nat.reduceSub, A_law10_TreePlays_16, f0, f5, f7, f9, nil_ptr, nil_ptr', Option.map_some, e1', e2, decide_true, vload, vptr, Mem.read, hM2, hr]
      refine call_of ((step_runs M2 tc bm rc s _ a h2.A hI hl (isG_keep hg hn2 h2.old) (Nat.le_trans hn2 h2.next)).more le3) ?_
      intro v M3 hv
      rw [hv.1]
      obtain ⟨s', h3⟩ := h2.step hv.2
      simp -dsimp only [↓w_seq, ↓w_ops, ↓w_skip, ↓w_ret, ↓w_exit, ↓w_scope, ↓w_block, ↓w_cond, cond_true', cond_false', ↓t_nil, ↓t_plain, ↓t_guard, ↓t_gagain, ↓t_again, t_val, t_call, g_true, g_false, ga_true, ga_false, a_val, a_call, ↓n_normal, ↓n_ret, ↓n_exit, ↓b_normal, ↓b_ret, ↓b_exit, ↓e_normal, ↓e_ret, e_some, go_sem, ↓reduceIte, Nat.reduceEqDiff, Nat.reduceLT, Nat.reduceSub, Bool.not_true]
      refine hQ _ M3 tc bm s' h3 ⟨?_, ?_, ?_, ?_, ?_, ?_, ?_⟩
      all_goals simp only [go_sem, ↓reduceIte, Nat.reduceEqDiff, Nat.reduceLT, Nat.reduceSub, f0, f1, f5, f6, f7, f8, f9]
    by_cases h3 : a.1 = 3
    · have h3' : (a.1 : Int) = 3 := h3
      have hb0 := fun fr M2 tc bm s => fin fr M2 tc bm s
      simp -dsimp only [↓w_seq, ↓w_ops, ↓w_skip, ↓w_ret, ↓w_exit, ↓w_scope, ↓w_block, ↓w_cond, cond_true', cond_false', ↓t_nil, ↓t_plain, ↓t_guard, ↓t_gagain, ↓t_again, t_val, t_call, g_true, g_false, ga_true, ga_false, a_val, a_call, ↓n_normal, ↓n_ret, ↓n_exit, ↓b_normal, ↓b_ret, ↓b_exit, ↓e_normal, ↓e_ret, e_some, go_sem, ↓reduceIte, Nat.reduceEqDiff, Nat.reduceLT, Nat.reduceSub] at hb0
      simp -dsimp only [↓w_seq, ↓w_ops, ↓w_skip, ↓w_ret, ↓w_exit, ↓w_scope, ↓w_block, ↓w_cond, cond_true', cond_false', ↓t_nil, ↓t_plain, ↓t_guard, ↓t_gagain, ↓t_again, t_val, t_call, g_true, g_false, ga_true, ga_false, a_val, a_call, ↓n_normal, ↓n_ret, ↓n_exit, ↓b_normal, ↓b_ret, ↓b_exit, ↓e_normal, ↓e_ret, e_some, go_sem, ↓reduceIte, Nat.reduceEqDiff, Nat.reduceLT, Nat.reduceSub, A_law10_TreePlays_11, A_law10_TreePlays_12, A_law10_TreePlays_13, f0, f5, f9, e1', e2, decide_true, vload, vptr, Mem.read, hM', hk, vof, h3', Nat.add_zero]
      refine call_of (Clone_runs D3 le3b M tc bm _ h.A.T) ?_
      intro v M2 hv
      rw [hv.1]
      obtain ⟨_, hG, hT2⟩ := hv
      have h2 := h.grew hG
      have c0 : fillCells [.int .i64 0, .int .i64 0] [(0, 1, .int .i64 549755813888)] = some (stC (549755813888, 0)) := rfl
      have c1 : fillCells [.int .i64 0, .int .i64 0, .str []] [(2, 1, .str [122])] = some (spC ((0, 0), [122])) := rfl
      simp -dsimp only [↓w_seq, ↓w_ops, ↓w_skip, ↓w_ret, ↓w_exit, ↓w_scope, ↓w_block, ↓w_cond, cond_true', cond_false', ↓t_nil, ↓t_plain, ↓t_guard, ↓t_gagain, ↓t_again, t_val, t_call, g_true, g_false, ga_true, ga_false, a_val, a_call, ↓n_normal, ↓n_ret, ↓n_exit, ↓b_normal, ↓b_ret, ↓b_exit, ↓e_normal, ↓e_ret, e_some, go_sem, ↓reduceIte, Nat.reduceEqDiff, Nat.reduceLT, Nat.reduceSub, A_law10_TreePlays_14, f5, c0, c1, vof, Option.map_some]
      refine call_of ((Add_runs M2 tc bm _ (549755813888, 0) ((0, 0), [122]) h2.A.T (isG_keep hg hn2 h2.old) (Nat.le_trans hn2 h2.next)).more le3) ?_
      intro v M3 hv
      have hC := hv.2.1
      clear hv
      have hnM := hG.next
      have hn3 := hC.next
      have hbl := h.A.blk_lt
      have o3 : ∀ c, c < M2.next → c ≠ bm → M3.get c = M2.get c := hC.old
      have hne : ∀ c, blkOf uc um qc q c → c ≠ bm := fun c hc e => h.d c (.inr (.inl e)) hc
      have hTn := hT2
      have hbmn := hbl bm (.inr (.inl rfl))
      have T3 : TreeIn M3 (M.next + 1) M.next (actsT (one.take i)) := ⟨(o3 _ hT2.tl (by omega)).trans hT2.c, (o3 _ hT2.bl (by omega)).trans hT2.m, by have := hT2.tl; omega, by have := hT2.bl; omega⟩
      have hsne : ∀ b', s.blk = some b' → b' ≠ bm := fun b' hb' e => h.A.d4 (e ▸ hb')
      have r3 : RefIn M3 rc s (rowsL (actsT (one.take i))) := h2.A.r.keep (o3 _ h2.A.r.rl h.A.d2) (fun b' hb' => o3 b' (h2.A.r.ho.blk_le hb').2 (hsne b' hb')) hn3
      have hrcl := h.A.r.rl
      have new3 : TwoT M0 M3 (M.next + 1) M.next rc s (actsT (one.take i)) uc um qc q k := by
        refine ⟨fun c hc => ?_, by have := h2.next; omega, ⟨T3, r3, by omega, by omega, fun e => by have := hbl _ (.inr (.inr (.inr e))); omega, fun e => by have := hbl _ (.inr (.inr (.inr e))); omega⟩, h2.B.keep (fun c hc => o3 c (h2.B.blk_lt c hc) (hne c hc)) hn3, ?_, h.lb, ?_⟩
        · rw [o3 c (by have := h2.next; omega) (by have := h.la bm (.inr (.inl rfl)); omega)]
          exact h2.old c hc
        · rintro c (e | e | e | e)
          · have := h.next; omega
          · have := h.next; omega
          · exact h.la c (.inr (.inr (.inl e)))
          · exact h.la c (.inr (.inr (.inr e)))
        · rintro c (e | e | e | e) hc
          · have := h.B.blk_lt c hc; omega
          · have := h.B.blk_lt c hc; omega
          · exact h.d c (.inr (.inr (.inl e))) hc
          · exact h.d c (.inr (.inr (.inr e))) hc
      simp -dsimp only [↓w_seq, ↓w_ops, ↓w_skip, ↓w_ret, ↓w_exit, ↓w_scope, ↓w_block, ↓w_cond, cond_true', cond_false', ↓t_nil, ↓t_plain, ↓t_guard, ↓t_gagain, ↓t_again, t_val, t_call, g_true, g_false, ga_true, ga_false, a_val, a_call, ↓n_normal, ↓n_ret, ↓n_exit, ↓b_normal, ↓b_ret, ↓b_exit, ↓e_normal, ↓e_ret, e_some, go_sem, ↓reduceIte, Nat.reduceEqDiff, Nat.reduceLT, Nat.reduceSub, A_law10_TreePlays_15]
      refine hb0 _ M3 _ _ _ new3 ⟨?_, ?_, ?_, ?_, ?_, ?_, ?_⟩
      all_goals simp only [go_sem, ↓reduceIte, Nat.reduceEqDiff, Nat.reduceLT, Nat.reduceSub, f0, f1, f6, f7, f8, f9]
    · have h3' : ¬ (a.1 : Int) = 3 := h3
      have hb0 := fun fr M2 tc bm s => fin fr M2 tc bm s
      simp -dsimp only [↓w_seq, ↓w_ops, ↓w_skip, ↓w_ret, ↓w_exit, ↓w_scope, ↓w_block, ↓w_cond, cond_true', cond_false', ↓t_nil, ↓t_plain, ↓t_guard, ↓t_gagain, ↓t_again, t_val, t_call, g_true, g_false, ga_true, ga_false, a_val, a_call, ↓n_normal, ↓n_ret, ↓n_exit, ↓b_normal, ↓b_ret, ↓b_exit, ↓e_normal, ↓e_ret, e_some, go_sem, ↓reduceIte, Nat.reduceEqDiff, Nat.reduceLT, Nat.reduceSub] at hb0
      simp -dsimp only [↓w_seq, ↓w_ops, ↓w_skip, ↓w_ret, ↓w_exit, ↓w_scope, ↓w_block, ↓w_cond, cond_true', cond_false', ↓t_nil, ↓t_plain, ↓t_guard, ↓t_gagain, ↓t_again, t_val, t_call, g_true, g_false, ga_true, ga_false, a_val, a_call, ↓n_normal, ↓n_ret, ↓n_exit, ↓b_normal, ↓b_ret, ↓b_exit, ↓e_normal, ↓e_ret, e_some, go_sem, ↓reduceIte, Nat.reduceEqDiff, Nat.reduceLT, Nat.reduceSub, A_law10_TreePlays_11, A_law10_TreePlays_12, f0, f5, f9, e1', e2, decide_true, vload, vptr, Mem.read, hM', hk, vof, h3', decide_false, Nat.add_zero]
      refine hb0 _ M _ _ _ h ⟨?_, ?_, ?_, ?_, ?_, ?_, ?_⟩
      all_goals simp only [go_sem, ↓reduceIte, Nat.reduceEqDiff, Nat.reduceLT, Nat.reduceSub, f0, f1, f5, f6, f7, f8, f9]
  · rw [dif_neg e1] at hQ
    obtain ⟨a, cap, rfl, _⟩ := hs
    have e1' : ¬ (i : Int) < one.length := by omega
    simp -dsimp only [↓w_seq, ↓w_ops, ↓w_skip, ↓w_ret, ↓w_exit, ↓w_scope, ↓w_block, ↓w_cond, cond_true', cond_false', ↓t_nil, ↓t_plain, ↓t_guard, ↓t_gagain, ↓t_again, t_val, t_call, g_true, g_false, ga_true, ga_false, a_val, a_call, ↓n_normal, ↓n_ret, ↓n_exit, ↓b_normal, ↓b_ret, ↓b_exit, ↓e_normal, ↓e_ret, e_some, go_sem, ↓reduceIte, Nat.reduceEqDiff, Nat.reduceLT, Nat.reduceSub, A_law10_TreePlays_11, f0, f9, e1', decide_false]
    refine hQ _ M tc bm s h ⟨?_, ?_, ?_, ?_, ?_, ?_, ?_⟩
    all_goals simp only [go_sem, ↓reduceIte, Nat.reduceEqDiff, Nat.reduceLT, Nat.reduceSub, f0, f1, f5, f6, f7, f8, f9]

theorem plays_b (M0 : Mem) (s1 s2 : V) (one two : List Act) (hs : SlR elAct M0 s2 two) (hlt : ∀ b, s2.blk = some b → two ≠ [] → b < M0.next) (hlen : two.length ≤ 50) (hg : isG M0 = true) (hn2 : 2 ≤ M0.next) (i : Nat) (l : Tr) {tc bm rc uc um qc : Nat} {s q : V} {fr : Fr} {M : Mem}
    (h : TwoT M0 M tc bm rc s l uc um qc q (actsT (two.take i))) (F : FR fr s1 s2 tc uc rc qc i) {Q : AExit → Fr → Mem → Prop}
    (hQ : ∀ fr M' q, TwoT M0 M' tc bm rc s l uc um qc q (actsT (two.take (i + 1))) → FR fr s1 s2 tc uc rc qc i → Q .normal fr M') :
    WC D3 162 (.seq (.ops A_law10_TreePlays_18) (.cond (r 101) (.seq (.ops A_law10_TreePlays_19) .ret) .skip)) fr M Q := by
  have hI := inv_acts (two.take i)
  have hl : (actsT (two.take i)).length ≤ 1000 := by have := len_acts (two.take i); rw [List.length_take] at this; omega
  rw [take_next] at hQ
  obtain ⟨f0, f1, f5, f6, f7, f8, f9⟩ := F
  refine W_of ?_
  by_cases e1 : i < two.length
  · rw [dif_pos e1] at hQ
    obtain ⟨b, o, cs, ro, cap, rfl, hM, hr, _⟩ := act_at hs e1
    have hM' : M.get b = some (.cells cs ro) := (h.old b (hlt b rfl (by intro h; subst h; simp at e1))).trans hM
    have e1' : (i : Int) < two.length := by omega
    have e2 : i + 1 ≤ two.length := by omega
    simp -dsimp only [↓w_seq, ↓w_ops, ↓w_skip, ↓w_ret, ↓w_exit, ↓w_scope, ↓w_block, ↓w_cond, cond_true', cond_false', ↓t_nil, ↓t_plain, ↓t_guard, ↓t_gagain, ↓t_again, t_val, t_call, g_true, g_false, ga_true, ga_false, a_val, a_call, ↓n_normal, ↓n_ret, ↓n_exit, ↓b_normal, ↓b_ret, ↓b_exit, ↓e_normal, ↓e_ret, e_some, go_sem, ↓reduceIte, Nat.reduceEqDiff, Nat.reduceLT, Nat.reduceSub, A_law10_TreePlays_18, f1, f6, f8, f9, e1', e2, decide_true, vload, vptr, Mem.read, hM', hr]
    refine call_of ((step_runs M uc um qc q _ two[i] h.B hI hl (isG_keep hg hn2 h.old) (Nat.le_trans hn2 h.next)).more le3) ?_
    intro v M3 hv
    rw [hv.1]
    obtain ⟨q', h3⟩ := h.swap.step hv.2
    simp -dsimp only [↓w_seq, ↓w_ops, ↓w_skip, ↓w_ret, ↓w_exit, ↓w_scope, ↓w_block, ↓w_cond, cond_true', cond_false', ↓t_nil, ↓t_plain, ↓t_guard, ↓t_gagain, ↓t_again, t_val, t_call, g_true, g_false, ga_true, ga_false, a_val, a_call, ↓n_normal, ↓n_ret, ↓n_exit, ↓b_normal, ↓b_ret, ↓b_exit, ↓e_normal, ↓e_ret, e_some, go_sem, ↓reduceIte, Nat.reduceEqDiff, Nat.reduceLT, Nat.reduceSub, Bool.not_true]
    refine hQ _ M3 q' h3.swap ⟨?_, ?_, ?_, ?_, ?_, ?_, ?_⟩
    all_goals simp only [go_sem, ↓reduceIte, Nat.reduceEqDiff, Nat.reduceLT, Nat.reduceSub, f0, f1, f5, f6, f7, f8, f9]
  · rw [dif_neg e1] at hQ
    obtain ⟨a, cap, rfl, _⟩ := hs
    have e1' : ¬ (i : Int) < two.length := by omega
    simp -dsimp only [↓w_seq, ↓w_ops, ↓w_skip, ↓w_ret, ↓w_exit, ↓w_scope, ↓w_block, ↓w_cond, cond_true', cond_false', ↓t_nil, ↓t_plain, ↓t_guard, ↓t_gagain, ↓t_again, t_val, t_call, g_true, g_false, ga_true, ga_false, a_val, a_call, ↓n_normal, ↓n_ret, ↓n_exit, ↓b_normal, ↓b_ret, ↓b_exit, ↓e_normal, ↓e_ret, e_some, go_sem, ↓reduceIte, Nat.reduceEqDiff, Nat.reduceLT, Nat.reduceSub, A_law10_TreePlays_18, f1, f9, e1', decide_false]
    refine hQ _ M q h ⟨?_, ?_, ?_, ?_, ?_, ?_, ?_⟩
    all_goals simp only [go_sem, ↓reduceIte, Nat.reduceEqDiff, Nat.reduceLT, Nat.reduceSub, f0, f1, f5, f6, f7, f8, f9]

theorem plays_same (M0 : Mem) (s1 s2 : V) (one : List Act) (hs : SlR elAct M0 s1 one) (hlt : ∀ b, s1.blk = some b → one ≠ [] → b < M0.next) (hlen : one.length ≤ 50) (hg : isG M0 = true) (hn2 : 2 ≤ M0.next) (i : Nat) (l k : Tr) (hI : Inv l) (hl : l.length ≤ 1000) {tc bm rc uc um qc : Nat} {s q : V} {Q : AExit → Fr → Mem → Prop}
    (hQ : ∀ fr M, TwoT M0 M tc bm rc s l uc um qc q k → FR fr s1 s2 tc uc rc qc i → Q (.exit 2) fr M) :
    ∀ (f j : Nat) (fr : Fr) (M : Mem), j + f = one.length → TwoT M0 M tc bm rc s l uc um qc q k → FR fr s1 s2 tc uc rc qc i → fr.rd 11 = .int .i64 (j : Int) → WC D3 162 (.loop A_law10_TreePlays_25) fr M Q := by
  intro f
  induction f with
  | zero =>
    intro j fr M hj h F f11
    obtain ⟨f0, f1, f5, f6, f7, f8, f9⟩ := F
    refine WC.loop (W_of ?_)
    unfold A_law10_TreePlays_25
    obtain ⟨a, cap, rfl, _⟩ := hs
    have : ¬ (j : Int) < one.length := by omega
    simp -dsimp only [↓w_seq, ↓w_ops, ↓w_skip, ↓w_ret, ↓w_exit, ↓w_scope, ↓w_block, ↓w_cond, cond_true', cond_false', ↓t_nil, ↓t_plain, ↓t_guard, ↓t_gagain, ↓t_again, t_val, t_call, g_true, g_false, ga_true, ga_false, a_val, a_call, ↓n_normal, ↓n_ret, ↓n_exit, ↓b_normal, ↓b_ret, ↓b_exit, ↓e_normal, ↓e_ret, e_some, go_sem, ↓reduceIte, Nat.reduceEqDiff, Nat.reduceLT, Nat.reduceSub, A_law10_TreePlays_21, f0, f11, this, decide_false]
    refine hQ _ M h ⟨?_, ?_, ?_, ?_, ?_, ?_, ?_⟩
    all_goals simp only [go_sem, ↓reduceIte, Nat.reduceEqDiff, Nat.reduceLT, Nat.reduceSub, f0, f1, f5, f6, f7, f8, f9]
  | succ f ih =>
    intro j fr M hj h F f11
    obtain ⟨f0, f1, f5, f6, f7, f8, f9⟩ := F
    refine WC.loop (W_of ?_)
    unfold A_law10_TreePlays_25
    have hjl : j < one.length := by omega
    obtain ⟨b, o, cs, ro, cap, rfl, hM, hr, _⟩ := act_at hs hjl
    have hM' : M.get b = some (.cells cs ro) := (h.old b (hlt b rfl (by intro h; subst h; simp at hjl))).trans hM
    obtain ⟨_, k1, k3⟩ := act_kind hr
    have e1 : (j : Int) < one.length := by omega
    have e2 : j + 1 ≤ one.length := by omega
    have h5' : (j : Int) + 1 = ((j + 1 : Nat) : Int) := by omega
    simp -dsimp only [↓w_seq, ↓w_ops, ↓w_skip, ↓w_ret, ↓w_exit, ↓w_scope, ↓w_block, ↓w_cond, cond_true', cond_false', ↓t_nil, ↓t_plain, ↓t_guard, ↓t_gagain, ↓t_again, t_val, t_call, g_true, g_false, ga_true, ga_false, a_val, a_call, ↓n_normal, ↓n_ret, ↓n_exit, ↓b_normal, ↓b_ret, ↓b_exit, ↓e_normal, ↓e_ret, e_some, go_sem, ↓reduceIte, Nat.reduceEqDiff, Nat.reduceLT, Nat.reduceSub, A_law10_TreePlays_21, A_law10_TreePlays_22, f0, f5, f7, f11, e1, e2, decide_true, vload, vptr, Mem.read, hM', k1, k3, Nat.add_zero]
    refine call_of ((same_runs M tc bm rc s l one[j].2.1 one[j].2.2.1 h.A.T h.A.r hI hl (isG_keep hg hn2 h.old) (Nat.le_trans hn2 h.next)).more le3) ?_
    intro v M2 hv
    rw [hv.1]
    simp -dsimp only [↓w_seq, ↓w_ops, ↓w_skip, ↓w_ret, ↓w_exit, ↓w_scope, ↓w_block, ↓w_cond, cond_true', cond_false', ↓t_nil, ↓t_plain, ↓t_guard, ↓t_gagain, ↓t_again, t_val, t_call, g_true, g_false, ga_true, ga_false, a_val, a_call, ↓n_normal, ↓n_ret, ↓n_exit, ↓b_normal, ↓b_ret, ↓b_exit, ↓e_normal, ↓e_ret, e_some, go_sem, ↓reduceIte, Nat.reduceEqDiff, Nat.reduceLT, Nat.reduceSub, Bool.not_true, A_law10_TreePlays_24, f11, h5', IntWalk.i64_in ((j + 1 : Nat) : Int) (by omega)]
    refine ih (j + 1) _ M2 (by omega) (h.grew hv.2) ⟨?_, ?_, ?_, ?_, ?_, ?_, ?_⟩ ?_
    all_goals simp only [go_sem, ↓reduceIte, Nat.reduceEqDiff, Nat.reduceLT, Nat.reduceSub, f0, f1, f5, f6, f7, f8, f9]
end Go.Am.Tryd


/- The law TreePlays answers true. -/
namespace Go.Am.Tryd
open Go Go.Am Go.Proofs Go.Sort Go.Shelf
set_option maxRecDepth 100000
set_option linter.unusedSimpArgs false
set_option linter.unusedVariables false

theorem plays_loop (M0 : Mem) (s1 s2 : V) (one two : List Act) (hs1 : SlR elAct M0 s1 one) (hs2 : SlR elAct M0 s2 two) (hlt1 : ∀ b, s1.blk = some b → one ≠ [] → b < M0.next) (hlt2 : ∀ b, s2.blk = some b → two ≠ [] → b < M0.next) (hl1 : one.length ≤ 50) (hl2 : two.length ≤ 50) (hg : isG M0 = true) (hn2 : 2 ≤ M0.next) {rc uc um qc : Nat} {Q : AExit → Fr → Mem → Prop}
    (hQ : ∀ fr M tc bm s q, TwoT M0 M tc bm rc s (actsT one) uc um qc q (actsT two) → (fr.rd 5 = .ptr (some (tc, 0)) ∧ fr.rd 6 = .ptr (some (uc, 0)) ∧ fr.rd 7 = .ptr (some (rc, 0)) ∧ fr.rd 8 = .ptr (some (qc, 0))) → Q (.exit 0) fr M) :
    ∀ (f i : Nat) (fr : Fr) (M : Mem) (tc bm : Nat) (s q : V), max one.length two.length ≤ i + f → TwoT M0 M tc bm rc s (actsT (one.take i)) uc um qc q (actsT (two.take i)) → FR fr s1 s2 tc uc rc qc i → i + f ≤ 100 → WC D3 162 (.loop A_law10_TreePlays_27) fr M Q := by
  have hsh1 : ∃ a c, s1 = .slice a one.length c := by obtain ⟨a, c, e, _⟩ := hs1; exact ⟨a, c, e⟩
  have hsh2 : ∃ a c, s2 = .slice a two.length c := by obtain ⟨a, c, e, _⟩ := hs2; exact ⟨a, c, e⟩
  intro f
  induction f with
  | zero =>
    intro i fr M tc bm s q hi h F hb
    refine WC.loop ?_
    unfold A_law10_TreePlays_27
    refine WC.seq (plays_head hsh1 hsh2 F (fun hlt => by omega) (fun _ fr F => ?_))
    have e1 : one.take i = one := List.take_of_length_le (by omega)
    have e2 : two.take i = two := List.take_of_length_le (by omega)
    rw [e1, e2] at h
    exact hQ fr M tc bm s q h ⟨F.f5, F.f6, F.f7, F.f8⟩
  | succ f ih =>
    intro i fr M tc bm s q hi h F hb
    refine WC.loop ?_
    unfold A_law10_TreePlays_27
    refine WC.seq (plays_head hsh1 hsh2 F (fun hlt fr F => ?_) (fun hlt fr F => ?_))
    · refine WC.seq (WC.block (WC.seq ?_))
      refine plays_a M0 s1 s2 one two hs1 hlt1 hl1 hg hn2 i _ h F ?_
      clear h F fr
      intro fr M tc bm s h F
      refine WC.seq ?_
      refine plays_b M0 s1 s2 one two hs2 hlt2 hl2 hg hn2 i _ h F ?_
      clear h F fr
      intro fr M q h F
      have hl : (actsT (one.take (i + 1))).length ≤ 1000 := by have := len_acts (one.take (i + 1)); rw [List.length_take] at this; omega
      obtain ⟨f0, f1, f5, f6, f7, f8, f9⟩ := F
      have h5' : (i : Int) + 1 = ((i + 1 : Nat) : Int) := by omega
      refine W_of ?_
      simp -dsimp only [↓w_seq, ↓w_ops, ↓w_skip, ↓w_ret, ↓w_exit, ↓w_scope, ↓w_block, ↓w_cond, cond_true', cond_false', ↓t_nil, ↓t_plain, ↓t_guard, ↓t_gagain, ↓t_again, t_val, t_call, g_true, g_false, ga_true, ga_false, a_val, a_call, ↓n_normal, ↓n_ret, ↓n_exit, ↓b_normal, ↓b_ret, ↓b_exit, ↓e_normal, ↓e_ret, e_some, go_sem, ↓reduceIte, Nat.reduceEqDiff, Nat.reduceLT, Nat.reduceSub, A_law10_TreePlays_20]
      refine plays_same M0 s1 s2 one hs1 hlt1 hl1 hg hn2 i _ _ (inv_acts _) hl ?_ one.length 0 _ M (by omega) h ⟨?_, ?_, ?_, ?_, ?_, ?_, ?_⟩ ?_
      · intro fr M h F
        obtain ⟨f0, f1, f5, f6, f7, f8, f9⟩ := F
        simp -dsimp only [↓w_seq, ↓w_ops, ↓w_skip, ↓w_ret, ↓w_exit, ↓w_scope, ↓w_block, ↓w_cond, cond_true', cond_false', ↓t_nil, ↓t_plain, ↓t_guard, ↓t_gagain, ↓t_again, t_val, t_call, g_true, g_false, ga_true, ga_false, a_val, a_call, ↓n_normal, ↓n_ret, ↓n_exit, ↓b_normal, ↓b_ret, ↓b_exit, ↓e_normal, ↓e_ret, e_some, go_sem, ↓reduceIte, Nat.reduceEqDiff, Nat.reduceLT, Nat.reduceSub]
        refine W_of ?_
        simp -dsimp only [↓w_seq, ↓w_ops, ↓w_skip, ↓w_ret, ↓w_exit, ↓w_scope, ↓w_block, ↓w_cond, cond_true', cond_false', ↓t_nil, ↓t_plain, ↓t_guard, ↓t_gagain, ↓t_again, t_val, t_call, g_true, g_false, ga_true, ga_false, a_val, a_call, ↓n_normal, ↓n_ret, ↓n_exit, ↓b_normal, ↓b_ret, ↓b_exit, ↓e_normal, ↓e_ret, e_some, go_sem, ↓reduceIte, Nat.reduceEqDiff, Nat.reduceLT, Nat.reduceSub, A_law10_TreePlays_26, f9, h5', IntWalk.i64_in ((i + 1 : Nat) : Int) (by omega)]
        refine ih (i + 1) _ M tc bm s q (by omega) h ⟨?_, ?_, ?_, ?_, ?_, ?_, ?_⟩ (by omega)
        all_goals simp only [go_sem, ↓reduceIte, Nat.reduceEqDiff, Nat.reduceLT, Nat.reduceSub, f0, f1, f5, f6, f7, f8]
      all_goals simp only [go_sem, ↓reduceIte, Nat.reduceEqDiff, Nat.reduceLT, Nat.reduceSub, f0, f1, f5, f6, f7, f8, f9]
      rfl
    · have e1 : one.take i = one := List.take_of_length_le (by omega)
      have e2 : two.take i = two := List.take_of_length_le (by omega)
      rw [e1, e2] at h
      exact hQ fr M tc bm s q h ⟨F.f5, F.f6, F.f7, F.f8⟩

theorem want_loop (rc : Nat) (s : V) (L : Tr) (M0 : Mem) (h : RefIn M0 rc s L) {Q : AExit → Fr → Mem → Prop} {x5 x6 x8 : V}
    (hE : ∀ fr M v, Grew M0 M → Hold M0.next M 2 v (L.map (·.1)).length (elSt.all (L.map (·.1))) → fr.rd 5 = x5 → fr.rd 6 = x6 → fr.rd 7 = .ptr (some (rc, 0)) → fr.rd 8 = x8 → fr.rd 12 = v → Q (.exit 4) fr M) :
    ∀ (f i : Nat) (v : V) (fr : Fr) (M : Mem), i + f = L.length → Grew M0 M → Hold M0.next M 2 v ((L.take i).map (·.1)).length (elSt.all ((L.take i).map (·.1))) → fr.rd 5 = x5 → fr.rd 6 = x6 → fr.rd 7 = .ptr (some (rc, 0)) → fr.rd 8 = x8 → fr.rd 12 = v → fr.rd 13 = .int .i64 (i : Int) → WC D3 162 (.loop A_law10_TreePlays_33) fr M Q := by
  have hln := h.ln
  intro f
  induction f with
  | zero =>
    intro i v fr M hi hG hH f5 f6 f7 f8 f12 f13
    refine WC.loop (W_of ?_)
    unfold A_law10_TreePlays_33
    have hM := h.grew hG
    obtain ⟨a, cap, e, _⟩ := hM.he.sl
    have hc := hM.c
    rw [e] at hc
    have : ¬ (i : Int) < L.length := by omega
    simp -dsimp only [↓w_seq, ↓w_ops, ↓w_skip, ↓w_ret, ↓w_exit, ↓w_scope, ↓w_block, ↓w_cond, cond_true', cond_false', ↓t_nil, ↓t_plain, ↓t_guard, ↓t_gagain, ↓t_again, t_val, t_call, g_true, g_false, ga_true, ga_false, a_val, a_call, ↓n_normal, ↓n_ret, ↓n_exit, ↓b_normal, ↓b_ret, ↓b_exit, ↓e_normal, ↓e_ret, e_some, go_sem, ↓reduceIte, Nat.reduceEqDiff, Nat.reduceLT, Nat.reduceSub, A_law10_TreePlays_30, f7, f13, vload, vptr, Mem.read, hc, Nat.add_zero, List.getElem?_cons_zero, this, decide_false]
    have : i = L.length := by omega
    subst this
    rw [List.take_length] at hH
    refine hE _ M v hG hH ?_ ?_ ?_ ?_ ?_
    all_goals simp only [go_sem, ↓reduceIte, Nat.reduceEqDiff, Nat.reduceLT, Nat.reduceSub, f5, f6, f7, f8, f12]
  | succ f ih =>
    intro i v fr M hi hG hH f5 f6 f7 f8 f12 f13
    refine WC.loop (W_of ?_)
    unfold A_law10_TreePlays_33
    have hil : i < L.length := by omega
    have hM := h.grew hG
    obtain ⟨b, o, cs, rb, cap, e, hMb, hr5, hr2, hr3, hr22⟩ := row_at hM.he.sl hil
    have hc := hM.c
    rw [e] at hc
    have e1 : (i : Int) < L.length := by omega
    have e2 : i + 1 ≤ L.length := by omega
    have h5' : (i : Int) + 1 = ((i + 1 : Nat) : Int) := by omega
    have htk : (L.take (i + 1)).map (·.1) = (L.take i).map (·.1) ++ [L[i].1] := by rw [take_snoc L hil, List.map_append]; rfl
    generalize L[i] = x at *
    have hn0 := hG.next
    have hml : ((L.take i).map (·.1)).length ≤ i := by rw [List.length_map, List.length_take]; omega
    have hH3 : Hold M0.next (M.push (.cells (stC x.1) false)) 2 v ((L.take i).map (·.1)).length (elSt.all ((L.take i).map (·.1))) := hH.keep (fun c hc => Mem.get_push_ne _ _ (by have := hH.blk_le hc; omega)) (by simp)
    obtain ⟨M4, hap, hH4, hn4, ho4⟩ := hH3.append (bytes := 16) (m := 1) (x := .slice (some (M.next, 0)) 1 (.exact 1)) (new := stC x.1) (by simp; omega) rfl
      (by
        have := read_all (Mem.get_push_same M (.cells (stC x.1) false))
        simp only [srcCells, beq_dec, Nat.one_mul, Nat.reduceEqDiff, decide_false, cond_false]
        exact this) (by omega) rfl (by
          have hmx : maxRoom = 17592186044416 := rfl
          omega) rfl
    have hf1 : fillCells [.int .i64 0, .int .i64 0] [(0, 2, .agg (stC x.1))] = some (stC x.1) := rfl
    simp -dsimp only [↓w_seq, ↓w_ops, ↓w_skip, ↓w_ret, ↓w_exit, ↓w_scope, ↓w_block, ↓w_cond, cond_true', cond_false', ↓t_nil, ↓t_plain, ↓t_guard, ↓t_gagain, ↓t_again, t_val, t_call, g_true, g_false, ga_true, ga_false, a_val, a_call, ↓n_normal, ↓n_ret, ↓n_exit, ↓b_normal, ↓b_ret, ↓b_exit, ↓e_normal, ↓e_ret, e_some, go_sem, ↓reduceIte, Nat.reduceEqDiff, Nat.reduceLT, Nat.reduceSub, A_law10_TreePlays_30, A_law10_TreePlays_31, A_law10_TreePlays_32, f7, f12, f13, vload, vptr, Mem.read, hc, hMb, hr2, Nat.add_zero, List.getElem?_cons_zero, e1, e2, decide_true, repl, List.append_nil, hf1, hap, h5', IntWalk.i64_in ((i + 1 : Nat) : Int) (by omega)]
    simp only [Mem.next_push] at hH4 hn4 ho4
    refine ih (i + 1) (.slice (some (M.next + 1, 0)) (((L.take i).map (·.1)).length + 1) (.upto 2)) _ M4 (by omega) ⟨by omega, fun c hc => ?_⟩ ?_ ?_ ?_ ?_ ?_ ?_ ?_
    · rw [ho4 c (by omega) (fun e => by have := (hH.blk_le e).1; omega), Mem.get_push_ne _ _ (by omega)]
      exact hG.old c hc
    · have e3 : elSt.all ((L.take i).map (·.1) ++ [x.1]) = elSt.all ((L.take i).map (·.1)) ++ stC x.1 := by simp [Elem.all, elSt]
      rw [htk, List.length_append, e3]
      exact hH4
    all_goals simp only [go_sem, ↓reduceIte, Nat.reduceEqDiff, Nat.reduceLT, Nat.reduceSub, f5, f6, f7, f8, Mem.next_push]
end Go.Am.Tryd


/- The law TreePlays answers true, whatever its arguments are. -/
namespace Go.Am.Tryd
open Go Go.Am Go.Proofs Go.Sort Go.Shelf
set_option maxRecDepth 100000
set_option linter.unusedSimpArgs false
set_option linter.unusedVariables false

theorem rowsL_nil : rowsL [] = [] := List.eq_nil_of_length_eq_zero (rows_len [])
theorem rows_nodes (l : Tr) : (rowsL l).map (·.1) = nodesL l := by
  unfold rowsL
  rw [List.map_map]
  exact List.map_id _
/-- The trees at the beginning. -/
theorem two_new {M0 M1 M2 : Mem} (hG1 : Grew M0 M1) (T1 : TreeIn M1 (M0.next + 1) M0.next []) (hG2 : Grew M1 M2) (T2 : TreeIn M2 (M1.next + 1) M1.next []) :
    TwoT M0 ((M2.push (.cells [.slice none 0 (.exact 0)] false)).push (.cells [.slice none 0 (.exact 0)] false)) (M0.next + 1) M0.next M2.next (.slice none 0 (.exact 0)) [] (M1.next + 1) M1.next (M2.next + 1) (.slice none 0 (.exact 0)) [] := by
  have hGa := Grew.push M2 (.cells [.slice none 0 (.exact 0)] false)
  have hGb := Grew.push (M2.push (.cells [.slice none 0 (.exact 0)] false)) (.cells [.slice none 0 (.exact 0)] false)
  have hGab := hGa.trans hGb
  have n1 := T1.tl
  have n2 := T2.tl
  have hGt := hG1.trans (hG2.trans hGab)
  have r0 : ∀ M c, M.get c = some (.cells [.slice none 0 (.exact 0)] false) → c < M.next → RefIn M c (.slice none 0 (.exact 0)) (rowsL []) := fun M c h1 h2 => by
    rw [rowsL_nil]
    exact ⟨h1, h2, .inl .nil, by simp⟩
  have hbn : ∀ c, ¬ (V.slice none 0 (.exact 0)).blk = some c := fun c h => by cases h
  have g1 := Mem.get_push_same M2 (.cells [.slice none 0 (.exact 0)] false)
  have g2 := Mem.get_push_same (M2.push (.cells [.slice none 0 (.exact 0)] false)) (.cells [.slice none 0 (.exact 0)] false)
  refine ⟨hGt.old, hGt.next, ⟨(T1.grew (hG2.trans hGab)), r0 _ _ ((hGb.old _ (by simp)).trans g1) (by simp only [Mem.next_push]; omega), by omega, by omega, hbn _, hbn _⟩, ⟨T2.grew hGab, r0 _ _ g2 (by simp only [Mem.next_push]; omega), by omega, by omega, hbn _, hbn _⟩, ?_, ?_, ?_⟩
  · rintro c (e | e | e | e)
    · omega
    · omega
    · omega
    · exact absurd e (hbn c)
  · rintro c (e | e | e | e)
    · omega
    · omega
    · omega
    · exact absurd e (hbn c)
  · rintro c (e | e | e | e) (e2 | e2 | e2 | e2)
    all_goals first | exact absurd e (hbn c) | exact absurd e2 (hbn c) | omega

theorem callT_abs {D : Decls} {n : Nat} {f : FuncId} {args : List V} {dst : Option Nat} {fr : Fr} {M : Mem} {l : List Item} {l' : Tg l} {K : Fr → Mem → Prop} {k : Tg K} (P : Fr → Prop) (h : P fr) (hk : ∀ fr, P fr → callT D n f args dst fr M l' k) : callT D n f args dst fr M l' k := hk fr h
theorem acts_1000 {one : List Act} (h : one.length ≤ 50) : (actsT one).length ≤ 1000 := by
  have := len_acts one
  omega
/-- Behind the rounds. -/
theorem plays_end (M0 M : Mem) (one two : List Act) (h1 : one.length ≤ 50) (h2 : two.length ≤ 50) {tc bm rc uc um qc : Nat} {s q : V} (h : TwoT M0 M tc bm rc s (actsT one) uc um qc q (actsT two)) (w : V) (M1 : Mem) (hG : Grew M M1) (hW : Hold M.next M1 2 w (nodesL (actsT one)).length (elSt.all (nodesL (actsT one)))) {R : V → Mem → Prop}
    (hR : ∀ M, R (.bool true) M) (fr : Fr) (f5 : fr.rd 5 = .ptr (some (tc, 0))) (f6 : fr.rd 6 = .ptr (some (uc, 0))) (f7 : fr.rd 7 = .ptr (some (rc, 0))) (f8 : fr.rd 8 = .ptr (some (qc, 0))) (f12 : fr.rd 12 = w) :
    W D3 162 (.seq (.ops A_law10_TreePlays_34) .ret) fr M1 (Q := endQ [.tmp 4] R) ⟨⟩ := by
  have hl : (actsT one).length ≤ 1000 := acts_1000 h1
  have hI := inv_acts one
  have hJ := inv_acts two
  have hA := h.A.grew hG
  have hB := h.B.grew hG
  generalize actsT one = l at *
  generalize actsT two = k at *
  simp -dsimp only [↓w_seq, ↓w_ops, ↓w_skip, ↓w_ret, ↓w_exit, ↓w_scope, ↓w_block, ↓w_cond, cond_true', cond_false', ↓t_nil, ↓t_plain, ↓t_guard, ↓t_gagain, ↓t_again, t_val, t_call, g_true, g_false, ga_true, ga_false, a_val, a_call, ↓n_normal, ↓n_ret, ↓n_exit, ↓b_normal, ↓b_ret, ↓b_exit, ↓e_normal, ↓e_ret, e_some, go_sem, ↓reduceIte, Nat.reduceEqDiff, Nat.reduceLT, Nat.reduceSub, A_law10_TreePlays_34, f5]
  refine call_of ((Nodes_runs M1 tc bm l hA.T (room_small hl)).more le3) ?_
  intro v M2 hv
  obtain ⟨hG2, hH⟩ := hv
  have hs1 := (SlG.of hH).1
  have hs2 := ((SlG.of hW).grew hG2).1
  simp -dsimp only [↓w_seq, ↓w_ops, ↓w_skip, ↓w_ret, ↓w_exit, ↓w_scope, ↓w_block, ↓w_cond, cond_true', cond_false', ↓t_nil, ↓t_plain, ↓t_guard, ↓t_gagain, ↓t_again, t_val, t_call, g_true, g_false, ga_true, ga_false, a_val, a_call, ↓n_normal, ↓n_ret, ↓n_exit, ↓b_normal, ↓b_ret, ↓b_exit, ↓e_normal, ↓e_ret, e_some, go_sem, ↓reduceIte, Nat.reduceEqDiff, Nat.reduceLT, Nat.reduceSub, f12]
  refine call_eq ((lSame_runs v w (nodesL l) (nodesL l) (by rw [nodes_len]; omega) M2 hs1 hs2).more le3) ?_
  have hA2 := hA.grew hG2
  have hB2 := hB.grew hG2
  have e1 : decide (nodesL l = nodesL l) = true := decide_eq_true rfl
  rw [e1]
  simp -dsimp only [↓w_seq, ↓w_ops, ↓w_skip, ↓w_ret, ↓w_exit, ↓w_scope, ↓w_block, ↓w_cond, cond_true', cond_false', ↓t_nil, ↓t_plain, ↓t_guard, ↓t_gagain, ↓t_again, t_val, t_call, g_true, g_false, ga_true, ga_false, a_val, a_call, ↓n_normal, ↓n_ret, ↓n_exit, ↓b_normal, ↓b_ret, ↓b_exit, ↓e_normal, ↓e_ret, e_some, go_sem, ↓reduceIte, Nat.reduceEqDiff, Nat.reduceLT, Nat.reduceSub, f5, f6]
  refine call_eq (Same_runs M2 tc bm uc um l k hA2.T hB2.T hI.nd) ?_
  simp -dsimp only [↓w_seq, ↓w_ops, ↓w_skip, ↓w_ret, ↓w_exit, ↓w_scope, ↓w_block, ↓w_cond, cond_true', cond_false', ↓t_nil, ↓t_plain, ↓t_guard, ↓t_gagain, ↓t_again, t_val, t_call, g_true, g_false, ga_true, ga_false, a_val, a_call, ↓n_normal, ↓n_ret, ↓n_exit, ↓b_normal, ↓b_ret, ↓b_exit, ↓e_normal, ↓e_ret, e_some, go_sem, ↓reduceIte, Nat.reduceEqDiff, Nat.reduceLT, Nat.reduceSub, f7, f8]
  refine call_eq ((rSame_runs rc qc s q (rowsL l) (rowsL k) M2 hA2.r hB2.r).more le3) ?_
  rw [same_is hI hJ]
  simp -dsimp only [↓w_seq, ↓w_ops, ↓w_skip, ↓w_ret, ↓w_exit, ↓w_scope, ↓w_block, ↓w_cond, cond_true', cond_false', ↓t_nil, ↓t_plain, ↓t_guard, ↓t_gagain, ↓t_again, t_val, t_call, g_true, g_false, ga_true, ga_false, a_val, a_call, ↓n_normal, ↓n_ret, ↓n_exit, ↓b_normal, ↓b_ret, ↓b_exit, ↓e_normal, ↓e_ret, e_some, go_sem, ↓reduceIte, Nat.reduceEqDiff, Nat.reduceLT, Nat.reduceSub, bool_same, f5]
  refine callT_abs (fun fr => fr.rd 157 = .ptr (some (tc, 0)) ∧ fr.rd 156 = .bool true) ⟨by simp only [go_sem, ↓reduceIte, Nat.reduceEqDiff, Nat.reduceLT, Nat.reduceSub], by simp only [go_sem, ↓reduceIte, Nat.reduceEqDiff, Nat.reduceLT, Nat.reduceSub]⟩ ?_
  clear f5 f6 f7 f8 f12 fr
  intro fr hfr
  obtain ⟨f157, f156⟩ := hfr
  refine call_of (Clone_runs D3 le3b M2 tc bm l hA2.T) ?_
  intro v M3 hv
  rw [hv.1]
  have hG3 := hv.2.1
  have hT3 := hv.2.2
  clear hv
  simp -dsimp only [↓w_seq, ↓w_ops, ↓w_skip, ↓w_ret, ↓w_exit, ↓w_scope, ↓w_block, ↓w_cond, cond_true', cond_false', ↓t_nil, ↓t_plain, ↓t_guard, ↓t_gagain, ↓t_again, t_val, t_call, g_true, g_false, ga_true, ga_false, a_val, a_call, ↓n_normal, ↓n_ret, ↓n_exit, ↓b_normal, ↓b_ret, ↓b_exit, ↓e_normal, ↓e_ret, e_some, go_sem, ↓reduceIte, Nat.reduceEqDiff, Nat.reduceLT, Nat.reduceSub, f157, f156]
  refine call_eq (Same_runs M3 tc bm (M2.next + 1) M2.next l l (hA2.T.grew hG3) hT3 hI.nd) ?_
  rw [eqB_self]
  simp -dsimp only [↓w_seq, ↓w_ops, ↓w_skip, ↓w_ret, ↓w_exit, ↓w_scope, ↓w_block, ↓w_cond, cond_true', cond_false', ↓t_nil, ↓t_plain, ↓t_guard, ↓t_gagain, ↓t_again, t_val, t_call, g_true, g_false, ga_true, ga_false, a_val, a_call, ↓n_normal, ↓n_ret, ↓n_exit, ↓b_normal, ↓b_ret, ↓b_exit, ↓e_normal, ↓e_ret, e_some, go_sem, ↓reduceIte, Nat.reduceEqDiff, Nat.reduceLT, Nat.reduceSub, f156]
  exact hR _

theorem tree_plays_runs (s1 s2 : V) (one two : List Act) (M0 : Mem) (hs1 : SlR elAct M0 s1 one) (hs2 : SlR elAct M0 s2 two) (hk1 : ∀ x ∈ one, x.2.2.2.length < 2 ^ 63) (hk2 : ∀ x ∈ two, x.2.2.2.length < 2 ^ 63) (hlt1 : ∀ b, s1.blk = some b → one ≠ [] → b < M0.next) (hlt2 : ∀ b, s2.blk = some b → two ≠ [] → b < M0.next) (hg : isG M0 = true) (hn : 2 ≤ M0.next) :
    Runs D3 F_law10_TreePlays [s1, s2] M0 fun v _ => v = .bool true := by
  refine R_opq fun R hR => ?_
  refine Runs.walk (F := A_law10_TreePlays) rfl (by rfl) (by rfl) ?_
  unfold A_law10_TreePlays
  have hk0 : W D3 162 (.seq (.ops A_law10_TreePlays_2) .ret) = W D3 162 (.seq (.ops A_law10_TreePlays_2) .ret) := rfl
  obtain ⟨a1, c1, e1, _⟩ := id hs1
  obtain ⟨a2, c2, e2, _⟩ := id hs2
  simp -dsimp only [↓w_seq, ↓w_ops, ↓w_skip, ↓w_ret, ↓w_exit, ↓w_scope, ↓w_block, ↓w_cond, cond_true', cond_false', ↓t_nil, ↓t_plain, ↓t_guard, ↓t_gagain, ↓t_again, t_val, t_call, g_true, g_false, ga_true, ga_false, a_val, a_call, ↓n_normal, ↓n_ret, ↓n_exit, ↓b_normal, ↓b_ret, ↓b_exit, ↓e_normal, ↓e_ret, e_some, go_sem, ↓reduceIte, Nat.reduceEqDiff, Nat.reduceLT, Nat.reduceSub, A_law10_TreePlays_0, A_law10_TreePlays_1]
  refine call_of ((Long_runs s1 one M0 hs1 hk1).more le3) ?_
  intro v M hv
  obtain ⟨⟨b1, hb1, hL1⟩, hM⟩ := hv
  rw [hb1, hM]
  clear hb1 hM
  cases b1 with
  | true =>
    simp -dsimp only [↓w_seq, ↓w_ops, ↓w_skip, ↓w_ret, ↓w_exit, ↓w_scope, ↓w_block, ↓w_cond, cond_true', cond_false', ↓t_nil, ↓t_plain, ↓t_guard, ↓t_gagain, ↓t_again, t_val, t_call, g_true, g_false, ga_true, ga_false, a_val, a_call, ↓n_normal, ↓n_ret, ↓n_exit, ↓b_normal, ↓b_ret, ↓b_exit, ↓e_normal, ↓e_ret, e_some, go_sem, ↓reduceIte, Nat.reduceEqDiff, Nat.reduceLT, Nat.reduceSub, A_law10_TreePlays_2]
    refine call_eq ((knows_p hg).more le3) ?_
    simp -dsimp only [↓w_seq, ↓w_ops, ↓w_skip, ↓w_ret, ↓w_exit, ↓w_scope, ↓w_block, ↓w_cond, cond_true', cond_false', ↓t_nil, ↓t_plain, ↓t_guard, ↓t_gagain, ↓t_again, t_val, t_call, g_true, g_false, ga_true, ga_false, a_val, a_call, ↓n_normal, ↓n_ret, ↓n_exit, ↓b_normal, ↓b_ret, ↓b_exit, ↓e_normal, ↓e_ret, e_some, go_sem, ↓reduceIte, Nat.reduceEqDiff, Nat.reduceLT, Nat.reduceSub]
    exact hR _ _ rfl
  | false =>
    simp -dsimp only [↓w_seq, ↓w_ops, ↓w_skip, ↓w_ret, ↓w_exit, ↓w_scope, ↓w_block, ↓w_cond, cond_true', cond_false', ↓t_nil, ↓t_plain, ↓t_guard, ↓t_gagain, ↓t_again, t_val, t_call, g_true, g_false, ga_true, ga_false, a_val, a_call, ↓n_normal, ↓n_ret, ↓n_exit, ↓b_normal, ↓b_ret, ↓b_exit, ↓e_normal, ↓e_ret, e_some, go_sem, ↓reduceIte, Nat.reduceEqDiff, Nat.reduceLT, Nat.reduceSub]
    refine call_of ((Long_runs s2 two M0 hs2 hk2).more le3) ?_
    intro v M hv
    obtain ⟨⟨b2, hb2, hL2⟩, hM⟩ := hv
    rw [hb2, hM]
    clear hb2 hM
    cases b2 with
    | true =>
      simp -dsimp only [↓w_seq, ↓w_ops, ↓w_skip, ↓w_ret, ↓w_exit, ↓w_scope, ↓w_block, ↓w_cond, cond_true', cond_false', ↓t_nil, ↓t_plain, ↓t_guard, ↓t_gagain, ↓t_again, t_val, t_call, g_true, g_false, ga_true, ga_false, a_val, a_call, ↓n_normal, ↓n_ret, ↓n_exit, ↓b_normal, ↓b_ret, ↓b_exit, ↓e_normal, ↓e_ret, e_some, go_sem, ↓reduceIte, Nat.reduceEqDiff, Nat.reduceLT, Nat.reduceSub, A_law10_TreePlays_2]
      refine call_eq ((knows_p hg).more le3) ?_
      simp -dsimp only [↓w_seq, ↓w_ops, ↓w_skip, ↓w_ret, ↓w_exit, ↓w_scope, ↓w_block, ↓w_cond, cond_true', cond_false', ↓t_nil, ↓t_plain, ↓t_guard, ↓t_gagain, ↓t_again, t_val, t_call, g_true, g_false, ga_true, ga_false, a_val, a_call, ↓n_normal, ↓n_ret, ↓n_exit, ↓b_normal, ↓b_ret, ↓b_exit, ↓e_normal, ↓e_ret, e_some, go_sem, ↓reduceIte, Nat.reduceEqDiff, Nat.reduceLT, Nat.reduceSub]
      exact hR _ _ rfl
    | false =>
      by_cases h1 : 50 < one.length
      · have h1' : (50 : Int) < one.length := by omega
        simp -dsimp only [↓w_seq, ↓w_ops, ↓w_skip, ↓w_ret, ↓w_exit, ↓w_scope, ↓w_block, ↓w_cond, cond_true', cond_false', ↓t_nil, ↓t_plain, ↓t_guard, ↓t_gagain, ↓t_again, t_val, t_call, g_true, g_false, ga_true, ga_false, a_val, a_call, ↓n_normal, ↓n_ret, ↓n_exit, ↓b_normal, ↓b_ret, ↓b_exit, ↓e_normal, ↓e_ret, e_some, go_sem, ↓reduceIte, Nat.reduceEqDiff, Nat.reduceLT, Nat.reduceSub, e1, h1', decide_true, A_law10_TreePlays_2]
        refine call_eq ((knows_p hg).more le3) ?_
        simp -dsimp only [↓w_seq, ↓w_ops, ↓w_skip, ↓w_ret, ↓w_exit, ↓w_scope, ↓w_block, ↓w_cond, cond_true', cond_false', ↓t_nil, ↓t_plain, ↓t_guard, ↓t_gagain, ↓t_again, t_val, t_call, g_true, g_false, ga_true, ga_false, a_val, a_call, ↓n_normal, ↓n_ret, ↓n_exit, ↓b_normal, ↓b_ret, ↓b_exit, ↓e_normal, ↓e_ret, e_some, go_sem, ↓reduceIte, Nat.reduceEqDiff, Nat.reduceLT, Nat.reduceSub]
        exact hR _ _ rfl
      · have h1' : ¬ (50 : Int) < one.length := by omega
        by_cases h2 : 50 < two.length
        · have h2' : (50 : Int) < two.length := by omega
          simp -dsimp only [↓w_seq, ↓w_ops, ↓w_skip, ↓w_ret, ↓w_exit, ↓w_scope, ↓w_block, ↓w_cond, cond_true', cond_false', ↓t_nil, ↓t_plain, ↓t_guard, ↓t_gagain, ↓t_again, t_val, t_call, g_true, g_false, ga_true, ga_false, a_val, a_call, ↓n_normal, ↓n_ret, ↓n_exit, ↓b_normal, ↓b_ret, ↓b_exit, ↓e_normal, ↓e_ret, e_some, go_sem, ↓reduceIte, Nat.reduceEqDiff, Nat.reduceLT, Nat.reduceSub, e1, e2, h1', h2', decide_true, decide_false, A_law10_TreePlays_2]
          refine call_eq ((knows_p hg).more le3) ?_
          simp -dsimp only [↓w_seq, ↓w_ops, ↓w_skip, ↓w_ret, ↓w_exit, ↓w_scope, ↓w_block, ↓w_cond, cond_true', cond_false', ↓t_nil, ↓t_plain, ↓t_guard, ↓t_gagain, ↓t_again, t_val, t_call, g_true, g_false, ga_true, ga_false, a_val, a_call, ↓n_normal, ↓n_ret, ↓n_exit, ↓b_normal, ↓b_ret, ↓b_exit, ↓e_normal, ↓e_ret, e_some, go_sem, ↓reduceIte, Nat.reduceEqDiff, Nat.reduceLT, Nat.reduceSub]
          exact hR _ _ rfl
        · have h2' : ¬ (50 : Int) < two.length := by omega
          simp -dsimp only [↓w_seq, ↓w_ops, ↓w_skip, ↓w_ret, ↓w_exit, ↓w_scope, ↓w_block, ↓w_cond, cond_true', cond_false', ↓t_nil, ↓t_plain, ↓t_guard, ↓t_gagain, ↓t_again, t_val, t_call, g_true, g_false, ga_true, ga_false, a_val, a_call, ↓n_normal, ↓n_ret, ↓n_exit, ↓b_normal, ↓b_ret, ↓b_exit, ↓e_normal, ↓e_ret, e_some, go_sem, ↓reduceIte, Nat.reduceEqDiff, Nat.reduceLT, Nat.reduceSub, e1, e2, h1', h2', decide_false, A_law10_TreePlays_3]
          refine call_of ((New_runs D2 rfl (by rfl) M0).more le3) ?_
          intro v M1 hv
          rw [hv.1]
          obtain ⟨_, hG1, hT1⟩ := hv
          simp -dsimp only [↓w_seq, ↓w_ops, ↓w_skip, ↓w_ret, ↓w_exit, ↓w_scope, ↓w_block, ↓w_cond, cond_true', cond_false', ↓t_nil, ↓t_plain, ↓t_guard, ↓t_gagain, ↓t_again, t_val, t_call, g_true, g_false, ga_true, ga_false, a_val, a_call, ↓n_normal, ↓n_ret, ↓n_exit, ↓b_normal, ↓b_ret, ↓b_exit, ↓e_normal, ↓e_ret, e_some, go_sem, ↓reduceIte, Nat.reduceEqDiff, Nat.reduceLT, Nat.reduceSub, A_law10_TreePlays_4]
          refine call_of ((New_runs D2 rfl (by rfl) M1).more le3) ?_
          intro v M2 hv
          rw [hv.1]
          obtain ⟨_, hG2, hT2⟩ := hv
          have h := two_new hG1 hT1 hG2 hT2
          have hf : fillCells [.slice none 0 (.exact 0)] [] = some [.slice none 0 (.exact 0)] := rfl
          simp -dsimp only [↓w_seq, ↓w_ops, ↓w_skip, ↓w_ret, ↓w_exit, ↓w_scope, ↓w_block, ↓w_cond, cond_true', cond_false', ↓t_nil, ↓t_plain, ↓t_guard, ↓t_gagain, ↓t_again, t_val, t_call, g_true, g_false, ga_true, ga_false, a_val, a_call, ↓n_normal, ↓n_ret, ↓n_exit, ↓b_normal, ↓b_ret, ↓b_exit, ↓e_normal, ↓e_ret, e_some, go_sem, ↓reduceIte, Nat.reduceEqDiff, Nat.reduceLT, Nat.reduceSub, A_law10_TreePlays_5, A_law10_TreePlays_6, A_law10_TreePlays_7, hf, vof, Option.map_some, V.cells, Mem.next_push, nil_ptr, nil_ptr', decide_false]
          have hg3 := isG_keep hg hn h.old
          generalize (M2.push (.cells [.slice none 0 (.exact 0)] false)).push (.cells [.slice none 0 (.exact 0)] false) = M3 at *
          refine call_eq ((knows_p hg3).more le3) ?_
          simp -dsimp only [↓w_seq, ↓w_ops, ↓w_skip, ↓w_ret, ↓w_exit, ↓w_scope, ↓w_block, ↓w_cond, cond_true', cond_false', ↓t_nil, ↓t_plain, ↓t_guard, ↓t_gagain, ↓t_again, t_val, t_call, g_true, g_false, ga_true, ga_false, a_val, a_call, ↓n_normal, ↓n_ret, ↓n_exit, ↓b_normal, ↓b_ret, ↓b_exit, ↓e_normal, ↓e_ret, e_some, go_sem, ↓reduceIte, Nat.reduceEqDiff, Nat.reduceLT, Nat.reduceSub, Bool.not_true, A_law10_TreePlays_9]
          refine plays_loop M0 s1 s2 one two hs1 hs2 hlt1 hlt2 (by omega) (by omega) hg hn ?_ (max one.length two.length) 0 _ M3 _ _ _ _ (by omega) h ⟨?_, ?_, ?_, ?_, ?_, ?_, ?_⟩ (by omega)
          · intro fr M tc bm s q hE hF
            obtain ⟨f5, f6, f7, f8⟩ := hF
            simp -dsimp only [↓w_seq, ↓w_ops, ↓w_skip, ↓w_ret, ↓w_exit, ↓w_scope, ↓w_block, ↓w_cond, cond_true', cond_false', ↓t_nil, ↓t_plain, ↓t_guard, ↓t_gagain, ↓t_again, t_val, t_call, g_true, g_false, ga_true, ga_false, a_val, a_call, ↓n_normal, ↓n_ret, ↓n_exit, ↓b_normal, ↓b_ret, ↓b_exit, ↓e_normal, ↓e_ret, e_some, go_sem, ↓reduceIte, Nat.reduceEqDiff, Nat.reduceLT, Nat.reduceSub, A_law10_TreePlays_28, A_law10_TreePlays_29]
            refine want_loop M2.next s (rowsL (actsT one)) M hE.A.r (x5 := .ptr (some (tc, 0))) (x6 := .ptr (some (M1.next + 1, 0))) (x8 := .ptr (some (M2.next + 1, 0))) ?_ (rowsL (actsT one)).length 0 (.slice none 0 (.exact 0)) _ M (by omega) (Grew.refl M) .nil ?_ ?_ ?_ ?_ ?_ ?_
            · intro fr M4 w hG4 hW f5 f6 f7 f8 f12
              rw [rows_nodes] at hW
              have hb0 := plays_end M0 M one two (by omega) (by omega) hE w M4 hG4 hW (R := R) (fun M => hR _ M rfl) fr f5 f6 f7 f8 f12
              simp -dsimp only [↓w_seq, ↓w_ops, ↓w_skip, ↓w_ret, ↓w_exit, ↓w_scope, ↓w_block, ↓w_cond, cond_true', cond_false', ↓t_nil, ↓t_plain, ↓t_guard, ↓t_gagain, ↓t_again, t_val, t_call, g_true, g_false, ga_true, ga_false, a_val, a_call, ↓n_normal, ↓n_ret, ↓n_exit, ↓b_normal, ↓b_ret, ↓b_exit, ↓e_normal, ↓e_ret, e_some, go_sem, ↓reduceIte, Nat.reduceEqDiff, Nat.reduceLT, Nat.reduceSub] at hb0
              simp -dsimp only [↓w_seq, ↓w_ops, ↓w_skip, ↓w_ret, ↓w_exit, ↓w_scope, ↓w_block, ↓w_cond, cond_true', cond_false', ↓t_nil, ↓t_plain, ↓t_guard, ↓t_gagain, ↓t_again, t_val, t_call, g_true, g_false, ga_true, ga_false, a_val, a_call, ↓n_normal, ↓n_ret, ↓n_exit, ↓b_normal, ↓b_ret, ↓b_exit, ↓e_normal, ↓e_ret, e_some, go_sem, ↓reduceIte, Nat.reduceEqDiff, Nat.reduceLT, Nat.reduceSub]
              exact hb0
            all_goals simp only [go_sem, ↓reduceIte, Nat.reduceEqDiff, Nat.reduceLT, Nat.reduceSub, f5, f6, f7, f8]
            rfl
          all_goals simp only [go_sem, ↓reduceIte, Nat.reduceEqDiff, Nat.reduceLT, Nat.reduceSub, e1, e2]
          rfl
end Go.Am.Tryd


/- What the condition on the program's two listed variables gives; slices of acts handed in. -/
set_option linter.unusedSimpArgs false
set_option linter.unusedVariables false
namespace Go.Proofs.YtefigbdkennhaaaDoor.laid
open Go.ChangeShapes Go.WideShapes Go.ChangeAt Go.RowKit

theorem own : ownKnob Tryd.prog.godebug = none := by kernel_rfl
theorem gRoot : Tryd.prog.globalNamed "diorama/op.root" = some 0 := by kernel_rfl
theorem gTrash : Tryd.prog.globalNamed "diorama/op.trash" = some 1 := by kernel_rfl
theorem tRoot : (Tryd.prog.globals[0]?).map (·.type) = some 29 := by kernel_rfl
theorem tTrash : (Tryd.prog.globals[1]?).map (·.type) = some 29 := by kernel_rfl
abbrev two : List (String × DataW Unit) := [("diorama/op.root", Rows.laid_diorama_op_root), ("diorama/op.trash", Rows.laid_diorama_op_trash)]

/-- The door's own heap meets the condition. -/
theorem door_met (os : Os) (args : Array Value) : laidMetH Tryd.prog two ((World.doorLaid Tryd.prog 400 os).forCall (fun _ _ => 0) ⟨#[], args, []⟩).memory :=
  laidMetH_of_parts3 (fuel := 8) (laidMet_of_run' 8 (by kernel_rfl) (by kernel_rfl)) (by kernel_rfl) (by kernel_rfl)

theorem stamp_read {W : World} {fuel : Nat} {cs : List Value} {p : List MemPlace} {a b : Int} (h : DataW.trod (fun _ => ()) Tryd.prog W 0 (fun _ => true) false fuel 29 cs = some (.agg [.lit (.int .i64 a), .lit (.int .i64 b)], p)) :
    cs = [.int .i64 a, .int .i64 b] := by
  obtain ⟨y0, y1, n, hx, hl, h0, h1⟩ := trod_struct2 Tryd.underlying29 h
  have c29 : Tryd.prog.cellsOf 29 = 2 := by kernel_rfl
  have c3 : Tryd.prog.cellsOf 3 = 1 := by kernel_rfl
  rw [c29] at hl
  simp only [c3] at h0 h1
  obtain ⟨k0, e0, f0, _⟩ := DataW.trod_int Tryd.underlying3 h0
  obtain ⟨k1, e1, f1, _⟩ := DataW.trod_int Tryd.underlying3 h1
  match cs, hl with
  | [c, d], _ =>
    simp at e0 e1
    subst e0 e1 f0 f1
    simp only [Prod.mk.injEq, DataW.agg.injEq, List.cons.injEq, DataW.lit.injEq, Lit.int.injEq, true_and, and_true] at hx
    obtain ⟨⟨rfl, rfl⟩, _⟩ := hx
    rfl
/-- What the condition gives: the two variables' rows. -/
theorem of_laid {W : World} (h : laidMetH Tryd.prog two W) : ∃ k0 k1, Go.Am.Env.ok [(Go.Am.Tryd.stC (0, 0), 0, 0, k0), (Go.Am.Tryd.stC (0, 1), 1, 0, k1)] W := by
  rw [MakeChecks.laidMetH_plain _ _ _ (by kernel_rfl)] at h
  obtain ⟨ps, ⟨g0, t0, cs0, f0, p0, q0, hg0, ht0, hv0, hd0, ⟨g1, t1, cs1, f1, p1, q1, hg1, ht1, hv1, hd1, _, _⟩, _⟩, _, _⟩ := h
  obtain rfl := Option.some.inj (gRoot.symm.trans hg0)
  obtain rfl := Option.some.inj (gTrash.symm.trans hg1)
  obtain rfl := Option.some.inj (tRoot.symm.trans ht0)
  obtain rfl := Option.some.inj (tTrash.symm.trans ht1)
  have r0 := stamp_read hd0
  have r1 := stamp_read hd1
  have key : ∀ (n : String) (g : Nat) (cs : Array Value) (x : Go.Am.Tryd.St), Tryd.prog.globalNamed n = some g → W.var? Tryd.prog n = some cs → cs.toList = [.int .i64 x.1, .int .i64 x.2] →
      ∃ arr elem fz, W.heap[g]? = some (.cells arr elem fz) ∧ (∀ E, Go.Am.CR E (Go.Am.Tryd.stC x) arr 0) ∧ 0 + arr.size = arr.size ∧ arr.size = 2 := by
    intro n g cs x hg hv hl
    simp only [World.var?, hg, Option.bind_some] at hv
    split at hv
    · rename_i arr elem fz hh
      cases hv
      refine ⟨_, elem, fz, hh, fun E i v hi => ?_, Nat.zero_add _, by rw [← Array.length_toList, hl]; rfl⟩
      have e : ∀ j, cs[j]? = ([Value.int .i64 x.1, Value.int .i64 x.2] : List Value)[j]? := fun j => by rw [← hl, Array.getElem?_toList]
      rw [Nat.zero_add, e]
      match i, hi with
      | 0, hi => cases hi; exact ⟨_, rfl, .int _ _⟩
      | 1, hi => cases hi; exact ⟨_, rfl, .int _ _⟩
    · cases hv
  obtain ⟨a0, el0, fz0, h1, h2, h3, s0⟩ := key _ 0 cs0 (0, 0) gRoot hv0 r0
  obtain ⟨a1, el1, fz1, i1, i2, i3, s1⟩ := key _ 1 cs1 (0, 1) gTrash hv1 r1
  refine ⟨a0.size, a1.size, fun x hx => ?_⟩
  simp only [List.mem_cons, List.not_mem_nil, or_false] at hx
  rcases hx with rfl | rfl
  · exact ⟨a0, el0, fz0, h1, h2, h3⟩
  · exact ⟨a1, el1, fz1, i1, i2, i3⟩
theorem env_cons {l l' : Go.Am.Env} {W : World} (h : Go.Am.Env.ok l W) (h' : Go.Am.Env.ok l' W) : Go.Am.Env.ok (l ++ l') W := fun x hx => by
  rcases List.mem_append.mp hx with hx | hx
  · exact h x hx
  · exact h' x hx

abbrev actK : List Go.Am.CK := [.int .i64, .int .i64, .int .i64, .int .i64, .int .i64, .str]
theorem act_fit (cs : List Value) (h : Go.Am.Fits actK cs) : ∃ x : Go.Am.Tryd.Act, Go.Am.Tryd.elAct.enc x = cs := by
  obtain ⟨v0, r0, e0, h0, h⟩ := h.cons_of
  obtain ⟨v1, r1, e1, h1, h⟩ := h.cons_of
  obtain ⟨v2, r2, e2, h2, h⟩ := h.cons_of
  obtain ⟨v3, r3, e3, h3, h⟩ := h.cons_of
  obtain ⟨v4, r4, e4, h4, h⟩ := h.cons_of
  obtain ⟨v5, r5, e5, h5, h⟩ := h.cons_of
  have e6 := h.nil_of
  obtain ⟨n0, g0, _⟩ := h0
  obtain ⟨n1, g1, _⟩ := h1
  obtain ⟨n2, g2, _⟩ := h2
  obtain ⟨n3, g3, _⟩ := h3
  obtain ⟨n4, g4, _⟩ := h4
  obtain ⟨s, g5, _⟩ := h5
  rw [e0, e1, e2, e3, e4, e5, e6, g0, g1, g2, g3, g4, g5]
  exact ⟨(n0, (n1, n2), ((n3, n4), s.data.toList)), rfl⟩
theorem act_key (x : Go.Am.Tryd.Act) (h : Go.Am.Fits actK (Go.Am.Tryd.elAct.enc x)) : x.2.2.2.length < 2 ^ 63 := by
  obtain ⟨s, e, hs⟩ := h.2.2.2.2.2.1
  have e' := Value.string.inj e
  rw [← e'] at hs
  have : maxLen = 2 ^ 63 - 1 := rfl
  have h2 : ByteArray.size ⟨x.2.2.2.toArray⟩ = x.2.2.2.length := by simp [ByteArray.size]
  omega
theorem shape33 : Go.Am.shape Tryd.prog 6 33 = some actK := by kernel_rfl
theorem cells33 : Tryd.prog.cellsOf 33 = Go.Am.Tryd.elAct.k := by kernel_rfl
theorem under22 : Tryd.prog.underlying 22 = some (.slice 33) := Tryd.underlying22
theorem glob_at {k0 k1 : Nat} {l : Go.Am.Env} : ∀ x, Go.Am.Tryd.gl0 x = true → ∃ k, Go.Am.Env.emb ((Go.Am.Tryd.stC (0, 0), 0, 0, k0) :: (Go.Am.Tryd.stC (0, 1), 1, 0, k1) :: l) x = some (x, 0, k) := fun x hx => by
  rcases Go.Am.Tryd.gl_two hx with rfl | rfl
  · exact ⟨k0, rfl⟩
  · exact ⟨k1, rfl⟩
theorem glob_is {k0 k1 : Nat} {l : Go.Am.Env} : Go.Am.Tryd.isG (Go.Am.Env.mem ((Go.Am.Tryd.stC (0, 0), 0, 0, k0) :: (Go.Am.Tryd.stC (0, 1), 1, 0, k1) :: l)) = true :=
  Go.Am.Tryd.isG_mk (by rw [Go.Am.Env.get_mem]; rfl) (by rw [Go.Am.Env.get_mem]; rfl)
/-- A slice of acts in memory behind the two variables. -/
theorem acts_at {k0 k1 c o k cap len : Nat} {xs : List Go.Am.Tryd.Act} {l : Go.Am.Env} (hlc : len ≤ cap) (hxl : xs.length = cap) :
    Go.Am.SlR Go.Am.Tryd.elAct (Go.Am.Env.mem ((Go.Am.Tryd.stC (0, 0), 0, 0, k0) :: (Go.Am.Tryd.stC (0, 1), 1, 0, k1) :: (Go.Am.Tryd.elAct.all xs, c, o, k) :: l)) (.slice (some (2, 0)) len (.exact cap)) (xs.take len) := by
  refine ⟨some (2, 0), .exact cap, by rw [List.length_take, hxl, Nat.min_eq_left hlc], .inr ⟨2, 0, Go.Am.Tryd.elAct.all xs, true, rfl, by rw [Go.Am.Env.get_mem]; rfl, fun i hi => ?_⟩⟩
  rw [Nat.zero_add, List.getElem_take]
  exact Go.Am.Tryd.elAct.rd xs i (by rw [List.length_take] at hi; omega)
end Go.Proofs.YtefigbdkennhaaaDoor.laid


