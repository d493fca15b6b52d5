/- The machine and what is proved of its runs, part 6: what each part says stands at its head. -/
import Derived.Test.YtefigbdkennhaaaGreatDoorJ5
import Derived.Lib.Bytealg
import Derived.Lib.Strings
import Derived.Lib.Slices
import Derived.Lib.Walk
import Derived.Shelf.SlMaps.Clone
import Derived.Lib.Overlaps
set_option linter.unusedSimpArgs false
set_option linter.unusedVariables false
set_option linter.unusedSectionVars false
/- The reference's small functions, as parts. -/
namespace Go.Am.Tryz
open Go Go.Am Go.Proofs Go.Sort Go.Shelf
set_option maxRecDepth 100000
set_option linter.unusedSimpArgs false
set_option linter.unusedVariables false

theorem rright_runs (D : Decls) (hp : D.prim F_ref02_Right = none) (hc : D.code.get F_ref02_Right = some A_ref02_Right) (M : Mem) (x : St) :
    Runs D F_ref02_Right [.agg (stC x)] M fun v M' => v = .bool (rightSt x) ∧ ∀ c, c < M.next → M'.get c = M.get c := by
  refine R_opq fun R hR => ?_
  refine Runs.walk (F := A_ref02_Right) hp hc (by rfl) ?_
  unfold A_ref02_Right
  have hcn : V.cells (.agg (stC x)) = stC x := rfl
  have g1 : (M.push (.cells (stC x) false)).get M.next = some (.cells (stC x) false) := Mem.get_push_same _ _
  have hG : ∀ c, c < M.next → (M.push (.cells (stC x) false)).get c = M.get c := (Grew.push _ _).old
  have e0 : (stC x)[0]? = some (.int .i64 x.1) := rfl
  have e1 : (stC x)[1]? = some (.int .i64 x.2) := rfl
  have fin : ∀ b, b = rightSt x → R (.bool b) (M.push (.cells (stC x) false)) := fun b hb => hR _ _ ⟨by rw [hb], hG⟩
  simp -dsimp only [↓w_seq, ↓w_ops, ↓w_skip, ↓w_ret, ↓w_exit, ↓w_scope, ↓w_block, ↓w_cond, cond_true', cond_false', ↓t_nil, ↓t_plain, ↓t_guard, ↓t_gagain, ↓t_again, t_val, t_call, g_true, g_false, ga_true, ga_false, a_val, a_call, ↓n_normal, ↓n_ret, ↓n_exit, ↓b_normal, ↓b_ret, ↓b_exit, ↓e_normal, ↓e_ret, e_some, go_sem, ↓reduceIte, Nat.reduceEqDiff, Nat.reduceLT, Nat.reduceSub, A_ref02_Right_0, A_ref02_Right_1, hcn]
  generalize M.push (.cells (stC x) false) = M1 at *
  simp -dsimp only [↓w_seq, ↓w_ops, ↓w_skip, ↓w_ret, ↓w_exit, ↓w_scope, ↓w_block, ↓w_cond, cond_true', cond_false', ↓t_nil, ↓t_plain, ↓t_guard, ↓t_gagain, ↓t_again, t_val, t_call, g_true, g_false, ga_true, ga_false, a_val, a_call, ↓n_normal, ↓n_ret, ↓n_exit, ↓b_normal, ↓b_ret, ↓b_exit, ↓e_normal, ↓e_ret, e_some, go_sem, ↓reduceIte, Nat.reduceEqDiff, Nat.reduceLT, Nat.reduceSub, vload, vptr, Mem.read, g1, Nat.add_zero, e0, e1]
  by_cases h1 : 0 ≤ x.1
  · simp -dsimp only [↓w_seq, ↓w_ops, ↓w_skip, ↓w_ret, ↓w_exit, ↓w_scope, ↓w_block, ↓w_cond, cond_true', cond_false', ↓t_nil, ↓t_plain, ↓t_guard, ↓t_gagain, ↓t_again, t_val, t_call, g_true, g_false, ga_true, ga_false, a_val, a_call, ↓n_normal, ↓n_ret, ↓n_exit, ↓b_normal, ↓b_ret, ↓b_exit, ↓e_normal, ↓e_ret, e_some, go_sem, ↓reduceIte, Nat.reduceEqDiff, Nat.reduceLT, Nat.reduceSub, h1, decide_true, vload, vptr, Mem.read, g1, Nat.add_zero, e0, e1]
    by_cases h2 : x.1 ≤ 1099511627776
    · simp -dsimp only [↓w_seq, ↓w_ops, ↓w_skip, ↓w_ret, ↓w_exit, ↓w_scope, ↓w_block, ↓w_cond, cond_true', cond_false', ↓t_nil, ↓t_plain, ↓t_guard, ↓t_gagain, ↓t_again, t_val, t_call, g_true, g_false, ga_true, ga_false, a_val, a_call, ↓n_normal, ↓n_ret, ↓n_exit, ↓b_normal, ↓b_ret, ↓b_exit, ↓e_normal, ↓e_ret, e_some, go_sem, ↓reduceIte, Nat.reduceEqDiff, Nat.reduceLT, Nat.reduceSub, h2, decide_true, vload, vptr, Mem.read, g1, Nat.add_zero, e0, e1]
      by_cases h3 : 0 ≤ x.2
      · simp -dsimp only [↓w_seq, ↓w_ops, ↓w_skip, ↓w_ret, ↓w_exit, ↓w_scope, ↓w_block, ↓w_cond, cond_true', cond_false', ↓t_nil, ↓t_plain, ↓t_guard, ↓t_gagain, ↓t_again, t_val, t_call, g_true, g_false, ga_true, ga_false, a_val, a_call, ↓n_normal, ↓n_ret, ↓n_exit, ↓b_normal, ↓b_ret, ↓b_exit, ↓e_normal, ↓e_ret, e_some, go_sem, ↓reduceIte, Nat.reduceEqDiff, Nat.reduceLT, Nat.reduceSub, h3, decide_true, vload, vptr, Mem.read, g1, Nat.add_zero, e0, e1]
        exact fin _ (by simp only [rightSt, h1, h2, h3, decide_true, Bool.true_and])
      · simp -dsimp only [↓w_seq, ↓w_ops, ↓w_skip, ↓w_ret, ↓w_exit, ↓w_scope, ↓w_block, ↓w_cond, cond_true', cond_false', ↓t_nil, ↓t_plain, ↓t_guard, ↓t_gagain, ↓t_again, t_val, t_call, g_true, g_false, ga_true, ga_false, a_val, a_call, ↓n_normal, ↓n_ret, ↓n_exit, ↓b_normal, ↓b_ret, ↓b_exit, ↓e_normal, ↓e_ret, e_some, go_sem, ↓reduceIte, Nat.reduceEqDiff, Nat.reduceLT, Nat.reduceSub, h3, decide_false, vload, vptr, Mem.read, g1, Nat.add_zero, e0, e1]
        exact fin _ (by simp only [rightSt, h1, h2, h3, decide_true, decide_false, Bool.true_and, Bool.false_and])
    · simp -dsimp only [↓w_seq, ↓w_ops, ↓w_skip, ↓w_ret, ↓w_exit, ↓w_scope, ↓w_block, ↓w_cond, cond_true', cond_false', ↓t_nil, ↓t_plain, ↓t_guard, ↓t_gagain, ↓t_again, t_val, t_call, g_true, g_false, ga_true, ga_false, a_val, a_call, ↓n_normal, ↓n_ret, ↓n_exit, ↓b_normal, ↓b_ret, ↓b_exit, ↓e_normal, ↓e_ret, e_some, go_sem, ↓reduceIte, Nat.reduceEqDiff, Nat.reduceLT, Nat.reduceSub, h2, decide_false, vload, vptr, Mem.read, g1, Nat.add_zero, e0, e1]
      exact fin _ (by simp only [rightSt, h1, h2, decide_true, decide_false, Bool.true_and, Bool.false_and])
  · simp -dsimp only [↓w_seq, ↓w_ops, ↓w_skip, ↓w_ret, ↓w_exit, ↓w_scope, ↓w_block, ↓w_cond, cond_true', cond_false', ↓t_nil, ↓t_plain, ↓t_guard, ↓t_gagain, ↓t_again, t_val, t_call, g_true, g_false, ga_true, ga_false, a_val, a_call, ↓n_normal, ↓n_ret, ↓n_exit, ↓b_normal, ↓b_ret, ↓b_exit, ↓e_normal, ↓e_ret, e_some, go_sem, ↓reduceIte, Nat.reduceEqDiff, Nat.reduceLT, Nat.reduceSub, h1, decide_false, vload, vptr, Mem.read, g1, Nat.add_zero, e0, e1]
    exact fin _ (by simp only [rightSt, h1, decide_false, Bool.false_and])


theorem rcmp_runs (D : Decls) (hp : D.prim F_ref02_Compare = none) (hc : D.code.get F_ref02_Compare = some A_ref02_Compare) (M : Mem) (a b : St) :
    Runs D F_ref02_Compare [.agg (stC a), .agg (stC b)] M fun v M' => v = .int .i64 (cmpSt a b) ∧ ∀ c, c < M.next → M'.get c = M.get c := by
  refine R_opq fun R hR => ?_
  refine Runs.walk (F := A_ref02_Compare) hp hc (by rfl) ?_
  unfold A_ref02_Compare
  have hcn : ∀ x : St, V.cells (.agg (stC x)) = stC x := fun _ => rfl
  have e0 : ∀ x : St, (stC x)[0]? = some (.int .i64 x.1) := fun _ => rfl
  have e1 : ∀ x : St, (stC x)[1]? = some (.int .i64 x.2) := fun _ => rfl
  have hG := (Grew.push M (.cells (stC a) false)).trans (Grew.push _ (.cells (stC b) false))
  have g2 : ((M.push (.cells (stC a) false)).push (.cells (stC b) false)).get M.next = some (.cells (stC a) false) := by rw [Mem.get_push_ne _ _ (by simp), Mem.get_push_same]
  have g3 : ((M.push (.cells (stC a) false)).push (.cells (stC b) false)).get (M.next + 1) = some (.cells (stC b) false) := Mem.get_push_same (M.push _) _
  simp -dsimp only [↓w_seq, ↓w_ops, ↓w_skip, ↓w_ret, ↓w_exit, ↓w_scope, ↓w_block, ↓w_cond, cond_true', cond_false', ↓t_nil, ↓t_plain, ↓t_guard, ↓t_gagain, ↓t_again, t_val, t_call, g_true, g_false, ga_true, ga_false, a_val, a_call, ↓n_normal, ↓n_ret, ↓n_exit, ↓b_normal, ↓b_ret, ↓b_exit, ↓e_normal, ↓e_ret, e_some, go_sem, ↓reduceIte, Nat.reduceEqDiff, Nat.reduceLT, Nat.reduceSub, A_ref02_Compare_0, hcn, Mem.next_push]
  generalize (M.push (.cells (stC a) false)).push (.cells (stC b) false) = M1 at *
  have fin : ∀ n, n = cmpSt a b → R (.int .i64 n) M1 := fun n hn => hR _ _ ⟨by rw [hn], hG.old⟩
  by_cases h0 : a.1 = b.1
  · simp -dsimp only [↓w_seq, ↓w_ops, ↓w_skip, ↓w_ret, ↓w_exit, ↓w_scope, ↓w_block, ↓w_cond, cond_true', cond_false', ↓t_nil, ↓t_plain, ↓t_guard, ↓t_gagain, ↓t_again, t_val, t_call, g_true, g_false, ga_true, ga_false, a_val, a_call, ↓n_normal, ↓n_ret, ↓n_exit, ↓b_normal, ↓b_ret, ↓b_exit, ↓e_normal, ↓e_ret, e_some, go_sem, ↓reduceIte, Nat.reduceEqDiff, Nat.reduceLT, Nat.reduceSub, A_ref02_Compare_1, A_ref02_Compare_2, A_ref02_Compare_3, A_ref02_Compare_4, A_ref02_Compare_5, vload, vptr, Mem.read, g2, g3, e0, e1, Nat.add_zero, h0, decide_true]
    by_cases h1 : a.2 < b.2
    · simp -dsimp only [↓w_seq, ↓w_ops, ↓w_skip, ↓w_ret, ↓w_exit, ↓w_scope, ↓w_block, ↓w_cond, cond_true', cond_false', ↓t_nil, ↓t_plain, ↓t_guard, ↓t_gagain, ↓t_again, t_val, t_call, g_true, g_false, ga_true, ga_false, a_val, a_call, ↓n_normal, ↓n_ret, ↓n_exit, ↓b_normal, ↓b_ret, ↓b_exit, ↓e_normal, ↓e_ret, e_some, go_sem, ↓reduceIte, Nat.reduceEqDiff, Nat.reduceLT, Nat.reduceSub, A_ref02_Compare_6, A_ref02_Compare_7, h1, decide_true]
      refine fin _ ?_
      unfold cmpSt
      rw [if_neg (fun e => by rw [e] at h1; omega), if_pos (.inr ⟨h0, h1⟩)]
    · by_cases h2 : b.2 < a.2
      · simp -dsimp only [↓w_seq, ↓w_ops, ↓w_skip, ↓w_ret, ↓w_exit, ↓w_scope, ↓w_block, ↓w_cond, cond_true', cond_false', ↓t_nil, ↓t_plain, ↓t_guard, ↓t_gagain, ↓t_again, t_val, t_call, g_true, g_false, ga_true, ga_false, a_val, a_call, ↓n_normal, ↓n_ret, ↓n_exit, ↓b_normal, ↓b_ret, ↓b_exit, ↓e_normal, ↓e_ret, e_some, go_sem, ↓reduceIte, Nat.reduceEqDiff, Nat.reduceLT, Nat.reduceSub, A_ref02_Compare_6, A_ref02_Compare_8, A_ref02_Compare_9, h1, h2, decide_true, decide_false]
        refine fin _ ?_
        unfold cmpSt
        rw [if_neg (fun e => by rw [e] at h2; omega), if_neg (by omega)]
      · simp -dsimp only [↓w_seq, ↓w_ops, ↓w_skip, ↓w_ret, ↓w_exit, ↓w_scope, ↓w_block, ↓w_cond, cond_true', cond_false', ↓t_nil, ↓t_plain, ↓t_guard, ↓t_gagain, ↓t_again, t_val, t_call, g_true, g_false, ga_true, ga_false, a_val, a_call, ↓n_normal, ↓n_ret, ↓n_exit, ↓b_normal, ↓b_ret, ↓b_exit, ↓e_normal, ↓e_ret, e_some, go_sem, ↓reduceIte, Nat.reduceEqDiff, Nat.reduceLT, Nat.reduceSub, A_ref02_Compare_6, A_ref02_Compare_8, A_ref02_Compare_10, h1, h2, decide_false]
        refine fin _ ?_
        unfold cmpSt
        rw [if_pos (Prod.ext h0 (by omega))]
  · simp -dsimp only [↓w_seq, ↓w_ops, ↓w_skip, ↓w_ret, ↓w_exit, ↓w_scope, ↓w_block, ↓w_cond, cond_true', cond_false', ↓t_nil, ↓t_plain, ↓t_guard, ↓t_gagain, ↓t_again, t_val, t_call, g_true, g_false, ga_true, ga_false, a_val, a_call, ↓n_normal, ↓n_ret, ↓n_exit, ↓b_normal, ↓b_ret, ↓b_exit, ↓e_normal, ↓e_ret, e_some, go_sem, ↓reduceIte, Nat.reduceEqDiff, Nat.reduceLT, Nat.reduceSub, A_ref02_Compare_1, A_ref02_Compare_2, A_ref02_Compare_3, vload, vptr, Mem.read, g2, g3, e0, e1, Nat.add_zero, h0, decide_false]
    by_cases h1 : a.1 < b.1
    · simp -dsimp only [↓w_seq, ↓w_ops, ↓w_skip, ↓w_ret, ↓w_exit, ↓w_scope, ↓w_block, ↓w_cond, cond_true', cond_false', ↓t_nil, ↓t_plain, ↓t_guard, ↓t_gagain, ↓t_again, t_val, t_call, g_true, g_false, ga_true, ga_false, a_val, a_call, ↓n_normal, ↓n_ret, ↓n_exit, ↓b_normal, ↓b_ret, ↓b_exit, ↓e_normal, ↓e_ret, e_some, go_sem, ↓reduceIte, Nat.reduceEqDiff, Nat.reduceLT, Nat.reduceSub, A_ref02_Compare_6, A_ref02_Compare_7, h1, decide_true]
      refine fin _ ?_
      unfold cmpSt
      rw [if_neg (fun e => h0 (by rw [e])), if_pos (.inl h1)]
    · have h2 : b.1 < a.1 := by omega
      simp -dsimp only [↓w_seq, ↓w_ops, ↓w_skip, ↓w_ret, ↓w_exit, ↓w_scope, ↓w_block, ↓w_cond, cond_true', cond_false', ↓t_nil, ↓t_plain, ↓t_guard, ↓t_gagain, ↓t_again, t_val, t_call, g_true, g_false, ga_true, ga_false, a_val, a_call, ↓n_normal, ↓n_ret, ↓n_exit, ↓b_normal, ↓b_ret, ↓b_exit, ↓e_normal, ↓e_ret, e_some, go_sem, ↓reduceIte, Nat.reduceEqDiff, Nat.reduceLT, Nat.reduceSub, A_ref02_Compare_6, A_ref02_Compare_8, A_ref02_Compare_9, h1, h2, decide_true, decide_false]
      refine fin _ ?_
      unfold cmpSt
      rw [if_neg (fun e => h0 (by rw [e])), if_neg (by omega)]
theorem rroot_runs (D : Decls) (hp : D.prim F_ref07_Root = none) (hc : D.code.get F_ref07_Root = some A_ref07_Root) (M : Mem) : Runs D F_ref07_Root [] M fun v M' => v = .agg (stC (0, 0)) ∧ ∀ c, c < M.next → M'.get c = M.get c := by
  refine R_opq fun R hR => ?_
  refine Runs.walk (F := A_ref07_Root) hp hc (by rfl) ?_
  unfold A_ref07_Root
  have f0 : fillCells [.int .i64 0, .int .i64 0] [] = some (stC (0, 0)) := rfl
  have hcn : ∀ x : St, V.cells (.agg (stC x)) = stC x := fun _ => rfl
  have hw := write_full (M := M.push (.cells [.int .i64 0, .int .i64 0] false)) (b := M.next) (vs := stC (0, 0)) (Mem.get_push_same _ _) rfl rfl
  have hs := Mem.get_set_same (M.push (.cells [.int .i64 0, .int .i64 0] false)) M.next (.cells (stC (0, 0)) false)
  have hG := (Grew.push M (.cells [.int .i64 0, .int .i64 0] false)).upd (Nat.le_refl _) (Upd.set _ M.next (.cells (stC (0, 0)) false))
  have hrd : rdCells (stC (0, 0)) 0 2 = some (stC (0, 0)) := rfl
  simp -dsimp only [↓w_seq, ↓w_ops, ↓w_skip, ↓w_ret, ↓w_exit, ↓w_scope, ↓w_block, ↓w_cond, cond_true', cond_false', ↓t_nil, ↓t_plain, ↓t_guard, ↓t_gagain, ↓t_again, t_val, t_call, g_true, g_false, ga_true, ga_false, a_val, a_call, ↓n_normal, ↓n_ret, ↓n_exit, ↓b_normal, ↓b_ret, ↓b_exit, ↓e_normal, ↓e_ret, e_some, go_sem, ↓reduceIte, Nat.reduceEqDiff, Nat.reduceLT, Nat.reduceSub, A_ref07_Root_0, A_ref07_Root_1, f0, vof, Option.map_some, vstore, hcn, stC_len, hw, Nat.reduceEqDiff]
  generalize (M.push (.cells [.int .i64 0, .int .i64 0] false)).set M.next (.cells (stC (0, 0)) false) = M2 at *
  simp -dsimp only [↓w_seq, ↓w_ops, ↓w_skip, ↓w_ret, ↓w_exit, ↓w_scope, ↓w_block, ↓w_cond, cond_true', cond_false', ↓t_nil, ↓t_plain, ↓t_guard, ↓t_gagain, ↓t_again, t_val, t_call, g_true, g_false, ga_true, ga_false, a_val, a_call, ↓n_normal, ↓n_ret, ↓n_exit, ↓b_normal, ↓b_ret, ↓b_exit, ↓e_normal, ↓e_ret, e_some, go_sem, ↓reduceIte, Nat.reduceEqDiff, Nat.reduceLT, Nat.reduceSub, vload, vptr, Mem.read, hs, hrd, Nat.add_zero, Option.bind_some, oneOf]
  exact hR _ _ ⟨rfl, hG.old⟩
theorem rtrash_runs (D : Decls) (hp : D.prim F_ref07_Trash = none) (hc : D.code.get F_ref07_Trash = some A_ref07_Trash) (M : Mem) : Runs D F_ref07_Trash [] M fun v M' => v = .agg (stC (0, 1)) ∧ ∀ c, c < M.next → M'.get c = M.get c := by
  refine R_opq fun R hR => ?_
  refine Runs.walk (F := A_ref07_Trash) hp hc (by rfl) ?_
  unfold A_ref07_Trash
  have f0 : fillCells [.int .i64 0, .int .i64 0] [(1, 1, .int .i64 1)] = some (stC (0, 1)) := rfl
  have hcn : ∀ x : St, V.cells (.agg (stC x)) = stC x := fun _ => rfl
  have hw := write_full (M := M.push (.cells [.int .i64 0, .int .i64 0] false)) (b := M.next) (vs := stC (0, 1)) (Mem.get_push_same _ _) rfl rfl
  have hs := Mem.get_set_same (M.push (.cells [.int .i64 0, .int .i64 0] false)) M.next (.cells (stC (0, 1)) false)
  have hG := (Grew.push M (.cells [.int .i64 0, .int .i64 0] false)).upd (Nat.le_refl _) (Upd.set _ M.next (.cells (stC (0, 1)) false))
  have hrd : rdCells (stC (0, 1)) 0 2 = some (stC (0, 1)) := rfl
  simp -dsimp only [↓w_seq, ↓w_ops, ↓w_skip, ↓w_ret, ↓w_exit, ↓w_scope, ↓w_block, ↓w_cond, cond_true', cond_false', ↓t_nil, ↓t_plain, ↓t_guard, ↓t_gagain, ↓t_again, t_val, t_call, g_true, g_false, ga_true, ga_false, a_val, a_call, ↓n_normal, ↓n_ret, ↓n_exit, ↓b_normal, ↓b_ret, ↓b_exit, ↓e_normal, ↓e_ret, e_some, go_sem, ↓reduceIte, Nat.reduceEqDiff, Nat.reduceLT, Nat.reduceSub, A_ref07_Trash_0, A_ref07_Trash_1, f0, vof, Option.map_some, vstore, hcn, stC_len, hw, Nat.reduceEqDiff]
  generalize (M.push (.cells [.int .i64 0, .int .i64 0] false)).set M.next (.cells (stC (0, 1)) false) = M2 at *
  simp -dsimp only [↓w_seq, ↓w_ops, ↓w_skip, ↓w_ret, ↓w_exit, ↓w_scope, ↓w_block, ↓w_cond, cond_true', cond_false', ↓t_nil, ↓t_plain, ↓t_guard, ↓t_gagain, ↓t_again, t_val, t_call, g_true, g_false, ga_true, ga_false, a_val, a_call, ↓n_normal, ↓n_ret, ↓n_exit, ↓b_normal, ↓b_ret, ↓b_exit, ↓e_normal, ↓e_ret, e_some, go_sem, ↓reduceIte, Nat.reduceEqDiff, Nat.reduceLT, Nat.reduceSub, vload, vptr, Mem.read, hs, hrd, Nat.add_zero, Option.bind_some, oneOf]
  exact hR _ _ ⟨rfl, hG.old⟩
theorem r04_runs (D : Decls) (hp : D.prim F_ref04_Right = none) (hc : D.code.get F_ref04_Right = some A_ref04_Right) (M : Mem) (k : List UInt8) :
    Runs D F_ref04_Right [.str k] M fun v M' => v = .bool (rightK k) ∧ M' = M := by
  refine R_opq fun R hR => ?_
  refine Runs.walk (F := A_ref04_Right) hp hc (by rfl) ?_
  unfold A_ref04_Right
  have fin : ∀ b, b = rightK k → R (.bool b) M := fun b hb => hR _ _ ⟨by rw [hb], rfl⟩
  simp -dsimp only [↓w_seq, ↓w_ops, ↓w_skip, ↓w_ret, ↓w_exit, ↓w_scope, ↓w_block, ↓w_cond, cond_true', cond_false', ↓t_nil, ↓t_plain, ↓t_guard, ↓t_gagain, ↓t_again, t_val, t_call, g_true, g_false, ga_true, ga_false, a_val, a_call, ↓n_normal, ↓n_ret, ↓n_exit, ↓b_normal, ↓b_ret, ↓b_exit, ↓e_normal, ↓e_ret, e_some, go_sem, ↓reduceIte, Nat.reduceEqDiff, Nat.reduceLT, Nat.reduceSub, A_ref04_Right_0, A_ref04_Right_1]
  by_cases h : (1 : Int) ≤ k.length
  · have hne : k ≠ [] := fun e => by rw [e] at h; simp at h
    simp -dsimp only [↓w_seq, ↓w_ops, ↓w_skip, ↓w_ret, ↓w_exit, ↓w_scope, ↓w_block, ↓w_cond, cond_true', cond_false', ↓t_nil, ↓t_plain, ↓t_guard, ↓t_gagain, ↓t_again, t_val, t_call, g_true, g_false, ga_true, ga_false, a_val, a_call, ↓n_normal, ↓n_ret, ↓n_exit, ↓b_normal, ↓b_ret, ↓b_exit, ↓e_normal, ↓e_ret, e_some, go_sem, ↓reduceIte, Nat.reduceEqDiff, Nat.reduceLT, Nat.reduceSub, h, decide_true]
    by_cases h2 : (k.length : Int) ≤ 24
    · have hl : k[k.length - 1]? = some k[k.length - 1] := List.getElem?_eq_getElem (by omega)
      have hd : digitL k (k.length - 1) = k[k.length - 1].toNat := by simp [digitL, List.getD_eq_getElem?_getD, hl]
      simp -dsimp only [↓w_seq, ↓w_ops, ↓w_skip, ↓w_ret, ↓w_exit, ↓w_scope, ↓w_block, ↓w_cond, cond_true', cond_false', ↓t_nil, ↓t_plain, ↓t_guard, ↓t_gagain, ↓t_again, t_val, t_call, g_true, g_false, ga_true, ga_false, a_val, a_call, ↓n_normal, ↓n_ret, ↓n_exit, ↓b_normal, ↓b_ret, ↓b_exit, ↓e_normal, ↓e_ret, e_some, go_sem, ↓reduceIte, Nat.reduceEqDiff, Nat.reduceLT, Nat.reduceSub, h2, decide_true]
      rw [IntWalk.i64_in _ (by omega), as_nat _ _ (by omega), show ((k.length : Int) - 1).toNat = k.length - 1 by omega]
      simp -dsimp only [↓w_seq, ↓w_ops, ↓w_skip, ↓w_ret, ↓w_exit, ↓w_scope, ↓w_block, ↓w_cond, cond_true', cond_false', ↓t_nil, ↓t_plain, ↓t_guard, ↓t_gagain, ↓t_again, t_val, t_call, g_true, g_false, ga_true, ga_false, a_val, a_call, ↓n_normal, ↓n_ret, ↓n_exit, ↓b_normal, ↓b_ret, ↓b_exit, ↓e_normal, ↓e_ret, e_some, go_sem, ↓reduceIte, Nat.reduceEqDiff, Nat.reduceLT, Nat.reduceSub, hl]
      exact fin _ (by simp only [rightK, hne, hd, show k.length ≤ 24 by omega, Int.natCast_eq_zero, decide_true, decide_false, Bool.not_false, Bool.true_and])
    · simp -dsimp only [↓w_seq, ↓w_ops, ↓w_skip, ↓w_ret, ↓w_exit, ↓w_scope, ↓w_block, ↓w_cond, cond_true', cond_false', ↓t_nil, ↓t_plain, ↓t_guard, ↓t_gagain, ↓t_again, t_val, t_call, g_true, g_false, ga_true, ga_false, a_val, a_call, ↓n_normal, ↓n_ret, ↓n_exit, ↓b_normal, ↓b_ret, ↓b_exit, ↓e_normal, ↓e_ret, e_some, go_sem, ↓reduceIte, Nat.reduceEqDiff, Nat.reduceLT, Nat.reduceSub, h2, decide_false]
      exact fin _ (by simp only [rightK, hne, show ¬ k.length ≤ 24 by omega, decide_true, decide_false, Bool.not_false, Bool.true_and, Bool.false_and])
  · have he : k = [] := by cases k with
      | nil => rfl
      | cons a l => exfalso; apply h; simp only [List.length_cons]; omega
    simp -dsimp only [↓w_seq, ↓w_ops, ↓w_skip, ↓w_ret, ↓w_exit, ↓w_scope, ↓w_block, ↓w_cond, cond_true', cond_false', ↓t_nil, ↓t_plain, ↓t_guard, ↓t_gagain, ↓t_again, t_val, t_call, g_true, g_false, ga_true, ga_false, a_val, a_call, ↓n_normal, ↓n_ret, ↓n_exit, ↓b_normal, ↓b_ret, ↓b_exit, ↓e_normal, ↓e_ret, e_some, go_sem, ↓reduceIte, Nat.reduceEqDiff, Nat.reduceLT, Nat.reduceSub, h, decide_false]
    exact fin _ (by simp only [rightK, he, decide_true, Bool.not_true, Bool.false_and])

def pRCmp (args : List V) (_ : Mem) : Option V :=
  match args with
  | [.agg [.int .i64 a, .int .i64 b], .agg [.int .i64 c, .int .i64 d]] => some (.int .i64 (cmpSt (a, b) (c, d)))
  | _ => none
def pRRoot (args : List V) (_ : Mem) : Option V :=
  match args with
  | [] => some (.agg (stC (0, 0)))
  | _ => none
def pRTrash (args : List V) (_ : Mem) : Option V :=
  match args with
  | [] => some (.agg (stC (0, 1)))
  | _ => none
theorem pRCmp_ok : CallOK Tryz.prog gl0 fun f' args M => if f' = F_ref02_Compare then (pRCmp args M).map (·, M) else none := by
  refine prim_keep ⟨_, Tryz.func71, (by kernel_rfl), (by kernel_rfl)⟩ ?_
  intro args M v h hwf
  unfold pRCmp at h
  split at h
  · cases h
    exact ⟨rfl, XRuns.of_runs dok0 (rcmp_runs D0 rfl (by rfl) M (_, _) (_, _))⟩
  · cases h
theorem pRRight_ok : CallOK Tryz.prog gl0 fun f' args M => if f' = F_ref02_Right then (pSRight args M).map (·, M) else none := by
  refine prim_keep ⟨_, Tryz.func94, (by kernel_rfl), (by kernel_rfl)⟩ ?_
  intro args M v h hwf
  unfold pSRight at h
  split at h
  · cases h
    exact ⟨rfl, XRuns.of_runs dok0 (rright_runs D0 rfl (by rfl) M (_, _))⟩
  · cases h
theorem pRRoot_ok : CallOK Tryz.prog gl0 fun f' args M => if f' = F_ref07_Root then (pRRoot args M).map (·, M) else none := by
  refine prim_keep ⟨_, Tryz.func97, (by kernel_rfl), (by kernel_rfl)⟩ ?_
  intro args M v h hwf
  unfold pRRoot at h
  split at h
  · cases h
    exact ⟨rfl, XRuns.of_runs dok0 (rroot_runs D0 rfl (by rfl) M)⟩
  · cases h
theorem pRTrash_ok : CallOK Tryz.prog gl0 fun f' args M => if f' = F_ref07_Trash then (pRTrash args M).map (·, M) else none := by
  refine prim_keep ⟨_, Tryz.func74, (by kernel_rfl), (by kernel_rfl)⟩ ?_
  intro args M v h hwf
  unfold pRTrash at h
  split at h
  · cases h
    exact ⟨rfl, XRuns.of_runs dok0 (rtrash_runs D0 rfl (by rfl) M)⟩
  · cases h
theorem pR04_ok : CallOK Tryz.prog gl0 fun f' args M => if f' = F_ref04_Right then (pKRight args M).map (·, M) else none := by
  refine prim_keep ⟨_, Tryz.func96, (by kernel_rfl), (by kernel_rfl)⟩ ?_
  intro args M v h hwf
  unfold pKRight at h
  split at h
  · cases h
    exact ⟨rfl, XRuns.of_runs dok0 ((r04_runs D0 rfl (by rfl) M _).mono fun v M' h => ⟨h.1, fun c _ => by rw [h.2]⟩)⟩
  · cases h
def Dr1 : Decls := ((((D1w.addP F_ref02_Compare pRCmp).addP F_ref02_Right pSRight).addP F_ref07_Root pRRoot).addP F_ref07_Trash pRTrash).addP F_ref04_Right pKRight
theorem dokr1 : DOK Tryz.prog gl0 Dr1 := ((((dok1w.addM pRCmp_ok).addM pRRight_ok).addM pRRoot_ok).addM pRTrash_ok).addM pR04_ok

theorem rnode_runs (M : Mem) (x : St) : Runs Dr1 F_ref07_Node [.agg (stC x)] M fun v M' => v = .bool (nodeSt x) ∧ ∀ c, c < M.next → M'.get c = M.get c := by
  refine R_opq fun R hR => ?_
  refine Runs.walk (F := A_ref07_Node) rfl (by rfl) (by rfl) ?_
  unfold A_ref07_Node
  have hcn : V.cells (.agg (stC x)) = stC x := rfl
  have hrd : rdCells (stC x) 0 2 = some (stC x) := rfl
  have g1 : (M.push (.cells (stC x) false)).get M.next = some (.cells (stC x) false) := Mem.get_push_same _ _
  have hG : ∀ c, c < M.next → (M.push (.cells (stC x) false)).get c = M.get c := (Grew.push _ _).old
  have e0 : (stC x)[0]? = some (.int .i64 x.1) := rfl
  have fin : ∀ b, b = nodeSt x → R (.bool b) (M.push (.cells (stC x) false)) := fun b hb => hR _ _ ⟨by rw [hb], hG⟩
  simp -dsimp only [↓w_seq, ↓w_ops, ↓w_skip, ↓w_ret, ↓w_exit, ↓w_scope, ↓w_block, ↓w_cond, cond_true', cond_false', ↓t_nil, ↓t_plain, ↓t_guard, ↓t_gagain, ↓t_again, t_val, t_call, g_true, g_false, ga_true, ga_false, a_val, a_call, ↓n_normal, ↓n_ret, ↓n_exit, ↓b_normal, ↓b_ret, ↓b_exit, ↓e_normal, ↓e_ret, e_some, go_sem, ↓reduceIte, Nat.reduceEqDiff, Nat.reduceLT, Nat.reduceSub, A_ref07_Node_0, A_ref07_Node_1, hcn]
  generalize M.push (.cells (stC x) false) = M1 at *
  simp -dsimp only [↓w_seq, ↓w_ops, ↓w_skip, ↓w_ret, ↓w_exit, ↓w_scope, ↓w_block, ↓w_cond, cond_true', cond_false', ↓t_nil, ↓t_plain, ↓t_guard, ↓t_gagain, ↓t_again, t_val, t_call, g_true, g_false, ga_true, ga_false, a_val, a_call, ↓n_normal, ↓n_ret, ↓n_exit, ↓b_normal, ↓b_ret, ↓b_exit, ↓e_normal, ↓e_ret, e_some, go_sem, ↓reduceIte, Nat.reduceEqDiff, Nat.reduceLT, Nat.reduceSub, vload, vptr, Mem.read, g1, Nat.add_zero, e0, hrd]
  refine call_eq (Runs.part (g := pSRight) rfl rfl) ?_
  cases hr : rightSt (x.1, x.2) with
  | true =>
    simp -dsimp only [↓w_seq, ↓w_ops, ↓w_skip, ↓w_ret, ↓w_exit, ↓w_scope, ↓w_block, ↓w_cond, cond_true', cond_false', ↓t_nil, ↓t_plain, ↓t_guard, ↓t_gagain, ↓t_again, t_val, t_call, g_true, g_false, ga_true, ga_false, a_val, a_call, ↓n_normal, ↓n_ret, ↓n_exit, ↓b_normal, ↓b_ret, ↓b_exit, ↓e_normal, ↓e_ret, e_some, go_sem, ↓reduceIte, Nat.reduceEqDiff, Nat.reduceLT, Nat.reduceSub, vload, vptr, Mem.read, g1, Nat.add_zero, e0, hrd]
    exact fin _ (by rw [nodeSt, show rightSt x = true from hr, Bool.true_and]; exact decide_eq_decide.mpr (by omega))
  | false =>
    simp -dsimp only [↓w_seq, ↓w_ops, ↓w_skip, ↓w_ret, ↓w_exit, ↓w_scope, ↓w_block, ↓w_cond, cond_true', cond_false', ↓t_nil, ↓t_plain, ↓t_guard, ↓t_gagain, ↓t_again, t_val, t_call, g_true, g_false, ga_true, ga_false, a_val, a_call, ↓n_normal, ↓n_ret, ↓n_exit, ↓b_normal, ↓b_ret, ↓b_exit, ↓e_normal, ↓e_ret, e_some, go_sem, ↓reduceIte, Nat.reduceEqDiff, Nat.reduceLT, Nat.reduceSub, vload, vptr, Mem.read, g1, Nat.add_zero, e0, hrd]
    exact fin _ (by rw [nodeSt, show rightSt x = false from hr]; rfl)
theorem pRNode_ok : CallOK Tryz.prog gl0 fun f' args M => if f' = F_ref07_Node then (pOpNode args M).map (·, M) else none := by
  refine prim_keep ⟨_, Tryz.func50, (by kernel_rfl), (by kernel_rfl)⟩ ?_
  intro args M v h hwf
  unfold pOpNode at h
  split at h
  · cases h
    exact ⟨rfl, XRuns.of_runs dokr1 (rnode_runs M (_, _))⟩
  · cases h
def Dr2 : Decls := Dr1.addP F_ref07_Node pOpNode
theorem dokr2 : DOK Tryz.prog gl0 Dr2 := dokr1.addM pRNode_ok

theorem rplace_runs (M : Mem) (x : St) : Runs Dr2 F_ref07_Place [.agg (stC x)] M fun v M' => v = .bool (placeSt x) ∧ ∀ c, c < M.next → M'.get c = M.get c := by
  refine R_opq fun R hR => ?_
  refine Runs.walk (F := A_ref07_Place) rfl (by rfl) (by rfl) ?_
  unfold A_ref07_Place
  have hcn : V.cells (.agg (stC x)) = stC x := rfl
  have hrd : ∀ x : St, rdCells (stC x) 0 2 = some (stC x) := fun _ => rfl
  have g1 : (M.push (.cells (stC x) false)).get M.next = some (.cells (stC x) false) := Mem.get_push_same _ _
  have hG : ∀ c, c < M.next → (M.push (.cells (stC x) false)).get c = M.get c := (Grew.push _ _).old
  have fin : ∀ b, b = placeSt x → R (.bool b) (M.push (.cells (stC x) false)) := fun b hb => hR _ _ ⟨by rw [hb], hG⟩
  simp -dsimp only [↓w_seq, ↓w_ops, ↓w_skip, ↓w_ret, ↓w_exit, ↓w_scope, ↓w_block, ↓w_cond, cond_true', cond_false', ↓t_nil, ↓t_plain, ↓t_guard, ↓t_gagain, ↓t_again, t_val, t_call, g_true, g_false, ga_true, ga_false, a_val, a_call, ↓n_normal, ↓n_ret, ↓n_exit, ↓b_normal, ↓b_ret, ↓b_exit, ↓e_normal, ↓e_ret, e_some, go_sem, ↓reduceIte, Nat.reduceEqDiff, Nat.reduceLT, Nat.reduceSub, A_ref07_Place_0, A_ref07_Place_1, hcn]
  generalize M.push (.cells (stC x) false) = M1 at *
  simp -dsimp only [↓w_seq, ↓w_ops, ↓w_skip, ↓w_ret, ↓w_exit, ↓w_scope, ↓w_block, ↓w_cond, cond_true', cond_false', ↓t_nil, ↓t_plain, ↓t_guard, ↓t_gagain, ↓t_again, t_val, t_call, g_true, g_false, ga_true, ga_false, a_val, a_call, ↓n_normal, ↓n_ret, ↓n_exit, ↓b_normal, ↓b_ret, ↓b_exit, ↓e_normal, ↓e_ret, e_some, go_sem, ↓reduceIte, Nat.reduceEqDiff, Nat.reduceLT, Nat.reduceSub, vload, vptr, Mem.read, g1, Nat.add_zero, hrd]
  refine call_eq (Runs.part (g := pOpNode) rfl rfl) ?_
  cases hr : nodeSt (x.1, x.2) with
  | true =>
    simp -dsimp only [↓w_seq, ↓w_ops, ↓w_skip, ↓w_ret, ↓w_exit, ↓w_scope, ↓w_block, ↓w_cond, cond_true', cond_false', ↓t_nil, ↓t_plain, ↓t_guard, ↓t_gagain, ↓t_again, t_val, t_call, g_true, g_false, ga_true, ga_false, a_val, a_call, ↓n_normal, ↓n_ret, ↓n_exit, ↓b_normal, ↓b_ret, ↓b_exit, ↓e_normal, ↓e_ret, e_some, go_sem, ↓reduceIte, Nat.reduceEqDiff, Nat.reduceLT, Nat.reduceSub, vload, vptr, Mem.read, g1, Nat.add_zero, hrd]
    exact fin _ (by rw [placeSt, show nodeSt x = true from hr]; rfl)
  | false =>
    simp -dsimp only [↓w_seq, ↓w_ops, ↓w_skip, ↓w_ret, ↓w_exit, ↓w_scope, ↓w_block, ↓w_cond, cond_true', cond_false', ↓t_nil, ↓t_plain, ↓t_guard, ↓t_gagain, ↓t_again, t_val, t_call, g_true, g_false, ga_true, ga_false, a_val, a_call, ↓n_normal, ↓n_ret, ↓n_exit, ↓b_normal, ↓b_ret, ↓b_exit, ↓e_normal, ↓e_ret, e_some, go_sem, ↓reduceIte, Nat.reduceEqDiff, Nat.reduceLT, Nat.reduceSub, vload, vptr, Mem.read, g1, Nat.add_zero, hrd, st_same]
    refine callA_by (k := ⟨⟩) (l' := ⟨⟩) (g' := ⟨⟩) (Runs.part (g := pRRoot) rfl rfl) ?_
    intro v M2 hv
    rw [hv.1, hv.2]
    clear hv
    refine ⟨?_, ?_⟩
    · simp only [List.all_cons, List.all_nil, Bool.and_true, againOk, wantedA, cond_true, go_sem, ↓reduceIte, Nat.reduceEqDiff, Nat.reduceLT, Nat.reduceSub, vload, vptr, Mem.read, g1, hrd, Nat.zero_add, V.beq, V.beq_self, V.beqs_self, Bool.and_self, Nat.reduceAdd, Nat.reduceLeDiff, decide_true, cond_true, Bool.not_false]
    by_cases h2 : x = (0, 0)
    · simp -dsimp only [↓w_seq, ↓w_ops, ↓w_skip, ↓w_ret, ↓w_exit, ↓w_scope, ↓w_block, ↓w_cond, cond_true', cond_false', ↓t_nil, ↓t_plain, ↓t_guard, ↓t_gagain, ↓t_again, t_val, t_call, g_true, g_false, ga_true, ga_false, a_val, a_call, ↓n_normal, ↓n_ret, ↓n_exit, ↓b_normal, ↓b_ret, ↓b_exit, ↓e_normal, ↓e_ret, e_some, go_sem, ↓reduceIte, Nat.reduceEqDiff, Nat.reduceLT, Nat.reduceSub, st_same, h2, decide_true]
      exact fin _ (by rw [placeSt, show nodeSt x = false from hr]; simp [h2])
    · simp -dsimp only [↓w_seq, ↓w_ops, ↓w_skip, ↓w_ret, ↓w_exit, ↓w_scope, ↓w_block, ↓w_cond, cond_true', cond_false', ↓t_nil, ↓t_plain, ↓t_guard, ↓t_gagain, ↓t_again, t_val, t_call, g_true, g_false, ga_true, ga_false, a_val, a_call, ↓n_normal, ↓n_ret, ↓n_exit, ↓b_normal, ↓b_ret, ↓b_exit, ↓e_normal, ↓e_ret, e_some, go_sem, ↓reduceIte, Nat.reduceEqDiff, Nat.reduceLT, Nat.reduceSub, st_same, h2, decide_false, vload, vptr, Mem.read, g1, hrd]
      refine callA_by (k := ⟨⟩) (l' := ⟨⟩) (g' := ⟨⟩) (Runs.part (g := pRTrash) rfl rfl) ?_
      intro v M2 hv
      rw [hv.1, hv.2]
      clear hv
      refine ⟨?_, ?_⟩
      · simp only [List.all_cons, List.all_nil, Bool.and_true, againOk, wantedA, cond_true, go_sem, ↓reduceIte, Nat.reduceEqDiff, Nat.reduceLT, Nat.reduceSub, vload, vptr, Mem.read, g1, hrd, Nat.zero_add, V.beq, V.beq_self, V.beqs_self, Bool.and_self, Nat.reduceAdd, Nat.reduceLeDiff, decide_true, cond_true, Bool.not_false]
      simp -dsimp only [↓w_seq, ↓w_ops, ↓w_skip, ↓w_ret, ↓w_exit, ↓w_scope, ↓w_block, ↓w_cond, cond_true', cond_false', ↓t_nil, ↓t_plain, ↓t_guard, ↓t_gagain, ↓t_again, t_val, t_call, g_true, g_false, ga_true, ga_false, a_val, a_call, ↓n_normal, ↓n_ret, ↓n_exit, ↓b_normal, ↓b_ret, ↓b_exit, ↓e_normal, ↓e_ret, e_some, go_sem, ↓reduceIte, Nat.reduceEqDiff, Nat.reduceLT, Nat.reduceSub, st_same]
      exact fin _ (by rw [placeSt, show nodeSt x = false from hr]; simp [h2])
def pRPlace (args : List V) (_ : Mem) : Option V :=
  match args with
  | [.agg [.int .i64 a, .int .i64 b]] => some (.bool (placeSt (a, b)))
  | _ => none
theorem pRPlace_ok : CallOK Tryz.prog gl0 fun f' args M => if f' = F_ref07_Place then (pRPlace args M).map (·, M) else none := by
  refine prim_keep ⟨_, Tryz.func95, (by kernel_rfl), (by kernel_rfl)⟩ ?_
  intro args M v h hwf
  unfold pRPlace at h
  split at h
  · cases h
    exact ⟨rfl, XRuns.of_runs dokr2 (rplace_runs M (_, _))⟩
  · cases h
def Dr3 : Decls := Dr2.addP F_ref07_Place pRPlace
theorem dokr3 : DOK Tryz.prog gl0 Dr3 := dokr2.addM pRPlace_ok
theorem rspRight_runs (M : Mem) (s : Spot) : Runs Dr3 F_ref10_Right [.agg (spC s)] M fun v M' => v = .bool (rightSp s) ∧ ∀ c, c < M.next → M'.get c = M.get c := by
  refine R_opq fun R hR => ?_
  refine Runs.walk (F := A_ref10_Right) rfl (by rfl) (by rfl) ?_
  unfold A_ref10_Right
  have hcn : V.cells (.agg (spC s)) = spC s := rfl
  have hrd : rdCells (spC s) 0 2 = some (stC s.1) := rfl
  have e2 : (spC s)[2]? = some (.str s.2) := rfl
  have g1 : (M.push (.cells (spC s) false)).get M.next = some (.cells (spC s) false) := Mem.get_push_same _ _
  have hG : ∀ c, c < M.next → (M.push (.cells (spC s) false)).get c = M.get c := (Grew.push _ _).old
  have fin : ∀ b, b = rightSp s → R (.bool b) (M.push (.cells (spC s) false)) := fun b hb => hR _ _ ⟨by rw [hb], hG⟩
  simp -dsimp only [↓w_seq, ↓w_ops, ↓w_skip, ↓w_ret, ↓w_exit, ↓w_scope, ↓w_block, ↓w_cond, cond_true', cond_false', ↓t_nil, ↓t_plain, ↓t_guard, ↓t_gagain, ↓t_again, t_val, t_call, g_true, g_false, ga_true, ga_false, a_val, a_call, ↓n_normal, ↓n_ret, ↓n_exit, ↓b_normal, ↓b_ret, ↓b_exit, ↓e_normal, ↓e_ret, e_some, go_sem, ↓reduceIte, Nat.reduceEqDiff, Nat.reduceLT, Nat.reduceSub, A_ref10_Right_0, A_ref10_Right_1, hcn]
  generalize M.push (.cells (spC s) false) = M1 at *
  simp -dsimp only [↓w_seq, ↓w_ops, ↓w_skip, ↓w_ret, ↓w_exit, ↓w_scope, ↓w_block, ↓w_cond, cond_true', cond_false', ↓t_nil, ↓t_plain, ↓t_guard, ↓t_gagain, ↓t_again, t_val, t_call, g_true, g_false, ga_true, ga_false, a_val, a_call, ↓n_normal, ↓n_ret, ↓n_exit, ↓b_normal, ↓b_ret, ↓b_exit, ↓e_normal, ↓e_ret, e_some, go_sem, ↓reduceIte, Nat.reduceEqDiff, Nat.reduceLT, Nat.reduceSub, vload, vptr, Mem.read, g1, Nat.add_zero, hrd, e2]
  refine call_eq (Runs.part (g := pRPlace) rfl rfl) ?_
  cases hr : placeSt (s.1.1, s.1.2) with
  | false =>
    simp -dsimp only [↓w_seq, ↓w_ops, ↓w_skip, ↓w_ret, ↓w_exit, ↓w_scope, ↓w_block, ↓w_cond, cond_true', cond_false', ↓t_nil, ↓t_plain, ↓t_guard, ↓t_gagain, ↓t_again, t_val, t_call, g_true, g_false, ga_true, ga_false, a_val, a_call, ↓n_normal, ↓n_ret, ↓n_exit, ↓b_normal, ↓b_ret, ↓b_exit, ↓e_normal, ↓e_ret, e_some, go_sem, ↓reduceIte, Nat.reduceEqDiff, Nat.reduceLT, Nat.reduceSub, vload, vptr, Mem.read, g1, Nat.add_zero, hrd, e2]
    exact fin _ (by rw [rightSp, show placeSt s.1 = false from hr]; rfl)
  | true =>
    simp -dsimp only [↓w_seq, ↓w_ops, ↓w_skip, ↓w_ret, ↓w_exit, ↓w_scope, ↓w_block, ↓w_cond, cond_true', cond_false', ↓t_nil, ↓t_plain, ↓t_guard, ↓t_gagain, ↓t_again, t_val, t_call, g_true, g_false, ga_true, ga_false, a_val, a_call, ↓n_normal, ↓n_ret, ↓n_exit, ↓b_normal, ↓b_ret, ↓b_exit, ↓e_normal, ↓e_ret, e_some, go_sem, ↓reduceIte, Nat.reduceEqDiff, Nat.reduceLT, Nat.reduceSub, vload, vptr, Mem.read, g1, Nat.zero_add, Nat.add_zero, hrd, e2]
    refine call_eq (Runs.part (g := pKRight) rfl rfl) ?_
    simp -dsimp only [↓w_seq, ↓w_ops, ↓w_skip, ↓w_ret, ↓w_exit, ↓w_scope, ↓w_block, ↓w_cond, cond_true', cond_false', ↓t_nil, ↓t_plain, ↓t_guard, ↓t_gagain, ↓t_again, t_val, t_call, g_true, g_false, ga_true, ga_false, a_val, a_call, ↓n_normal, ↓n_ret, ↓n_exit, ↓b_normal, ↓b_ret, ↓b_exit, ↓e_normal, ↓e_ret, e_some, go_sem, ↓reduceIte, Nat.reduceEqDiff, Nat.reduceLT, Nat.reduceSub, vload, vptr, Mem.read, g1, Nat.add_zero, hrd, e2]
    exact fin _ (by rw [rightSp, show placeSt s.1 = true from hr]; rfl)
def pRSpRight (args : List V) (_ : Mem) : Option V :=
  match args with
  | [.agg [.int .i64 a, .int .i64 b, .str k]] => some (.bool (rightSp ((a, b), k)))
  | _ => none
theorem pRSpRight_ok : CallOK Tryz.prog gl0 fun f' args M => if f' = F_ref10_Right then (pRSpRight args M).map (·, M) else none := by
  refine prim_keep ⟨_, Tryz.func51, (by kernel_rfl), (by kernel_rfl)⟩ ?_
  intro args M v h hwf
  unfold pRSpRight at h
  split at h
  · cases h
    exact ⟨rfl, XRuns.of_runs dokr3 (rspRight_runs M ((_, _), _))⟩
  · cases h
def Dr4 : Decls := Dr3.addP F_ref10_Right pRSpRight
theorem dokr4 : DOK Tryz.prog gl0 Dr4 := dokr3.addM pRSpRight_ok
end Go.Am.Tryz


/- The reference's tree: a list of rows; find, Has, Spot, as parts. -/
namespace Go.Am.Tryz
open Go Go.Am Go.Proofs Go.Sort Go.Shelf
set_option maxRecDepth 100000
set_option linter.unusedSimpArgs false
set_option linter.unusedVariables false

def rowC (p : St × Spot) : List V := stC p.1 ++ spC p.2
def decRow : List V → Option (St × Spot)
  | [.int .i64 a, .int .i64 b, .int .i64 c, .int .i64 d, .str s] => some ((a, b), ((c, d), s))
  | _ => none
def elRow : Elem (St × Spot) where
  k := 5
  cv := rowC
  enc x := [.int .i64 x.1.1, .int .i64 x.1.2, .int .i64 x.2.1.1, .int .i64 x.2.1.2, .string ⟨x.2.2.toArray⟩]
  dec := decRow
  k_pos := by omega
  len _ := rfl
  elen _ := rfl
  dec_some cs x h := by unfold decRow at h; split at h <;> cases h; rfl
  dec_cv _ := rfl
  rel E x := .cons (.int _ _) (.cons (.int _ _) (.cons (.int _ _) (.cons (.int _ _) (.cons (by have := VR.str (E := E) ⟨x.2.2.toArray⟩; simpa using this) .nil))))
  rel_eq E x us h := by
    cases h with
    | cons h2 t => cases t with
      | cons h3 t => cases t with
        | cons h4 t => cases t with
          | cons h5 t => cases t with
            | cons h6 t =>
              cases t; cases h2; cases h3; cases h4; cases h5
              generalize hs : V.str x.2.2 = v at h6
              cases h6 <;> first | (cases hs; done) | skip
              rename_i s
              have hx := V.str.inj hs
              rw [hx]
  one x v hv := by simp at hv; rcases hv with rfl | rfl | rfl | rfl | rfl <;> rfl
  one' _ := rfl
  flat _ := rfl

theorem row_at {M : Mem} {s : V} {L : Tr} (h : SlR elRow M s L) {i : Nat} (hi : i < L.length) : ∃ b o cs ro cap, s = .slice (some (b, o)) L.length cap ∧ M.get b = some (.cells cs ro) ∧ rdCells cs (o + i * 5) 5 = some (rowC L[i]) ∧ rdCells cs (o + i * 5) 2 = some (stC L[i].1) ∧ rdCells cs (o + i * 5 + 2) 3 = some (spC L[i].2) ∧ rdCells cs (o + i * 5 + 2) 2 = some (stC L[i].2.1) := by
  obtain ⟨a, cap, rfl, h⟩ := h
  rcases h with h | ⟨b, o, cs, ro, rfl, h1, h2⟩
  · subst h; simp at hi
  · have h3 : rdCells cs (o + i * 5) 5 = some (rowC L[i]) := h2 i hi
    exact ⟨b, o, cs, ro, cap, rfl, h1, h3, rd_part h3 0 2 (by decide), rd_part h3 2 3 (by decide), rd_part h3 2 2 (by decide)⟩

def rowsOf (M : Mem) (rc : Nat) : Option Tr :=
  match M.get rc with
  | some (.cells [.slice a n _] _) => cond (Nat.ble n 100000) (cond (Nat.beq n 0) (some []) (match a with
    | some (b, o) => (match M.get b with
      | some (.cells cs _) => (rdCells cs o (n * 5)).bind (elRow.decs n)
      | _ => none)
    | none => none)) none
  | _ => none
theorem rowsOf_some {M : Mem} {rc : Nat} {L : Tr} (h : rowsOf M rc = some L) : ∃ s ro, M.get rc = some (.cells [s] ro) ∧ SlR elRow M s L ∧ L.length ≤ 100000 ∧ ∀ b, s.blk = some b → L ≠ [] → ∃ o, M.get b = some o := by
  unfold rowsOf at h
  split at h
  · rename_i a n cap ro hrc
    obtain ⟨h1, h⟩ := cond_some h
    have hn := Nat.le_of_ble_eq_true h1
    cases hz : Nat.beq n 0 with
    | true =>
      rw [hz] at h
      cases h
      have hn0 : n = 0 := Nat.eq_of_beq_eq_true hz
      subst hn0
      exact ⟨_, ro, hrc, ⟨a, cap, rfl, .inl rfl⟩, by simp, fun b _ hne => absurd rfl hne⟩
    | false =>
      rw [hz] at h
      simp only [cond_false] at h
      cases a with
      | none => cases h
      | some bo =>
        obtain ⟨b, o⟩ := bo
        simp only at h
        split at h
        · rename_i cs ro' hb
          simp only [Option.bind_eq_some_iff] at h
          obtain ⟨ds, h2, h3⟩ := h
          obtain ⟨h4, h5⟩ := elRow.decs_some h3
          subst h5
          refine ⟨_, ro, hrc, ⟨some (b, o), cap, by rw [h4], .inr ⟨b, o, cs, ro', rfl, hb, fun i hi => ?_⟩⟩, by omega, fun b' hb' _ => ?_⟩
          · have hle : i * 5 + 5 ≤ n * 5 := by omega
            have h6 := rd_part h2 (i * 5) 5 hle
            have h7 := elRow.rd L i hi
            have h8 : rdCells (elRow.all L) (i * 5) 5 = some (rowC L[i]) := h7
            have h9 : (elRow.all L).length = L.length * 5 := elRow.all_len L
            simp only [rdCells, ble_iff, h9, decide_eq_true (show i * 5 + 5 ≤ L.length * 5 by omega), cond_true, Option.some.injEq] at h8
            rw [h8] at h6
            exact h6
          · simp only [V.blk, Option.some.injEq] at hb'
            subst hb'
            exact ⟨_, hb⟩
        · cases h
  · cases h

/-- A row of its own: nothing, or a block of just these rows. -/
def HE (M : Mem) (s : V) (L : Tr) : Prop := (L = [] ∧ ∃ a cap, s = .slice a 0 cap ∧ (a = none → cap = .exact 0) ∧ ∀ b o, a = some (b, o) → b < M.next) ∨ (L ≠ [] ∧ ∃ b, s = .slice (some (b, 0)) L.length (.upto 5) ∧ M.get b = some (.cells (elRow.all L) false) ∧ b < M.next)
theorem HE.sl {M : Mem} {s : V} {L : Tr} (h : HE M s L) : SlR elRow M s L := by
  rcases h with ⟨rfl, a, cap, rfl, _⟩ | ⟨_, b, rfl, h1, _⟩
  · exact ⟨a, cap, rfl, .inl rfl⟩
  · exact ⟨_, _, rfl, .inr ⟨b, 0, _, false, rfl, h1, fun i hi => by rw [Nat.zero_add]; exact elRow.rd L i hi⟩⟩
theorem rowsOf_is {M : Mem} {rc : Nat} {s : V} {ro : Bool} {L : Tr} (hc : M.get rc = some (.cells [s] ro)) (h : HE M s L) (hl : L.length ≤ 100000) : rowsOf M rc = some L := by
  rcases h with ⟨rfl, a, cap, rfl, _⟩ | ⟨hne, b, rfl, h1, _⟩
  · simp only [rowsOf, hc]
    rfl
  · have hz : Nat.beq L.length 0 = false := by cases L with
      | nil => exact absurd rfl hne
      | cons => rfl
    have hr : rdCells (elRow.all L) 0 (L.length * 5) = some (elRow.all L) := by
      have hlen : (elRow.all L).length = L.length * 5 := elRow.all_len L
      simp only [rdCells, ble_iff, Nat.zero_add, hlen, decide_eq_true (Nat.le_refl (L.length * 5)), cond_true, List.drop_zero]
      rw [← hlen, List.take_length]
    simp only [rowsOf, hc, hz, cond_false, h1, hr, Option.bind_some, elRow.decs_all]
    rw [show Nat.ble L.length 100000 = true from Nat.ble_eq_true_of_le hl]
    rfl

def findL : Tr → St → Nat × Bool
  | [], _ => (0, false)
  | p :: r, n => if 0 ≤ cmpSt p.1 n then (0, decide (p.1 = n)) else ((findL r n).1 + 1, (findL r n).2)
theorem findL_cons (p : St × Spot) (r : Tr) (n : St) : findL (p :: r) n = if 0 ≤ cmpSt p.1 n then (0, decide (p.1 = n)) else ((findL r n).1 + 1, (findL r n).2) := rfl
theorem rcmp_p {D : Decls} (hp : D.prim F_ref02_Compare = some fun args M => (pRCmp args M).map (·, M)) {M : Mem} (a b : St) : Runs D F_ref02_Compare [.agg (stC a), .agg (stC b)] M fun v M' => v = .int .i64 (cmpSt a b) ∧ M' = M := Runs.part (g := pRCmp) hp rfl
theorem find_loop (rc b3 : Nat) (s : V) (ro : Bool) (L : Tr) (n : St) (M : Mem) (hc : M.get rc = some (.cells [s] ro)) (hs : SlR elRow M s L) (hl : L.length ≤ 100000) (h3 : M.get b3 = some (.cells (stC n) false)) {Q : AExit → Fr → Mem → Prop}
    (hE : ∀ fr, findL L n = (L.length, false) → fr.rd 0 = .ptr (some (rc, 0)) → Q (.exit 0) fr M) (hR : ∀ fr, fr.rd 4 = .int .i64 ((findL L n).1 : Int) → fr.rd 5 = .bool (findL L n).2 → Q .ret fr M) :
    ∀ (f i : Nat) (fr : Fr), i + f = L.length → findL L n = ((findL (L.drop i) n).1 + i, (findL (L.drop i) n).2) → fr.rd 0 = .ptr (some (rc, 0)) → fr.rd 3 = .ptr (some (b3, 0)) → fr.rd 6 = .int .i64 (i : Int) → WC Dr4 43 (.loop A_ref10_Tree_find_6) fr M Q := by
  intro f
  induction f with
  | zero =>
    intro i fr hi hf h0 h3' h6
    refine WC.loop (W_of ?_)
    unfold A_ref10_Tree_find_6
    obtain ⟨a, cap, rfl, _⟩ := hs
    have : ¬ (i : Int) < L.length := by omega
    simp -dsimp only [↓w_seq, ↓w_ops, ↓w_skip, ↓w_ret, ↓w_exit, ↓w_scope, ↓w_block, ↓w_cond, cond_true', cond_false', ↓t_nil, ↓t_plain, ↓t_guard, ↓t_gagain, ↓t_again, t_val, t_call, g_true, g_false, ga_true, ga_false, a_val, a_call, ↓n_normal, ↓n_ret, ↓n_exit, ↓b_normal, ↓b_ret, ↓b_exit, ↓e_normal, ↓e_ret, e_some, go_sem, ↓reduceIte, Nat.reduceEqDiff, Nat.reduceLT, Nat.reduceSub, A_ref10_Tree_find_2, h0, h6, vload, vptr, Mem.read, hc, Nat.add_zero, List.getElem?_cons_zero, this, decide_false]
    refine hE _ ?_ ?_
    · have : i = L.length := by omega
      subst this
      rw [hf, List.drop_length]
      simp [findL]
    · simp only [go_sem, ↓reduceIte, Nat.reduceEqDiff, Nat.reduceLT, Nat.reduceSub, h0]
  | succ f ih =>
    intro i fr hi hf h0 h3' h6
    refine WC.loop (W_of ?_)
    unfold A_ref10_Tree_find_6
    have hil : i < L.length := by omega
    obtain ⟨b, o, cs, rb, cap, rfl, hM, hr5, hr2, _, _⟩ := row_at hs hil
    have e1 : (i : Int) < L.length := by omega
    have e2 : i + 1 ≤ L.length := by omega
    have h5' : (i : Int) + 1 = ((i + 1 : Nat) : Int) := by omega
    have hrd : ∀ x : St, rdCells (stC x) 0 2 = some (stC x) := fun _ => rfl
    have hdr : L.drop i = L[i] :: L.drop (i + 1) := List.drop_eq_getElem_cons hil
    rw [hdr, findL_cons] at hf
    generalize L[i] = p at hr2 hf
    simp -dsimp only [↓w_seq, ↓w_ops, ↓w_skip, ↓w_ret, ↓w_exit, ↓w_scope, ↓w_block, ↓w_cond, cond_true', cond_false', ↓t_nil, ↓t_plain, ↓t_guard, ↓t_gagain, ↓t_again, t_val, t_call, g_true, g_false, ga_true, ga_false, a_val, a_call, ↓n_normal, ↓n_ret, ↓n_exit, ↓b_normal, ↓b_ret, ↓b_exit, ↓e_normal, ↓e_ret, e_some, go_sem, ↓reduceIte, Nat.reduceEqDiff, Nat.reduceLT, Nat.reduceSub, A_ref10_Tree_find_2, A_ref10_Tree_find_3, h0, h3', h6, vload, vptr, Mem.read, hc, hM, h3, hr2, hrd, Nat.add_zero, List.getElem?_cons_zero, e1, e2, decide_true]
    by_cases hcm : 0 ≤ cmpSt p.1 n
    · refine call_eq (rcmp_p rfl p.1 n) ?_
      rw [if_pos hcm] at hf
      simp -dsimp only [↓w_seq, ↓w_ops, ↓w_skip, ↓w_ret, ↓w_exit, ↓w_scope, ↓w_block, ↓w_cond, cond_true', cond_false', ↓t_nil, ↓t_plain, ↓t_guard, ↓t_gagain, ↓t_again, t_val, t_call, g_true, g_false, ga_true, ga_false, a_val, a_call, ↓n_normal, ↓n_ret, ↓n_exit, ↓b_normal, ↓b_ret, ↓b_exit, ↓e_normal, ↓e_ret, e_some, go_sem, ↓reduceIte, Nat.reduceEqDiff, Nat.reduceLT, Nat.reduceSub, A_ref10_Tree_find_4, hcm, h0, h3', h6, vload, vptr, Mem.read, hc, hM, h3, hr2, hrd, Nat.add_zero, List.getElem?_cons_zero, e1, e2, decide_true, st_same]
      refine hR _ ?_ ?_
      · rw [hf]; simp only [go_sem, ↓reduceIte, Nat.reduceEqDiff, Nat.reduceLT, Nat.reduceSub, Nat.zero_add]
      · rw [hf]; simp only [go_sem, ↓reduceIte, Nat.reduceEqDiff, Nat.reduceLT, Nat.reduceSub]
    · refine call_eq (rcmp_p rfl p.1 n) ?_
      rw [if_neg hcm] at hf
      simp -dsimp only [↓w_seq, ↓w_ops, ↓w_skip, ↓w_ret, ↓w_exit, ↓w_scope, ↓w_block, ↓w_cond, cond_true', cond_false', ↓t_nil, ↓t_plain, ↓t_guard, ↓t_gagain, ↓t_again, t_val, t_call, g_true, g_false, ga_true, ga_false, a_val, a_call, ↓n_normal, ↓n_ret, ↓n_exit, ↓b_normal, ↓b_ret, ↓b_exit, ↓e_normal, ↓e_ret, e_some, go_sem, ↓reduceIte, Nat.reduceEqDiff, Nat.reduceLT, Nat.reduceSub, A_ref10_Tree_find_5, hcm, h6, decide_false, h5', IntWalk.i64_in ((i + 1 : Nat) : Int) (by omega)]
      refine ih (i + 1) _ (by omega) ?_ ?_ ?_ ?_
      · rw [hf]
        simp only [Prod.mk.injEq, and_true]
        omega
      all_goals simp only [go_sem, ↓reduceIte, Nat.reduceEqDiff, Nat.reduceLT, Nat.reduceSub, h0, h3']
theorem find_runs (rc : Nat) (s : V) (ro : Bool) (L : Tr) (n : St) (M : Mem) (hc : M.get rc = some (.cells [s] ro)) (hs : SlR elRow M s L) (hl : L.length ≤ 100000) (hlt : ∀ b, s.blk = some b → L ≠ [] → b < M.next) (hrc : rc < M.next) :
    Runs Dr4 F_ref10_Tree_find [.ptr (some (rc, 0)), .agg (stC n)] M fun v M' => v = .tup [.int .i64 ((findL L n).1 : Int), .bool (findL L n).2] ∧ ∀ c, c < M.next → M'.get c = M.get c := by
  refine R_opq fun R hR => ?_
  refine Runs.walk (F := A_ref10_Tree_find) rfl (by rfl) (by rfl) ?_
  unfold A_ref10_Tree_find
  have hcn : V.cells (.agg (stC n)) = stC n := rfl
  have hG := Grew.push M (.cells (stC n) false)
  have g3 : (M.push (.cells (stC n) false)).get M.next = some (.cells (stC n) false) := Mem.get_push_same _ _
  simp -dsimp only [↓w_seq, ↓w_ops, ↓w_skip, ↓w_ret, ↓w_exit, ↓w_scope, ↓w_block, ↓w_cond, cond_true', cond_false', ↓t_nil, ↓t_plain, ↓t_guard, ↓t_gagain, ↓t_again, t_val, t_call, g_true, g_false, ga_true, ga_false, a_val, a_call, ↓n_normal, ↓n_ret, ↓n_exit, ↓b_normal, ↓b_ret, ↓b_exit, ↓e_normal, ↓e_ret, e_some, go_sem, ↓reduceIte, Nat.reduceEqDiff, Nat.reduceLT, Nat.reduceSub, A_ref10_Tree_find_0, A_ref10_Tree_find_1, hcn]
  generalize M.push (.cells (stC n) false) = M1 at *
  have k1 := (hG.old _ hrc).trans hc
  have k2 : SlR elRow M1 s L := by
    by_cases hne : L = []
    · subst hne
      obtain ⟨x, cap, e, _⟩ := hs
      exact ⟨x, cap, e, .inl rfl⟩
    · exact hs.keep fun b hb => hG.old b (hlt b hb hne)
  refine find_loop rc M.next s ro L n M1 k1 k2 hl g3 ?_ ?_ L.length 0 _ (by omega) (by simp) ?_ ?_ ?_
  · intro fr hf h0
    obtain ⟨a, cap, rfl, _⟩ := k2
    simp -dsimp only [↓w_seq, ↓w_ops, ↓w_skip, ↓w_ret, ↓w_exit, ↓w_scope, ↓w_block, ↓w_cond, cond_true', cond_false', ↓t_nil, ↓t_plain, ↓t_guard, ↓t_gagain, ↓t_again, t_val, t_call, g_true, g_false, ga_true, ga_false, a_val, a_call, ↓n_normal, ↓n_ret, ↓n_exit, ↓b_normal, ↓b_ret, ↓b_exit, ↓e_normal, ↓e_ret, e_some, go_sem, ↓reduceIte, Nat.reduceEqDiff, Nat.reduceLT, Nat.reduceSub, A_ref10_Tree_find_7, h0, vload, vptr, Mem.read, k1, Nat.add_zero, List.getElem?_cons_zero]
    exact hR _ _ ⟨by rw [hf], hG.old⟩
  · intro fr h4 h5
    simp -dsimp only [↓w_seq, ↓w_ops, ↓w_skip, ↓w_ret, ↓w_exit, ↓w_scope, ↓w_block, ↓w_cond, cond_true', cond_false', ↓t_nil, ↓t_plain, ↓t_guard, ↓t_gagain, ↓t_again, t_val, t_call, g_true, g_false, ga_true, ga_false, a_val, a_call, ↓n_normal, ↓n_ret, ↓n_exit, ↓b_normal, ↓b_ret, ↓b_exit, ↓e_normal, ↓e_ret, e_some, go_sem, ↓reduceIte, Nat.reduceEqDiff, Nat.reduceLT, Nat.reduceSub, h4, h5]
    exact hR _ _ ⟨rfl, hG.old⟩
  all_goals simp only [go_sem, ↓reduceIte, Nat.reduceEqDiff, Nat.reduceLT, Nat.reduceSub]
  rfl
def pFind (args : List V) (M : Mem) : Option V :=
  match args with
  | [.ptr (some (rc, 0)), .agg [.int .i64 a, .int .i64 b]] => (rowsOf M rc).map fun L => .tup [.int .i64 ((findL L (a, b)).1 : Int), .bool (findL L (a, b)).2]
  | _ => none
theorem pFind_ok : CallOK Tryz.prog gl0 fun f' args M => if f' = F_ref10_Tree_find then (pFind args M).map (·, M) else none := by
  refine prim_keep ⟨_, Tryz.func49, (by kernel_rfl), (by kernel_rfl)⟩ ?_
  intro args M v h hwf
  unfold pFind at h
  split at h
  · rename_i rc a b
    simp only [Option.map_eq_some_iff] at h
    obtain ⟨L, h1, rfl⟩ := h
    obtain ⟨s, ro, h2, h3, h4, h5⟩ := rowsOf_some h1
    exact ⟨rfl, XRuns.of_runs dokr4 (find_runs rc s ro L (a, b) M h2 h3 h4 (fun b hb hne => by obtain ⟨o, ho⟩ := h5 b hb hne; exact lt_of_get hwf ho) (lt_of_get hwf h2))⟩
  · cases h
def Dr5 : Decls := Dr4.addP F_ref10_Tree_find pFind
theorem dokr5 : DOK Tryz.prog gl0 Dr5 := dokr4.addM pFind_ok
theorem find_p {D : Decls} (hp : D.prim F_ref10_Tree_find = some fun args M => (pFind args M).map (·, M)) {M : Mem} {rc : Nat} {L : Tr} (h : rowsOf M rc = some L) (n : St) : Runs D F_ref10_Tree_find [.ptr (some (rc, 0)), .agg (stC n)] M fun v M' => v = .tup [.int .i64 ((findL L n).1 : Int), .bool (findL L n).2] ∧ M' = M :=
  Runs.part (g := pFind) hp (by show (rowsOf M rc).map _ = _; rw [h]; rfl)
theorem rroot_p {D : Decls} (hp : D.prim F_ref07_Root = some fun args M => (pRRoot args M).map (·, M)) {M : Mem} : Runs D F_ref07_Root [] M fun v M' => v = .agg (stC (0, 0)) ∧ M' = M := Runs.part (g := pRRoot) hp rfl
theorem rtrash_p {D : Decls} (hp : D.prim F_ref07_Trash = some fun args M => (pRTrash args M).map (·, M)) {M : Mem} : Runs D F_ref07_Trash [] M fun v M' => v = .agg (stC (0, 1)) ∧ M' = M := Runs.part (g := pRTrash) hp rfl

theorem rows_keep {M M' : Mem} {rc : Nat} {L : Tr} (h : rowsOf M rc = some L) (hk : ∀ c o, M.get c = some o → M'.get c = some o) : rowsOf M' rc = some L := by
  unfold rowsOf at h ⊢
  split at h
  · rename_i a n cap ro hrc
    rw [hk _ _ hrc]
    simp only at h ⊢
    obtain ⟨h1, h⟩ := cond_some h
    rw [h1, cond_true]
    cases hz : Nat.beq n 0 with
    | true => rw [hz] at h; exact h
    | false =>
      rw [hz] at h
      simp only [cond_false] at h ⊢
      cases a with
      | none => cases h
      | some bo =>
        obtain ⟨b, o⟩ := bo
        simp only at h ⊢
        split at h
        · rename_i cs ro' hb
          rw [hk _ _ hb]
          exact h
        · cases h
  · cases h
theorem keep_of {M M' : Mem} (hwf : ∀ b, M.next ≤ b → M.get b = none) (hG : Grew M M') : ∀ c o, M.get c = some o → M'.get c = some o := fun c o h => (hG.old c (lt_of_get hwf h)).trans h
def hasRB (L : Tr) (p : St) : Bool := (findL L p).2 || (decide (p = (0, 0)) || decide (p = (0, 1)))
theorem rhas_runs (rc : Nat) (L : Tr) (p : St) (M : Mem) (hwf : ∀ b, M.next ≤ b → M.get b = none) (h : rowsOf M rc = some L) :
    Runs Dr5 F_ref10_Tree_Has [.ptr (some (rc, 0)), .agg (stC p)] M fun v M' => v = .bool (hasRB L p) ∧ ∀ c, c < M.next → M'.get c = M.get c := by
  refine R_opq fun R hR => ?_
  refine Runs.walk (F := A_ref10_Tree_Has) rfl (by rfl) (by rfl) ?_
  unfold A_ref10_Tree_Has
  have hcn : V.cells (.agg (stC p)) = stC p := rfl
  have hrd : rdCells (stC p) 0 2 = some (stC p) := rfl
  have hG := Grew.push M (.cells (stC p) false)
  have g3 : (M.push (.cells (stC p) false)).get M.next = some (.cells (stC p) false) := Mem.get_push_same _ _
  simp -dsimp only [↓w_seq, ↓w_ops, ↓w_skip, ↓w_ret, ↓w_exit, ↓w_scope, ↓w_block, ↓w_cond, cond_true', cond_false', ↓t_nil, ↓t_plain, ↓t_guard, ↓t_gagain, ↓t_again, t_val, t_call, g_true, g_false, ga_true, ga_false, a_val, a_call, ↓n_normal, ↓n_ret, ↓n_exit, ↓b_normal, ↓b_ret, ↓b_exit, ↓e_normal, ↓e_ret, e_some, go_sem, ↓reduceIte, Nat.reduceEqDiff, Nat.reduceLT, Nat.reduceSub, A_ref10_Tree_Has_0, A_ref10_Tree_Has_1, hcn]
  have k := rows_keep h (keep_of hwf hG)
  generalize M.push (.cells (stC p) false) = M1 at *
  have fin : ∀ b, b = hasRB L p → R (.bool b) M1 := fun b hb => hR _ _ ⟨by rw [hb], hG.old⟩
  simp -dsimp only [↓w_seq, ↓w_ops, ↓w_skip, ↓w_ret, ↓w_exit, ↓w_scope, ↓w_block, ↓w_cond, cond_true', cond_false', ↓t_nil, ↓t_plain, ↓t_guard, ↓t_gagain, ↓t_again, t_val, t_call, g_true, g_false, ga_true, ga_false, a_val, a_call, ↓n_normal, ↓n_ret, ↓n_exit, ↓b_normal, ↓b_ret, ↓b_exit, ↓e_normal, ↓e_ret, e_some, go_sem, ↓reduceIte, Nat.reduceEqDiff, Nat.reduceLT, Nat.reduceSub, vload, vptr, Mem.read, g3, hrd]
  refine call_eq (find_p rfl k p) ?_
  cases hf : (findL L p).2 with
  | true =>
    simp -dsimp only [↓w_seq, ↓w_ops, ↓w_skip, ↓w_ret, ↓w_exit, ↓w_scope, ↓w_block, ↓w_cond, cond_true', cond_false', ↓t_nil, ↓t_plain, ↓t_guard, ↓t_gagain, ↓t_again, t_val, t_call, g_true, g_false, ga_true, ga_false, a_val, a_call, ↓n_normal, ↓n_ret, ↓n_exit, ↓b_normal, ↓b_ret, ↓b_exit, ↓e_normal, ↓e_ret, e_some, go_sem, ↓reduceIte, Nat.reduceEqDiff, Nat.reduceLT, Nat.reduceSub, A_ref10_Tree_Has_2, List.getElem?_cons_zero, List.getElem?_cons_succ]
    exact fin _ (by rw [hasRB, hf]; rfl)
  | false =>
    simp -dsimp only [↓w_seq, ↓w_ops, ↓w_skip, ↓w_ret, ↓w_exit, ↓w_scope, ↓w_block, ↓w_cond, cond_true', cond_false', ↓t_nil, ↓t_plain, ↓t_guard, ↓t_gagain, ↓t_again, t_val, t_call, g_true, g_false, ga_true, ga_false, a_val, a_call, ↓n_normal, ↓n_ret, ↓n_exit, ↓b_normal, ↓b_ret, ↓b_exit, ↓e_normal, ↓e_ret, e_some, go_sem, ↓reduceIte, Nat.reduceEqDiff, Nat.reduceLT, Nat.reduceSub, A_ref10_Tree_Has_2, List.getElem?_cons_zero, List.getElem?_cons_succ, vload, vptr, Mem.read, g3, hrd]
    refine callA_by (k := ⟨⟩) (l' := ⟨⟩) (g' := ⟨⟩) (rroot_p rfl) ?_
    intro v M2 hv
    rw [hv.1, hv.2]
    clear hv
    refine ⟨?_, ?_⟩
    · simp only [List.all_cons, List.all_nil, Bool.and_true, againOk, wantedA, cond_true, go_sem, ↓reduceIte, Nat.reduceEqDiff, Nat.reduceLT, Nat.reduceSub, vload, vptr, Mem.read, g3, hrd, Nat.zero_add, V.beq, V.beq_self, V.beqs_self, Bool.and_self, Nat.reduceAdd, Nat.reduceLeDiff, decide_true, cond_true, Bool.not_false]
    by_cases h2 : p = (0, 0)
    · simp -dsimp only [↓w_seq, ↓w_ops, ↓w_skip, ↓w_ret, ↓w_exit, ↓w_scope, ↓w_block, ↓w_cond, cond_true', cond_false', ↓t_nil, ↓t_plain, ↓t_guard, ↓t_gagain, ↓t_again, t_val, t_call, g_true, g_false, ga_true, ga_false, a_val, a_call, ↓n_normal, ↓n_ret, ↓n_exit, ↓b_normal, ↓b_ret, ↓b_exit, ↓e_normal, ↓e_ret, e_some, go_sem, ↓reduceIte, Nat.reduceEqDiff, Nat.reduceLT, Nat.reduceSub, st_same, h2, decide_true]
      exact fin _ (by rw [hasRB, hf]; simp [h2])
    · simp -dsimp only [↓w_seq, ↓w_ops, ↓w_skip, ↓w_ret, ↓w_exit, ↓w_scope, ↓w_block, ↓w_cond, cond_true', cond_false', ↓t_nil, ↓t_plain, ↓t_guard, ↓t_gagain, ↓t_again, t_val, t_call, g_true, g_false, ga_true, ga_false, a_val, a_call, ↓n_normal, ↓n_ret, ↓n_exit, ↓b_normal, ↓b_ret, ↓b_exit, ↓e_normal, ↓e_ret, e_some, go_sem, ↓reduceIte, Nat.reduceEqDiff, Nat.reduceLT, Nat.reduceSub, st_same, h2, decide_false, vload, vptr, Mem.read, g3, hrd]
      refine callA_by (k := ⟨⟩) (l' := ⟨⟩) (g' := ⟨⟩) (rtrash_p rfl) ?_
      intro v M2 hv
      rw [hv.1, hv.2]
      clear hv
      refine ⟨?_, ?_⟩
      · simp only [List.all_cons, List.all_nil, Bool.and_true, againOk, wantedA, cond_true, go_sem, ↓reduceIte, Nat.reduceEqDiff, Nat.reduceLT, Nat.reduceSub, vload, vptr, Mem.read, g3, hrd, Nat.zero_add, V.beq, V.beq_self, V.beqs_self, Bool.and_self, Nat.reduceAdd, Nat.reduceLeDiff, decide_true, cond_true, Bool.not_false]
      simp -dsimp only [↓w_seq, ↓w_ops, ↓w_skip, ↓w_ret, ↓w_exit, ↓w_scope, ↓w_block, ↓w_cond, cond_true', cond_false', ↓t_nil, ↓t_plain, ↓t_guard, ↓t_gagain, ↓t_again, t_val, t_call, g_true, g_false, ga_true, ga_false, a_val, a_call, ↓n_normal, ↓n_ret, ↓n_exit, ↓b_normal, ↓b_ret, ↓b_exit, ↓e_normal, ↓e_ret, e_some, go_sem, ↓reduceIte, Nat.reduceEqDiff, Nat.reduceLT, Nat.reduceSub, st_same]
      exact fin _ (by rw [hasRB, hf]; simp [h2])
def pRHas (args : List V) (M : Mem) : Option V :=
  match args with
  | [.ptr (some (rc, 0)), .agg [.int .i64 a, .int .i64 b]] => (rowsOf M rc).map fun L => .bool (hasRB L (a, b))
  | _ => none
theorem pRHas_ok : CallOK Tryz.prog gl0 fun f' args M => if f' = F_ref10_Tree_Has then (pRHas args M).map (·, M) else none := by
  refine prim_keep ⟨_, Tryz.func52, (by kernel_rfl), (by kernel_rfl)⟩ ?_
  intro args M v h hwf
  unfold pRHas at h
  split at h
  · rename_i rc a b
    simp only [Option.map_eq_some_iff] at h
    obtain ⟨L, h1, rfl⟩ := h
    exact ⟨rfl, XRuns.of_runs dokr5 (rhas_runs rc L (a, b) M hwf h1)⟩
  · cases h

def rowL (L : Tr) (i : Nat) : Spot := (L.getD i ((0, 0), sp0)).2
theorem findL_lt {n : St} : ∀ {L : Tr}, (findL L n).2 = true → (findL L n).1 < L.length
  | [], h => by simp [findL] at h
  | p :: r, h => by
    unfold findL at h ⊢
    split
    · simp
    · rename_i hc
      rw [if_neg hc] at h
      have := findL_lt (L := r) h
      simp only [List.length_cons]; omega
theorem rspot_runs (rc : Nat) (L : Tr) (p : St) (M : Mem) (hwf : ∀ b, M.next ≤ b → M.get b = none) (h : rowsOf M rc = some L) :
    Runs Dr5 F_ref10_Tree_Spot [.ptr (some (rc, 0)), .agg (stC p)] M fun v M' => v = .tup [.agg (spC (if (findL L p).2 = true then rowL L (findL L p).1 else sp0)), .bool (findL L p).2] ∧ ∀ c, c < M.next → M'.get c = M.get c := by
  refine R_opq fun R hR => ?_
  refine Runs.walk (F := A_ref10_Tree_Spot) rfl (by rfl) (by rfl) ?_
  unfold A_ref10_Tree_Spot
  have hcn : V.cells (.agg (stC p)) = stC p := rfl
  have hcs : ∀ s, V.cells (.agg (spC s)) = spC s := fun _ => rfl
  have hrd : rdCells (stC p) 0 2 = some (stC p) := rfl
  have hrs : ∀ s, rdCells (spC s) 0 3 = some (spC s) := fun _ => rfl
  have hG := (Grew.push M (.cells (stC p) false)).trans (Grew.push _ (.cells [.int .i64 0, .int .i64 0, .str []] false))
  have g3 : ((M.push (.cells (stC p) false)).push (.cells [.int .i64 0, .int .i64 0, .str []] false)).get M.next = some (.cells (stC p) false) := by rw [Mem.get_push_ne _ _ (by simp), Mem.get_push_same]
  have g4 : ((M.push (.cells (stC p) false)).push (.cells [.int .i64 0, .int .i64 0, .str []] false)).get (M.next + 1) = some (.cells (spC sp0) false) := Mem.get_push_same (M.push _) _
  simp -dsimp only [↓w_seq, ↓w_ops, ↓w_skip, ↓w_ret, ↓w_exit, ↓w_scope, ↓w_block, ↓w_cond, cond_true', cond_false', ↓t_nil, ↓t_plain, ↓t_guard, ↓t_gagain, ↓t_again, t_val, t_call, g_true, g_false, ga_true, ga_false, a_val, a_call, ↓n_normal, ↓n_ret, ↓n_exit, ↓b_normal, ↓b_ret, ↓b_exit, ↓e_normal, ↓e_ret, e_some, go_sem, ↓reduceIte, Nat.reduceEqDiff, Nat.reduceLT, Nat.reduceSub, A_ref10_Tree_Spot_0, A_ref10_Tree_Spot_1, hcn, Mem.next_push]
  have k := rows_keep h (keep_of hwf hG)
  generalize (M.push (.cells (stC p) false)).push (.cells [.int .i64 0, .int .i64 0, .str []] false) = M1 at *
  simp -dsimp only [↓w_seq, ↓w_ops, ↓w_skip, ↓w_ret, ↓w_exit, ↓w_scope, ↓w_block, ↓w_cond, cond_true', cond_false', ↓t_nil, ↓t_plain, ↓t_guard, ↓t_gagain, ↓t_again, t_val, t_call, g_true, g_false, ga_true, ga_false, a_val, a_call, ↓n_normal, ↓n_ret, ↓n_exit, ↓b_normal, ↓b_ret, ↓b_exit, ↓e_normal, ↓e_ret, e_some, go_sem, ↓reduceIte, Nat.reduceEqDiff, Nat.reduceLT, Nat.reduceSub, vload, vptr, Mem.read, g3, hrd]
  refine call_eq (find_p rfl k p) ?_
  cases hf : (findL L p).2 with
  | false =>
    have hw := write_full (vs := spC sp0) g4 rfl rfl
    have hs := Mem.get_set_same M1 (M.next + 1) (.cells (spC sp0) false)
    have hG2 := hG.upd (b := M.next + 1) (by omega) (Upd.set M1 (M.next + 1) (.cells (spC sp0) false))
    have hb : fillCells [.int .i64 0, .int .i64 0, .str []] [] = some (spC sp0) := rfl
    simp -dsimp only [↓w_seq, ↓w_ops, ↓w_skip, ↓w_ret, ↓w_exit, ↓w_scope, ↓w_block, ↓w_cond, cond_true', cond_false', ↓t_nil, ↓t_plain, ↓t_guard, ↓t_gagain, ↓t_again, t_val, t_call, g_true, g_false, ga_true, ga_false, a_val, a_call, ↓n_normal, ↓n_ret, ↓n_exit, ↓b_normal, ↓b_ret, ↓b_exit, ↓e_normal, ↓e_ret, e_some, go_sem, ↓reduceIte, Nat.reduceEqDiff, Nat.reduceLT, Nat.reduceSub, A_ref10_Tree_Spot_2, A_ref10_Tree_Spot_3, List.getElem?_cons_zero, List.getElem?_cons_succ, Bool.not_false, hb, vof, Option.map_some, vstore, hcs, spC_len, hw, Nat.reduceEqDiff]
    generalize M1.set (M.next + 1) (.cells (spC sp0) false) = M2 at *
    simp -dsimp only [↓w_seq, ↓w_ops, ↓w_skip, ↓w_ret, ↓w_exit, ↓w_scope, ↓w_block, ↓w_cond, cond_true', cond_false', ↓t_nil, ↓t_plain, ↓t_guard, ↓t_gagain, ↓t_again, t_val, t_call, g_true, g_false, ga_true, ga_false, a_val, a_call, ↓n_normal, ↓n_ret, ↓n_exit, ↓b_normal, ↓b_ret, ↓b_exit, ↓e_normal, ↓e_ret, e_some, go_sem, ↓reduceIte, Nat.reduceEqDiff, Nat.reduceLT, Nat.reduceSub, vload, vptr, Mem.read, hs, hrs, Nat.add_zero, Option.bind_some, oneOf]
    exact hR _ _ ⟨by rw [hf]; rfl, hG2.old⟩
  | true =>
    have hlt := findL_lt hf
    obtain ⟨s, ro, k1, k2, k3, _⟩ := rowsOf_some k
    obtain ⟨b, o, cs, rb, cap, rfl, hM, hr5, hr2, hr3, _⟩ := row_at k2 hlt
    have hrl : L[(findL L p).1] = (L[(findL L p).1].1, rowL L (findL L p).1) := by simp [rowL, List.getD_eq_getElem?_getD, List.getElem?_eq_getElem hlt]
    rw [hrl] at hr3
    have e2 : (findL L p).1 + 1 ≤ L.length := hlt
    have hw := write_full (vs := spC (rowL L (findL L p).1)) g4 rfl rfl
    have hs := Mem.get_set_same M1 (M.next + 1) (.cells (spC (rowL L (findL L p).1)) false)
    have hG2 := hG.upd (b := M.next + 1) (by omega) (Upd.set M1 (M.next + 1) (.cells (spC (rowL L (findL L p).1)) false))
    simp -dsimp only [↓w_seq, ↓w_ops, ↓w_skip, ↓w_ret, ↓w_exit, ↓w_scope, ↓w_block, ↓w_cond, cond_true', cond_false', ↓t_nil, ↓t_plain, ↓t_guard, ↓t_gagain, ↓t_again, t_val, t_call, g_true, g_false, ga_true, ga_false, a_val, a_call, ↓n_normal, ↓n_ret, ↓n_exit, ↓b_normal, ↓b_ret, ↓b_exit, ↓e_normal, ↓e_ret, e_some, go_sem, ↓reduceIte, Nat.reduceEqDiff, Nat.reduceLT, Nat.reduceSub, A_ref10_Tree_Spot_2, A_ref10_Tree_Spot_4, List.getElem?_cons_zero, List.getElem?_cons_succ, Bool.not_true, vload, vptr, Mem.read, k1, hM, hr3, e2, decide_true, Nat.add_zero, vstore, hcs, spC_len, hw, Nat.reduceEqDiff]
    generalize M1.set (M.next + 1) (.cells (spC (rowL L (findL L p).1)) false) = M2 at *
    simp -dsimp only [↓w_seq, ↓w_ops, ↓w_skip, ↓w_ret, ↓w_exit, ↓w_scope, ↓w_block, ↓w_cond, cond_true', cond_false', ↓t_nil, ↓t_plain, ↓t_guard, ↓t_gagain, ↓t_again, t_val, t_call, g_true, g_false, ga_true, ga_false, a_val, a_call, ↓n_normal, ↓n_ret, ↓n_exit, ↓b_normal, ↓b_ret, ↓b_exit, ↓e_normal, ↓e_ret, e_some, go_sem, ↓reduceIte, Nat.reduceEqDiff, Nat.reduceLT, Nat.reduceSub, vload, vptr, Mem.read, hs, hrs, Nat.add_zero, Option.bind_some, oneOf]
    exact hR _ _ ⟨by rw [hf]; rfl, hG2.old⟩
def spotR (L : Tr) (p : St) : Spot := if (findL L p).2 = true then rowL L (findL L p).1 else sp0
def pRSpot (args : List V) (M : Mem) : Option V :=
  match args with
  | [.ptr (some (rc, 0)), .agg [.int .i64 a, .int .i64 b]] => (rowsOf M rc).map fun L => .tup [.agg (spC (spotR L (a, b))), .bool (findL L (a, b)).2]
  | _ => none
theorem pRSpot_ok : CallOK Tryz.prog gl0 fun f' args M => if f' = F_ref10_Tree_Spot then (pRSpot args M).map (·, M) else none := by
  refine prim_keep ⟨_, Tryz.func77, (by kernel_rfl), (by kernel_rfl)⟩ ?_
  intro args M v h hwf
  unfold pRSpot at h
  split at h
  · rename_i rc a b
    simp only [Option.map_eq_some_iff] at h
    obtain ⟨L, h1, rfl⟩ := h
    exact ⟨rfl, XRuns.of_runs dokr5 (rspot_runs rc L (a, b) M hwf h1)⟩
  · cases h
def Dr6 : Decls := (Dr5.addP F_ref10_Tree_Has pRHas).addP F_ref10_Tree_Spot pRSpot
theorem dokr6 : DOK Tryz.prog gl0 Dr6 := (dokr5.addM pRHas_ok).addM pRSpot_ok
end Go.Am.Tryz


/- New, Own, Nodes, Below. -/
namespace Go.Am.Tryz
open Go Go.Am Go.Proofs Go.Sort Go.Shelf
set_option maxRecDepth 100000
set_option linter.unusedSimpArgs false
set_option linter.unusedVariables false

/-- A tree in memory. -/
structure TreeIn (M : Mem) (tc bm : Nat) (l : Tr) : Prop where
  c : M.get tc = some (.cells [.map (some bm)] false)
  m : M.get bm = some (.map (encM l))
  tl : tc < M.next
  bl : bm < M.next
theorem TreeIn.keep {M M' : Mem} {tc bm : Nat} {l : Tr} (h : TreeIn M tc bm l) (hk : ∀ c, c < M.next → M'.get c = M.get c) (hn : M.next ≤ M'.next) : TreeIn M' tc bm l :=
  ⟨(hk _ h.tl).trans h.c, (hk _ h.bl).trans h.m, Nat.lt_of_lt_of_le h.tl hn, Nat.lt_of_lt_of_le h.bl hn⟩
theorem TreeIn.grew {M M' : Mem} {tc bm : Nat} {l : Tr} (h : TreeIn M tc bm l) (hG : Grew M M') : TreeIn M' tc bm l := h.keep hG.old hG.next
theorem TreeIn.of {M : Mem} {tc bm : Nat} {l : Tr} (h : TreeIn M tc bm l) : treeOf M tc = some (some l) := treeOf_is h.c h.m
theorem TreeIn.at_ {M : Mem} {tc bm : Nat} {l : Tr} (h : TreeIn M tc bm l) : mapAt M bm = some (encM l) := by unfold mapAt; rw [h.m]
theorem isG_keep {M M' : Mem} (h : isG M = true) (hn : 2 ≤ M.next) (hk : ∀ c, c < M.next → M'.get c = M.get c) : isG M' = true :=
  isG_mk ((hk 0 (by omega)).trans (isG_is h).1) ((hk 1 (by omega)).trans (isG_is h).2)

theorem New_runs (D : Decls) (hp : D.prim F_tree_New = none) (hc : D.code.get F_tree_New = some A_tree_New) (M : Mem) : Runs D F_tree_New [] M fun v M' => v = .ptr (some (M.next + 1, 0)) ∧ Grew M M' ∧ TreeIn M' (M.next + 1) M.next [] := by
  refine R_opq fun R hR => ?_
  refine Runs.walk (F := A_tree_New) hp hc (by rfl) ?_
  unfold A_tree_New
  have hf : fillCells [.map none] [(0, 1, .map (some M.next))] = some [.map (some M.next)] := rfl
  simp -dsimp only [↓w_seq, ↓w_ops, ↓w_skip, ↓w_ret, ↓w_exit, ↓w_scope, ↓w_block, ↓w_cond, cond_true', cond_false', ↓t_nil, ↓t_plain, ↓t_guard, ↓t_gagain, ↓t_again, t_val, t_call, g_true, g_false, ga_true, ga_false, a_val, a_call, ↓n_normal, ↓n_ret, ↓n_exit, ↓b_normal, ↓b_ret, ↓b_exit, ↓e_normal, ↓e_ret, e_some, go_sem, ↓reduceIte, Nat.reduceEqDiff, Nat.reduceLT, Nat.reduceSub, A_tree_New_0, A_tree_New_1, hf, vof, Option.map_some, V.cells, Mem.next_push]
  have hG := (Grew.push M (.map [])).trans (Grew.push _ (.cells [.map (some M.next)] false))
  exact hR _ _ ⟨rfl, hG, Mem.get_push_same (M.push _) _, by rw [Mem.get_push_ne _ _ (by simp), Mem.get_push_same]; rfl, by simp only [Mem.next_push]; omega, by simp only [Mem.next_push]; omega⟩

theorem Own_runs (M : Mem) (s : Spot) : Runs D1w F_law10_Own [.agg (spC s)] M fun v M' => v = .agg (spC s) ∧ ∀ c, c < M.next → M'.get c = M.get c := by
  refine R_opq fun R hR => ?_
  refine Runs.walk (F := A_law10_Own) rfl (by rfl) (by rfl) ?_
  unfold A_law10_Own
  have hcn : V.cells (.agg (spC s)) = spC s := rfl
  have hrd : rdCells (spC s) 0 2 = some (stC s.1) := rfl
  have hrd3 : rdCells (spC s) 0 3 = some (spC s) := rfl
  have e2 : (spC s)[2]? = some (.str s.2) := rfl
  have hf : fillCells [.int .i64 0, .int .i64 0, .str []] [(0, 2, .agg (stC s.1)), (2, 1, .str s.2)] = some (spC s) := rfl
  have hG := (Grew.push M (.cells (spC s) false)).trans (Grew.push _ (.cells [.int .i64 0, .int .i64 0, .str []] false))
  have g0 : ((M.push (.cells (spC s) false)).push (.cells [.int .i64 0, .int .i64 0, .str []] false)).get M.next = some (.cells (spC s) false) := by rw [Mem.get_push_ne _ _ (by simp), Mem.get_push_same]
  have g1 : ((M.push (.cells (spC s) false)).push (.cells [.int .i64 0, .int .i64 0, .str []] false)).get (M.next + 1) = some (.cells (spC sp0) false) := Mem.get_push_same (M.push _) _
  simp -dsimp only [↓w_seq, ↓w_ops, ↓w_skip, ↓w_ret, ↓w_exit, ↓w_scope, ↓w_block, ↓w_cond, cond_true', cond_false', ↓t_nil, ↓t_plain, ↓t_guard, ↓t_gagain, ↓t_again, t_val, t_call, g_true, g_false, ga_true, ga_false, a_val, a_call, ↓n_normal, ↓n_ret, ↓n_exit, ↓b_normal, ↓b_ret, ↓b_exit, ↓e_normal, ↓e_ret, e_some, go_sem, ↓reduceIte, Nat.reduceEqDiff, Nat.reduceLT, Nat.reduceSub, A_law10_Own_0, hcn, Mem.next_push]
  generalize (M.push (.cells (spC s) false)).push (.cells [.int .i64 0, .int .i64 0, .str []] false) = M1 at *
  have hw := write_full (vs := spC s) g1 rfl rfl
  have hs := Mem.get_set_same M1 (M.next + 1) (.cells (spC s) false)
  have hG2 := hG.upd (b := M.next + 1) (by omega) (Upd.set M1 (M.next + 1) (.cells (spC s) false))
  simp -dsimp only [↓w_seq, ↓w_ops, ↓w_skip, ↓w_ret, ↓w_exit, ↓w_scope, ↓w_block, ↓w_cond, cond_true', cond_false', ↓t_nil, ↓t_plain, ↓t_guard, ↓t_gagain, ↓t_again, t_val, t_call, g_true, g_false, ga_true, ga_false, a_val, a_call, ↓n_normal, ↓n_ret, ↓n_exit, ↓b_normal, ↓b_ret, ↓b_exit, ↓e_normal, ↓e_ret, e_some, go_sem, ↓reduceIte, Nat.reduceEqDiff, Nat.reduceLT, Nat.reduceSub, A_law10_Own_1, vload, vptr, Mem.read, g0, hrd, e2, Nat.add_zero, Nat.zero_add, hf, vof, Option.map_some, vstore, hcn, spC_len, hw, Nat.reduceEqDiff]
  generalize M1.set (M.next + 1) (.cells (spC s) false) = M2 at *
  simp -dsimp only [↓w_seq, ↓w_ops, ↓w_skip, ↓w_ret, ↓w_exit, ↓w_scope, ↓w_block, ↓w_cond, cond_true', cond_false', ↓t_nil, ↓t_plain, ↓t_guard, ↓t_gagain, ↓t_again, t_val, t_call, g_true, g_false, ga_true, ga_false, a_val, a_call, ↓n_normal, ↓n_ret, ↓n_exit, ↓b_normal, ↓b_ret, ↓b_exit, ↓e_normal, ↓e_ret, e_some, go_sem, ↓reduceIte, Nat.reduceEqDiff, Nat.reduceLT, Nat.reduceSub, vload, vptr, Mem.read, hs, hrd3, Nat.add_zero, Option.bind_some, oneOf]
  exact hR _ _ ⟨rfl, hG2.old⟩
def pOwn (args : List V) (_ : Mem) : Option V :=
  match args with
  | [.agg [.int .i64 a, .int .i64 b, .str k]] => some (.agg (spC ((a, b), k)))
  | _ => none
theorem pOwn_ok : CallOK Tryz.prog gl0 fun f' args M => if f' = F_law10_Own then (pOwn args M).map (·, M) else none := by
  refine prim_keep ⟨_, Tryz.func11, (by kernel_rfl), (by kernel_rfl)⟩ ?_
  intro args M v h hwf
  unfold pOwn at h
  split at h
  · rename_i a b k
    cases h
    exact ⟨rfl, XRuns.of_runs dok1w (Own_runs M ((a, b), k))⟩
  · cases h
def D1x : Decls := Dr6.addP F_law10_Own pOwn
theorem dok1x : DOK Tryz.prog gl0 D1x := dokr6.addM pOwn_ok

theorem gl_two {x : Nat} (h : gl0 x = true) : x = 0 ∨ x = 1 := by
  have := Nat.le_of_ble_eq_true h
  omega
def D2 : Decls := D1x
theorem dok2 : DOK Tryz.prog gl0 D2 := dok1x

/-- Nodes by rising stamps; those below a place. -/
def nodesL (l : Tr) : List St := isort ltSt (keysS l)
def belF (l : Tr) (p : St) (n : St) : Bool := decide (((getS l n).getD sp0).1 = p)
def belowL (l : Tr) (p : St) : List St := (nodesL l).filter (belF l p)
theorem Nodes_none (D : Decls) (hp : D.prim F_tree_Tree_Nodes = none) (hc : D.code.get F_tree_Tree_Nodes = some A_tree_Tree_Nodes) (M : Mem) (t : V) (h : Runs D F_tree_Tree_none [t] M fun v M' => v = .bool true ∧ M' = M) : Runs D F_tree_Tree_Nodes [t] M fun v M' => v = .slice none 0 (.exact 0) ∧ M' = M := by
  refine R_opq fun R hR => ?_
  refine Runs.walk (F := A_tree_Tree_Nodes) hp hc (by rfl) ?_
  unfold A_tree_Tree_Nodes
  simp -dsimp only [↓w_seq, ↓w_ops, ↓w_skip, ↓w_ret, ↓w_exit, ↓w_scope, ↓w_block, ↓w_cond, cond_true', cond_false', ↓t_nil, ↓t_plain, ↓t_guard, ↓t_gagain, ↓t_again, t_val, t_call, g_true, g_false, ga_true, ga_false, a_val, a_call, ↓n_normal, ↓n_ret, ↓n_exit, ↓b_normal, ↓b_ret, ↓b_exit, ↓e_normal, ↓e_ret, e_some, go_sem, ↓reduceIte, Nat.reduceEqDiff, Nat.reduceLT, Nat.reduceSub, A_tree_Tree_Nodes_0, A_tree_Tree_Nodes_1]
  refine call_eq h ?_
  simp -dsimp only [↓w_seq, ↓w_ops, ↓w_skip, ↓w_ret, ↓w_exit, ↓w_scope, ↓w_block, ↓w_cond, cond_true', cond_false', ↓t_nil, ↓t_plain, ↓t_guard, ↓t_gagain, ↓t_again, t_val, t_call, g_true, g_false, ga_true, ga_false, a_val, a_call, ↓n_normal, ↓n_ret, ↓n_exit, ↓b_normal, ↓b_ret, ↓b_exit, ↓e_normal, ↓e_ret, e_some, go_sem, ↓reduceIte, Nat.reduceEqDiff, Nat.reduceLT, Nat.reduceSub, A_tree_Tree_Nodes_2]
  exact hR _ _ ⟨rfl, rfl⟩
theorem Hold.slR {lo : Nat} {M : Mem} {s : V} {xs : List St} (h : Hold lo M 2 s xs.length (elSt.all xs)) : SlR elSt M s xs := by
  generalize hn : xs.length = n at h
  generalize hc : elSt.all xs = cs at h
  cases h with
  | nil => exact ⟨none, .exact 0, by rw [hn], .inl (List.eq_nil_of_length_eq_zero hn)⟩
  | row h1 h2 h3 h4 =>
    refine ⟨_, _, by rw [hn], .inr ⟨_, 0, _, false, rfl, h1, fun i hi => ?_⟩⟩
    rw [← hc, Nat.zero_add]
    exact elSt.rd xs i hi

theorem Below_none (D : Decls) (hp : D.prim F_tree_Tree_Below = none) (hc : D.code.get F_tree_Tree_Below = some A_tree_Tree_Below) (hp2 : D.prim F_tree_Tree_Nodes = none) (hc2 : D.code.get F_tree_Tree_Nodes = some A_tree_Tree_Nodes) (M : Mem) (t : V) (p : St) (h : ∀ M', Grew M M' → Runs D F_tree_Tree_none [t] M' fun v M'' => v = .bool true ∧ M'' = M') : Runs D F_tree_Tree_Below [t, .agg (stC p)] M fun v M' => v = .slice none 0 (.exact 0) ∧ Grew M M' := by
  refine R_opq fun R hR => ?_
  refine Runs.walk (F := A_tree_Tree_Below) hp hc (by rfl) ?_
  unfold A_tree_Tree_Below
  have hcn : V.cells (.agg (stC p)) = stC p := rfl
  have hG := Grew.push M (.cells (stC p) false)
  simp -dsimp only [↓w_seq, ↓w_ops, ↓w_skip, ↓w_ret, ↓w_exit, ↓w_scope, ↓w_block, ↓w_cond, cond_true', cond_false', ↓t_nil, ↓t_plain, ↓t_guard, ↓t_gagain, ↓t_again, t_val, t_call, g_true, g_false, ga_true, ga_false, a_val, a_call, ↓n_normal, ↓n_ret, ↓n_exit, ↓b_normal, ↓b_ret, ↓b_exit, ↓e_normal, ↓e_ret, e_some, go_sem, ↓reduceIte, Nat.reduceEqDiff, Nat.reduceLT, Nat.reduceSub, A_tree_Tree_Below_0, A_tree_Tree_Below_1, A_tree_Tree_Below_2, hcn]
  generalize M.push (.cells (stC p) false) = M1 at *
  refine call_eq (Nodes_none D hp2 hc2 M1 t (h M1 hG)) ?_
  simp -dsimp only [↓w_seq, ↓w_ops, ↓w_skip, ↓w_ret, ↓w_exit, ↓w_scope, ↓w_block, ↓w_cond, cond_true', cond_false', ↓t_nil, ↓t_plain, ↓t_guard, ↓t_gagain, ↓t_again, t_val, t_call, g_true, g_false, ga_true, ga_false, a_val, a_call, ↓n_normal, ↓n_ret, ↓n_exit, ↓b_normal, ↓b_ret, ↓b_exit, ↓e_normal, ↓e_ret, e_some, go_sem, ↓reduceIte, Nat.reduceEqDiff, Nat.reduceLT, Nat.reduceSub]
  refine WC.loop (W_of ?_)
  unfold A_tree_Tree_Below_8
  simp -dsimp only [↓w_seq, ↓w_ops, ↓w_skip, ↓w_ret, ↓w_exit, ↓w_scope, ↓w_block, ↓w_cond, cond_true', cond_false', ↓t_nil, ↓t_plain, ↓t_guard, ↓t_gagain, ↓t_again, t_val, t_call, g_true, g_false, ga_true, ga_false, a_val, a_call, ↓n_normal, ↓n_ret, ↓n_exit, ↓b_normal, ↓b_ret, ↓b_exit, ↓e_normal, ↓e_ret, e_some, go_sem, ↓reduceIte, Nat.reduceEqDiff, Nat.reduceLT, Nat.reduceSub, A_tree_Tree_Below_3, Int.lt_irrefl, decide_false, Int.natCast_zero, A_tree_Tree_Below_9, Int.ofNat_zero]
  exact hR _ _ ⟨rfl, hG⟩
end Go.Am.Tryz


/- Add, Move, Drop. -/
namespace Go.Am.Tryz
open Go Go.Am Go.Proofs Go.Sort Go.Shelf
set_option maxRecDepth 100000
set_option linter.unusedSimpArgs false
set_option linter.unusedVariables false

/-- All but one block is as it was. -/
structure Chg (M : Mem) (b : Nat) (M' : Mem) : Prop where
  next : M.next ≤ M'.next
  old : ∀ c, c < M.next → c ≠ b → M'.get c = M.get c
theorem Chg.of {M M' : Mem} {b : Nat} (h : Grew M M') : Chg M b M' := ⟨h.next, fun c hc _ => h.old c hc⟩
theorem Chg.trans {M M' M'' : Mem} {b : Nat} (h : Chg M b M') (h' : Chg M' b M'') : Chg M b M'' := ⟨Nat.le_trans h.next h'.next, fun c hc hb => (h'.old c (Nat.lt_of_lt_of_le hc h.next) hb).trans (h.old c hc hb)⟩
theorem Chg.set {M M' : Mem} {b : Nat} {o : O} (h : Grew M M') : Chg M b (M'.set b o) := ⟨h.next, fun c hc hb => (Mem.get_set_ne _ _ hb).trans (h.old c hc)⟩
theorem TreeIn.ne {M : Mem} {tc bm : Nat} {l : Tr} (h : TreeIn M tc bm l) : tc ≠ bm := fun e => by have := h.c; rw [e, h.m] at this; cases this
theorem TreeIn.set {M M' : Mem} {tc bm : Nat} {l l' : Tr} (h : TreeIn M tc bm l) (hG : Grew M M') : TreeIn (M'.set bm (.map (encM l'))) tc bm l' :=
  ⟨by rw [Mem.get_set_ne _ _ h.ne]; exact (h.grew hG).c, Mem.get_set_same _ _ _, (h.grew hG).tl, (h.grew hG).bl⟩

def addE (l : Tr) (n : St) (s : Spot) : Nat := if (nodeSt n && rightSp s) = false then 1 else if (getS l n).isSome = true then 4 else if hasB l s.1 = false then 3 else if 65536 ≤ l.length then 7 else 0
def addT (l : Tr) (n : St) (s : Spot) : Tr := if addE l n s = 0 then putS l n s else l

theorem enc_lenI {M : Mem} {bm : Nat} {l : Tr} (h : mapAt M bm = some (encM l)) : vlenMap M (.map (some bm)) = some (.int .i64 (l.length : Int)) := by
  simp only [vlenMap, h, Option.map_some, enc_len]

def moveE (l : Tr) (n : St) (s : Spot) : Nat := if (nodeSt n && rightSp s) = false then 1 else if ((getS l n).isSome && hasB l s.1) = false then 3 else if withinB l n s.1 (pathOf l s.1) = true then 41 else 0
def moveT (l : Tr) (n : St) (s : Spot) : Tr := if moveE l n s = 0 then putS l n s else l
def dropE (l : Tr) (n : St) : Nat := if (getS l n).isSome = false then 3 else if 0 < (belowL l n).length then 4 else 0
def dropT (l : Tr) (n : St) : Tr := if dropE l n = 0 then delS l n else l
/-! ### acts -/
abbrev Act := Int × St × Spot
end Go.Am.Tryz


/- Trees, plainly: acts keep the tree a tree. -/
namespace Go.Am.Tryz
open Go Go.Am Go.Proofs Go.Sort Go.Shelf
set_option maxRecDepth 100000
set_option linter.unusedSimpArgs false
set_option linter.unusedVariables false

theorem node_pos {n : St} (h : nodeSt n = true) : 0 < n.1 := by
  simp only [nodeSt, Bool.and_eq_true, decide_eq_true_eq] at h
  exact h.2
theorem hasB_P {l : Tr} {p : St} (h : hasB l p = true) : hasP l p := by
  simp only [hasB, Bool.or_eq_true, Bool.and_eq_true, Bool.not_eq_true'] at h
  rcases h with h | ⟨h1, h2⟩
  · exact .inl h
  · simp only [placeSt, h2, Bool.false_or, Bool.or_eq_true, decide_eq_true_eq] at h1
    exact .inr h1
theorem Inv.no_up {l : Tr} (h : Inv l) {n : St} (h0 : 0 < n.1) (hn : getS l n = none) {p : St} (hp : hasP l p) : n ∉ p :: pathOf l p := by
  have key : ∀ q, hasP l q → q ≠ n := fun q hq e => by
    subst e
    rcases hq with h1 | h1 | h1
    · rw [hn] at h1; cases h1
    · rw [h1] at h0; exact absurd h0 (by decide)
    · rw [h1] at h0; exact absurd h0 (by decide)
  intro hm
  rcases List.mem_cons.mp hm with e | hm
  · exact key p hp e.symm
  · obtain ⟨k, s, h1, h2⟩ := (h.path p).met hm
    exact key _ (h.par k s h1) h2

theorem addE_0 {l : Tr} {n : St} {s : Spot} (h : addE l n s = 0) : nodeSt n = true ∧ rightSp s = true ∧ getS l n = none ∧ hasB l s.1 = true ∧ l.length < 65536 := by
  unfold addE at h
  split at h
  · cases h
  · rename_i h1
    split at h
    · cases h
    · rename_i h2
      split at h
      · cases h
      · rename_i h3
        split at h
        · cases h
        · rename_i h4
          simp only [Bool.not_eq_false, Bool.and_eq_true] at h1 h3
          refine ⟨h1.1, h1.2, ?_, h3, by omega⟩
          cases hg : getS l n with
          | none => rfl
          | some t => rw [hg] at h2; exact absurd rfl h2
theorem moveE_0 {l : Tr} {n : St} {s : Spot} (h : moveE l n s = 0) : nodeSt n = true ∧ rightSp s = true ∧ (getS l n).isSome = true ∧ hasB l s.1 = true ∧ withinB l n s.1 (pathOf l s.1) = false := by
  unfold moveE at h
  split at h
  · cases h
  · rename_i h1
    split at h
    · cases h
    · rename_i h2
      split at h
      · cases h
      · rename_i h3
        simp only [Bool.not_eq_false, Bool.and_eq_true] at h1 h2
        exact ⟨h1.1, h1.2, h2.1, h2.2, by simpa using h3⟩
theorem dropE_0 {l : Tr} {n : St} (h : dropE l n = 0) : (getS l n).isSome = true ∧ belowL l n = [] := by
  unfold dropE at h
  split at h
  · cases h
  · rename_i h1
    split at h
    · cases h
    · rename_i h2
      exact ⟨by rwa [Bool.not_eq_false] at h1, List.eq_nil_of_length_eq_zero (by omega)⟩
theorem mem_nodes {l : Tr} {n : St} : n ∈ nodesL l ↔ n ∈ keysS l := (isort_perm ltSt (keysS l)).mem_iff
theorem mem_below {l : Tr} {n p : St} : n ∈ belowL l p ↔ ∃ s, getS l n = some s ∧ s.1 = p := by
  unfold belowL belF
  rw [List.mem_filter, mem_nodes, ← get_mem, decide_eq_true_eq]
  constructor
  · rintro ⟨h1, h2⟩
    cases hg : getS l n with
    | none => rw [hg] at h1; cases h1
    | some s => rw [hg] at h2; exact ⟨s, rfl, h2⟩
  · rintro ⟨s, h1, h2⟩
    rw [h1]
    exact ⟨rfl, h2⟩
theorem Inv.add {l : Tr} (h : Inv l) (n : St) (s : Spot) : Inv (addT l n s) := by
  unfold addT
  split
  · rename_i h0
    obtain ⟨h1, _, h3, h4, _⟩ := addE_0 h0
    exact h.put (node_pos h1) (hasB_P h4) (h.no_up (node_pos h1) h3 (hasB_P h4))
  · exact h
theorem Inv.move {l : Tr} (h : Inv l) (n : St) (s : Spot) : Inv (moveT l n s) := by
  unfold moveT
  split
  · rename_i h0
    obtain ⟨h1, _, h3, h4, h5⟩ := moveE_0 h0
    refine h.put (node_pos h1) (hasB_P h4) fun hm => ?_
    simp only [withinB] at h5
    cases hs : getS l s.1 with
    | some t =>
      rw [hs] at h5
      simp only [Option.isSome_some, Bool.true_and, Bool.or_eq_false_iff, decide_eq_false_iff_not] at h5
      rcases List.mem_cons.mp hm with e | hm
      · exact h5.2 e
      · exact h5.1 hm
    | none =>
      have := (PathN.nil hs).eq
      rw [← this] at hm
      simp only [List.mem_singleton] at hm
      rw [hm, hs] at h3
      cases h3
  · exact h
theorem Inv.drop {l : Tr} (h : Inv l) (n : St) : Inv (dropT l n) := by
  unfold dropT
  split
  · rename_i h0
    obtain ⟨h1, h2⟩ := dropE_0 h0
    refine h.del fun m s hm e => ?_
    have : m ∈ belowL l n := mem_below.mpr ⟨s, hm, e⟩
    rw [h2] at this
    cases this
  · exact h
end Go.Am.Tryz


/- The law TreeReaches on the machine. -/
namespace Go.Am.Tryz
open Go Go.Am Go.Proofs Go.Sort Go.Shelf
set_option maxRecDepth 100000
set_option linter.unusedSimpArgs false
set_option linter.unusedVariables false

/-- Where a law stands: what it was given is as it was; a tree of its own. -/
structure LS (M0 M : Mem) (tc bm : Nat) (l : Tr) : Prop where
  old : ∀ c, c < M0.next → M.get c = M0.get c
  next : M0.next ≤ M.next
  T : TreeIn M tc bm l
  tb : M0.next ≤ bm
theorem LS.grew {M0 M M' : Mem} {tc bm : Nat} {l : Tr} (h : LS M0 M tc bm l) (hG : Grew M M') : LS M0 M' tc bm l :=
  ⟨fun c hc => (hG.old c (Nat.lt_of_lt_of_le hc h.next)).trans (h.old c hc), Nat.le_trans h.next hG.next, h.T.grew hG, h.tb⟩
theorem LS.g {M0 M : Mem} {tc bm : Nat} {l : Tr} (h : LS M0 M tc bm l) (hg : isG M0 = true) (hn : 2 ≤ M0.next) : isG M = true := isG_keep hg hn h.old

theorem take_snoc {α : Type} (xs : List α) {i : Nat} (h : i < xs.length) : xs.take (i + 1) = xs.take i ++ [xs[i]] := by
  rw [List.take_add_one, List.getElem?_eq_getElem h]; rfl

end Go.Am.Tryz


/- Texts, how they stand to each other. -/
namespace Go.Am
open Go
abbrev cmpB := Lib.compareBytes
theorem cmp_self : ∀ a : List UInt8, cmpB a a = 0
  | [] => rfl
  | c :: a => by unfold cmpB Lib.compareBytes; simp [UInt8.lt_irrefl]; exact cmp_self a
theorem cmp_neg : ∀ a b : List UInt8, cmpB b a = - cmpB a b
  | [], [] => rfl
  | [], _ :: _ => rfl
  | _ :: _, [] => rfl
  | c :: a, d :: b => by
    unfold cmpB Lib.compareBytes
    by_cases h1 : c < d
    · have : ¬ d < c := fun h => absurd (UInt8.lt_trans h1 h) (UInt8.lt_irrefl _)
      simp [h1, this]
    · by_cases h2 : d < c
      · simp [h1, h2]
      · simp [h1, h2]; exact cmp_neg a b
theorem cmp_eq : ∀ {a b : List UInt8}, cmpB a b = 0 → a = b
  | [], [], _ => rfl
  | [], _ :: _, h => by cases h
  | _ :: _, [], h => by cases h
  | c :: a, d :: b, h => by
    unfold cmpB Lib.compareBytes at h
    split at h
    · cases h
    · split at h
      · cases h
      · rename_i h1 h2
        have : c = d := UInt8.le_antisymm (UInt8.not_lt.1 h2) (UInt8.not_lt.1 h1)
        rw [this, cmp_eq h]
theorem cmp_three : ∀ a b : List UInt8, cmpB a b = -1 ∨ cmpB a b = 0 ∨ cmpB a b = 1
  | [], [] => .inr (.inl rfl)
  | [], _ :: _ => .inl rfl
  | _ :: _, [] => .inr (.inr rfl)
  | c :: a, d :: b => by
    unfold cmpB Lib.compareBytes
    split
    · exact .inl rfl
    · split
      · exact .inr (.inr rfl)
      · exact cmp_three a b
theorem cmp_trans : ∀ {a b c : List UInt8}, cmpB a b = -1 → cmpB b c = -1 → cmpB a c = -1
  | [], _, [], _, h2 => by rename_i b _; cases b <;> cases h2
  | [], _, _ :: _, _, _ => rfl
  | _ :: _, [], _, h1, _ => by cases h1
  | _ :: _, _ :: _, [], _, h2 => by cases h2
  | x :: a, y :: b, z :: c, h1, h2 => by
    unfold cmpB Lib.compareBytes at h1 h2 ⊢
    by_cases xy : x < y
    · by_cases yz : y < z
      · rw [if_pos (UInt8.lt_trans xy yz)]
      · rw [if_neg yz] at h2
        by_cases zy : z < y
        · rw [if_pos zy] at h2; cases h2
        · have e : y = z := UInt8.le_antisymm (UInt8.not_lt.1 zy) (UInt8.not_lt.1 yz)
          subst e; rw [if_pos xy]
    · rw [if_neg xy] at h1
      by_cases yx : y < x
      · rw [if_pos yx] at h1; cases h1
      · have e : x = y := UInt8.le_antisymm (UInt8.not_lt.1 yx) (UInt8.not_lt.1 xy)
        subst e
        rw [if_neg yx] at h1
        by_cases yz : x < z
        · rw [if_pos yz]
        · rw [if_neg yz] at h2 ⊢
          by_cases zy : z < x
          · rw [if_pos zy] at h2; cases h2
          · rw [if_neg zy] at h2 ⊢
            exact cmp_trans h1 h2
end Go.Am


/- Siblings: how they stand in cells; how they are compared, sorted. -/
namespace Go.Proofs
open Go.Shelf
def Tryz.sortSib_ren : Go.Shelf.Ren := ⟨fun | 6 => 131 | 15 => 150 | 14 => 149 | 28 => 166 | 29 => 167 | 20 => 158 | 21 => 159 | 22 => 160 | 23 => 161 | 24 => 162 | 25 => 163 | 26 => 164 | 27 => 165 | 46 => 177 | 47 => 178 | 48 => 179 | 49 => 180 | 50 => 181 | 57 => 185 | n => n, fun | 22 => 47 | 24 => 77 | 25 => 140 | 3 => 3 | 39 => 189 | 0 => 0 | 53 => 206 | 55 => 208 | 4 => 4 | 46 => 200 | 45 => 199 | 50 => 113 | 5 => 5 | 9 => 9 | 66 => 214 | 70 => 218 | 76 => 222 | 77 => 82 | n => n, fun | n => n⟩
theorem Tryz.sortSib : Go.Proofs.SlLaysF0.n6 Tryz.prog Tryz.sortSib_ren := {
  mixed := by kernel_rfl
  f6 := ⟨Tryz.f131.name, by decide, Tryz.func131.trans (congrArg some (by kernel_rfl))⟩
  f14 := ⟨Tryz.f149.name, by decide, Tryz.func149.trans (congrArg some (by kernel_rfl))⟩
  f15 := Tryz.func150.trans (congrArg some (by kernel_rfl))
  f20 := ⟨Tryz.f158.name, by decide, Tryz.func158.trans (congrArg some (by kernel_rfl))⟩
  f21 := ⟨Tryz.f159.name, by decide, Tryz.func159.trans (congrArg some (by kernel_rfl))⟩
  f22 := ⟨Tryz.f160.name, by decide, Tryz.func160.trans (congrArg some (by kernel_rfl))⟩
  f23 := ⟨Tryz.f161.name, by decide, Tryz.func161.trans (congrArg some (by kernel_rfl))⟩
  f24 := ⟨Tryz.f162.name, by decide, Tryz.func162.trans (congrArg some (by kernel_rfl))⟩
  f25 := ⟨Tryz.f163.name, by decide, Tryz.func163.trans (congrArg some (by kernel_rfl))⟩
  f26 := ⟨Tryz.f164.name, by decide, Tryz.func164.trans (congrArg some (by kernel_rfl))⟩
  f27 := ⟨Tryz.f165.name, by decide, Tryz.func165.trans (congrArg some (by kernel_rfl))⟩
  f28 := Tryz.func166.trans (congrArg some (by kernel_rfl))
  f29 := Tryz.func167.trans (congrArg some (by kernel_rfl))
  f46 := ⟨Tryz.f177.name, by decide, Tryz.func177.trans (congrArg some (by kernel_rfl))⟩
  f47 := Tryz.func178.trans (congrArg some (by kernel_rfl))
  f48 := Tryz.func179.trans (congrArg some (by kernel_rfl))
  f49 := ⟨Tryz.f180.name, by decide, Tryz.func180.trans (congrArg some (by kernel_rfl))⟩
  f50 := ⟨Tryz.f181.name, by decide, Tryz.func181.trans (congrArg some (by kernel_rfl))⟩
  f57 := ⟨Tryz.f185.name, by decide, Tryz.func185.trans (congrArg some (by kernel_rfl))⟩
  t0 := Tryz.underlying0
  a0 := Tryz.isAgg0
  z0 := Tryz.sizeOf0
  v0 := Tryz.zeroValue0
  t3 := Tryz.underlying3
  a3 := Tryz.isAgg3
  z3 := Tryz.sizeOf3
  v3 := Tryz.zeroValue3
  t4 := Tryz.underlying4
  a4 := Tryz.isAgg4
  z4 := Tryz.sizeOf4
  v4 := Tryz.zeroValue4
  t5 := Tryz.underlying5
  a5 := Tryz.isAgg5
  z5 := Tryz.sizeOf5
  v5 := Tryz.zeroValue5
  t9 := Tryz.underlying9
  a9 := Tryz.isAgg9
  z9 := Tryz.sizeOf9
  v9 := Tryz.zeroValue9
  t22 := Tryz.underlying47
  a22 := Tryz.isAgg47
  z22 := Tryz.sizeOf47
  v22 := Tryz.zeroValue47
  t25 := Tryz.underlying140
  a25 := Tryz.isAgg140
  z25 := Tryz.sizeOf140
  v25 := Tryz.zeroValue140
  t39 := Tryz.underlying189
  a39 := Tryz.isAgg189
  z39 := Tryz.sizeOf189
  v39 := Tryz.zeroValue189
  t45 := Tryz.underlying199
  a45 := Tryz.isAgg199
  z45 := Tryz.sizeOf199
  v45 := Tryz.zeroValue199
  t46 := Tryz.underlying200
  a46 := Tryz.isAgg200
  z46 := Tryz.sizeOf200
  v46 := Tryz.zeroValue200
  t50 := Tryz.underlying113
  a50 := Tryz.isAgg113
  z50 := Tryz.sizeOf113
  v50 := Tryz.zeroValue113
  t53 := Tryz.underlying206
  a53 := Tryz.isAgg206
  z53 := Tryz.sizeOf206
  v53 := Tryz.zeroValue206
  t55 := Tryz.underlying208
  a55 := Tryz.isAgg208
  z55 := Tryz.sizeOf208
  v55 := Tryz.zeroValue208
  t66 := Tryz.underlying214
  a66 := Tryz.isAgg214
  z66 := Tryz.sizeOf214
  v66 := Tryz.zeroValue214
  t70 := Tryz.underlying218
  a70 := Tryz.isAgg218
  z70 := Tryz.sizeOf218
  v70 := Tryz.zeroValue218
  t76 := Tryz.underlying222
  a76 := Tryz.isAgg222
  z76 := Tryz.sizeOf222
  v76 := Tryz.zeroValue222
  t77 := Tryz.underlying82
  a77 := Tryz.isAgg82
  z77 := Tryz.sizeOf82
  v77 := Tryz.zeroValue82 }
end Go.Proofs
namespace Go.Proofs
set_option maxHeartbeats 1000000 in
set_option maxRecDepth 100000 in
theorem Tryz.bytealg_CompareString (a b : ByteArray) (w : World) :
    Calls Tryz.prog 157 #[.string a, .string b] w fun e w' => e = .returned (.int .i64 (Lib.compareBytes a.data.toList b.data.toList)) ∧ w' = w := by
  go_enter Tryz.func157, Tryz.ntmps157
  go_wp2
  rw [run_callFunc_extern Tryz.func176 (by kernel_rfl) (by kernel_rfl) (by kernel_rfl) (e := Extern.BytealgCompare.compare) (by kernel_rfl), Lib.run_compareString]
  simp only [Result.andThen]
  rw [Oper.upon_value]
  go_wp2
  go_ret
  exact ⟨rfl, rfl⟩
set_option maxHeartbeats 1000000 in
theorem Tryz.strings_Compare (a b : ByteArray) (w : World) :
    Calls Tryz.prog 147 #[.string a, .string b] w fun e w' => e = .returned (.int .i64 (Lib.compareBytes a.data.toList b.data.toList)) ∧ w' = w := by
  go_enter Tryz.func147, Tryz.ntmps147
  go_wp2_with (go_at_call 157; refine (Tryz.bytealg_CompareString _ _ _).mono ?_; rintro e w' ⟨rfl, rfl⟩)
  go_ret
  exact ⟨rfl, rfl⟩
end Go.Proofs
namespace Go.Am.Tryz.O
open Go Go.Am Go.Proofs Go.Sort Go.Shelf
set_option maxRecDepth 100000
set_option linter.unusedSimpArgs false
set_option linter.unusedVariables false


def pCompare : List V → Option V
  | [.str a, .str b] => some (.int .i64 (Lib.compareBytes a b))
  | _ => none
theorem compare_ok (gl : Nat → Bool) : CallOK Tryz.prog gl fun f' args M => if f' = F_strings_Compare then (pCompare args).map (·, M) else none := by
  refine prim_of_calls ⟨_, Tryz.func147, (by kernel_rfl), (by kernel_rfl)⟩ ?_
  intro args v h E args' w hA
  unfold pCompare at h
  split at h
  · rename_i a b
    cases h
    have : ∃ x y : ByteArray, args' = #[.string x, .string y] ∧ a = x.data.toList ∧ b = y.data.toList := by
      obtain ⟨l⟩ := args'
      simp only at hA
      cases hA with
      | cons h1 t => cases h1 with | str x => cases t with | cons h2 t => cases h2 with | str y => cases t; exact ⟨x, y, rfl, rfl, rfl⟩
    obtain ⟨x, y, rfl, rfl, rfl⟩ := this
    refine (Tryz.strings_Compare x y w).mono fun e w' ⟨he, hw⟩ => ?_
    exact ⟨_, he, .int _ _, hw⟩
  · cases h
def D1 : Decls := Tryz.D2.add F_strings_Compare pCompare
theorem dok1 : DOK Tryz.prog gl0 D1 := Tryz.dok2.add (compare_ok gl0)

abbrev Sb := List UInt8 × St
def sbC (x : Sb) : List V := [.str x.1, .int .i64 x.2.1, .int .i64 x.2.2]
/-- Which sibling stands ahead. -/
def befSb (a b : Sb) : Bool := if a.1 = b.1 then decide (a ≠ b) && decide (cmpSt a.2 b.2 < 0) else decide (cmpB a.1 b.1 < 0)
def cmpSb (a b : Sb) : Int := if a = b then 0 else if befSb a b = true then -1 else 1

theorem poskey_Compare_runs (D : Decls) (hp : D.prim F_poskey_Compare = none) (hc : D.code.get F_poskey_Compare = some A_poskey_Compare) (hs : D.prim F_strings_Compare = some fun args M => (pCompare args).map (·, M)) (a b : List UInt8) (M : Mem) :
    Runs D F_poskey_Compare [.str a, .str b] M fun v M' => v = .int .i64 (cmpB a b) ∧ M' = M := by
  refine Runs.walk (F := A_poskey_Compare) hp hc (by rfl) ?_
  unfold A_poskey_Compare
  simp -dsimp only [↓w_seq, ↓w_ops, ↓w_skip, ↓w_ret, ↓w_exit, ↓w_scope, ↓w_block, ↓w_cond, cond_true', cond_false', ↓t_nil, ↓t_plain, ↓t_guard, ↓t_gagain, ↓t_again, t_val, t_call, g_true, g_false, ga_true, ga_false, a_val, a_call, ↓n_normal, ↓n_ret, ↓n_exit, ↓b_normal, ↓b_ret, ↓b_exit, ↓e_normal, ↓e_ret, e_some, go_sem, ↓reduceIte, Nat.reduceEqDiff, Nat.reduceLT, Nat.reduceSub, A_poskey_Compare_0, A_poskey_Compare_1]
  refine call_eq (Runs.prim hs rfl ⟨rfl, rfl⟩) ?_
  simp -dsimp only [↓w_seq, ↓w_ops, ↓w_skip, ↓w_ret, ↓w_exit, ↓w_scope, ↓w_block, ↓w_cond, cond_true', cond_false', ↓t_nil, ↓t_plain, ↓t_guard, ↓t_gagain, ↓t_again, t_val, t_call, g_true, g_false, ga_true, ga_false, a_val, a_call, ↓n_normal, ↓n_ret, ↓n_exit, ↓b_normal, ↓b_ret, ↓b_exit, ↓e_normal, ↓e_ret, e_some, go_sem, ↓reduceIte, Nat.reduceEqDiff, Nat.reduceLT, Nat.reduceSub, A_poskey_Compare_0, A_poskey_Compare_1]
  exact ⟨trivial, trivial⟩

/-- What the comparisons lean on. -/
structure HasCmp (D : Decls) : Prop where
  st : D.prim F_stamp_Compare = none ∧ D.code.get F_stamp_Compare = some A_stamp_Compare
  pk : D.prim F_poskey_Compare = none ∧ D.code.get F_poskey_Compare = some A_poskey_Compare
  bf : D.prim F_order_Before = none ∧ D.code.get F_order_Before = some A_order_Before
  c1 : D.prim F_order_Sort_c1 = none ∧ D.code.get F_order_Sort_c1 = some A_order_Sort_c1
  sc : D.prim F_strings_Compare = some fun args M => (pCompare args).map (·, M)

theorem order_Before_runs {D : Decls} (hD : HasCmp D) (a b : Sb) (M : Mem) : Runs D F_order_Before [.agg (sbC a), .agg (sbC b)] M fun v M' => v = .bool (befSb a b) ∧ Grew M M' := by
  refine Runs.walk (F := A_order_Before) hD.bf.1 hD.bf.2 (by rfl) ?_
  unfold A_order_Before
  obtain ⟨a0, a1, a2⟩ := a
  obtain ⟨b0, b1, b2⟩ := b
  simp only [sbC]
  have hG : Grew M ((M.push (.cells [.str a0, .int .i64 a1, .int .i64 a2] false)).push (.cells [.str b0, .int .i64 b1, .int .i64 b2] false)) := (Grew.push M _).trans (Grew.push _ _)
  by_cases h0 : a0 = b0
  · subst h0
    by_cases h1 : a1 = b1 ∧ a2 = b2
    · obtain ⟨rfl, rfl⟩ := h1
      simp -dsimp only [↓w_seq, ↓w_ops, ↓w_skip, ↓w_ret, ↓w_exit, ↓w_scope, ↓w_block, ↓w_cond, cond_true', cond_false', ↓t_nil, ↓t_plain, ↓t_guard, ↓t_gagain, ↓t_again, t_val, t_call, g_true, g_false, ga_true, ga_false, a_val, a_call, ↓n_normal, ↓n_ret, ↓n_exit, ↓b_normal, ↓b_ret, ↓b_exit, ↓e_normal, ↓e_ret, e_some, go_sem, ↓reduceIte, Nat.reduceEqDiff, Nat.reduceLT, Nat.reduceSub, A_order_Before_0, A_order_Before_1, A_order_Before_2, A_order_Before_3, Int.lt_irrefl, true_and, and_true, false_and, and_false, and_self, same_two, same_sib, same_spot, vload, vptr, vof, V.cells, Mem.read, rdCells, Mem.get_push, Mem.next_push, Nat.left_eq_add, Nat.add_eq_left, Nat.add_left_cancel_iff, Nat.add_right_cancel_iff, Nat.reduceAdd, Nat.add_zero, Nat.zero_add, Nat.add_assoc, Nat.reduceLeDiff, Nat.reduceBEq, List.length_cons, List.length_nil, List.drop_zero, List.drop_succ_cons, List.take_succ_cons, List.take_zero, List.take_nil, List.drop_nil, List.getElem?_cons_zero, List.getElem?_cons_succ, reduceCtorEq, Nat.succ_ne_self, Nat.one_ne_zero, Nat.le_refl, ne_eq, not_false_eq_true]
      exact ⟨by simp [befSb], hG⟩
    · have hne : ¬ ((a1, a2) : St) = (b1, b2) := fun e => h1 (by cases e; exact ⟨rfl, rfl⟩)
      simp -dsimp only [↓w_seq, ↓w_ops, ↓w_skip, ↓w_ret, ↓w_exit, ↓w_scope, ↓w_block, ↓w_cond, cond_true', cond_false', ↓t_nil, ↓t_plain, ↓t_guard, ↓t_gagain, ↓t_again, t_val, t_call, g_true, g_false, ga_true, ga_false, a_val, a_call, ↓n_normal, ↓n_ret, ↓n_exit, ↓b_normal, ↓b_ret, ↓b_exit, ↓e_normal, ↓e_ret, e_some, go_sem, ↓reduceIte, Nat.reduceEqDiff, Nat.reduceLT, Nat.reduceSub, A_order_Before_0, A_order_Before_1, A_order_Before_2, A_order_Before_3, Int.lt_irrefl, true_and, and_true, false_and, and_false, and_self, same_two, same_sib, same_spot, vload, vptr, vof, V.cells, Mem.read, rdCells, Mem.get_push, Mem.next_push, Nat.left_eq_add, Nat.add_eq_left, Nat.add_left_cancel_iff, Nat.add_right_cancel_iff, Nat.reduceAdd, Nat.add_zero, Nat.zero_add, Nat.add_assoc, Nat.reduceLeDiff, Nat.reduceBEq, List.length_cons, List.length_nil, List.drop_zero, List.drop_succ_cons, List.take_succ_cons, List.take_zero, List.take_nil, List.drop_nil, List.getElem?_cons_zero, List.getElem?_cons_succ, reduceCtorEq, Nat.succ_ne_self, Nat.one_ne_zero, Nat.le_refl, ne_eq, not_false_eq_true, h1]
      refine call_of (stamp_Compare_runs D hD.st.1 hD.st.2 (a1, a2) (b1, b2) _) ?_
      rintro v M' ⟨rfl, hM'⟩
      simp -dsimp only [↓w_seq, ↓w_ops, ↓w_skip, ↓w_ret, ↓w_exit, ↓w_scope, ↓w_block, ↓w_cond, cond_true', cond_false', ↓t_nil, ↓t_plain, ↓t_guard, ↓t_gagain, ↓t_again, t_val, t_call, g_true, g_false, ga_true, ga_false, a_val, a_call, ↓n_normal, ↓n_ret, ↓n_exit, ↓b_normal, ↓b_ret, ↓b_exit, ↓e_normal, ↓e_ret, e_some, go_sem, ↓reduceIte, Nat.reduceEqDiff, Nat.reduceLT, Nat.reduceSub, A_order_Before_0, A_order_Before_1, A_order_Before_2, A_order_Before_3, Int.lt_irrefl, true_and, and_true, false_and, and_false, and_self, same_two, same_sib, same_spot, vload, vptr, vof, V.cells, Mem.read, rdCells, Mem.get_push, Mem.next_push, Nat.left_eq_add, Nat.add_eq_left, Nat.add_left_cancel_iff, Nat.add_right_cancel_iff, Nat.reduceAdd, Nat.add_zero, Nat.zero_add, Nat.add_assoc, Nat.reduceLeDiff, Nat.reduceBEq, List.length_cons, List.length_nil, List.drop_zero, List.drop_succ_cons, List.take_succ_cons, List.take_zero, List.take_nil, List.drop_nil, List.getElem?_cons_zero, List.getElem?_cons_succ, reduceCtorEq, Nat.succ_ne_self, Nat.one_ne_zero, Nat.le_refl, ne_eq, not_false_eq_true]
      exact ⟨by simp [befSb, hne], hG.trans hM'⟩
  · simp -dsimp only [↓w_seq, ↓w_ops, ↓w_skip, ↓w_ret, ↓w_exit, ↓w_scope, ↓w_block, ↓w_cond, cond_true', cond_false', ↓t_nil, ↓t_plain, ↓t_guard, ↓t_gagain, ↓t_again, t_val, t_call, g_true, g_false, ga_true, ga_false, a_val, a_call, ↓n_normal, ↓n_ret, ↓n_exit, ↓b_normal, ↓b_ret, ↓b_exit, ↓e_normal, ↓e_ret, e_some, go_sem, ↓reduceIte, Nat.reduceEqDiff, Nat.reduceLT, Nat.reduceSub, A_order_Before_0, A_order_Before_1, A_order_Before_2, A_order_Before_3, Int.lt_irrefl, true_and, and_true, false_and, and_false, and_self, same_two, same_sib, same_spot, vload, vptr, vof, V.cells, Mem.read, rdCells, Mem.get_push, Mem.next_push, Nat.left_eq_add, Nat.add_eq_left, Nat.add_left_cancel_iff, Nat.add_right_cancel_iff, Nat.reduceAdd, Nat.add_zero, Nat.zero_add, Nat.add_assoc, Nat.reduceLeDiff, Nat.reduceBEq, List.length_cons, List.length_nil, List.drop_zero, List.drop_succ_cons, List.take_succ_cons, List.take_zero, List.take_nil, List.drop_nil, List.getElem?_cons_zero, List.getElem?_cons_succ, reduceCtorEq, Nat.succ_ne_self, Nat.one_ne_zero, Nat.le_refl, ne_eq, not_false_eq_true, h0]
    refine call_eq (poskey_Compare_runs D hD.pk.1 hD.pk.2 hD.sc _ _ _) ?_
    simp -dsimp only [↓w_seq, ↓w_ops, ↓w_skip, ↓w_ret, ↓w_exit, ↓w_scope, ↓w_block, ↓w_cond, cond_true', cond_false', ↓t_nil, ↓t_plain, ↓t_guard, ↓t_gagain, ↓t_again, t_val, t_call, g_true, g_false, ga_true, ga_false, a_val, a_call, ↓n_normal, ↓n_ret, ↓n_exit, ↓b_normal, ↓b_ret, ↓b_exit, ↓e_normal, ↓e_ret, e_some, go_sem, ↓reduceIte, Nat.reduceEqDiff, Nat.reduceLT, Nat.reduceSub, A_order_Before_0, A_order_Before_1, A_order_Before_2, A_order_Before_3, Int.lt_irrefl, true_and, and_true, false_and, and_false, and_self, same_two, same_sib, same_spot, vload, vptr, vof, V.cells, Mem.read, rdCells, Mem.get_push, Mem.next_push, Nat.left_eq_add, Nat.add_eq_left, Nat.add_left_cancel_iff, Nat.add_right_cancel_iff, Nat.reduceAdd, Nat.add_zero, Nat.zero_add, Nat.add_assoc, Nat.reduceLeDiff, Nat.reduceBEq, List.length_cons, List.length_nil, List.drop_zero, List.drop_succ_cons, List.take_succ_cons, List.take_zero, List.take_nil, List.drop_nil, List.getElem?_cons_zero, List.getElem?_cons_succ, reduceCtorEq, Nat.succ_ne_self, Nat.one_ne_zero, Nat.le_refl, ne_eq, not_false_eq_true]
    exact ⟨by simp [befSb, h0], hG⟩

theorem order_Sort_c1_runs {D : Decls} (hD : HasCmp D) (a b : Sb) (M : Mem) : Runs D F_order_Sort_c1 [.agg (sbC a), .agg (sbC b)] M fun v M' => v = .int .i64 (cmpSb a b) ∧ Grew M M' := by
  refine Runs.walk (F := A_order_Sort_c1) hD.c1.1 hD.c1.2 (by rfl) ?_
  unfold A_order_Sort_c1
  have hb := fun M => order_Before_runs hD a b M
  obtain ⟨a0, a1, a2⟩ := a
  obtain ⟨b0, b1, b2⟩ := b
  simp only [sbC] at hb ⊢
  have hG : Grew M ((M.push (.cells [.str a0, .int .i64 a1, .int .i64 a2] false)).push (.cells [.str b0, .int .i64 b1, .int .i64 b2] false)) := (Grew.push M _).trans (Grew.push _ _)
  by_cases h1 : a0 = b0 ∧ a1 = b1 ∧ a2 = b2
  · obtain ⟨rfl, rfl, rfl⟩ := h1
    simp -dsimp only [↓w_seq, ↓w_ops, ↓w_skip, ↓w_ret, ↓w_exit, ↓w_scope, ↓w_block, ↓w_cond, cond_true', cond_false', ↓t_nil, ↓t_plain, ↓t_guard, ↓t_gagain, ↓t_again, t_val, t_call, g_true, g_false, ga_true, ga_false, a_val, a_call, ↓n_normal, ↓n_ret, ↓n_exit, ↓b_normal, ↓b_ret, ↓b_exit, ↓e_normal, ↓e_ret, e_some, go_sem, ↓reduceIte, Nat.reduceEqDiff, Nat.reduceLT, Nat.reduceSub, A_order_Sort_c1_0, A_order_Sort_c1_1, A_order_Sort_c1_2, A_order_Sort_c1_3, A_order_Sort_c1_4, A_order_Sort_c1_5, Int.lt_irrefl, true_and, and_true, false_and, and_false, and_self, same_two, same_sib, same_spot, vload, vptr, vof, V.cells, Mem.read, rdCells, Mem.get_push, Mem.next_push, Nat.left_eq_add, Nat.add_eq_left, Nat.add_left_cancel_iff, Nat.add_right_cancel_iff, Nat.reduceAdd, Nat.add_zero, Nat.zero_add, Nat.add_assoc, Nat.reduceLeDiff, Nat.reduceBEq, List.length_cons, List.length_nil, List.drop_zero, List.drop_succ_cons, List.take_succ_cons, List.take_zero, List.take_nil, List.drop_nil, List.getElem?_cons_zero, List.getElem?_cons_succ, reduceCtorEq, Nat.succ_ne_self, Nat.one_ne_zero, Nat.le_refl, ne_eq, not_false_eq_true]
    exact ⟨by simp [cmpSb], hG⟩
  · have hne : ¬ ((a0, a1, a2) : Sb) = (b0, b1, b2) := fun e => h1 (by cases e; exact ⟨rfl, rfl, rfl⟩)
    simp -dsimp only [↓w_seq, ↓w_ops, ↓w_skip, ↓w_ret, ↓w_exit, ↓w_scope, ↓w_block, ↓w_cond, cond_true', cond_false', ↓t_nil, ↓t_plain, ↓t_guard, ↓t_gagain, ↓t_again, t_val, t_call, g_true, g_false, ga_true, ga_false, a_val, a_call, ↓n_normal, ↓n_ret, ↓n_exit, ↓b_normal, ↓b_ret, ↓b_exit, ↓e_normal, ↓e_ret, e_some, go_sem, ↓reduceIte, Nat.reduceEqDiff, Nat.reduceLT, Nat.reduceSub, A_order_Sort_c1_0, A_order_Sort_c1_1, A_order_Sort_c1_2, A_order_Sort_c1_3, A_order_Sort_c1_4, A_order_Sort_c1_5, Int.lt_irrefl, true_and, and_true, false_and, and_false, and_self, same_two, same_sib, same_spot, vload, vptr, vof, V.cells, Mem.read, rdCells, Mem.get_push, Mem.next_push, Nat.left_eq_add, Nat.add_eq_left, Nat.add_left_cancel_iff, Nat.add_right_cancel_iff, Nat.reduceAdd, Nat.add_zero, Nat.zero_add, Nat.add_assoc, Nat.reduceLeDiff, Nat.reduceBEq, List.length_cons, List.length_nil, List.drop_zero, List.drop_succ_cons, List.take_succ_cons, List.take_zero, List.take_nil, List.drop_nil, List.getElem?_cons_zero, List.getElem?_cons_succ, reduceCtorEq, Nat.succ_ne_self, Nat.one_ne_zero, Nat.le_refl, ne_eq, not_false_eq_true, h1]
    refine call_of (hb _) ?_
    rintro v M' ⟨rfl, hM'⟩
    cases hq : befSb (a0, a1, a2) (b0, b1, b2)
    · simp -dsimp only [↓w_seq, ↓w_ops, ↓w_skip, ↓w_ret, ↓w_exit, ↓w_scope, ↓w_block, ↓w_cond, cond_true', cond_false', ↓t_nil, ↓t_plain, ↓t_guard, ↓t_gagain, ↓t_again, t_val, t_call, g_true, g_false, ga_true, ga_false, a_val, a_call, ↓n_normal, ↓n_ret, ↓n_exit, ↓b_normal, ↓b_ret, ↓b_exit, ↓e_normal, ↓e_ret, e_some, go_sem, ↓reduceIte, Nat.reduceEqDiff, Nat.reduceLT, Nat.reduceSub, A_order_Sort_c1_0, A_order_Sort_c1_1, A_order_Sort_c1_2, A_order_Sort_c1_3, A_order_Sort_c1_4, A_order_Sort_c1_5, Int.lt_irrefl, true_and, and_true, false_and, and_false, and_self, same_two, same_sib, same_spot, vload, vptr, vof, V.cells, Mem.read, rdCells, Mem.get_push, Mem.next_push, Nat.left_eq_add, Nat.add_eq_left, Nat.add_left_cancel_iff, Nat.add_right_cancel_iff, Nat.reduceAdd, Nat.add_zero, Nat.zero_add, Nat.add_assoc, Nat.reduceLeDiff, Nat.reduceBEq, List.length_cons, List.length_nil, List.drop_zero, List.drop_succ_cons, List.take_succ_cons, List.take_zero, List.take_nil, List.drop_nil, List.getElem?_cons_zero, List.getElem?_cons_succ, reduceCtorEq, Nat.succ_ne_self, Nat.one_ne_zero, Nat.le_refl, ne_eq, not_false_eq_true]
      exact ⟨by simp [cmpSb, hne, hq], hG.trans hM'⟩
    · simp -dsimp only [↓w_seq, ↓w_ops, ↓w_skip, ↓w_ret, ↓w_exit, ↓w_scope, ↓w_block, ↓w_cond, cond_true', cond_false', ↓t_nil, ↓t_plain, ↓t_guard, ↓t_gagain, ↓t_again, t_val, t_call, g_true, g_false, ga_true, ga_false, a_val, a_call, ↓n_normal, ↓n_ret, ↓n_exit, ↓b_normal, ↓b_ret, ↓b_exit, ↓e_normal, ↓e_ret, e_some, go_sem, ↓reduceIte, Nat.reduceEqDiff, Nat.reduceLT, Nat.reduceSub, A_order_Sort_c1_0, A_order_Sort_c1_1, A_order_Sort_c1_2, A_order_Sort_c1_3, A_order_Sort_c1_4, A_order_Sort_c1_5, Int.lt_irrefl, true_and, and_true, false_and, and_false, and_self, same_two, same_sib, same_spot, vload, vptr, vof, V.cells, Mem.read, rdCells, Mem.get_push, Mem.next_push, Nat.left_eq_add, Nat.add_eq_left, Nat.add_left_cancel_iff, Nat.add_right_cancel_iff, Nat.reduceAdd, Nat.add_zero, Nat.zero_add, Nat.add_assoc, Nat.reduceLeDiff, Nat.reduceBEq, List.length_cons, List.length_nil, List.drop_zero, List.drop_succ_cons, List.take_succ_cons, List.take_zero, List.take_nil, List.drop_nil, List.getElem?_cons_zero, List.getElem?_cons_succ, reduceCtorEq, Nat.succ_ne_self, Nat.one_ne_zero, Nat.le_refl, ne_eq, not_false_eq_true]
      exact ⟨by simp [cmpSb, hne, hq], hG.trans hM'⟩
def ltSb (a b : Sb) : Bool := if a.1 = b.1 then ltSt a.2 b.2 else decide (cmpB a.1 b.1 < 0)
theorem bef_is (a b : Sb) : befSb a b = ltSb a b := by
  unfold befSb ltSb
  by_cases h : a.1 = b.1
  · rw [if_pos h, if_pos h, ← ltOf_St]
    unfold ltOf
    by_cases h2 : a = b
    · subst h2; simp [cmpSt]
    · simp [h2]
  · rw [if_neg h, if_neg h]
theorem ltOf_Sb (a b : Sb) : ltOf cmpSb a b = ltSb a b := by
  unfold ltOf cmpSb
  rw [bef_is]
  by_cases h : a = b
  · subst h; simp [ltSb, swo_St.irrefl]
  · cases hq : ltSb a b <;> simp [h]
theorem cmpB_neg (a b : List UInt8) : cmpB a b < 0 ↔ cmpB a b = -1 := by
  rcases cmp_three a b with h | h | h <;> simp [h]
theorem ltSb_iff (a b : Sb) : ltSb a b = true ↔ (a.1 = b.1 ∧ ltSt a.2 b.2 = true) ∨ cmpB a.1 b.1 = -1 := by
  unfold ltSb
  by_cases h : a.1 = b.1
  · rw [if_pos h, h, cmp_self]; simp
  · rw [if_neg h, decide_eq_true_eq, cmpB_neg]; simp [h]
theorem cmpB_total {a b : List UInt8} (h1 : cmpB a b ≠ -1) (h2 : cmpB b a ≠ -1) : a = b := by
  rcases cmp_three a b with h | h | h
  · exact absurd h h1
  · exact cmp_eq h
  · rw [cmp_neg a b, h] at h2; exact absurd rfl h2
theorem swo_Sb : SWO ltSb where
  irrefl x := by simp [ltSb, swo_St.irrefl]
  trans x y z h1 h2 := by
    rw [ltSb_iff] at *
    rcases h1 with ⟨e1, h1⟩ | h1 <;> rcases h2 with ⟨e2, h2⟩ | h2
    · exact .inl ⟨e1.trans e2, swo_St.trans _ _ _ h1 h2⟩
    · exact .inr (by rw [e1]; exact h2)
    · exact .inr (by rw [← e2]; exact h1)
    · exact .inr (cmp_trans h1 h2)
  ntrans x y z h1 h2 := by
    have n : ∀ a b : Sb, ltSb a b = false ↔ ¬ ((a.1 = b.1 ∧ ltSt a.2 b.2 = true) ∨ cmpB a.1 b.1 = -1) := fun a b => by rw [← ltSb_iff]; simp
    rw [n] at *
    rintro (⟨e, h⟩ | h)
    · by_cases hxy : x.1 = y.1
      · have hyz : y.1 = z.1 := hxy ▸ e
        have h3 : ltSt x.2 y.2 = false := by cases hq : ltSt x.2 y.2 with | false => rfl | true => exact absurd (.inl ⟨hxy, hq⟩) h1
        have h4 : ltSt y.2 z.2 = false := by cases hq : ltSt y.2 z.2 with | false => rfl | true => exact absurd (.inl ⟨hyz, hq⟩) h2
        rw [swo_St.ntrans _ _ _ h3 h4] at h
        cases h
      · have h3 : cmpB y.1 x.1 = -1 := by
          rcases cmp_three y.1 x.1 with q | q | q
          · exact q
          · exact absurd (cmp_eq q).symm hxy
          · exact absurd (.inr (by rw [cmp_neg y.1 x.1, q])) h1
        exact h2 (.inr (by rw [← e]; exact h3))
    · have h3 : cmpB x.1 y.1 ≠ -1 := fun q => h1 (.inr q)
      have h4 : cmpB y.1 z.1 ≠ -1 := fun q => h2 (.inr q)
      by_cases hxy : x.1 = y.1
      · exact h4 (by rw [← hxy]; exact h)
      · have h5 : cmpB y.1 x.1 = -1 := by
          rcases cmp_three y.1 x.1 with q | q | q
          · exact q
          · exact absurd (cmp_eq q).symm hxy
          · exact absurd (by rw [cmp_neg y.1 x.1, q]) h3
        exact h4 (cmp_trans h5 h)
theorem tot_Sb (x y : Sb) (h1 : ltSb x y = false) (h2 : ltSb y x = false) : x = y := by
  have n : ∀ a b : Sb, ltSb a b = false ↔ ¬ ((a.1 = b.1 ∧ ltSt a.2 b.2 = true) ∨ cmpB a.1 b.1 = -1) := fun a b => by rw [← ltSb_iff]; simp
  rw [n] at *
  have e : x.1 = y.1 := cmpB_total (fun q => h1 (.inr q)) (fun q => h2 (.inr q))
  have e2 : x.2 = y.2 := tot_St _ _ (by cases hq : ltSt x.2 y.2 with | false => rfl | true => exact absurd (.inl ⟨e, hq⟩) h1) (by cases hq : ltSt y.2 x.2 with | false => rfl | true => exact absurd (.inl ⟨e.symm, hq⟩) h2)
  exact Prod.ext e e2

/-! ### in cells -/
def decSb : List V → Option Sb
  | [.str s, .int .i64 a, .int .i64 b] => some (s, a, b)
  | _ => none
def elSb : Elem Sb where
  k := 3
  cv := sbC
  enc x := [.string ⟨x.1.toArray⟩, .int .i64 x.2.1, .int .i64 x.2.2]
  dec := decSb
  k_pos := by omega
  len _ := rfl
  elen _ := rfl
  dec_some cs x h := by unfold decSb at h; split at h <;> cases h; rfl
  dec_cv _ := rfl
  rel E x := .cons (by have := VR.str (E := E) ⟨x.1.toArray⟩; simpa using this) (.cons (.int _ _) (.cons (.int _ _) .nil))
  rel_eq E x us h := by
    cases h with
    | cons h1 t => cases t with
      | cons h2 t => cases t with
        | cons h3 t =>
          cases t; cases h2; cases h3
          generalize hs : V.str x.1 = v at h1
          cases h1 <;> first | (cases hs; done) | skip
          rename_i s
          have hx := V.str.inj hs
          rw [hx]
  one x v hv := by simp at hv; rcases hv with rfl | rfl | rfl <;> rfl
  one' _ := rfl
  flat _ := rfl

/-! ### the sort: the compare alone, no variable in sight -/
theorem cc1 : cFunc Tryz.prog gln Tryz.f129 = some A_poskey_Compare := by kernel_rfl
theorem cc2 : cFunc Tryz.prog gln Tryz.f83 = some A_order_Before := by kernel_rfl
theorem cc3 : cFunc Tryz.prog gln Tryz.f82 = some A_order_Sort_c1 := by kernel_rfl
def Db0 : Decls := ⟨codeOf [(F_stamp_Compare, A_stamp_Compare), (F_poskey_Compare, A_poskey_Compare), (F_order_Before, A_order_Before), (F_order_Sort_c1, A_order_Sort_c1)], fun _ => none⟩
theorem dokb0 : DOK Tryz.prog gln Db0 := dok_codes mixed (by
  simp only [List.forall_mem_cons]
  exact ⟨⟨_, Tryz.func107, (by kernel_rfl), cmp_code⟩, ⟨_, Tryz.func129, (by kernel_rfl), cc1⟩, ⟨_, Tryz.func83, (by kernel_rfl), cc2⟩, ⟨_, Tryz.func82, (by kernel_rfl), cc3⟩, fun x hx => by cases hx⟩)
def Db : Decls := Db0.add F_strings_Compare pCompare
theorem dokb : DOK Tryz.prog gln Db := dokb0.add (compare_ok gln)
theorem hasCmpb : HasCmp Db := ⟨⟨rfl, by rfl⟩, ⟨rfl, by rfl⟩, ⟨rfl, by rfl⟩, ⟨rfl, by rfl⟩, rfl⟩
theorem sortSb_ok : CallOK Tryz.prog gl0 fun f' args M => if f' = F_slices_SortFunc_Sib then sortP elSb F_order_Sort_c1 ltSb args M else none := by
  have h := sort_callOK (P := Tryz.prog) (gl := gl0) (α := Sb) Tryz.sortSib elSb Tryz.isAgg77 Tryz.sizeOf77 cmpSb (by rw [show ltOf cmpSb = ltSb from funext fun a => funext fun b => ltOf_Sb a b]; exact swo_Sb)
    (by rw [show ltOf cmpSb = ltSb from funext fun a => funext fun b => ltOf_Sb a b]; exact tot_Sb) F_order_Sort_c1 ⟨_, Tryz.func82, (by kernel_rfl), (by kernel_rfl)⟩ ⟨_, Tryz.func131, (by kernel_rfl), (by kernel_rfl)⟩ (by
      intro x y w
      obtain ⟨k, v, M', hr, rfl, _⟩ := order_Sort_c1_runs hasCmpb x y mem0
      obtain ⟨_, hs⟩ := callN_sound dokb k _ _ mem0 _ M' hr
      refine (hs emb0 w #[.agg (elSb.enc x).toArray, .agg (elSb.enc y).toArray] (rel0 w) (fun x hx => by cases hx) (.cons (.agg (elSb.rel _ x)) (.cons (.agg (elSb.rel _ y)) .nil))).mono ?_
      rintro e w' ⟨E', v', rfl, hv', _, hX⟩
      cases hv'
      exact ⟨rfl, grown_of hX⟩)
  rw [show ltOf cmpSb = ltSb from funext fun a => funext fun b => ltOf_Sb a b] at h
  exact h
end Go.Am.Tryz.O


/- Siblings that a function hands on, one by one, collected: slices.AppendSeq, slices.Collect. -/
namespace Go.Am.Tryz.O
open Go Go.Am Go.Proofs Go.Sort Go.Shelf
set_option maxRecDepth 100000
set_option linter.unusedSimpArgs false
set_option linter.unusedVariables false


abbrev XP := XRuns Tryz.prog gl0
/-- What is so while siblings come. -/
structure CollJ (M : Mem) (lp : LoopState → Option Code → O) (pre : List Sb) (M' : Mem) : Prop where
  old : ∀ c, c < M.next → M'.get c = M.get c
  next : M.next + 2 ≤ M'.next
  loop : M'.get (M.next + 1) = some (lp .ready none)
  box : ∃ s, M'.get M.next = some (.cells [s] false) ∧ Hold (M.next + 2) M' 3 s pre.length (elSb.all pre) ∧ (pre = [] → s = .slice none 0 (.exact 0))

theorem CollJ.other {M : Mem} {lp : LoopState → Option Code → O} {pre : List Sb} {M1 M2 : Mem} (h : CollJ M lp pre M1) (hn : M1.next ≤ M2.next) (hk : ∀ c, c < M1.next → (∀ b s k l, M1.get c ≠ some (.mapIter b s k l)) → M2.get c = M1.get c) (hold : ∀ c, c < M.next → M2.get c = M1.get c)
    (hlp : ∀ st p b s k l, lp st p ≠ .mapIter b s k l) : CollJ M lp pre M2 := by
  obtain ⟨a, b, c, s, d, e, e'⟩ := h
  refine ⟨fun q hq => (hold q hq).trans (a q hq), by omega, ?_, s, ?_, e.keep (fun q hq => hk q (e.blk_le hq).2.1 ?_) hn, e'⟩
  · rw [hk _ (by omega) (fun b s k l => by rw [c]; intro h; exact hlp _ _ _ _ _ _ (Option.some.inj h))]; exact c
  · rw [hk _ (by omega) (fun b s k l => by rw [d]; intro h; cases h)]; exact d
  · intro b s k l
    rw [(e.blk_le hq).2.2]
    intro h; cases h

theorem sbC_len (x : Sb) : (sbC x).length = 3 := rfl
theorem AppendSeq_runs {f : FuncId} {first captured : List V} {G : Mem → Prop} {S Sp : List Sb → Prop} {N : Nat} (hseq : SeqX Tryz.prog gl0 f first captured (fun x => .agg (sbC x)) G S Sp N) (hN : (N + 1) * 32 ≤ maxRoom) (M : Mem)
    (hG : ∀ M', (∀ c, c < M.next → M'.get c = M.get c) → M.next ≤ M'.next → G M') :
    XP F_slices_AppendSeq_Sib [.slice none 0 (.exact 0), .fn f first captured] M fun v M' => ∃ xs, S xs ∧ (∀ c, c < M.next → M'.get c = M.get c) ∧ Hold M.next M' 3 v xs.length (elSb.all xs) ∧ (xs = [] → v = .slice none 0 (.exact 0)) := by
  refine XRuns.walk mixed Tryz.func148 b_slices_AppendSeq_Sib n_slices_AppendSeq_Sib r_slices_AppendSeq_Sib (by rfl) ?_
  unfold X_slices_AppendSeq_Sib
  simp -dsimp only [↓x_seq', ↓x_ops, ↓x_skip, ↓x_ret, ↓x_exit, ↓x_block', ↓x_cond', cond_true', cond_false', ↓i_nil, ↓i_plain, ↓i_guard, xs_val, xs_call, xs_yield, xg_true, xg_false, ↓n_normal, ↓n_ret, ↓n_exit, ↓b_normal, ↓b_ret, ↓b_exit, ↓xe_normal, ↓xe_ret, e_some, yieldOf, go_sem, ↓reduceIte, Nat.reduceEqDiff, Nat.reduceLT, Nat.reduceSub, X_slices_AppendSeq_Sib_0, X_slices_AppendSeq_Sib_1, X_slices_AppendSeq_Sib_2, X_slices_AppendSeq_Sib_3, X_slices_AppendSeq_Sib_6, Int.lt_irrefl, true_and, and_true, false_and, and_false, and_self, same_two, same_sib, same_spot, vload, vptr, vof, V.cells, Mem.read, rdCells, Mem.get_push, Mem.next_push, Nat.left_eq_add, Nat.add_eq_left, Nat.add_left_cancel_iff, Nat.add_right_cancel_iff, Nat.reduceAdd, Nat.add_zero, Nat.zero_add, Nat.add_assoc, Nat.reduceLeDiff, Nat.reduceBEq, List.length_cons, List.length_nil, List.drop_zero, List.drop_succ_cons, List.take_succ_cons, List.take_zero, List.take_nil, List.drop_nil, List.getElem?_cons_zero, List.getElem?_cons_succ, reduceCtorEq, Nat.succ_ne_self, Nat.one_ne_zero, Nat.le_refl, ne_eq, not_false_eq_true]
  refine x_range' _ _ _ _ _ (f := f) (first := first) (captured := captured) (by simp only [go_sem, ↓reduceIte, Nat.reduceEqDiff, Nat.reduceLT, Nat.reduceSub]) ?_
  intro lp hlp hY
  have hb0 : (M.push (.cells [.slice none 0 (.exact 0)] false)).next = M.next + 1 := rfl
  rw [hb0] at hY ⊢
  have hst : CollJ M lp [] ((M.push (.cells [.slice none 0 (.exact 0)] false)).push (lp .ready none)) := by
    refine ⟨fun c hc => ?_, by simp, ?_, .slice none 0 (.exact 0), ?_, .nil, fun _ => rfl⟩
    · rw [Mem.get_push_ne _ _ (by simp; omega), Mem.get_push_ne _ _ (by omega)]
    · rw [← hb0, Mem.get_push_same]
    · rw [Mem.get_push_ne _ _ (by simp), Mem.get_push_same]
  refine (hseq (M.next + 1) (CollJ M lp) (fun _ _ => False) _ (fun pre M' h => hG M' h.old (by have := h.next; omega)) (fun pre M' o h => ?_) (fun pre M' o o' h => ?_) (fun pre M' c b s k l h hcn hi => ?_) (fun pre x M' h hlen => ?_) hst).mono ?_
  · exact h.other (by simp) (fun c hc _ => Mem.get_push_ne _ _ (by omega)) (fun c hc => Mem.get_push_ne _ _ (by have := h.next; omega)) hlp
  · have hn : ∀ c, c ≠ M'.next → ((M'.push o).set M'.next o').get c = M'.get c := fun c hc => by rw [Mem.get_set_ne _ _ hc, Mem.get_push_ne _ _ hc]
    exact h.other (by simp) (fun c hc _ => hn c (by omega)) (fun c hc => hn c (by have := h.next; omega)) hlp
  · obtain ⟨b', s', k', l', hi⟩ := hi
    refine h.other (by simp) (fun c' _ hc' => Mem.get_set_ne _ _ (fun e => hc' b' s' k' l' (by rw [e]; exact hi))) (fun c' hc' => Mem.get_set_ne _ _ (by simp at hcn; omega)) hlp
  · -- a round
    refine hY [.agg (sbC x)] M' _ h.loop rfl ?_
    unfold X_slices_AppendSeq_Sib_4 X_slices_AppendSeq_Sib_5
    obtain ⟨s, hbox, hH, _⟩ := h.box
    have hnx := h.next
    have hw0 := write_full (M := M'.push (.cells [.str [], .int .i64 0, .int .i64 0] false)) (b := M'.next) (vs := sbC x) (Mem.get_push_same _ _) rfl rfl
    simp -dsimp only [↓x_seq', ↓x_ops, ↓x_skip, ↓x_ret, ↓x_exit, ↓x_block', ↓x_cond', cond_true', cond_false', ↓i_nil, ↓i_plain, ↓i_guard, xs_val, xs_call, xs_yield, xg_true, xg_false, ↓n_normal, ↓n_ret, ↓n_exit, ↓b_normal, ↓b_ret, ↓b_exit, ↓xe_normal, ↓xe_ret, e_some, yieldOf, go_sem, ↓reduceIte, Nat.reduceEqDiff, Nat.reduceLT, Nat.reduceSub, X_slices_AppendSeq_Sib_0, X_slices_AppendSeq_Sib_1, X_slices_AppendSeq_Sib_2, X_slices_AppendSeq_Sib_3, X_slices_AppendSeq_Sib_6, Int.lt_irrefl, true_and, and_true, false_and, and_false, and_self, same_two, same_sib, same_spot, vload, vptr, vof, V.cells, Mem.read, rdCells, Mem.get_push, Mem.next_push, Nat.left_eq_add, Nat.add_eq_left, Nat.add_left_cancel_iff, Nat.add_right_cancel_iff, Nat.reduceAdd, Nat.add_zero, Nat.zero_add, Nat.add_assoc, Nat.reduceLeDiff, Nat.reduceBEq, List.length_cons, List.length_nil, List.drop_zero, List.drop_succ_cons, List.take_succ_cons, List.take_zero, List.take_nil, List.drop_nil, List.getElem?_cons_zero, List.getElem?_cons_succ, reduceCtorEq, Nat.succ_ne_self, Nat.one_ne_zero, Nat.le_refl, ne_eq, not_false_eq_true, putAll', List.zip_cons_cons, List.zip_nil_right, List.foldl_cons, List.foldl_nil, vstore, hw0, sbC_len]
    -- the memory with the round's own variable
    have k1 : ∀ c, c ≠ M'.next → ((M'.push (.cells [.str [], .int .i64 0, .int .i64 0] false)).set M'.next (.cells (sbC x) false)).get c = M'.get c := fun c hc => by rw [Mem.get_set_ne _ _ hc, Mem.get_push_ne _ _ hc]
    have k2 : ((M'.push (.cells [.str [], .int .i64 0, .int .i64 0] false)).set M'.next (.cells (sbC x) false)).get M'.next = some (.cells (sbC x) false) := Mem.get_set_same _ _ _
    have k3 : ((M'.push (.cells [.str [], .int .i64 0, .int .i64 0] false)).set M'.next (.cells (sbC x) false)).next = M'.next + 1 := rfl
    generalize (M'.push (.cells [.str [], .int .i64 0, .int .i64 0] false)).set M'.next (.cells (sbC x) false) = M1 at *
    refine ⟨rfl, (k1 _ (by omega)).trans h.loop, ?_⟩
    have l1 : ∀ c, c ≠ M.next + 1 → (M1.set (M.next + 1) (lp .busy none)).get c = M1.get c := fun c hc => Mem.get_set_ne _ _ hc
    have l2 : (M1.set (M.next + 1) (lp .busy none)).get (M.next + 1) = some (lp .busy none) := Mem.get_set_same _ _ _
    have l3 : (M1.set (M.next + 1) (lp .busy none)).next = M'.next + 1 := k3
    generalize M1.set (M.next + 1) (lp .busy none) = M2 at *
    have hb2 : M2.get M.next = some (.cells [s] false) := by rw [l1 _ (by omega), k1 _ (by omega)]; exact hbox
    have hx2 : M2.get M'.next = some (.cells (sbC x) false) := by rw [l1 _ (by omega)]; exact k2
    have hH2 : Hold (M.next + 2) M2 3 s pre.length (elSb.all pre) := hH.keep (fun c hc => by have := hH.blk_le hc; rw [l1 _ (by omega), k1 _ (by omega)]) (by omega)
    simp -dsimp only [↓x_seq', ↓x_ops, ↓x_skip, ↓x_ret, ↓x_exit, ↓x_block', ↓x_cond', cond_true', cond_false', ↓i_nil, ↓i_plain, ↓i_guard, xs_val, xs_call, xs_yield, xg_true, xg_false, ↓n_normal, ↓n_ret, ↓n_exit, ↓b_normal, ↓b_ret, ↓b_exit, ↓xe_normal, ↓xe_ret, e_some, yieldOf, go_sem, ↓reduceIte, Nat.reduceEqDiff, Nat.reduceLT, Nat.reduceSub, X_slices_AppendSeq_Sib_0, X_slices_AppendSeq_Sib_1, X_slices_AppendSeq_Sib_2, X_slices_AppendSeq_Sib_3, X_slices_AppendSeq_Sib_6, Int.lt_irrefl, true_and, and_true, false_and, and_false, and_self, same_two, same_sib, same_spot, vload, vptr, vof, V.cells, Mem.read, rdCells, Mem.get_push, Mem.next_push, Nat.left_eq_add, Nat.add_eq_left, Nat.add_left_cancel_iff, Nat.add_right_cancel_iff, Nat.reduceAdd, Nat.add_zero, Nat.zero_add, Nat.add_assoc, Nat.reduceLeDiff, Nat.reduceBEq, List.length_cons, List.length_nil, List.drop_zero, List.drop_succ_cons, List.take_succ_cons, List.take_zero, List.take_nil, List.drop_nil, List.getElem?_cons_zero, List.getElem?_cons_succ, reduceCtorEq, Nat.succ_ne_self, Nat.one_ne_zero, Nat.le_refl, ne_eq, not_false_eq_true, hb2, hx2, sbC, fillCells, repl, wrCells, List.append_nil]
    have hH3 : Hold (M.next + 2) (M2.push (.cells (sbC x) false)) 3 s pre.length (elSb.all pre) := hH2.keep (fun c hc => Mem.get_push_ne _ _ (by have := hH2.blk_le hc; omega)) (by simp)
    obtain ⟨M4, hap, hH4, hn4, ho4⟩ := hH3.append (bytes := 32) (m := 1) (x := .slice (some (M2.next, 0)) 1 (.exact 1)) (new := sbC x) (by simp; omega) rfl
      (by
        have := read_all (Mem.get_push_same M2 (.cells (sbC x) false))
        simp only [srcCells, beq_dec, Nat.one_mul, Nat.reduceEqDiff, decide_false, cond_false]
        exact this) (by omega) rfl (by omega) rfl
    simp only [sbC] at hap
    rw [hap]
    have hne4 : ∀ c, c < M'.next → s.blk ≠ some c → c ≠ M.next + 1 → M4.get c = M'.get c := fun c hc hs hl => by
      rw [ho4 c (by simp; omega) hs, Mem.get_push_ne _ _ (by omega), l1 _ hl, k1 _ (by omega)]
    have hsn : s.blk ≠ some M.next := fun e => by have := (hH.blk_le e).1; omega
    have hsl : s.blk ≠ some (M.next + 1) := fun e => by have := (hH.blk_le e).1; omega
    have hb4 : M4.get M.next = some (.cells [s] false) := by rw [hne4 _ (by omega) hsn (by omega)]; exact hbox
    simp only [Mem.next_push] at hap hH4 hn4 ho4
    have hw4 := write_one (v := .slice (some (M2.next + 1, 0)) (pre.length + 1) (.upto 3)) hb4 (show 0 < 1 by omega) rfl
    simp -dsimp only [↓x_seq', ↓x_ops, ↓x_skip, ↓x_ret, ↓x_exit, ↓x_block', ↓x_cond', cond_true', cond_false', ↓i_nil, ↓i_plain, ↓i_guard, xs_val, xs_call, xs_yield, xg_true, xg_false, ↓n_normal, ↓n_ret, ↓n_exit, ↓b_normal, ↓b_ret, ↓b_exit, ↓xe_normal, ↓xe_ret, e_some, yieldOf, go_sem, ↓reduceIte, Nat.reduceEqDiff, Nat.reduceLT, Nat.reduceSub, X_slices_AppendSeq_Sib_0, X_slices_AppendSeq_Sib_1, X_slices_AppendSeq_Sib_2, X_slices_AppendSeq_Sib_3, X_slices_AppendSeq_Sib_6, Int.lt_irrefl, true_and, and_true, false_and, and_false, and_self, same_two, same_sib, same_spot, vload, vptr, vof, V.cells, Mem.read, rdCells, Mem.get_push, Mem.next_push, Nat.left_eq_add, Nat.add_eq_left, Nat.add_left_cancel_iff, Nat.add_right_cancel_iff, Nat.reduceAdd, Nat.add_zero, Nat.zero_add, Nat.add_assoc, Nat.reduceLeDiff, Nat.reduceBEq, List.length_cons, List.length_nil, List.drop_zero, List.drop_succ_cons, List.take_succ_cons, List.take_zero, List.take_nil, List.drop_nil, List.getElem?_cons_zero, List.getElem?_cons_succ, reduceCtorEq, Nat.succ_ne_self, Nat.one_ne_zero, Nat.le_refl, ne_eq, not_false_eq_true, vstore, hw4, List.set_cons_zero]
    have u := Upd.set M4 M.next (.cells [.slice (some (M2.next + 1, 0)) (pre.length + 1) (.upto 3)] false)
    generalize M4.set M.next (.cells [.slice (some (M2.next + 1, 0)) (pre.length + 1) (.upto 3)] false) = M5 at *
    have hl5 : M5.get (M.next + 1) = some (lp .busy none) := by
      rw [u.other _ (by omega), ho4 _ (by omega) hsl, Mem.get_push_ne _ _ (by omega)]; exact l2
    refine ⟨hl5, .inl ⟨rfl, ⟨fun c hc => ?_, ?_, Mem.get_set_same _ _ _, ?_⟩, by simp only [Mem.next_set]; rw [u.next, hn4]; omega, fun c hc hi => ?_⟩⟩
    · rw [Mem.get_set_ne _ _ (by omega), u.other _ (by omega), hne4 c (by omega) (fun e => by have := (hH.blk_le e).1; omega) (by omega)]
      exact h.old c hc
    · simp only [Mem.next_set]; rw [u.next, hn4]; omega
    · refine ⟨.slice (some (M2.next + 1, 0)) (pre.length + 1) (.upto 3), ?_, ?_, fun h => by simp at h⟩
      · rw [Mem.get_set_ne _ _ (by omega)]; exact u.at_
      · have e1 : elSb.all (pre ++ [x]) = elSb.all pre ++ sbC x := by simp [Elem.all, elSb]
        rw [e1, List.length_append, List.length_cons, List.length_nil]
        refine hH4.keep (fun c hc => ?_) (by simp only [Mem.next_set]; rw [u.next]; exact Nat.le_refl _)
        have := hH4.blk_le hc
        simp only [V.blk, Option.some.injEq] at hc
        rw [Mem.get_set_ne _ _ (by omega), u.other _ (by omega)]
    · obtain ⟨b', s', k', l', hi⟩ := hi
      have c1 : c ≠ M.next + 1 := fun e => by
        rw [e] at hi; rw [h.loop] at hi; exact hlp _ _ _ _ _ _ (Option.some.inj hi)
      have c2 : c ≠ M.next := fun e => by rw [e] at hi; rw [hbox] at hi; cases hi
      rw [Mem.get_set_ne _ _ c1, u.other _ c2]
      exact hne4 c hc (fun e => by rw [(hH.blk_le e).2.2] at hi; cases hi) c1
  · -- all have come
    intro v M' h
    rcases h with ⟨xs, hS, hJ⟩ | ⟨pre, _, hS⟩
    · refine .inl ⟨hJ.loop, ?_⟩
      obtain ⟨s, hbox, hH, hnil⟩ := hJ.box
      have hnx := hJ.next
      have k1 : ∀ c, c ≠ M.next + 1 → (M'.set (M.next + 1) (lp .exhausted none)).get c = M'.get c := fun c hc => Mem.get_set_ne _ _ hc
      have k2 : (M'.set (M.next + 1) (lp .exhausted none)).next = M'.next := rfl
      generalize M'.set (M.next + 1) (lp .exhausted none) = M2 at *
      have hb2 : M2.get M.next = some (.cells [s] false) := (k1 _ (by omega)).trans hbox
      simp -dsimp only [↓x_seq', ↓x_ops, ↓x_skip, ↓x_ret, ↓x_exit, ↓x_block', ↓x_cond', cond_true', cond_false', ↓i_nil, ↓i_plain, ↓i_guard, xs_val, xs_call, xs_yield, xg_true, xg_false, ↓n_normal, ↓n_ret, ↓n_exit, ↓b_normal, ↓b_ret, ↓b_exit, ↓xe_normal, ↓xe_ret, e_some, yieldOf, go_sem, ↓reduceIte, Nat.reduceEqDiff, Nat.reduceLT, Nat.reduceSub, X_slices_AppendSeq_Sib_0, X_slices_AppendSeq_Sib_1, X_slices_AppendSeq_Sib_2, X_slices_AppendSeq_Sib_3, X_slices_AppendSeq_Sib_6, Int.lt_irrefl, true_and, and_true, false_and, and_false, and_self, same_two, same_sib, same_spot, vload, vptr, vof, V.cells, Mem.read, rdCells, Mem.get_push, Mem.next_push, Nat.left_eq_add, Nat.add_eq_left, Nat.add_left_cancel_iff, Nat.add_right_cancel_iff, Nat.reduceAdd, Nat.add_zero, Nat.zero_add, Nat.add_assoc, Nat.reduceLeDiff, Nat.reduceBEq, List.length_cons, List.length_nil, List.drop_zero, List.drop_succ_cons, List.take_succ_cons, List.take_zero, List.take_nil, List.drop_nil, List.getElem?_cons_zero, List.getElem?_cons_succ, reduceCtorEq, Nat.succ_ne_self, Nat.one_ne_zero, Nat.le_refl, ne_eq, not_false_eq_true, hb2]
      refine ⟨xs, hS, fun c hc => (k1 c (by omega)).trans (hJ.old c hc), ?_, hnil⟩
      exact (hH.keep (fun c hc => k1 c (by have := (hH.blk_le hc).1; omega)) (by omega)).lower (by omega)
    · exact hS.elim

theorem Collect_runs {f : FuncId} {first captured : List V} {G : Mem → Prop} {S Sp : List Sb → Prop} {N : Nat} (hseq : SeqX Tryz.prog gl0 f first captured (fun x => .agg (sbC x)) G S Sp N) (hN : (N + 1) * 32 ≤ maxRoom) (M : Mem)
    (hG : ∀ M', (∀ c, c < M.next → M'.get c = M.get c) → M.next ≤ M'.next → G M') :
    XP F_slices_Collect_Sib [.fn f first captured] M fun v M' => ∃ xs, S xs ∧ (∀ c, c < M.next → M'.get c = M.get c) ∧ Hold M.next M' 3 v xs.length (elSb.all xs) ∧ (xs = [] → v = .slice none 0 (.exact 0)) := by
  refine XRuns.walk mixed Tryz.func130 b_slices_Collect_Sib n_slices_Collect_Sib r_slices_Collect_Sib (by rfl) ?_
  unfold X_slices_Collect_Sib
  simp -dsimp only [↓x_seq', ↓x_ops, ↓x_skip, ↓x_ret, ↓x_exit, ↓x_block', ↓x_cond', cond_true', cond_false', ↓i_nil, ↓i_plain, ↓i_guard, xs_val, xs_call, xs_yield, xg_true, xg_false, ↓n_normal, ↓n_ret, ↓n_exit, ↓b_normal, ↓b_ret, ↓b_exit, ↓xe_normal, ↓xe_ret, e_some, yieldOf, go_sem, ↓reduceIte, Nat.reduceEqDiff, Nat.reduceLT, Nat.reduceSub, X_slices_Collect_Sib_0, X_slices_Collect_Sib_1, Int.lt_irrefl, true_and, and_true, false_and, and_false, and_self, same_two, same_sib, same_spot, vload, vptr, vof, V.cells, Mem.read, rdCells, Mem.get_push, Mem.next_push, Nat.left_eq_add, Nat.add_eq_left, Nat.add_left_cancel_iff, Nat.add_right_cancel_iff, Nat.reduceAdd, Nat.add_zero, Nat.zero_add, Nat.add_assoc, Nat.reduceLeDiff, Nat.reduceBEq, List.length_cons, List.length_nil, List.drop_zero, List.drop_succ_cons, List.take_succ_cons, List.take_zero, List.take_nil, List.drop_nil, List.getElem?_cons_zero, List.getElem?_cons_succ, reduceCtorEq, Nat.succ_ne_self, Nat.one_ne_zero, Nat.le_refl, ne_eq, not_false_eq_true]
  refine xcall_of (AppendSeq_runs hseq hN M hG) ?_
  intro v M' h
  simp -dsimp only [↓x_seq', ↓x_ops, ↓x_skip, ↓x_ret, ↓x_exit, ↓x_block', ↓x_cond', cond_true', cond_false', ↓i_nil, ↓i_plain, ↓i_guard, xs_val, xs_call, xs_yield, xg_true, xg_false, ↓n_normal, ↓n_ret, ↓n_exit, ↓b_normal, ↓b_ret, ↓b_exit, ↓xe_normal, ↓xe_ret, e_some, yieldOf, go_sem, ↓reduceIte, Nat.reduceEqDiff, Nat.reduceLT, Nat.reduceSub, X_slices_Collect_Sib_0, X_slices_Collect_Sib_1, Int.lt_irrefl, true_and, and_true, false_and, and_false, and_self, same_two, same_sib, same_spot, vload, vptr, vof, V.cells, Mem.read, rdCells, Mem.get_push, Mem.next_push, Nat.left_eq_add, Nat.add_eq_left, Nat.add_left_cancel_iff, Nat.add_right_cancel_iff, Nat.reduceAdd, Nat.add_zero, Nat.zero_add, Nat.add_assoc, Nat.reduceLeDiff, Nat.reduceBEq, List.length_cons, List.length_nil, List.drop_zero, List.drop_succ_cons, List.take_succ_cons, List.take_zero, List.take_nil, List.drop_nil, List.getElem?_cons_zero, List.getElem?_cons_succ, reduceCtorEq, Nat.succ_ne_self, Nat.one_ne_zero, Nat.le_refl, ne_eq, not_false_eq_true]
  exact h
end Go.Am.Tryz.O


/- slices.Values handed on; slices.SortedFunc; order.Sort. -/
namespace Go.Am.Tryz.O
open Go Go.Am Go.Proofs Go.Sort Go.Shelf
set_option maxRecDepth 100000
set_option linter.unusedSimpArgs false
set_option linter.unusedVariables false


theorem Values_loop (bx b : Nat) (s : V) (xs : List Sb) (hl : xs.length < 2 ^ 62) (J Jx : List Sb → Mem → Prop) (Mz : Mem) (hG : ∀ pre M, J pre M → SlR elSb M s xs) (hps : ∀ pre M o o', J pre M → J pre ((M.push o).set M.next o'))
    (hY : ∀ pre x M', J pre M' → pre.length < xs.length → XYield Tryz.prog gl0 b [.agg (sbC x)] M' fun v M'' => (v = .bool true ∧ J (pre ++ [x]) M'' ∧ M'.next ≤ M''.next ∧ ∀ c, c < M'.next → isIter M' c → M''.get c = M'.get c) ∨ (v = .bool false ∧ Jx (pre ++ [x]) M''))
    (Q : XQ) (hQ : ∀ fr M, J xs M → Q (.exit 0) fr M) (hQx : ∀ pre fr M, pre <+: xs → Jx pre M → Q .ret fr M) :
    ∀ (f i : Nat) (fr : Fr) (M : Mem), i + f = xs.length → J (xs.take i) M → fr.rd 0 = .yld b → fr.rd 5 = s → fr.rd 6 = .int .i64 (xs.length : Int) → fr.rd 7 = .int .i64 (i : Int) →
    roundsX (WX Tryz.prog gl0 16 X_slices_Values_Sib_c1_5 false) (f + 1) fr M Q := by
  intro f
  induction f with
  | zero =>
    intro i fr M hi hJ h0 h5 h6 h7
    rw [rounds_x_succ]
    refine xw_of ?_
    unfold X_slices_Values_Sib_c1_5
    have : ¬ (i : Int) < xs.length := by omega
    simp -dsimp only [↓x_seq', ↓x_ops, ↓x_skip, ↓x_ret, ↓x_exit, ↓x_block', ↓x_cond', cond_true', cond_false', ↓i_nil, ↓i_plain, ↓i_guard, xs_val, xs_call, xs_yield, xg_true, xg_false, ↓n_normal, ↓n_ret, ↓n_exit, ↓b_normal, ↓b_ret, ↓b_exit, ↓xe_normal, ↓xe_ret, e_some, yieldOf, go_sem, ↓reduceIte, Nat.reduceEqDiff, Nat.reduceLT, Nat.reduceSub, X_slices_Values_Sib_c1_0, X_slices_Values_Sib_c1_1, X_slices_Values_Sib_c1_2, X_slices_Values_Sib_c1_3, X_slices_Values_Sib_c1_4, h0, h5, h6, h7, this, decide_false]
    refine hQ _ _ ?_
    rwa [List.take_of_length_le (by omega)] at hJ
  | succ f ih =>
    intro i fr M hi hJ h0 h5 h6 h7
    rw [rounds_x_succ]
    refine xw_of ?_
    unfold X_slices_Values_Sib_c1_5
    have hlt : i < xs.length := by omega
    have h1 : (i : Int) < xs.length := by omega
    have h2 : i + 1 ≤ xs.length := by omega
    obtain ⟨a, cap, rfl, hS⟩ := hG _ _ hJ
    rcases hS with hS | ⟨bb, o, cs, ro, rfl, hM, hrd⟩
    · subst hS; simp at hlt
    have hr := hrd i hlt
    simp only [elSb] at hr
    have hw0 := write_full (M := M.push (.cells [.str [], .int .i64 0, .int .i64 0] false)) (b := M.next) (vs := sbC xs[i]) (Mem.get_push_same _ _) rfl rfl
    have hrd0 : rdCells cs (o + i * 3) 3 = some (sbC xs[i]) := hr
    have rd3 : rdCells (sbC xs[i]) 0 3 = some (sbC xs[i]) := rfl
    simp -dsimp only [↓x_seq', ↓x_ops, ↓x_skip, ↓x_ret, ↓x_exit, ↓x_block', ↓x_cond', cond_true', cond_false', ↓i_nil, ↓i_plain, ↓i_guard, xs_val, xs_call, xs_yield, xg_true, xg_false, ↓n_normal, ↓n_ret, ↓n_exit, ↓b_normal, ↓b_ret, ↓b_exit, ↓xe_normal, ↓xe_ret, e_some, yieldOf, go_sem, ↓reduceIte, Nat.reduceEqDiff, Nat.reduceLT, Nat.reduceSub, X_slices_Values_Sib_c1_0, X_slices_Values_Sib_c1_1, X_slices_Values_Sib_c1_2, X_slices_Values_Sib_c1_3, X_slices_Values_Sib_c1_4, h0, h5, h6, h7, h1, h2, vload, Mem.read, hM, hrd0, vstore, V.cells, sbC_len, hw0, Nat.reduceEqDiff, Mem.get_set_same, rd3]
    have hJ1 := hps _ _ (.cells [.str [], .int .i64 0, .int .i64 0] false) (.cells (sbC xs[i]) false) hJ
    have hti : (xs.take i).length < xs.length := by rw [List.length_take]; omega
    have htk : xs.take i ++ [xs[i]] = xs.take (i + 1) := by rw [List.take_add_one, List.getElem?_eq_getElem hlt]; rfl
    refine xyield_of (hY _ xs[i] _ hJ1 hti) ?_
    rw [htk]
    rintro v M2 (⟨rfl, hJ2, _⟩ | ⟨rfl, hJ2⟩)
    · have h3 : (i : Int) + 1 = ((i + 1 : Nat) : Int) := by omega
      simp -dsimp only [↓x_seq', ↓x_ops, ↓x_skip, ↓x_ret, ↓x_exit, ↓x_block', ↓x_cond', cond_true', cond_false', ↓i_nil, ↓i_plain, ↓i_guard, xs_val, xs_call, xs_yield, xg_true, xg_false, ↓n_normal, ↓n_ret, ↓n_exit, ↓b_normal, ↓b_ret, ↓b_exit, ↓xe_normal, ↓xe_ret, e_some, yieldOf, go_sem, ↓reduceIte, Nat.reduceEqDiff, Nat.reduceLT, Nat.reduceSub, X_slices_Values_Sib_c1_0, X_slices_Values_Sib_c1_1, X_slices_Values_Sib_c1_2, X_slices_Values_Sib_c1_3, X_slices_Values_Sib_c1_4, h7, IntWalk.i64_in ((i : Int) + 1) (by omega)]
      refine ih (i + 1) _ M2 (by omega) hJ2 ?_ ?_ ?_ ?_ <;> simp only [go_sem, ↓reduceIte, Nat.reduceEqDiff, Nat.reduceLT, Nat.reduceSub, h0, h5, h6, h3]
    · simp -dsimp only [↓x_seq', ↓x_ops, ↓x_skip, ↓x_ret, ↓x_exit, ↓x_block', ↓x_cond', cond_true', cond_false', ↓i_nil, ↓i_plain, ↓i_guard, xs_val, xs_call, xs_yield, xg_true, xg_false, ↓n_normal, ↓n_ret, ↓n_exit, ↓b_normal, ↓b_ret, ↓b_exit, ↓xe_normal, ↓xe_ret, e_some, yieldOf, go_sem, ↓reduceIte, Nat.reduceEqDiff, Nat.reduceLT, Nat.reduceSub, X_slices_Values_Sib_c1_0, X_slices_Values_Sib_c1_1, X_slices_Values_Sib_c1_2, X_slices_Values_Sib_c1_3, X_slices_Values_Sib_c1_4]
      exact hQx _ _ _ (List.take_prefix _ _) hJ2

/-- The elements of a slice, handed on. -/
theorem Values_seq (bx : Nat) (s : V) (ro : Bool) (xs : List Sb) (hl : xs.length < 2 ^ 62) :
    SeqX Tryz.prog gl0 F_slices_Values_Sib_c1 [] [.ptr (some (bx, 0))] (fun x => .agg (sbC x)) (fun M => M.get bx = some (.cells [s] ro) ∧ SlR elSb M s xs) (fun ys => ys = xs) (fun pre => pre <+: xs) xs.length := by
  intro b J Jx M hG hp hps hi hY hJ
  refine XRuns.walk mixed Tryz.func132 b_slices_Values_Sib_c1 n_slices_Values_Sib_c1 r_slices_Values_Sib_c1 (by rfl) ?_
  unfold X_slices_Values_Sib_c1
  obtain ⟨h1, h2⟩ := hG _ _ hJ
  obtain ⟨a, cap, rfl, hS⟩ := h2
  simp -dsimp only [↓x_seq', ↓x_ops, ↓x_skip, ↓x_ret, ↓x_exit, ↓x_block', ↓x_cond', cond_true', cond_false', ↓i_nil, ↓i_plain, ↓i_guard, xs_val, xs_call, xs_yield, xg_true, xg_false, ↓n_normal, ↓n_ret, ↓n_exit, ↓b_normal, ↓b_ret, ↓b_exit, ↓xe_normal, ↓xe_ret, e_some, yieldOf, go_sem, ↓reduceIte, Nat.reduceEqDiff, Nat.reduceLT, Nat.reduceSub, X_slices_Values_Sib_c1_0, X_slices_Values_Sib_c1_1, X_slices_Values_Sib_c1_2, X_slices_Values_Sib_c1_3, X_slices_Values_Sib_c1_4, Int.lt_irrefl, true_and, and_true, false_and, and_false, and_self, same_two, same_sib, same_spot, vload, vptr, vof, V.cells, Mem.read, rdCells, Mem.get_push, Mem.next_push, Nat.left_eq_add, Nat.add_eq_left, Nat.add_left_cancel_iff, Nat.add_right_cancel_iff, Nat.reduceAdd, Nat.add_zero, Nat.zero_add, Nat.add_assoc, Nat.reduceLeDiff, Nat.reduceBEq, List.length_cons, List.length_nil, List.drop_zero, List.drop_succ_cons, List.take_succ_cons, List.take_zero, List.take_nil, List.drop_nil, List.getElem?_cons_zero, List.getElem?_cons_succ, reduceCtorEq, Nat.succ_ne_self, Nat.one_ne_zero, Nat.le_refl, ne_eq, not_false_eq_true, List.singleton_append, h1]
  refine ⟨xs.length - 0 + 1, Values_loop bx b (.slice a xs.length cap) xs hl J Jx M (fun pre M' h => (hG pre M' h).2) hps hY _ ?_ ?_ (xs.length - 0) 0 _ M (by omega) (by simpa using hJ) ?_ ?_ ?_ ?_⟩
  · intro fr M' h
    simp -dsimp only [↓x_seq', ↓x_ops, ↓x_skip, ↓x_ret, ↓x_exit, ↓x_block', ↓x_cond', cond_true', cond_false', ↓i_nil, ↓i_plain, ↓i_guard, xs_val, xs_call, xs_yield, xg_true, xg_false, ↓n_normal, ↓n_ret, ↓n_exit, ↓b_normal, ↓b_ret, ↓b_exit, ↓xe_normal, ↓xe_ret, e_some, yieldOf, go_sem, ↓reduceIte, Nat.reduceEqDiff, Nat.reduceLT, Nat.reduceSub]
    exact .inl ⟨xs, rfl, h⟩
  · intro pre fr M' hpre h
    simp -dsimp only [↓x_seq', ↓x_ops, ↓x_skip, ↓x_ret, ↓x_exit, ↓x_block', ↓x_cond', cond_true', cond_false', ↓i_nil, ↓i_plain, ↓i_guard, xs_val, xs_call, xs_yield, xg_true, xg_false, ↓n_normal, ↓n_ret, ↓n_exit, ↓b_normal, ↓b_ret, ↓b_exit, ↓xe_normal, ↓xe_ret, e_some, yieldOf, go_sem, ↓reduceIte, Nat.reduceEqDiff, Nat.reduceLT, Nat.reduceSub]
    exact .inr ⟨pre, hpre, h⟩
  all_goals simp only [go_sem, ↓reduceIte, Nat.reduceEqDiff, Nat.reduceLT, Nat.reduceSub]
  rfl
end Go.Am.Tryz.O


/- slices.SortedFunc of a slice's values, as a part; order.Sort. -/
namespace Go.Am.Tryz.O
open Go Go.Am Go.Proofs Go.Sort Go.Shelf
set_option maxRecDepth 100000
set_option linter.unusedSimpArgs false
set_option linter.unusedVariables false


def D1s : Decls := D1.addM F_slices_SortFunc_Sib (sortP elSb F_order_Sort_c1 ltSb)
theorem dok1s : DOK Tryz.prog gl0 D1s := dok1.addM sortSb_ok

theorem SortFunc_hold {lo : Nat} {M : Mem} {s : V} {xs : List Sb} (h : Hold lo M 3 s xs.length (elSb.all xs)) (hn : xs.length ≤ maxRoom) :
    Runs D1s F_slices_SortFunc_Sib [s, .fn F_order_Sort_c1 [] []] M fun v M' => Hold lo M' 3 s xs.length (elSb.all (isort ltSb xs)) ∧ (∀ c, c < lo → M'.get c = M.get c) := by
  have hd := elSb.decs_all xs
  have hl := elSb.all_len (isort ltSb xs)
  rw [isort_len] at hl
  generalize hq : xs.length = n at *
  generalize hc : elSb.all xs = cs at *
  cases h with
  | nil =>
    have : xs = [] := List.eq_nil_of_length_eq_zero hq
    subst this
    exact Runs.prim rfl rfl ⟨.nil, fun _ _ => rfl⟩
  | row h1 h2 h3 h4 =>
    rename_i b
    refine Runs.prim (v := .tup []) (M' := M.set b (.cells (elSb.all (isort ltSb xs)) false)) rfl ?_ ⟨.row (Mem.get_set_same _ _ _) hl h3 (by simpa using h4), fun c hc => Mem.get_set_ne _ _ (by omega)⟩
    simp only [sortP, Nat.beq_refl, cond_true, ble_iff, decide_eq_true hn, h1, hd, Option.map_some]

theorem SortedFunc_runs {f : FuncId} {first captured : List V} {G : Mem → Prop} {S Sp : List Sb → Prop} {N : Nat} (hseq : SeqX Tryz.prog gl0 f first captured (fun x => .agg (sbC x)) G S Sp N) (hN : (N + 1) * 32 ≤ maxRoom) (hS : ∀ xs, S xs → xs.length ≤ maxRoom) (M : Mem)
    (hG : ∀ M', (∀ c, c < M.next → M'.get c = M.get c) → M.next ≤ M'.next → G M') :
    XP F_slices_SortedFunc_Sib [.fn f first captured, .fn F_order_Sort_c1 [] []] M fun v M' => ∃ xs, S xs ∧ (∀ c, c < M.next → M'.get c = M.get c) ∧ Hold M.next M' 3 v xs.length (elSb.all (isort ltSb xs)) ∧ (xs = [] → v = .slice none 0 (.exact 0)) := by
  refine XRuns.walk mixed Tryz.func84 b_slices_SortedFunc_Sib n_slices_SortedFunc_Sib r_slices_SortedFunc_Sib (by rfl) ?_
  unfold X_slices_SortedFunc_Sib
  simp -dsimp only [↓x_seq', ↓x_ops, ↓x_skip, ↓x_ret, ↓x_exit, ↓x_block', ↓x_cond', cond_true', cond_false', ↓i_nil, ↓i_plain, ↓i_guard, xs_val, xs_call, xs_yield, xg_true, xg_false, ↓n_normal, ↓n_ret, ↓n_exit, ↓b_normal, ↓b_ret, ↓b_exit, ↓xe_normal, ↓xe_ret, e_some, yieldOf, go_sem, ↓reduceIte, Nat.reduceEqDiff, Nat.reduceLT, Nat.reduceSub, X_slices_SortedFunc_Sib_0, X_slices_SortedFunc_Sib_1, X_slices_SortedFunc_Sib_2, X_slices_SortedFunc_Sib_3, Int.lt_irrefl, true_and, and_true, false_and, and_false, and_self, same_two, same_sib, same_spot, vload, vptr, vof, V.cells, Mem.read, rdCells, Mem.get_push, Mem.next_push, Nat.left_eq_add, Nat.add_eq_left, Nat.add_left_cancel_iff, Nat.add_right_cancel_iff, Nat.reduceAdd, Nat.add_zero, Nat.zero_add, Nat.add_assoc, Nat.reduceLeDiff, Nat.reduceBEq, List.length_cons, List.length_nil, List.drop_zero, List.drop_succ_cons, List.take_succ_cons, List.take_zero, List.take_nil, List.drop_nil, List.getElem?_cons_zero, List.getElem?_cons_succ, reduceCtorEq, Nat.succ_ne_self, Nat.one_ne_zero, Nat.le_refl, ne_eq, not_false_eq_true]
  refine xcall_of (Collect_runs hseq hN M hG) ?_
  rintro v M1 ⟨xs, h1, h2, h3, h6⟩
  simp -dsimp only [↓x_seq', ↓x_ops, ↓x_skip, ↓x_ret, ↓x_exit, ↓x_block', ↓x_cond', cond_true', cond_false', ↓i_nil, ↓i_plain, ↓i_guard, xs_val, xs_call, xs_yield, xg_true, xg_false, ↓n_normal, ↓n_ret, ↓n_exit, ↓b_normal, ↓b_ret, ↓b_exit, ↓xe_normal, ↓xe_ret, e_some, yieldOf, go_sem, ↓reduceIte, Nat.reduceEqDiff, Nat.reduceLT, Nat.reduceSub, X_slices_SortedFunc_Sib_0, X_slices_SortedFunc_Sib_1, X_slices_SortedFunc_Sib_2, X_slices_SortedFunc_Sib_3, Int.lt_irrefl, true_and, and_true, false_and, and_false, and_self, same_two, same_sib, same_spot, vload, vptr, vof, V.cells, Mem.read, rdCells, Mem.get_push, Mem.next_push, Nat.left_eq_add, Nat.add_eq_left, Nat.add_left_cancel_iff, Nat.add_right_cancel_iff, Nat.reduceAdd, Nat.add_zero, Nat.zero_add, Nat.add_assoc, Nat.reduceLeDiff, Nat.reduceBEq, List.length_cons, List.length_nil, List.drop_zero, List.drop_succ_cons, List.take_succ_cons, List.take_zero, List.take_nil, List.drop_nil, List.getElem?_cons_zero, List.getElem?_cons_succ, reduceCtorEq, Nat.succ_ne_self, Nat.one_ne_zero, Nat.le_refl, ne_eq, not_false_eq_true]
  refine xcall_of (XRuns.of_runs dok1s (SortFunc_hold h3 (hS xs h1))) ?_
  rintro v2 M2 ⟨h4, h5⟩
  simp -dsimp only [↓x_seq', ↓x_ops, ↓x_skip, ↓x_ret, ↓x_exit, ↓x_block', ↓x_cond', cond_true', cond_false', ↓i_nil, ↓i_plain, ↓i_guard, xs_val, xs_call, xs_yield, xg_true, xg_false, ↓n_normal, ↓n_ret, ↓n_exit, ↓b_normal, ↓b_ret, ↓b_exit, ↓xe_normal, ↓xe_ret, e_some, yieldOf, go_sem, ↓reduceIte, Nat.reduceEqDiff, Nat.reduceLT, Nat.reduceSub, X_slices_SortedFunc_Sib_0, X_slices_SortedFunc_Sib_1, X_slices_SortedFunc_Sib_2, X_slices_SortedFunc_Sib_3, Int.lt_irrefl, true_and, and_true, false_and, and_false, and_self, same_two, same_sib, same_spot, vload, vptr, vof, V.cells, Mem.read, rdCells, Mem.get_push, Mem.next_push, Nat.left_eq_add, Nat.add_eq_left, Nat.add_left_cancel_iff, Nat.add_right_cancel_iff, Nat.reduceAdd, Nat.add_zero, Nat.zero_add, Nat.add_assoc, Nat.reduceLeDiff, Nat.reduceBEq, List.length_cons, List.length_nil, List.drop_zero, List.drop_succ_cons, List.take_succ_cons, List.take_zero, List.take_nil, List.drop_nil, List.getElem?_cons_zero, List.getElem?_cons_succ, reduceCtorEq, Nat.succ_ne_self, Nat.one_ne_zero, Nat.le_refl, ne_eq, not_false_eq_true]
  exact ⟨xs, h1, fun c hc => (h5 c hc).trans (h2 c hc), h4, h6⟩

/-- What a slice's values come to, sorted. -/
def pSorted (args : List V) (M : Mem) : Option KeepR :=
  match args with
  | [.fn f1 [] [.ptr (some (bx, 0))], .fn f2 [] []] => cond (Nat.beq f1 F_slices_Values_Sib_c1) (cond (Nat.beq f2 F_order_Sort_c1) (match M.get bx with
    | some (.cells [s] _) => (readSl elSb M s).bind fun xs => cond (Nat.ble ((xs.length + 1) * 32) maxRoom) (some (match xs with
      | [] => .flat (.slice none 0 (.exact 0))
      | x :: xs => .row (xs.length + 1) 3 (elSb.all (isort ltSb (x :: xs))))) none
    | _ => none) none) none
  | _ => none
theorem pSorted_ok : CallOK Tryz.prog gl0 fun f' args M => if f' = F_slices_SortedFunc_Sib then (pSorted args M).map fun r => r.res M else none := by
  refine callOK_keep ⟨_, Tryz.func84, (by kernel_rfl), (by kernel_rfl)⟩ ?_
  intro args M r h hwf
  refine ⟨[], fun _ _ _ _ _ b hb => absurd hb (by simp), fun Mz hz => ?_⟩
  have hMz : ∀ c, Mz.get c = M.get c := fun c => hz.other c (by simp)
  have hlt : ∀ c o, Mz.get c = some o → c < Mz.next := fun c o hc => by
    rcases Nat.lt_or_ge c Mz.next with h1 | h1
    · exact h1
    · rw [hMz, hwf c (by rw [← hz.next]; exact h1)] at hc; cases hc
  unfold pSorted at h
  split at h
  · rename_i f1 bx f2
    obtain ⟨e1, h1⟩ := cond_some h
    clear h
    obtain ⟨e2, h⟩ := cond_some h1
    clear h1
    obtain rfl : f1 = F_slices_Values_Sib_c1 := Nat.eq_of_beq_eq_true e1
    obtain rfl : f2 = F_order_Sort_c1 := Nat.eq_of_beq_eq_true e2
    split at h
    · rename_i s ro hbx
      simp only [Option.bind_eq_some_iff] at h
      obtain ⟨xs, hxs, h⟩ := h
      obtain ⟨hl, h⟩ := cond_some h
      rw [ble_iff, decide_eq_true_eq] at hl
      obtain ⟨hsl, hle⟩ := readSl_is hxs
      have hbz : Mz.get bx = some (.cells [s] ro) := (hMz bx).trans hbx
      have hslz : SlR elSb Mz s xs := hsl.keep fun b _ => hMz b
      have hbl : ∀ b, s.blk = some b → xs ≠ [] → b < Mz.next := by
        intro b hb hne
        obtain ⟨a, cap, rfl, hq⟩ := hslz
        rcases hq with hq | ⟨b', o, cs, ro', rfl, hq, _⟩
        · exact absurd hq hne
        · simp only [V.blk, Option.some.injEq] at hb
          subst hb
          exact hlt _ _ hq
      refine (SortedFunc_runs (Values_seq bx s ro xs (by unfold maxRoom at hle; omega)) hl (fun ys h => by rw [h]; exact hle) Mz ?_).mono ?_
      · intro M' hk _
        refine ⟨(hk bx (hlt _ _ hbz)).trans hbz, ?_⟩
        obtain ⟨a, cap, rfl, hq⟩ := hslz
        refine ⟨a, cap, rfl, ?_⟩
        rcases hq with hq | ⟨b', o, cs, ro', rfl, hq, hr⟩
        · exact .inl hq
        · exact .inr ⟨b', o, cs, ro', rfl, (hk b' (hlt _ _ hq)).trans hq, hr⟩
      · rintro v M' ⟨ys, rfl, h1, h2, h6⟩
        cases h
        refine ⟨fun c hc => h1 c (by rw [hz.next]; exact hc), ?_⟩
        cases hx : ys with
        | nil =>
          subst hx
          exact ⟨rfl, h6 rfl⟩
        | cons x l =>
          subst hx
          refine ⟨elSb.all_flat _, ?_⟩
          generalize hq : elSb.all (isort ltSb (x :: l)) = cs at h2
          generalize hn : (x :: l).length = n at h2
          cases h2 with
          | nil => simp at hn
          | row a b c d =>
            refine ⟨_, by rw [← hz.next]; exact c, by rw [← hn]; rfl, a⟩
    · cases h
  · cases h

def D1t : Decls := D1s.addM F_slices_SortedFunc_Sib (fun args M => (pSorted args M).map fun r => r.res M)
theorem dok1t : DOK Tryz.prog gl0 D1t := dok1s.addM pSorted_ok
/-- Memory in which the two package variables stand alone. -/
def memG : Mem := Env.mem [(stC (0, 0), 0, 0, 2), (stC (0, 1), 1, 0, 2)]
/-- The same machine, with the laws' 'knows' among its code. -/
def Dk : Decls := ⟨codeOf (codesK ++ codes), D1t.prim⟩
theorem dokk : DOK Tryz.prog gl0 Dk := ⟨dok1t.mixed, fun f F hf => codesA_ok (f, F) (codeOf_get hf), dok1t.prim⟩
theorem knows_closed : (callN Dk 400 F_law11_knows [] memG).map (·.1) = some (.bool true) := by kernel_rfl
def pKnows (args : List V) (M : Mem) : Option (V × Mem) :=
  match args with
  | [] => cond (isG M) (some (.bool true, M)) none
  | _ => none
theorem memG_0 : memG.get 0 = some (.cells (stC (0, 0)) true) := by rw [memG, Env.get_mem]; rfl
theorem memG_1 : memG.get 1 = some (.cells (stC (0, 1)) true) := by rw [memG, Env.get_mem]; rfl
theorem pKnows_ok : CallOK Tryz.prog gl0 fun f' args M => if f' = F_law11_knows then pKnows args M else none := by
  obtain ⟨⟨v, M'⟩, h1, h2⟩ := Option.map_eq_some_iff.mp knows_closed
  simp only at h2
  subst h2
  refine prim_env dokk (M0 := memG) rfl ?_ ?_ h1 ?_
  · intro b hb
    rw [memG, Env.next_mem] at hb
    rw [memG, Env.get_mem, List.getElem?_eq_none hb]
    rfl
  · intro x hx
    rcases gl_two hx with rfl | rfl
    · exact ⟨_, memG_0, rfl⟩
    · exact ⟨_, memG_1, rfl⟩
  · intro args M r h
    unfold pKnows at h
    split at h
    · obtain ⟨hg, h⟩ := cond_some h
      cases h
      refine ⟨rfl, rfl, fun x hx => ?_⟩
      rcases gl_two hx with rfl | rfl
      · rw [(isG_is hg).1, memG_0]
      · rw [(isG_is hg).2, memG_1]
    · cases h
def D2 : Decls := D1t.addM F_law11_knows pKnows
theorem dok2 : DOK Tryz.prog gl0 D2 := dok1t.addM pKnows_ok
end Go.Am.Tryz.O


/- The reference's compare, of keys and of siblings; its Before. -/
namespace Go.Am.Tryz.O
open Go Go.Am Go.Proofs Go.Sort Go.Shelf
set_option maxRecDepth 100000
set_option linter.unusedSimpArgs false
set_option linter.unusedVariables false


end Go.Am.Tryz.O


/- Sort; the law's Same. -/
namespace Go.Am.Tryz.O
open Go Go.Am Go.Proofs Go.Sort Go.Shelf
set_option maxRecDepth 100000
set_option linter.unusedSimpArgs false
set_option linter.unusedVariables false

end Go.Am.Tryz.O


/- The reference's Sort. -/
namespace Go.Am.Tryz.O
open Go Go.Am Go.Proofs Go.Sort Go.Shelf
set_option maxRecDepth 100000
set_option linter.unusedSimpArgs false
set_option linter.unusedVariables false


/-! ### an own slice, or one of no room -/
def HoldE (lo : Nat) (M : Mem) (es : Nat) (s : V) (n : Nat) (cs : List V) : Prop :=
  Hold lo M es s n cs ∨ (n = 0 ∧ cs = [] ∧ ∃ b, s = .slice (some (b, 0)) 0 (.exact 0) ∧ M.get b = some (.cells [] false) ∧ lo ≤ b ∧ b < M.next)
theorem HoldE.keep {lo es n : Nat} {M M' : Mem} {s : V} {cs : List V} (h : HoldE lo M es s n cs) (hk : ∀ b, s.blk = some b → M'.get b = M.get b) (hn : M.next ≤ M'.next) : HoldE lo M' es s n cs := by
  rcases h with h | ⟨rfl, rfl, b, rfl, h1, h2, h3⟩
  · exact .inl (h.keep hk hn)
  · exact .inr ⟨rfl, rfl, b, rfl, (hk b rfl).trans h1, h2, by omega⟩
theorem HoldE.blk_le {lo es n : Nat} {M : Mem} {s : V} {cs : List V} (h : HoldE lo M es s n cs) {b : Nat} (hb : s.blk = some b) : lo ≤ b ∧ b < M.next := by
  rcases h with h | ⟨rfl, rfl, b', rfl, h1, h2, h3⟩
  · exact ⟨(h.blk_le hb).1, (h.blk_le hb).2.1⟩
  · simp only [V.blk, Option.some.injEq] at hb
    subst hb
    exact ⟨h2, h3⟩
theorem HoldE.append {lo es bytes n m : Nat} {M : Mem} {s x : V} {cs new : List V} (h : HoldE lo M es s n cs) (hlo : lo ≤ M.next) (hx : srcLen x = some m) (hc : srcCells es M m x = some new) (hnew : new.length = m * es)
    (hroom : (n + m) * bytes ≤ maxRoom) (hone : allOne new = true) :
    ∃ s' M', vappend es bytes M s x = some (s', M') ∧ HoldE lo M' es s' (n + m) (cs ++ new) ∧ (m ≠ 0 → Hold lo M' es s' (n + m) (cs ++ new)) ∧ M.next ≤ M'.next ∧ (∀ c, c < M.next → s.blk ≠ some c → M'.get c = M.get c) ∧ (s'.blk = s.blk ∨ s'.blk = some M.next) ∧ (m = 0 → s' = s ∧ M' = M) := by
  rcases h with h | ⟨rfl, rfl, b, rfl, h1, h2, h3⟩
  · by_cases hm : m = 0
    · subst hm
      obtain ⟨s', M', e1, e2, e3, e4, e5⟩ := h.append_any hlo hx hc hnew hroom hone
      have : new = [] := List.eq_nil_of_length_eq_zero (by simpa using hnew)
      subst this
      have h0 : vappend es bytes M s x = some (s, M) := by
        cases h with
        | nil => simp only [vappend, hx, hc, Option.bind_some, beq_dec, decide_true, cond_true]
        | row a b c d => simp only [vappend, hx, hc, Option.bind_some, beq_dec, decide_true, cond_true]
      rw [h0] at e1
      cases e1
      exact ⟨s, M, h0, .inl e2, fun hm => absurd rfl hm, Nat.le_refl _, fun _ _ _ => rfl, .inl rfl, fun _ => ⟨rfl, rfl⟩⟩
    · obtain ⟨M', e1, e2, e3, e4⟩ := h.append hlo hx hc hm hnew hroom hone
      exact ⟨_, M', e1, .inl e2, fun _ => e2, by omega, fun c hc1 hc2 => e4 c (by omega) hc2, .inr rfl, fun h => absurd h hm⟩
  · by_cases hm : m = 0
    · subst hm
      have : new = [] := List.eq_nil_of_length_eq_zero (by simpa using hnew)
      subst this
      exact ⟨_, M, by simp only [vappend, hx, hc, Option.bind_some, beq_dec, decide_true, cond_true], .inr ⟨rfl, rfl, b, rfl, h1, h2, h3⟩, fun hm => absurd rfl hm, Nat.le_refl _, fun _ _ _ => rfl, .inl rfl, fun _ => ⟨rfl, rfl⟩⟩
    · have hle : ¬ m ≤ 0 := by omega
      have hH : Hold lo (M.push (.cells new false)) es (.slice (some (M.next, 0)) m (.upto es)) m new := .row (Mem.get_push_same _ _) hnew hlo (by simp)
      refine ⟨.slice (some (M.next, 0)) m (.upto es), M.push (.cells new false), ?_, ?_, fun _ => ?_, by simp, fun c hc _ => Mem.get_push_ne _ _ (by omega), .inr rfl, fun h => absurd h hm⟩
      · rw [Nat.zero_add] at hroom
        simp only [vappend, hx, hc, Option.bind_some, beq_dec, hm, decide_false, cond_false, Nat.zero_add, ble_iff, hle, hroom, decide_true, cond_true, Option.map_some, List.nil_append]
      · rw [Nat.zero_add, List.nil_append]; exact .inl hH
      · rw [Nat.zero_add, List.nil_append]; exact hH

theorem sorted_unique : ∀ {l l' : List Sb}, l.Pairwise (fun a b => ltSb b a = false) → l'.Pairwise (fun a b => ltSb b a = false) → l.Perm l' → l = l'
  | [], l', _, _, hp => hp.nil_eq
  | a :: l, [], _, _, hp => absurd hp.length_eq (by simp)
  | a :: l, b :: l', h, h', hp => by
    have hab : a = b := by
      have ha : a ∈ b :: l' := hp.mem_iff.mp (List.mem_cons_self ..)
      have hb : b ∈ a :: l := hp.mem_iff.mpr (List.mem_cons_self ..)
      rcases List.mem_cons.mp ha with e | ha
      · exact e
      rcases List.mem_cons.mp hb with e | hb
      · exact e.symm
      exact tot_Sb _ _ ((List.pairwise_cons.mp h').1 a ha) ((List.pairwise_cons.mp h).1 b hb)
    subst hab
    rw [sorted_unique (List.pairwise_cons.mp h).2 (List.pairwise_cons.mp h').2 (List.Perm.cons_inv hp)]

end Go.Am.Tryz.O


/- The reference's Sort, its loops. -/
namespace Go.Am.Tryz.O
open Go Go.Am Go.Proofs Go.Sort Go.Shelf
set_option maxRecDepth 100000
set_option linter.unusedSimpArgs false
set_option linter.unusedVariables false


end Go.Am.Tryz.O


/- No tree: what each function tells of it. -/
namespace Go.Am.Tryz
open Go Go.Am Go.Proofs Go.Sort Go.Shelf
set_option maxRecDepth 100000
set_option linter.unusedSimpArgs false
set_option linter.unusedVariables false

/-- A pointer to no tree, or to one that nobody made. -/
def NoTree (M : Mem) (t : V) : Prop := t = .ptr none ∨ ∃ tc rc, t = .ptr (some (tc, 0)) ∧ tc < M.next ∧ M.get tc = some (.cells [.map none] rc)
theorem NoTree.grew {M M' : Mem} {t : V} (h : NoTree M t) (hG : Grew M M') : NoTree M' t := by
  rcases h with rfl | ⟨tc, rc, rfl, h1, h2⟩
  · exact .inl rfl
  · exact .inr ⟨tc, rc, rfl, Nat.lt_of_lt_of_le h1 hG.next, (hG.old _ h1).trans h2⟩
theorem NoTree.none_ {M : Mem} {t : V} (h : NoTree M t) : Runs D2 F_tree_Tree_none [t] M fun v M' => v = .bool true ∧ M' = M := by
  rcases h with rfl | ⟨tc, rc, rfl, h1, h2⟩
  · exact none_pn rfl
  · exact none_p0 rfl (treeOf_is0 h2)
theorem NoTree.has {M : Mem} {t : V} (h : NoTree M t) (p : St) : Runs D2 F_tree_Tree_Has [t, .agg (stC p)] M fun v M' => v = .bool false ∧ M' = M := by
  rcases h with rfl | ⟨tc, rc, rfl, h1, h2⟩
  · exact Runs.part (g := pHas) rfl rfl
  · exact Runs.part (g := pHas) rfl (by show (treeOf M tc).bind _ = _; rw [treeOf_is0 h2]; rfl)
theorem NoTree.spot {M : Mem} {t : V} (h : NoTree M t) (p : St) : Runs D2 F_tree_Tree_Spot [t, .agg (stC p)] M fun v M' => v = .tup [.agg (spC sp0), .bool false] ∧ M' = M := by
  rcases h with rfl | ⟨tc, rc, rfl, h1, h2⟩
  · exact Runs.part (g := pSpotT) rfl rfl
  · exact Runs.part (g := pSpotT) rfl (by show (treeOf M tc).map _ = _; rw [treeOf_is0 h2]; rfl)
theorem NoTree.within {M : Mem} {t : V} (h : NoTree M t) (p n : St) : Runs D2 F_tree_Tree_Within [t, .agg (stC p), .agg (stC n)] M fun v M' => v = .bool false ∧ M' = M := by
  rcases h with rfl | ⟨tc, rc, rfl, h1, h2⟩
  · exact Runs.part (g := pWithin) rfl rfl
  · exact Runs.part (g := pWithin) rfl (by show (treeOf M tc).bind _ = _; rw [treeOf_is0 h2]; rfl)
theorem NoTree.above {M : Mem} {t : V} (h : NoTree M t) (n : St) : Runs D2 F_tree_Tree_Above [t, .agg (stC n)] M fun v M' => v = .slice none 0 (.exact 0) ∧ M' = M := by
  rcases h with rfl | ⟨tc, rc, rfl, h1, h2⟩
  · exact Runs.prim (v := .slice none 0 (.exact 0)) (M' := M) rfl rfl ⟨rfl, rfl⟩
  · refine Runs.prim (v := .slice none 0 (.exact 0)) (M' := M) rfl ?_ ⟨rfl, rfl⟩
    have e : pAbove [.ptr (some (tc, 0)), .agg (stC n)] M = some (.flat (.slice none 0 (.exact 0))) := by
      show (match M.get tc with
        | some (.cells [.map none] _) => some (KeepR.flat (.slice none 0 (.exact 0)))
        | some (.cells [.map (some bm)] _) => _
        | _ => none) = _
      simp only [h2]
    show ((pAbove [.ptr (some (tc, 0)), .agg (stC n)] M).map fun r => r.res M) = _
    rw [e]
    rfl
theorem NoTree.nodes {M : Mem} {t : V} (h : NoTree M t) : Runs D2 F_tree_Tree_Nodes [t] M fun v M' => v = .slice none 0 (.exact 0) ∧ M' = M := Nodes_none D2 rfl (by rfl) M t h.none_
theorem NoTree.below {M : Mem} {t : V} (h : NoTree M t) (p : St) : Runs D2 F_tree_Tree_Below [t, .agg (stC p)] M fun v M' => v = .slice none 0 (.exact 0) ∧ Grew M M' := Below_none D2 rfl (by rfl) rfl (by rfl) M t p fun M' hG => (h.grew hG).none_
theorem WT_abs {D : Decls} {n : Nat} {l : List Item} {fr : Fr} {M : Mem} {K : Fr → Mem → Prop} {k : Tg K} (p : Fr → Prop) (hp : p fr) (h : ∀ fr, p fr → WT D n l fr M k) : WT D n l fr M k := h fr hp
end Go.Am.Tryz


/- Own slices, also such as have no room; what is put together out of parts of one. -/
namespace Go.Am
open Go

/-! ### an own slice, or one of no room -/
def HoldE (lo : Nat) (M : Mem) (es : Nat) (s : V) (n : Nat) (cs : List V) : Prop :=
  Hold lo M es s n cs ∨ (n = 0 ∧ cs = [] ∧ ∃ b, s = .slice (some (b, 0)) 0 (.exact 0) ∧ M.get b = some (.cells [] false) ∧ lo ≤ b ∧ b < M.next)
theorem HoldE.keep {lo es n : Nat} {M M' : Mem} {s : V} {cs : List V} (h : HoldE lo M es s n cs) (hk : ∀ b, s.blk = some b → M'.get b = M.get b) (hn : M.next ≤ M'.next) : HoldE lo M' es s n cs := by
  rcases h with h | ⟨rfl, rfl, b, rfl, h1, h2, h3⟩
  · exact .inl (h.keep hk hn)
  · exact .inr ⟨rfl, rfl, b, rfl, (hk b rfl).trans h1, h2, by omega⟩
theorem HoldE.blk_le {lo es n : Nat} {M : Mem} {s : V} {cs : List V} (h : HoldE lo M es s n cs) {b : Nat} (hb : s.blk = some b) : lo ≤ b ∧ b < M.next := by
  rcases h with h | ⟨rfl, rfl, b', rfl, h1, h2, h3⟩
  · exact ⟨(h.blk_le hb).1, (h.blk_le hb).2.1⟩
  · simp only [V.blk, Option.some.injEq] at hb
    subst hb
    exact ⟨h2, h3⟩
theorem HoldE.append {lo es bytes n m : Nat} {M : Mem} {s x : V} {cs new : List V} (h : HoldE lo M es s n cs) (hlo : lo ≤ M.next) (hx : srcLen x = some m) (hc : srcCells es M m x = some new) (hnew : new.length = m * es)
    (hroom : (n + m) * bytes ≤ maxRoom) (hone : allOne new = true) :
    ∃ s' M', vappend es bytes M s x = some (s', M') ∧ HoldE lo M' es s' (n + m) (cs ++ new) ∧ (m ≠ 0 → Hold lo M' es s' (n + m) (cs ++ new)) ∧ M.next ≤ M'.next ∧ (∀ c, c < M.next → s.blk ≠ some c → M'.get c = M.get c) ∧ (s'.blk = s.blk ∨ s'.blk = some M.next) ∧ (m = 0 → s' = s ∧ M' = M) := by
  rcases h with h | ⟨rfl, rfl, b, rfl, h1, h2, h3⟩
  · by_cases hm : m = 0
    · subst hm
      obtain ⟨s', M', e1, e2, e3, e4, e5⟩ := h.append_any hlo hx hc hnew hroom hone
      have : new = [] := List.eq_nil_of_length_eq_zero (by simpa using hnew)
      subst this
      have h0 : vappend es bytes M s x = some (s, M) := by
        cases h with
        | nil => simp only [vappend, hx, hc, Option.bind_some, beq_dec, decide_true, cond_true]
        | row a b c d => simp only [vappend, hx, hc, Option.bind_some, beq_dec, decide_true, cond_true]
      rw [h0] at e1
      cases e1
      exact ⟨s, M, h0, .inl e2, fun hm => absurd rfl hm, Nat.le_refl _, fun _ _ _ => rfl, .inl rfl, fun _ => ⟨rfl, rfl⟩⟩
    · obtain ⟨M', e1, e2, e3, e4⟩ := h.append hlo hx hc hm hnew hroom hone
      exact ⟨_, M', e1, .inl e2, fun _ => e2, by omega, fun c hc1 hc2 => e4 c (by omega) hc2, .inr rfl, fun h => absurd h hm⟩
  · by_cases hm : m = 0
    · subst hm
      have : new = [] := List.eq_nil_of_length_eq_zero (by simpa using hnew)
      subst this
      exact ⟨_, M, by simp only [vappend, hx, hc, Option.bind_some, beq_dec, decide_true, cond_true], .inr ⟨rfl, rfl, b, rfl, h1, h2, h3⟩, fun hm => absurd rfl hm, Nat.le_refl _, fun _ _ _ => rfl, .inl rfl, fun _ => ⟨rfl, rfl⟩⟩
    · have hle : ¬ m ≤ 0 := by omega
      have hH : Hold lo (M.push (.cells new false)) es (.slice (some (M.next, 0)) m (.upto es)) m new := .row (Mem.get_push_same _ _) hnew hlo (by simp)
      refine ⟨.slice (some (M.next, 0)) m (.upto es), M.push (.cells new false), ?_, ?_, fun _ => ?_, by simp, fun c hc _ => Mem.get_push_ne _ _ (by omega), .inr rfl, fun h => absurd h hm⟩
      · rw [Nat.zero_add] at hroom
        simp only [vappend, hx, hc, Option.bind_some, beq_dec, hm, decide_false, cond_false, Nat.zero_add, ble_iff, hle, hroom, decide_true, cond_true, Option.map_some, List.nil_append]
      · rw [Nat.zero_add, List.nil_append]; exact .inl hH
      · rw [Nat.zero_add, List.nil_append]; exact hH


end Go.Am


/- The reference's Above, Within, Below. -/
namespace Go.Am.Tryz
open Go Go.Am Go.Proofs Go.Sort Go.Shelf
set_option maxRecDepth 100000
set_option linter.unusedSimpArgs false
set_option linter.unusedVariables false

theorem HE.of {lo : Nat} {M : Mem} {s : V} {L : Tr} (h : HoldE lo M 5 s L.length (elRow.all L)) : HE M s L := by
  generalize hn : L.length = n at h
  generalize hc : elRow.all L = cs at h
  rcases h with h | ⟨rfl, rfl, b, rfl, h1, h2, h3⟩
  · cases h with
    | nil => exact .inl ⟨List.eq_nil_of_length_eq_zero hn, none, .exact 0, rfl, fun _ => rfl, fun b o e => (by cases e)⟩
    | row h1 h2 h3 h4 =>
      rename_i b
      by_cases hne : L = []
      · refine .inl ⟨hne, some (b, 0), .upto 5, ?_, fun e => (by cases e), fun b' o e => ?_⟩
        · rw [← hn, hne]; rfl
        · cases e; exact h4
      · exact .inr ⟨hne, _, by rw [hn], by rw [hc]; exact h1, h4⟩
  · exact .inl ⟨List.eq_nil_of_length_eq_zero hn, some (b, 0), .exact 0, rfl, fun e => (by cases e), fun b' o e => (by cases e; exact h3)⟩
/-- The reference's tree in memory. -/
structure RefIn (M : Mem) (rc : Nat) (s : V) (L : Tr) : Prop where
  c : M.get rc = some (.cells [s] false)
  rl : rc < M.next
  ho : HoldE 0 M 5 s L.length (elRow.all L)
  ln : L.length ≤ 100000
theorem RefIn.he {M : Mem} {rc : Nat} {s : V} {L : Tr} (h : RefIn M rc s L) : HE M s L := HE.of h.ho
theorem RefIn.keep {M M' : Mem} {rc : Nat} {s : V} {L : Tr} (h : RefIn M rc s L) (h1 : M'.get rc = M.get rc) (h2 : ∀ b, s.blk = some b → M'.get b = M.get b) (hn : M.next ≤ M'.next) : RefIn M' rc s L :=
  ⟨h1.trans h.c, Nat.lt_of_lt_of_le h.rl hn, h.ho.keep h2 hn, h.ln⟩
theorem RefIn.grew {M M' : Mem} {rc : Nat} {s : V} {L : Tr} (h : RefIn M rc s L) (hG : Grew M M') : RefIn M' rc s L :=
  h.keep (hG.old _ h.rl) (fun b hb => hG.old b (h.ho.blk_le hb).2) hG.next
theorem RefIn.rows {M : Mem} {rc : Nat} {s : V} {L : Tr} (h : RefIn M rc s L) : rowsOf M rc = some L := rowsOf_is h.c h.he h.ln

end Go.Am.Tryz


/- The reference's Below and Add. -/
namespace Go.Am.Tryz
open Go Go.Am Go.Proofs Go.Sort Go.Shelf
set_option maxRecDepth 100000
set_option linter.unusedSimpArgs false
set_option linter.unusedVariables false

/-- All but the reference's tree is as it was. -/
structure Keep2 (M : Mem) (rc : Nat) (s : V) (M' : Mem) : Prop where
  next : M.next ≤ M'.next
  old : ∀ c, c < M.next → c ≠ rc → s.blk ≠ some c → M'.get c = M.get c
theorem Keep2.of {M M' : Mem} {rc : Nat} {s : V} (h : Grew M M') : Keep2 M rc s M' := ⟨h.next, fun c hc _ _ => h.old c hc⟩
/-- What the reference's tree comes to. -/
def RefTo (M : Mem) (rc : Nat) (s : V) (M' : Mem) (L' : Tr) : Prop := ∃ s', RefIn M' rc s' L' ∧ (s' = s ∨ ∀ b, s'.blk = some b → M.next ≤ b) ∧ Keep2 M rc s M'
theorem RefTo.same {M M' : Mem} {rc : Nat} {s : V} {L : Tr} (h : RefIn M rc s L) (hG : Grew M M') : RefTo M rc s M' L := ⟨s, h.grew hG, .inl rfl, Keep2.of hG⟩

end Go.Am.Tryz


/- The reference's Move and Drop. -/
namespace Go.Am.Tryz
open Go Go.Am Go.Proofs Go.Sort Go.Shelf
set_option maxRecDepth 100000
set_option linter.unusedSimpArgs false
set_option linter.unusedVariables false

theorem RefTo.pre {M M1 M' : Mem} {rc : Nat} {s : V} {L' : Tr} (hG : Grew M M1) (h : RefTo M1 rc s M' L') : RefTo M rc s M' L' := by
  obtain ⟨s', t1, t2, t3⟩ := h
  refine ⟨s', t1, ?_, ⟨Nat.le_trans hG.next t3.next, fun c hc' h2 h3 => (t3.old c (Nat.lt_of_lt_of_le hc' hG.next) h2 h3).trans (hG.old c hc')⟩⟩
  rcases t2 with t2 | t2
  · exact .inl t2
  · exact .inr fun b hb => Nat.le_trans hG.next (t2 b hb)
end Go.Am.Tryz


/- Plainly: the reference's rows are the tree's, and each act does on both the same. -/
namespace Go.Am.Tryz
open Go Go.Am Go.Proofs Go.Sort Go.Shelf
set_option maxRecDepth 100000
set_option linter.unusedSimpArgs false
set_option linter.unusedVariables false

def rowsL (l : Tr) : Tr := (nodesL l).map fun n => (n, (getS l n).getD sp0)
theorem lt_irrefl (a : St) : ltSt a a = false := swo_St.irrefl a
theorem lt_trans {a b c : St} (h : ltSt a b = true) (h' : ltSt b c = true) : ltSt a c = true := swo_St.trans _ _ _ h h'
theorem mem_rows {l : Tr} {x : St × Spot} : x ∈ rowsL l ↔ getS l x.1 = some x.2 := by
  unfold rowsL
  rw [List.mem_map]
  constructor
  · rintro ⟨n, hn, rfl⟩
    have := get_mem.mpr (mem_nodes.mp hn)
    cases hg : getS l n with
    | none => rw [hg] at this; cases this
    | some s => rfl
  · intro h
    exact ⟨x.1, mem_nodes.mpr (get_mem.mp (by rw [h]; rfl)), by rw [h]; rfl⟩
section
variable {l : Tr} (h : Inv l)
include h
end
end Go.Am.Tryz


/- Same: of two lists of stamps; of two of the reference's trees. -/
namespace Go.Am.Tryz
open Go Go.Am Go.Proofs Go.Sort Go.Shelf
set_option maxRecDepth 100000
set_option linter.unusedSimpArgs false
set_option linter.unusedVariables false

end Go.Am.Tryz


/- A machine with more parts does what it did. -/
namespace Go.Am
open Go

structure Decls.le (D D' : Decls) : Prop where
  prim : ∀ f g, D.prim f = some g → D'.prim f = some g
  code : ∀ f F, D.prim f = none → D.code.get f = some F → D'.prim f = none ∧ D'.code.get f = some F
theorem callN_more {D D' : Decls} (h : D.le D') : ∀ (k : Nat), CallLe (callN D k) (callN D' k)
  | 0 => fun f args M r hr => by cases hr
  | k + 1 => fun f args M r hr => by
    simp only [callN] at hr ⊢
    cases hp : D.prim f with
    | some g =>
      rw [hp] at hr
      rw [h.prim f g hp]
      exact hr
    | none =>
      rw [hp] at hr
      simp only at hr
      cases hg : D.code.get f with
      | none => rw [hg] at hr; cases hr
      | some F =>
        rw [hg] at hr
        obtain ⟨h1, h2⟩ := h.code f F hp hg
        rw [h1, h2]
        simp only [Bool.cond_eq_ite] at hr ⊢
        split at hr
        · rename_i hle
          rw [if_pos hle]
          split at hr
          · rename_i fr' M' he
            rw [exec_mono (callN_more h k) (Nat.le_refl _) _ he]
            exact hr
          · rename_i fr' M' he
            rw [exec_mono (callN_more h k) (Nat.le_refl _) _ he]
            exact hr
          · cases hr
        · cases hr
theorem Runs.more {D D' : Decls} (hle : D.le D') {f : FuncId} {args : List V} {M : Mem} {R : V → Mem → Prop} (h : Runs D f args M R) : Runs D' f args M R := by
  obtain ⟨k, v, M', h1, h2⟩ := h
  exact ⟨k, v, M', callN_more hle k _ _ _ _ h1, h2⟩
theorem Decls.le_trans {D D' D'' : Decls} (h : D.le D') (h' : D'.le D'') : D.le D'' :=
  ⟨fun f g hg => h'.prim f g (h.prim f g hg), fun f F hp hc => by obtain ⟨a, b⟩ := h.code f F hp hc; exact h'.code f F a b⟩
end Go.Am


/- The row below a place: the program's and the reference's. -/
namespace Go.Am.Tryz.O
open Go Go.Am Go.Proofs Go.Sort Go.Shelf
set_option maxRecDepth 100000
set_option linter.unusedSimpArgs false
set_option linter.unusedVariables false

end Go.Am.Tryz.O


/- The reference's row below a place. -/
namespace Go.Am.Tryz.O
open Go Go.Am Go.Proofs Go.Sort Go.Shelf
set_option maxRecDepth 100000
set_option linter.unusedSimpArgs false
set_option linter.unusedVariables false

end Go.Am.Tryz.O


/- The law OrderTrees: its acts on both trees. -/
namespace Go.Am.Tryz.O
open Go Go.Am Go.Proofs Go.Sort Go.Shelf
set_option maxRecDepth 100000
set_option linter.unusedSimpArgs false
set_option linter.unusedVariables false

/-- A tree and the reference's, apart in memory. -/
structure TR (M : Mem) (tc bm rc : Nat) (s : V) (l : Tr) : Prop where
  T : TreeIn M tc bm l
  r : RefIn M rc s (rowsL l)
  d1 : rc ≠ tc
  d2 : rc ≠ bm
  d3 : s.blk ≠ some tc
  d4 : s.blk ≠ some bm
theorem TR.grew {M M' : Mem} {tc bm rc : Nat} {s : V} {l : Tr} (h : TR M tc bm rc s l) (hG : Grew M M') : TR M' tc bm rc s l := ⟨h.T.grew hG, h.r.grew hG, h.d1, h.d2, h.d3, h.d4⟩
/-- What a step comes to. -/
def StepTo (M : Mem) (tc bm rc : Nat) (s : V) (M' : Mem) (l' : Tr) : Prop := ∃ s', TR M' tc bm rc s' l' ∧ (s' = s ∨ ∀ b, s'.blk = some b → M.next ≤ b) ∧ M.next ≤ M'.next ∧ ∀ c, c < M.next → c ≠ bm → c ≠ rc → s.blk ≠ some c → M'.get c = M.get c
theorem StepTo.same {M M' : Mem} {tc bm rc : Nat} {s : V} {l : Tr} (h : TR M tc bm rc s l) (hG : Grew M M') : StepTo M tc bm rc s M' l := ⟨s, h.grew hG, .inl rfl, hG.next, fun c hc _ _ _ => hG.old c hc⟩
/-- The one changed, then the other. -/
theorem StepTo.both {M M1 M2 M3 : Mem} {tc bm rc : Nat} {s : V} {l l' : Tr} (h : TR M tc bm rc s l) (h1 : M.next ≤ M1.next) (o1 : ∀ c, c < M.next → c ≠ bm → M1.get c = M.get c) (hT : TreeIn M1 tc bm l') (hr : RefTo M1 rc s M2 (rowsL l')) (hG : Grew M2 M3) : StepTo M tc bm rc s M3 l' := by
  obtain ⟨s', t1, t2, t3⟩ := hr
  have htl := h.T.tl
  have hbl := h.T.bl
  have hs' : ∀ b, s'.blk = some b → (s' = s ∧ s.blk = some b) ∨ M.next ≤ b := fun b hb => by
    rcases t2 with e | t2
    · exact .inl ⟨e, e ▸ hb⟩
    · exact .inr (Nat.le_trans h1 (t2 b hb))
  have hT2 : TreeIn M2 tc bm l' := ⟨(t3.old _ hT.tl h.d1.symm h.d3).trans hT.c, (t3.old _ hT.bl h.d2.symm h.d4).trans hT.m, Nat.lt_of_lt_of_le hT.tl t3.next, Nat.lt_of_lt_of_le hT.bl t3.next⟩
  refine ⟨s', ⟨hT2.grew hG, t1.grew hG, h.d1, h.d2, fun e => ?_, fun e => ?_⟩, ?_, Nat.le_trans h1 (Nat.le_trans t3.next hG.next), fun c hc a1 a2 a3 => ?_⟩
  · rcases hs' _ e with ⟨_, e2⟩ | e2
    · exact h.d3 e2
    · omega
  · rcases hs' _ e with ⟨_, e2⟩ | e2
    · exact h.d4 e2
    · omega
  · rcases t2 with e | t2
    · exact .inl e
    · exact .inr fun b hb => Nat.le_trans h1 (t2 b hb)
  · rw [hG.old c (Nat.lt_of_lt_of_le hc (Nat.le_trans h1 t3.next)), t3.old c (Nat.lt_of_lt_of_le hc h1) a2 a3]
    exact o1 c hc a1
theorem StepTo.pre {M M1 M' : Mem} {tc bm rc : Nat} {s : V} {l' : Tr} (hG : Grew M M1) (h : StepTo M1 tc bm rc s M' l') : StepTo M tc bm rc s M' l' := by
  obtain ⟨s', t1, t2, t3, t4⟩ := h
  refine ⟨s', t1, ?_, Nat.le_trans hG.next t3, fun c hc a1 a2 a3 => (t4 c (Nat.lt_of_lt_of_le hc hG.next) a1 a2 a3).trans (hG.old c hc)⟩
  rcases t2 with e | t2
  · exact .inl e
  · exact .inr fun b hb => Nat.le_trans hG.next (t2 b hb)


def doO (l : Tr) (a : Act) : Tr := if a.1 = 0 then addT l a.2.1 a.2.2 else if a.1 = 1 then moveT l a.2.1 a.2.2 else l
def KeysOk (l : Tr) : Prop := ∀ n s, getS l n = some s → s.2.length ≤ 24
theorem right_key {s : Spot} (h : rightSp s = true) : s.2.length ≤ 24 := by
  unfold rightSp rightK at h
  simp only [Bool.and_eq_true, decide_eq_true_eq] at h
  exact h.2.2.1
theorem KeysOk.put {l : Tr} (h : KeysOk l) {n : St} {s : Spot} (hs : rightSp s = true) : KeysOk (putS l n s) := fun m x hx => by
  rw [get_put] at hx
  split at hx
  · cases hx; exact right_key hs
  · exact h m x hx
theorem KeysOk.do {l : Tr} (h : KeysOk l) (a : Act) : KeysOk (doO l a) := by
  unfold doO addT moveT
  split
  · split
    · rename_i e; exact h.put (addE_0 e).2.1
    · exact h
  · split
    · split
      · rename_i e; exact h.put (moveE_0 e).2.1
      · exact h
    · exact h
theorem KeysOk.rows {l : Tr} (h : KeysOk l) : ∀ x ∈ rowsL l, x.2.2.length < 2 ^ 63 := fun x hx => Nat.lt_of_le_of_lt (h x.1 x.2 (mem_rows.1 hx)) (by decide)

/-- Where the law stands. -/
structure LSO (M0 M : Mem) (tc bm rc : Nat) (s : V) (l : Tr) : Prop where
  old : ∀ c, c < M0.next → M.get c = M0.get c
  next : M0.next ≤ M.next
  A : TR M tc bm rc s l
  bt : M0.next ≤ bm
  br : M0.next ≤ rc
  bs : ∀ c, s.blk = some c → M0.next ≤ c
theorem LSO.step {M0 M M' : Mem} {tc bm rc : Nat} {s : V} {l l' : Tr} (h : LSO M0 M tc bm rc s l) (ht : StepTo M tc bm rc s M' l') : ∃ s', LSO M0 M' tc bm rc s' l' := by
  obtain ⟨s', t1, t2, t3, t4⟩ := ht
  have hbt := h.bt
  have hbr := h.br
  refine ⟨s', fun c hc => ?_, Nat.le_trans h.next t3, t1, h.bt, h.br, fun c hc => ?_⟩
  · rw [t4 c (Nat.lt_of_lt_of_le hc h.next) (by omega) (by omega) (fun e => by have := h.bs c e; omega)]
    exact h.old c hc
  · rcases t2 with e | t2
    · exact h.bs c (e ▸ hc)
    · exact Nat.le_trans h.next (t2 c hc)

end Go.Am.Tryz.O


/- The law OrderTrees answers true. -/
namespace Go.Am.Tryz.O
open Go Go.Am Go.Proofs Go.Sort Go.Shelf
set_option maxRecDepth 100000
set_option linter.unusedSimpArgs false
set_option linter.unusedVariables false

/-- A row of siblings in memory. -/
def SlB (M : Mem) (v : V) (xs : List Sb) : Prop := SlR elSb M v xs ∧ ∀ b, v.blk = some b → b < M.next
theorem SlB.grew {M M' : Mem} {v : V} {xs : List Sb} (h : SlB M v xs) (hG : Grew M M') : SlB M' v xs := ⟨h.1.keep fun b hb => hG.old b (h.2 b hb), fun b hb => Nat.lt_of_lt_of_le (h.2 b hb) hG.next⟩
theorem SlB.of {lo : Nat} {M : Mem} {v : V} {xs : List Sb} (h : Hold lo M 3 v xs.length (elSb.all xs)) : SlB M v xs := ⟨Go.Am.Hold.slR (e := elSb) h, fun b hb => (h.blk_le hb).2.1⟩
theorem callT_abs {D : Decls} {n : Nat} {f : FuncId} {args : List V} {dst : Option Nat} {fr : Fr} {M : Mem} {l : List Item} {l' : Tg l} {K : Fr → Mem → Prop} {k : Tg K} (P : Fr → Prop) (h : P fr) (hk : ∀ fr, P fr → callT D n f args dst fr M l' k) : callT D n f args dst fr M l' k := hk fr h
end Go.Am.Tryz.O


/- maps.Clone of a tree's map as a part, by the kit's contract; Tree.Clone. -/
namespace Go.Proofs
open Go.Shelf
def Tryz.cloneT_ren : Go.Shelf.Ren := ⟨fun | 5 => 118 | 7 => 119 | n => n, fun | 23 => 110 | 25 => 24 | 3 => 39 | 4 => 4 | 20 => 20 | n => n, fun | n => n⟩
theorem Tryz.cloneT : Go.Proofs.SlLaysW.n5 Tryz.prog Tryz.cloneT_ren := {
  mixed := by kernel_rfl
  f5 := ⟨Tryz.f118.name, by decide, Tryz.func118.trans (congrArg some (by kernel_rfl))⟩
  f7 := Tryz.func119.trans (congrArg some (by kernel_rfl))
  t4 := Tryz.underlying4
  a4 := Tryz.isAgg4
  z4 := Tryz.sizeOf4
  v4 := Tryz.zeroValue4
  t20 := Tryz.underlying20
  a20 := Tryz.isAgg20
  z20 := Tryz.sizeOf20
  v20 := Tryz.zeroValue20
  t23 := Tryz.underlying110
  a23 := Tryz.isAgg110
  z23 := Tryz.sizeOf110
  v23 := Tryz.zeroValue110 }
end Go.Proofs
namespace Go.Am.Tryz
open Go Go.Am Go.Proofs Go.Sort Go.Shelf
set_option maxRecDepth 100000
set_option linter.unusedSimpArgs false
set_option linter.unusedVariables false

def pClone (args : List V) (M : Mem) : Option (V × Mem) :=
  match args with
  | [.map (some b)] => (match M.get b with
    | some (.map es) => some (.map (some M.next), M.push (.map es))
    | _ => none)
  | _ => none
theorem pClone_ok : CallOK Tryz.prog gl0 fun f' args M => if f' = F_maps_Clone_Stamp_Spot then pClone args M else none := by
  intro f' args M v M' he
  simp only at he
  split at he
  · rename_i e
    subst e
    unfold pClone at he
    split at he
    · rename_i b
      split at he
      · rename_i es hb
        cases he
        refine ⟨⟨_, Tryz.func118, (by kernel_rfl), (by kernel_rfl)⟩, fun E w args' hR hG hA => ?_⟩
        generalize hq : args'.toList = q at hA
        cases hA with
        | cons h1 t =>
          cases t
          cases h1 with
          | map hE =>
            rename_i c d k
            obtain rfl : args' = #[.map (some c)] := by cases args'; simp_all
            obtain ⟨o, ho, hor⟩ := hR.at_ b c d k hE
            rw [hb] at ho
            cases ho
            obtain ⟨ents, clock, hx, hER, hborn⟩ := hor
            have hc := AnyW.maps_Clone Tryz.cloneT c ents clock w hx
            refine hc.mono fun e w' ⟨he, hw⟩ => ?_
            subst hw
            have hle := Emb.more_le (x := (w.heap.size, 0, 0)) (hR.fresh (Nat.le_refl M.next))
            obtain ⟨r1, r2⟩ := hR.alloc (o := .map es) (x := .map ents clock) (k := 0) ⟨ents, clock, rfl, ⟨hER.1.mono hle, hER.2.mono hle⟩, hborn⟩
            exact ⟨_, _, he, .map (Emb.more_same _ _ _), r1, r2⟩
      · cases he
    · cases he
  · cases he
end Go.Am.Tryz


/- maps.Equal of two trees' maps, as a part. -/
namespace Go.Am.Tryz
open Go Go.Am Go.Proofs Go.Sort Go.Shelf
set_option maxRecDepth 100000
set_option linter.unusedSimpArgs false
set_option linter.unusedVariables false

theorem sp_same (a b : Spot) : vsame ⟨true, [.int .i64, .int .i64, .str]⟩ (.agg (spC a)) (.agg (spC b)) = some (decide (a = b)) := by
  obtain ⟨⟨a1, a2⟩, a3⟩ := a
  obtain ⟨⟨b1, b2⟩, b3⟩ := b
  simp only [spC]
  rw [same_spot]
  simp [Prod.ext_iff, and_assoc]

/-- Do two maps tell the same of the first one's keys? -/
def eqB (l l' : Tr) : Bool := decide (l.length = l'.length) && (keysS l).all fun x => decide (getS l' x = getS l x)

theorem enc_at {l : Tr} (hn : (keysS l).Nodup) {i : Nat} {kv : V × V} (h : (encM l)[i]? = some kv) : ∃ x s, kv = (.agg (stC x), .agg (spC s)) ∧ x = (keysS l).getD i (0, 0) ∧ getS l x = some s ∧ x ∈ keysS l := by
  simp only [encM, List.getElem?_map, Option.map_eq_some_iff] at h
  obtain ⟨p, h1, rfl⟩ := h
  have hm := List.mem_of_getElem? h1
  refine ⟨p.1, p.2, rfl, ?_, get_of_in hn hm, List.mem_map_of_mem (f := (·.1)) hm⟩
  simp [keysS, List.getD_eq_getElem?_getD, h1]

set_option maxHeartbeats 2000000 in
theorem Equal_loop (it b1 b2 : Nat) (l l' : Tr) (hnd : (keysS l).Nodup) (ents : List MapEntry) (clock : Nat) (hl : ents.length = (keysS l).length) (hborn : Born ents clock) (M0 : Mem)
    (hb1 : M0.get b1 = some (.rmap (encM l) ents clock)) (hb2 : mapAt M0 b2 = some (encM l')) (l1 : b1 < M0.next) (l2 : b2 < M0.next) (hn1 : b1 ≠ it) (hn2 : b2 ≠ it)
    (Q : XQ) (hQ : ∀ fr M, (∀ x ∈ keysS l, getS l' x = getS l x) → (∀ c, c < M0.next → c ≠ it → M.get c = M0.get c) → Q (.exit 0) fr M) (hQx : ∀ fr M, (∃ x ∈ keysS l, getS l' x ≠ getS l x) → (∀ c, c < M0.next → c ≠ it → M.get c = M0.get c) → fr.rd 4 = .bool false → Q .ret fr M) :
    ∀ (f : Nat) (idx rest : List Nat) (seen : Array Nat) (pre : List St) (fr : Fr) (M : Mem), rest.length = f → Came ents (keysS l) seen pre idx rest → (∀ x ∈ pre, getS l' x = getS l x) → (∀ c, c < M0.next → c ≠ it → M.get c = M0.get c) → M0.next ≤ M.next → it < M0.next → M.get it = some (.mapIter (some b1) clock seen clock) → fr.rd 1 = .map (some b2) → fr.rd 15 = .ptr (some (it, 0)) →
    roundsX (WX Tryz.prog gl0 34 X_maps_Equal_Stamp_Spot_9 false) (f + 1) fr M Q := by
  intro f
  induction f with
  | zero =>
    intro idx rest seen pre fr M hf hC hpre hk hn hlt hit h1 h15
    rw [rounds_x_succ]
    refine xw_of ?_
    unfold X_maps_Equal_Stamp_Spot_9
    simp -dsimp only [↓x_seq', ↓x_ops, ↓x_skip, ↓x_ret, ↓x_exit, ↓x_block', ↓x_cond', cond_true', cond_false', ↓i_nil, ↓i_plain, ↓i_guard, xs_val, xs_call, xs_yield, xg_true, xg_false, ↓n_normal, ↓n_ret, ↓n_exit, ↓b_normal, ↓b_ret, ↓b_exit, ↓xe_normal, ↓xe_ret, e_some, yieldOf, go_sem, ↓reduceIte, Nat.reduceEqDiff, Nat.reduceLT, Nat.reduceSub, X_maps_Equal_Stamp_Spot_4]
    refine i_next (it := it) (b := b1) (clock := clock) (seen := seen) (show fr.rd 15 = _ from h15) hit ((hk _ l1 hn1).trans hb1) ?_ ?_
    · intro hfil
      simp -dsimp only [↓x_seq', ↓x_ops, ↓x_skip, ↓x_ret, ↓x_exit, ↓x_block', ↓x_cond', cond_true', cond_false', ↓i_nil, ↓i_plain, ↓i_guard, xs_val, xs_call, xs_yield, xg_true, xg_false, ↓n_normal, ↓n_ret, ↓n_exit, ↓b_normal, ↓b_ret, ↓b_exit, ↓xe_normal, ↓xe_ret, e_some, yieldOf, go_sem, ↓reduceIte, Nat.reduceEqDiff, Nat.reduceLT, Nat.reduceSub, List.getElem?_cons_zero]
      exact hQ _ _ (fun x hx => hpre x ((hC.done hborn hl hfil).mem_iff.mpr hx)) hk
    · intro i e kv hi hne hkv
      have := (hC.step hl hi hne).1
      rw [List.eq_nil_of_length_eq_zero hf] at this
      cases this
  | succ f ih =>
    intro idx rest seen pre fr M hf hC hpre hk hn hlt hit h1 h15
    rw [rounds_x_succ]
    refine xw_of ?_
    unfold X_maps_Equal_Stamp_Spot_9
    simp -dsimp only [↓x_seq', ↓x_ops, ↓x_skip, ↓x_ret, ↓x_exit, ↓x_block', ↓x_cond', cond_true', cond_false', ↓i_nil, ↓i_plain, ↓i_guard, xs_val, xs_call, xs_yield, xg_true, xg_false, ↓n_normal, ↓n_ret, ↓n_exit, ↓b_normal, ↓b_ret, ↓b_exit, ↓xe_normal, ↓xe_ret, e_some, yieldOf, go_sem, ↓reduceIte, Nat.reduceEqDiff, Nat.reduceLT, Nat.reduceSub, X_maps_Equal_Stamp_Spot_4]
    refine i_next (it := it) (b := b1) (clock := clock) (seen := seen) (show fr.rd 15 = _ from h15) hit ((hk _ l1 hn1).trans hb1) ?_ ?_
    · intro hfil
      simp -dsimp only [↓x_seq', ↓x_ops, ↓x_skip, ↓x_ret, ↓x_exit, ↓x_block', ↓x_cond', cond_true', cond_false', ↓i_nil, ↓i_plain, ↓i_guard, xs_val, xs_call, xs_yield, xg_true, xg_false, ↓n_normal, ↓n_ret, ↓n_exit, ↓b_normal, ↓b_ret, ↓b_exit, ↓xe_normal, ↓xe_ret, e_some, yieldOf, go_sem, ↓reduceIte, Nat.reduceEqDiff, Nat.reduceLT, Nat.reduceSub, List.getElem?_cons_zero]
      exact hQ _ _ (fun x hx => hpre x ((hC.done hborn hl hfil).mem_iff.mpr hx)) hk
    · intro i e kv hi hne hkv
      obtain ⟨hir, hC'⟩ := hC.step hl hi hne
      obtain ⟨x, s, hkv2, hx, hgx, hxm⟩ := enc_at hnd hkv
      rw [← hx] at hC'
      rw [hkv2] at hkv ⊢
      have hit1 : (M.set it (.mapIter (some b1) clock (seen.push e.born) clock)).get it = some (.mapIter (some b1) clock (seen.push e.born) clock) := Mem.get_set_same _ _ _
      have hk1 : ∀ c, c < M0.next → c ≠ it → (M.set it (.mapIter (some b1) clock (seen.push e.born) clock)).get c = M0.get c := fun c hc hne => (Mem.get_set_ne _ _ hne).trans (hk c hc hne)
      have hnn : (M.set it (.mapIter (some b1) clock (seen.push e.born) clock)).next = M.next := rfl
      generalize M.set it (.mapIter (some b1) clock (seen.push e.born) clock) = M1 at *
      simp -dsimp only [↓x_seq', ↓x_ops, ↓x_skip, ↓x_ret, ↓x_exit, ↓x_block', ↓x_cond', cond_true', cond_false', ↓i_nil, ↓i_plain, ↓i_guard, xs_val, xs_call, xs_yield, xg_true, xg_false, ↓n_normal, ↓n_ret, ↓n_exit, ↓b_normal, ↓b_ret, ↓b_exit, ↓xe_normal, ↓xe_ret, e_some, yieldOf, go_sem, ↓reduceIte, Nat.reduceEqDiff, Nat.reduceLT, Nat.reduceSub, List.getElem?_cons_zero, X_maps_Equal_Stamp_Spot_5]
      refine i_entry (it := it) (b := b1) (since := clock) (clock := clock) (seen := seen.push e.born) (by simp only [go_sem, ↓reduceIte, Nat.reduceEqDiff, Nat.reduceLT, Nat.reduceSub, h15]) hit1 ((hk1 _ l1 hn1).trans hb1) i e _ hi (by simp) hkv ?_
      have hcn : V.cells (.agg (stC x)) = stC x := rfl
      have hcs : ∀ s, V.cells (.agg (spC s)) = spC s := fun _ => rfl
      have w5 := write_full (M := (M1.push (.cells [.int .i64 0, .int .i64 0] false)).push (.cells [.int .i64 0, .int .i64 0, .str []] false)) (b := M1.next) (cs := [.int .i64 0, .int .i64 0]) (vs := stC x) (by rw [Mem.get_push_ne _ _ (by simp)]; exact Mem.get_push_same _ _) rfl rfl
      have w6 := write_full (M := ((M1.push (.cells [.int .i64 0, .int .i64 0] false)).push (.cells [.int .i64 0, .int .i64 0, .str []] false)).set M1.next (.cells (stC x) false)) (b := M1.next + 1) (cs := [.int .i64 0, .int .i64 0, .str []]) (vs := spC s) (by rw [Mem.get_set_ne _ _ (by omega)]; exact Mem.get_push_same (M1.push _) _) rfl rfl
      simp -dsimp only [↓x_seq', ↓x_ops, ↓x_skip, ↓x_ret, ↓x_exit, ↓x_block', ↓x_cond', cond_true', cond_false', ↓i_nil, ↓i_plain, ↓i_guard, xs_val, xs_call, xs_yield, xg_true, xg_false, ↓n_normal, ↓n_ret, ↓n_exit, ↓b_normal, ↓b_ret, ↓b_exit, ↓xe_normal, ↓xe_ret, e_some, yieldOf, go_sem, ↓reduceIte, Nat.reduceEqDiff, Nat.reduceLT, Nat.reduceSub, List.getElem?_cons_zero, List.getElem?_cons_succ, Mem.next_push, vstore, hcn, hcs, stC_len, spC_len, w5, w6, Nat.reduceEqDiff]
      have q5 : ((((M1.push (.cells [.int .i64 0, .int .i64 0] false)).push (.cells [.int .i64 0, .int .i64 0, .str []] false)).set M1.next (.cells (stC x) false)).set (M1.next + 1) (.cells (spC s) false)).get M1.next = some (.cells (stC x) false) := by rw [Mem.get_set_ne _ _ (by omega), Mem.get_set_same]
      have q6 : ((((M1.push (.cells [.int .i64 0, .int .i64 0] false)).push (.cells [.int .i64 0, .int .i64 0, .str []] false)).set M1.next (.cells (stC x) false)).set (M1.next + 1) (.cells (spC s) false)).get (M1.next + 1) = some (.cells (spC s) false) := Mem.get_set_same _ _ _
      have qk : ∀ c, c < M1.next → ((((M1.push (.cells [.int .i64 0, .int .i64 0] false)).push (.cells [.int .i64 0, .int .i64 0, .str []] false)).set M1.next (.cells (stC x) false)).set (M1.next + 1) (.cells (spC s) false)).get c = M1.get c := fun c hc => by rw [Mem.get_set_ne _ _ (by omega), Mem.get_set_ne _ _ (by omega), Mem.get_push_ne _ _ (by simp; omega), Mem.get_push_ne _ _ (by omega)]
      have qn : ((((M1.push (.cells [.int .i64 0, .int .i64 0] false)).push (.cells [.int .i64 0, .int .i64 0, .str []] false)).set M1.next (.cells (stC x) false)).set (M1.next + 1) (.cells (spC s) false)).next = M1.next + 2 := rfl
      clear w5 w6
      generalize (((M1.push (.cells [.int .i64 0, .int .i64 0] false)).push (.cells [.int .i64 0, .int .i64 0, .str []] false)).set M1.next (.cells (stC x) false)).set (M1.next + 1) (.cells (spC s) false) = M2 at *
      have hm2 : mapAt M2 b2 = some (encM l') := mapAt_keep hb2 ((qk _ (by omega)).trans (hk1 _ l2 hn2))
      have hlk := look_is hm2 x
      have hrn : rdCells (stC x) 0 2 = some (stC x) := rfl
      have hrs : ∀ s, rdCells (spC s) 0 3 = some (spC s) := fun _ => rfl
      have w7 := write_full (M := M2.push (.cells [.int .i64 0, .int .i64 0, .str []] false)) (b := M2.next) (vs := spC ((getS l' x).getD sp0)) (Mem.get_push_same _ _) rfl rfl
      simp -dsimp only [↓x_seq', ↓x_ops, ↓x_skip, ↓x_ret, ↓x_exit, ↓x_block', ↓x_cond', cond_true', cond_false', ↓i_nil, ↓i_plain, ↓i_guard, xs_val, xs_call, xs_yield, xg_true, xg_false, ↓n_normal, ↓n_ret, ↓n_exit, ↓b_normal, ↓b_ret, ↓b_exit, ↓xe_normal, ↓xe_ret, e_some, yieldOf, go_sem, ↓reduceIte, Nat.reduceEqDiff, Nat.reduceLT, Nat.reduceSub, X_maps_Equal_Stamp_Spot_6, h1, vload, vptr, Mem.read, q5, hrn, hlk, vof, lookV_parts, List.getElem?_cons_zero, List.getElem?_cons_succ, vstore, hcs, spC_len, w7, Nat.reduceEqDiff]
      have p6 : ((M2.push (.cells [.int .i64 0, .int .i64 0, .str []] false)).set M2.next (.cells (spC ((getS l' x).getD sp0)) false)).get (M1.next + 1) = some (.cells (spC s) false) := by rw [Mem.get_set_ne _ _ (by omega), Mem.get_push_ne _ _ (by omega)]; exact q6
      have p7 : ((M2.push (.cells [.int .i64 0, .int .i64 0, .str []] false)).set M2.next (.cells (spC ((getS l' x).getD sp0)) false)).get M2.next = some (.cells (spC ((getS l' x).getD sp0)) false) := Mem.get_set_same _ _ _
      have pk : ∀ c, c < M1.next → ((M2.push (.cells [.int .i64 0, .int .i64 0, .str []] false)).set M2.next (.cells (spC ((getS l' x).getD sp0)) false)).get c = M1.get c := fun c hc => by rw [Mem.get_set_ne _ _ (by omega), Mem.get_push_ne _ _ (by omega)]; exact qk c hc
      have pn : ((M2.push (.cells [.int .i64 0, .int .i64 0, .str []] false)).set M2.next (.cells (spC ((getS l' x).getD sp0)) false)).next = M1.next + 3 := by rw [Mem.next_set, Mem.next_push, qn]
      clear w7
      generalize (M2.push (.cells [.int .i64 0, .int .i64 0, .str []] false)).set M2.next (.cells (spC ((getS l' x).getD sp0)) false) = M3 at *
      have hkeep : ∀ c, c < M0.next → c ≠ it → M3.get c = M0.get c := fun c hc hne => (pk c (by omega)).trans (hk1 c hc hne)
      cases hs : getS l' x with
      | none =>
        simp -dsimp only [↓x_seq', ↓x_ops, ↓x_skip, ↓x_ret, ↓x_exit, ↓x_block', ↓x_cond', cond_true', cond_false', ↓i_nil, ↓i_plain, ↓i_guard, xs_val, xs_call, xs_yield, xg_true, xg_false, ↓n_normal, ↓n_ret, ↓n_exit, ↓b_normal, ↓b_ret, ↓b_exit, ↓xe_normal, ↓xe_ret, e_some, yieldOf, go_sem, ↓reduceIte, Nat.reduceEqDiff, Nat.reduceLT, Nat.reduceSub, X_maps_Equal_Stamp_Spot_7, X_maps_Equal_Stamp_Spot_8, Option.isSome_none, Bool.not_false]
        exact hQx _ _ ⟨x, hxm, by rw [hs, hgx]; simp⟩ hkeep (by simp only [go_sem, ↓reduceIte, Nat.reduceEqDiff, Nat.reduceLT, Nat.reduceSub])
      | some s' =>
        rw [hs] at p7
        by_cases hss : s = s'
        · simp -dsimp only [↓x_seq', ↓x_ops, ↓x_skip, ↓x_ret, ↓x_exit, ↓x_block', ↓x_cond', cond_true', cond_false', ↓i_nil, ↓i_plain, ↓i_guard, xs_val, xs_call, xs_yield, xg_true, xg_false, ↓n_normal, ↓n_ret, ↓n_exit, ↓b_normal, ↓b_ret, ↓b_exit, ↓xe_normal, ↓xe_ret, e_some, yieldOf, go_sem, ↓reduceIte, Nat.reduceEqDiff, Nat.reduceLT, Nat.reduceSub, X_maps_Equal_Stamp_Spot_7, X_maps_Equal_Stamp_Spot_8, Option.isSome_some, Bool.not_true, vload, vptr, Mem.read, p6, p7, hrs, Option.getD_some, sp_same, hss, decide_true]
          have hpre2 : ∀ y ∈ pre ++ [x], getS l' y = getS l y := fun y hy => by
            rcases List.mem_append.mp hy with hy | hy
            · exact hpre y hy
            · simp only [List.mem_singleton] at hy
              rw [hy, hs, hgx, hss]
          have hf2 : (rest.erase i).length = f := by rw [List.length_erase_of_mem hir]; omega
          have hit3 := (pk it (by omega)).trans hit1
          have hn3 : M0.next ≤ M3.next := by omega
          have ih2 := fun fr => ih (idx ++ [i]) (rest.erase i) (seen.push e.born) (pre ++ [x]) fr M3 hf2 hC' hpre2 hkeep hn3 hlt hit3
          refine ih2 _ ?_ ?_
          all_goals simp only [go_sem, ↓reduceIte, Nat.reduceEqDiff, Nat.reduceLT, Nat.reduceSub, h1, h15]
        · simp -dsimp only [↓x_seq', ↓x_ops, ↓x_skip, ↓x_ret, ↓x_exit, ↓x_block', ↓x_cond', cond_true', cond_false', ↓i_nil, ↓i_plain, ↓i_guard, xs_val, xs_call, xs_yield, xg_true, xg_false, ↓n_normal, ↓n_ret, ↓n_exit, ↓b_normal, ↓b_ret, ↓b_exit, ↓xe_normal, ↓xe_ret, e_some, yieldOf, go_sem, ↓reduceIte, Nat.reduceEqDiff, Nat.reduceLT, Nat.reduceSub, X_maps_Equal_Stamp_Spot_7, X_maps_Equal_Stamp_Spot_8, Option.isSome_some, Bool.not_true, vload, vptr, Mem.read, p6, p7, hrs, Option.getD_some, sp_same, hss, decide_false, Bool.not_false]
          exact hQx _ _ ⟨x, hxm, by rw [hs, hgx]; intro h; exact hss (Option.some.inj h).symm⟩ hkeep (by simp only [go_sem, ↓reduceIte, Nat.reduceEqDiff, Nat.reduceLT, Nat.reduceSub])

theorem Equal_runs (M : Mem) (b1 b2 : Nat) (l l' : Tr) (hnd : (keysS l).Nodup) (ents : List MapEntry) (clock : Nat) (hl : ents.length = (keysS l).length) (hborn : Born ents clock)
    (hb1 : M.get b1 = some (.rmap (encM l) ents clock)) (hb2 : mapAt M b2 = some (encM l')) (l1 : b1 < M.next) (l2 : b2 < M.next) :
    XP F_maps_Equal_Stamp_Spot [.map (some b1), .map (some b2)] M fun v M' => v = .bool (eqB l l') ∧ ∀ c, c < M.next → M'.get c = M.get c := by
  refine XR_opq fun R hR => ?_
  refine XRuns.walk mixed Tryz.func124 b_maps_Equal_Stamp_Spot n_maps_Equal_Stamp_Spot r_maps_Equal_Stamp_Spot (by rfl) ?_
  unfold X_maps_Equal_Stamp_Spot
  have hm1 : mapAt M b1 = some (encM l) := by unfold mapAt; rw [hb1]
  by_cases hln : l.length = l'.length
  · have hlni : (l.length : Int) = (l'.length : Int) := by omega
    simp -dsimp only [↓x_seq', ↓x_ops, ↓x_skip, ↓x_ret, ↓x_exit, ↓x_block', ↓x_cond', cond_true', cond_false', ↓i_nil, ↓i_plain, ↓i_guard, xs_val, xs_call, xs_yield, xg_true, xg_false, ↓n_normal, ↓n_ret, ↓n_exit, ↓b_normal, ↓b_ret, ↓b_exit, ↓xe_normal, ↓xe_ret, e_some, yieldOf, go_sem, ↓reduceIte, Nat.reduceEqDiff, Nat.reduceLT, Nat.reduceSub, X_maps_Equal_Stamp_Spot_0, X_maps_Equal_Stamp_Spot_1, X_maps_Equal_Stamp_Spot_3, enc_lenI hm1, enc_lenI hb2, hlni, ne_eq, not_true_eq_false, decide_false]
    refine i_range (b := b1) (clock := clock) (by simp only [go_sem, ↓reduceIte, Nat.reduceEqDiff, Nat.reduceLT, Nat.reduceSub]) hb1 ?_
    have hit : (M.push (.mapIter (some b1) clock #[] clock)).get M.next = some (.mapIter (some b1) clock #[] clock) := Mem.get_push_same _ _
    have hp : ∀ c, c < M.next → (M.push (.mapIter (some b1) clock #[] clock)).get c = M.get c := fun c hc => Mem.get_push_ne _ _ (by omega)
    have hnx : (M.push (.mapIter (some b1) clock #[] clock)).next = M.next + 1 := rfl
    simp -dsimp only [↓x_seq', ↓x_ops, ↓x_skip, ↓x_ret, ↓x_exit, ↓x_block', ↓x_cond', cond_true', cond_false', ↓i_nil, ↓i_plain, ↓i_guard, xs_val, xs_call, xs_yield, xg_true, xg_false, ↓n_normal, ↓n_ret, ↓n_exit, ↓b_normal, ↓b_ret, ↓b_exit, ↓xe_normal, ↓xe_ret, e_some, yieldOf, go_sem, ↓reduceIte, Nat.reduceEqDiff, Nat.reduceLT, Nat.reduceSub]
    refine ⟨(keysS l).length + 1, Equal_loop M.next b1 b2 l l' hnd ents clock hl hborn _ ((hp _ l1).trans hb1) (mapAt_keep hb2 (hp _ l2)) (by omega) (by omega) (by omega) (by omega) _ ?_ ?_ (keysS l).length [] (List.range (keysS l).length) #[] [] _ _ (by simp) ⟨by simp, rfl, rfl⟩ (fun x hx => by cases hx) (fun _ _ _ => rfl) (Nat.le_refl _) (by omega) hit ?_ ?_⟩
    · intro fr M' hall hk
      simp -dsimp only [↓x_seq', ↓x_ops, ↓x_skip, ↓x_ret, ↓x_exit, ↓x_block', ↓x_cond', cond_true', cond_false', ↓i_nil, ↓i_plain, ↓i_guard, xs_val, xs_call, xs_yield, xg_true, xg_false, ↓n_normal, ↓n_ret, ↓n_exit, ↓b_normal, ↓b_ret, ↓b_exit, ↓xe_normal, ↓xe_ret, e_some, yieldOf, go_sem, ↓reduceIte, Nat.reduceEqDiff, Nat.reduceLT, Nat.reduceSub, X_maps_Equal_Stamp_Spot_10]
      refine hR _ _ ⟨?_, fun c hc => (hk c (by omega) (by omega)).trans (hp c hc)⟩
      rw [eqB, decide_eq_true hln, Bool.true_and, List.all_eq_true.mpr fun x hx => decide_eq_true (hall x hx)]
    · intro fr M' hex hk h4
      simp -dsimp only [↓x_seq', ↓x_ops, ↓x_skip, ↓x_ret, ↓x_exit, ↓x_block', ↓x_cond', cond_true', cond_false', ↓i_nil, ↓i_plain, ↓i_guard, xs_val, xs_call, xs_yield, xg_true, xg_false, ↓n_normal, ↓n_ret, ↓n_exit, ↓b_normal, ↓b_ret, ↓b_exit, ↓xe_normal, ↓xe_ret, e_some, yieldOf, go_sem, ↓reduceIte, Nat.reduceEqDiff, Nat.reduceLT, Nat.reduceSub, h4]
      refine hR _ _ ⟨?_, fun c hc => (hk c (by omega) (by omega)).trans (hp c hc)⟩
      obtain ⟨x, hx, hne⟩ := hex
      have : (keysS l).all (fun x => decide (getS l' x = getS l x)) = false := by
        rw [List.all_eq_false]
        exact ⟨x, hx, by simpa using hne⟩
      rw [eqB, this, Bool.and_false]
    all_goals simp only [go_sem, ↓reduceIte, Nat.reduceEqDiff, Nat.reduceLT, Nat.reduceSub]
  · have hlni : ¬ (l.length : Int) = (l'.length : Int) := by omega
    simp -dsimp only [↓x_seq', ↓x_ops, ↓x_skip, ↓x_ret, ↓x_exit, ↓x_block', ↓x_cond', cond_true', cond_false', ↓i_nil, ↓i_plain, ↓i_guard, xs_val, xs_call, xs_yield, xg_true, xg_false, ↓n_normal, ↓n_ret, ↓n_exit, ↓b_normal, ↓b_ret, ↓b_exit, ↓xe_normal, ↓xe_ret, e_some, yieldOf, go_sem, ↓reduceIte, Nat.reduceEqDiff, Nat.reduceLT, Nat.reduceSub, X_maps_Equal_Stamp_Spot_0, X_maps_Equal_Stamp_Spot_1, X_maps_Equal_Stamp_Spot_2, enc_lenI hm1, enc_lenI hb2, hlni, ne_eq, not_false_eq_true, decide_true]
    exact hR _ _ ⟨by rw [eqB, decide_eq_false hln, Bool.false_and], fun _ _ => rfl⟩

def pEqual (args : List V) (M : Mem) : Option KeepR :=
  match args with
  | [.map (some b1), .map (some b2)] => (match M.get b1, M.get b2 with
    | some (.map es), some (.map es') => (decM es).bind fun l => (decM es').bind fun l' => cond (decide (keysS l).Nodup) (some (.flat (.bool (eqB l l')))) none
    | _, _ => none)
  | _ => none
theorem pEqual_ok : CallOK Tryz.prog gl0 fun f' args M => if f' = F_maps_Equal_Stamp_Spot then (pEqual args M).map fun r => r.res M else none := by
  refine callOK_keep ⟨_, Tryz.func124, (by kernel_rfl), (by kernel_rfl)⟩ ?_
  intro args M r h hwf
  unfold pEqual at h
  split at h
  · rename_i b1 b2
    split at h
    · rename_i es es' hb1 hb2
      simp only [Option.bind_eq_some_iff] at h
      obtain ⟨l, hl, l', hl', h⟩ := h
      obtain ⟨hnd, h⟩ := cond_some h
      have hnd := of_decide_eq_true hnd
      cases h
      have e1 := decM_is hl
      have e2 := decM_is hl'
      subst e1 e2
      refine ⟨[b1], fun E w us hR hA b hb => ?_, fun Mz hz => ?_⟩
      · simp only [List.mem_singleton] at hb
        subst hb
        refine ⟨⟨_, hb1⟩, ?_⟩
        cases hA with
        | cons h1 t => cases h1 with
          | map hE => exact ⟨_, hE⟩
      · obtain ⟨es'', ents, clock, hz1, hz2, hz3, hz4⟩ := hz.at_ b1 (by simp)
        rw [hb1] at hz1
        cases hz1
        have lt1 := lt_of_get hwf hb1
        have lt2 := lt_of_get hwf hb2
        rw [← hz.next] at lt1 lt2
        have hm2 : mapAt Mz b2 = some (encM l') := by
          by_cases e : b2 = b1
          · subst e
            rw [hb1] at hb2
            simp only [Option.some.injEq, O.map.injEq] at hb2
            unfold mapAt
            rw [hz2]
            simp only [hb2]
          · unfold mapAt
            rw [hz.other b2 (by simpa using e), hb2]
        refine (Equal_runs Mz b1 b2 l l' hnd ents clock (by rw [hz3, enc_len, keys_len]) hz4 hz2 hm2 lt1 lt2).mono ?_
        intro v M' hv
        exact ⟨fun c hc => hv.2 c (by rw [hz.next]; exact hc), rfl, hv.1⟩
    · cases h
  · cases h
end Go.Am.Tryz


/- slices.Reverse, rotateLeft, rotateRight over a graph's entries. -/
namespace Go.Am.Tryz.O
open Go Go.Am Go.Proofs Go.Sort Go.Shelf
set_option maxRecDepth 100000
set_option linter.unusedSimpArgs false
set_option linter.unusedVariables false

theorem read_rows {M : Mem} {b o n : Nat} {cs : List V} {ro : Bool} (h : M.get b = some (.cells cs ro)) : M.read b o n = rdCells cs o n := by simp only [Mem.read, h]

theorem Rev_loop (b n : Nat) (cap : Cap) (pre post : List V) (hn : n < 2 ^ 40) {Q : AExit → Fr → Mem → Prop} (tot : List V → Prop) :
    ∀ (f : Nat) (A W D : List (List V)) (fr : Fr) (M M0 : Mem), W.length ≤ f → Rows 16 A → Rows 16 W → A.length + W.length + D.length = n →
      (∀ fr M', Upd M0 b (.cells (pre ++ ((A ++ (W.reverse ++ D)).flatten ++ post)) false) M' → Q (.exit 0) fr M') →
      Upd M0 b (.cells (pre ++ ((A ++ (W ++ D)).flatten ++ post)) false) M → fr.rd 0 = .slice (some (b, pre.length)) n cap → fr.rd 2 = .int .i64 (A.length : Int) → fr.rd 3 = .int .i64 ((A.length : Int) + W.length - 1) →
      WC O.D2 28 (.loop A_slices_Reverse_entry_4) fr M Q := by
  intro f
  induction f with
  | zero =>
    intro A W D fr M M0 hW hA hRW hl hE hM h0 h2 h3
    have : W = [] := List.eq_nil_of_length_eq_zero (by omega)
    subst this
    refine WC.loop (W_of ?_)
    unfold A_slices_Reverse_entry_4
    have : ¬ (A.length : Int) < (A.length : Int) + ([] : List (List V)).length - 1 := by simp <;> omega
    simp -dsimp only [↓w_seq, ↓w_ops, ↓w_skip, ↓w_ret, ↓w_exit, ↓w_scope, ↓w_block, ↓w_cond, cond_true', cond_false', ↓t_nil, ↓t_plain, ↓t_guard, ↓t_gagain, ↓t_again, t_val, t_call, g_true, g_false, ga_true, ga_false, a_val, a_call, ↓n_normal, ↓n_ret, ↓n_exit, ↓b_normal, ↓b_ret, ↓b_exit, ↓e_normal, ↓e_ret, e_some, go_sem, ↓reduceIte, Nat.reduceEqDiff, Nat.reduceLT, Nat.reduceSub, A_slices_Reverse_entry_1, h2, h3, this, decide_false]
    exact hE _ _ hM
  | succ f ih =>
    intro A W D fr M M0 hW hA hRW hl hE hM h0 h2 h3
    match W, hW, hRW, hl, hE, hM, h3 with
    | [], hW, hRW, hl, hE, hM, h3 => exact ih A [] D fr M M0 (by simp) hA hRW hl hE hM h0 h2 h3
    | [x], hW, hRW, hl, hE, hM, h3 =>
      refine WC.loop (W_of ?_)
      unfold A_slices_Reverse_entry_4
      have : ¬ (A.length : Int) < (A.length : Int) + ([x] : List (List V)).length - 1 := by simp
      simp -dsimp only [↓w_seq, ↓w_ops, ↓w_skip, ↓w_ret, ↓w_exit, ↓w_scope, ↓w_block, ↓w_cond, cond_true', cond_false', ↓t_nil, ↓t_plain, ↓t_guard, ↓t_gagain, ↓t_again, t_val, t_call, g_true, g_false, ga_true, ga_false, a_val, a_call, ↓n_normal, ↓n_ret, ↓n_exit, ↓b_normal, ↓b_ret, ↓b_exit, ↓e_normal, ↓e_ret, e_some, go_sem, ↓reduceIte, Nat.reduceEqDiff, Nat.reduceLT, Nat.reduceSub, A_slices_Reverse_entry_1, h2, h3, this, decide_false]
      exact hE _ _ hM
    | x :: y :: W', hW, hRW, hl, hE, hM, h3 =>
      obtain ⟨B, z, hB⟩ : ∃ B z, y :: W' = B ++ [z] := ⟨(y :: W').dropLast, (y :: W').getLast (by simp), (List.dropLast_concat_getLast (by simp)).symm⟩
      rw [hB] at hW hRW hl hE hM h3
      have hlen : (x :: (B ++ [z])).length = B.length + 2 := by simp
      rw [hlen] at hl h3 hW
      have hx := hRW x (List.mem_cons_self ..)
      have hz := hRW z (by simp)
      have hRB : Rows 16 B := fun v hv => hRW v (by simp [hv])
      have hlt : (A.length : Int) < ((A.length + B.length + 1 : Nat) : Int) := by omega
      have hj : (A.length : Int) + ((B.length + 2 : Nat) : Int) - 1 = ((A.length + B.length + 1 : Nat) : Int) := by omega
      have e1 : A.length + B.length + 1 + 1 ≤ n := by omega
      have e2 : A.length + 1 ≤ n := by omega
      have c1 : A ++ (x :: (B ++ [z]) ++ D) = A ++ (x :: (B ++ (z :: D))) := by simp
      have c2 : A ++ (x :: (B ++ (z :: D))) = (A ++ (x :: B)) ++ (z :: D) := by simp
      have hAB : Rows 16 (A ++ (x :: B)) := hA.app fun v hv => (List.mem_cons.1 hv).elim (fun e => e ▸ hx) (hRB v)
      have lAB : (A ++ (x :: B)).length = A.length + B.length + 1 := by simp <;> omega
      have g := hM.at_
      rw [c1] at g
      have r1 : rdCells (pre ++ ((A ++ (x :: (B ++ (z :: D)))).flatten ++ post)) (pre.length + (A.length + B.length + 1) * 16) 16 = some z := by
        rw [c2, ← lAB]; exact rows_rd1 hAB hz.1
      have r2 : rdCells (pre ++ ((A ++ (x :: (B ++ (z :: D)))).flatten ++ post)) (pre.length + A.length * 16) 16 = some x := rows_rd1 hA hx.1
      have tlen : ∀ X : List (List V), Rows 16 X → X.length = A.length + B.length + 2 → (pre ++ ((X ++ D).flatten ++ post)).length = pre.length + ((A.length + B.length + 2) * 16 + D.flatten.length + post.length) := fun X hX hl => by
        simp only [List.length_append, List.flatten_append, hX.len, hl]
      have t1 := tlen (A ++ (x :: (B ++ [z]))) (hA.app hRW) (by simp <;> omega)
      have q1 : A ++ (x :: (B ++ [z])) ++ D = A ++ (x :: (B ++ (z :: D))) := by simp
      rw [q1] at t1
      have w1 : M.write b (pre.length + A.length * 16) z = some (M.set b (.cells (pre ++ ((A ++ (z :: (B ++ (z :: D)))).flatten ++ post)) false)) := by
        rw [write_rows g (by rw [t1, hz.1]; omega) hz.2, rows_wr1 hA hx.1 hz.1]
      have g2 : (M.set b (.cells (pre ++ ((A ++ (z :: (B ++ (z :: D)))).flatten ++ post)) false)).get b = some (.cells (pre ++ ((A ++ (z :: (B ++ (z :: D)))).flatten ++ post)) false) := Mem.get_set_same _ _ _
      have hABz : Rows 16 (A ++ (z :: B)) := hA.app fun v hv => (List.mem_cons.1 hv).elim (fun e => e ▸ hz) (hRB v)
      have lABz : (A ++ (z :: B)).length = A.length + B.length + 1 := by simp <;> omega
      have t2 := tlen (A ++ (z :: (B ++ [z]))) (hA.app fun v hv => (List.mem_cons.1 hv).elim (fun e => e ▸ hz) fun h => hRW v (List.mem_cons_of_mem _ h)) (by simp <;> omega)
      have q2 : A ++ (z :: (B ++ [z])) ++ D = A ++ (z :: (B ++ (z :: D))) := by simp
      rw [q2] at t2
      have w2 : (M.set b (.cells (pre ++ ((A ++ (z :: (B ++ (z :: D)))).flatten ++ post)) false)).write b (pre.length + (A.length + B.length + 1) * 16) x = some ((M.set b (.cells (pre ++ ((A ++ (z :: (B ++ (z :: D)))).flatten ++ post)) false)).set b (.cells (pre ++ ((A ++ (z :: (B ++ (x :: D)))).flatten ++ post)) false)) := by
        rw [write_rows g2 (by rw [t2, hx.1]; omega) hx.2]
        have e : A ++ (z :: (B ++ (z :: D))) = (A ++ (z :: B)) ++ (z :: D) := by simp
        have e' : A ++ (z :: (B ++ (x :: D))) = (A ++ (z :: B)) ++ (x :: D) := by simp
        rw [e, e', ← lABz, rows_wr1 hABz hz.1 hx.1]
      refine WC.loop (W_of ?_)
      unfold A_slices_Reverse_entry_4
      have hcz : V.cells (.agg z) = z := rfl
      have hcx : V.cells (.agg x) = x := rfl
      simp -dsimp only [↓w_seq, ↓w_ops, ↓w_skip, ↓w_ret, ↓w_exit, ↓w_scope, ↓w_block, ↓w_cond, cond_true', cond_false', ↓t_nil, ↓t_plain, ↓t_guard, ↓t_gagain, ↓t_again, t_val, t_call, g_true, g_false, ga_true, ga_false, a_val, a_call, ↓n_normal, ↓n_ret, ↓n_exit, ↓b_normal, ↓b_ret, ↓b_exit, ↓e_normal, ↓e_ret, e_some, go_sem, ↓reduceIte, Nat.reduceEqDiff, Nat.reduceLT, Nat.reduceSub, A_slices_Reverse_entry_1, A_slices_Reverse_entry_2, A_slices_Reverse_entry_3, h0, h2, h3, hj, hlt, e1, e2, decide_true, vload, vptr, Mem.read, g, r1, r2, vstore, hcz, hcx, hz.1, hx.1, w1, w2, Nat.reduceEqDiff]
      have hM2 : Upd M0 b (.cells (pre ++ (((A ++ [z]) ++ (B ++ (x :: D))).flatten ++ post)) false) ((M.set b (.cells (pre ++ ((A ++ (z :: (B ++ (z :: D)))).flatten ++ post)) false)).set b (.cells (pre ++ ((A ++ (z :: (B ++ (x :: D)))).flatten ++ post)) false)) := by
        have e : (A ++ [z]) ++ (B ++ (x :: D)) = A ++ (z :: (B ++ (x :: D))) := by simp
        rw [e]
        exact (hM.trans (Upd.set _ _ _)).trans (Upd.set _ _ _)
      refine ih (A ++ [z]) B (x :: D) _ _ M0 (by omega) (hA.app (Rows.one hz.1 hz.2)) hRB (by simp; omega) ?_ hM2 ?_ ?_ ?_
      · intro fr M' h
        refine hE fr M' ?_
        have e : A ++ ((x :: (B ++ [z])).reverse ++ D) = (A ++ [z]) ++ (B.reverse ++ (x :: D)) := by simp
        rw [e]
        exact h
      · simp only [go_sem, ↓reduceIte, Nat.reduceEqDiff, Nat.reduceLT, Nat.reduceSub, h0]
      · simp only [go_sem, ↓reduceIte, Nat.reduceEqDiff, Nat.reduceLT, Nat.reduceSub, h2, List.length_append, List.length_cons, List.length_nil]
        rw [IntWalk.i64_in _ (by omega)]
        rfl
      · simp only [go_sem, ↓reduceIte, Nat.reduceEqDiff, Nat.reduceLT, Nat.reduceSub, h3, hj, List.length_append, List.length_cons, List.length_nil]
        rw [IntWalk.i64_in _ (by omega)]
        congr 1
        omega

/-- A window of a row is turned. -/
theorem Rev_runs (b : Nat) (cap : Cap) (pre post : List V) (W : List (List V)) (hW : Rows 16 W) (hn : W.length < 2 ^ 40) (M : Mem) (h : M.get b = some (.cells (pre ++ (W.flatten ++ post)) false)) :
    Runs D2 F_slices_Reverse_entry [.slice (some (b, pre.length)) W.length cap] M fun v M' => v = .tup [] ∧ Upd M b (.cells (pre ++ (W.reverse.flatten ++ post)) false) M' := by
  refine R_opq fun R hR => ?_
  refine Runs.walk (F := A_slices_Reverse_entry) rfl (by rfl) (by rfl) ?_
  unfold A_slices_Reverse_entry
  simp -dsimp only [↓w_seq, ↓w_ops, ↓w_skip, ↓w_ret, ↓w_exit, ↓w_scope, ↓w_block, ↓w_cond, cond_true', cond_false', ↓t_nil, ↓t_plain, ↓t_guard, ↓t_gagain, ↓t_again, t_val, t_call, g_true, g_false, ga_true, ga_false, a_val, a_call, ↓n_normal, ↓n_ret, ↓n_exit, ↓b_normal, ↓b_ret, ↓b_exit, ↓e_normal, ↓e_ret, e_some, go_sem, ↓reduceIte, Nat.reduceEqDiff, Nat.reduceLT, Nat.reduceSub, A_slices_Reverse_entry_0]
  refine Rev_loop b W.length cap pre post hn (fun _ => True) W.length [] W [] _ M M (Nat.le_refl _) (Rows.nil _) hW (by simp) ?_ (by simpa using Upd.same h) ?_ ?_ ?_
  · intro fr M' hU
    simp -dsimp only [↓w_seq, ↓w_ops, ↓w_skip, ↓w_ret, ↓w_exit, ↓w_scope, ↓w_block, ↓w_cond, cond_true', cond_false', ↓t_nil, ↓t_plain, ↓t_guard, ↓t_gagain, ↓t_again, t_val, t_call, g_true, g_false, ga_true, ga_false, a_val, a_call, ↓n_normal, ↓n_ret, ↓n_exit, ↓b_normal, ↓b_ret, ↓b_exit, ↓e_normal, ↓e_ret, e_some, go_sem, ↓reduceIte, Nat.reduceEqDiff, Nat.reduceLT, Nat.reduceSub]
    exact hR _ _ ⟨rfl, by simpa using hU⟩
  · simp only [go_sem, ↓reduceIte, Nat.reduceEqDiff, Nat.reduceLT, Nat.reduceSub]
  · simp only [go_sem, ↓reduceIte, Nat.reduceEqDiff, Nat.reduceLT, Nat.reduceSub]
    rfl
  · simp only [go_sem, ↓reduceIte, Nat.reduceEqDiff, Nat.reduceLT, Nat.reduceSub]
    rw [IntWalk.i64_in _ (by omega)]
    congr 1
    simp
theorem rotL_runs (b : Nat) (c : Nat) (pre post : List V) (W U : List (List V)) (hW : Rows 16 W) (hU : Rows 16 U) (hn : W.length + U.length < 2 ^ 40) (hc : W.length + U.length ≤ c) (hu : U ≠ []) (M : Mem) (h : M.get b = some (.cells (pre ++ ((W ++ U).flatten ++ post)) false)) :
    Runs D2 F_slices_rotateLeft_entry [.slice (some (b, pre.length)) (W.length + U.length) (.both 16 c), .int .i64 (W.length : Int)] M fun v M' => v = .tup [] ∧ Upd M b (.cells (pre ++ ((U ++ W).flatten ++ post)) false) M' := by
  refine R_opq fun R hR => ?_
  refine Runs.walk (F := A_slices_rotateLeft_entry) rfl (by rfl) (by rfl) ?_
  unfold A_slices_rotateLeft_entry
  have hul : 0 < U.length := List.length_pos_iff.2 hu
  have s1 : vslice 16 (.slice (some (b, pre.length)) (W.length + U.length) (.both 16 c)) none (some W.length) none = some (.slice (some (b, pre.length)) W.length (.both 16 c)) := by
    simp only [vslice, Option.getD_none, Option.getD_some, Nat.beq_refl, cond_true, ble_iff, decide_eq_true (show W.length ≤ c by omega), decide_eq_true (show 0 ≤ W.length by omega), decide_eq_true (show 0 + 1 ≤ c by omega), Nat.zero_mul, Nat.add_zero, Nat.sub_zero]
  have s2 : vslice 16 (.slice (some (b, pre.length)) (W.length + U.length) (.both 16 c)) (some W.length) none none = some (.slice (some (b, pre.length + W.length * 16)) U.length (.both 16 (c - W.length))) := by
    simp only [vslice, Option.getD_none, Option.getD_some, Nat.beq_refl, cond_true, ble_iff, decide_eq_true (show W.length + U.length ≤ c by omega), decide_eq_true (show W.length ≤ W.length + U.length by omega), decide_eq_true (show W.length + 1 ≤ c by omega), Nat.add_sub_cancel_left]
  simp -dsimp only [↓w_seq, ↓w_ops, ↓w_skip, ↓w_ret, ↓w_exit, ↓w_scope, ↓w_block, ↓w_cond, cond_true', cond_false', ↓t_nil, ↓t_plain, ↓t_guard, ↓t_gagain, ↓t_again, t_val, t_call, g_true, g_false, ga_true, ga_false, a_val, a_call, ↓n_normal, ↓n_ret, ↓n_exit, ↓b_normal, ↓b_ret, ↓b_exit, ↓e_normal, ↓e_ret, e_some, go_sem, ↓reduceIte, Nat.reduceEqDiff, Nat.reduceLT, Nat.reduceSub, A_slices_rotateLeft_entry_0, as_nat_cast, Option.map_some, Option.map_none, Option.bind_some, Option.bind_none, id, s1, vof]
  have h1 : M.get b = some (.cells (pre ++ (W.flatten ++ (U.flatten ++ post))) false) := by rw [h]; simp
  refine call_of (Rev_runs b (.both 16 c) pre (U.flatten ++ post) W hW (by omega) M h1) ?_
  intro v M1 hv
  obtain ⟨_, hU1⟩ := hv
  simp -dsimp only [↓w_seq, ↓w_ops, ↓w_skip, ↓w_ret, ↓w_exit, ↓w_scope, ↓w_block, ↓w_cond, cond_true', cond_false', ↓t_nil, ↓t_plain, ↓t_guard, ↓t_gagain, ↓t_again, t_val, t_call, g_true, g_false, ga_true, ga_false, a_val, a_call, ↓n_normal, ↓n_ret, ↓n_exit, ↓b_normal, ↓b_ret, ↓b_exit, ↓e_normal, ↓e_ret, e_some, go_sem, ↓reduceIte, Nat.reduceEqDiff, Nat.reduceLT, Nat.reduceSub, A_slices_rotateLeft_entry_1, as_nat_cast, Option.map_some, Option.map_none, Option.bind_some, Option.bind_none, id, s2, vof]
  have hWr : Rows 16 W.reverse := hW.perm fun y hy => List.mem_reverse.1 hy
  have hUr : Rows 16 U.reverse := hU.perm fun y hy => List.mem_reverse.1 hy
  have hpl : (pre ++ W.reverse.flatten).length = pre.length + W.length * 16 := by rw [List.length_append, hWr.len, List.length_reverse]
  have h2 : M1.get b = some (.cells ((pre ++ W.reverse.flatten) ++ (U.flatten ++ post)) false) := by rw [hU1.at_]; simp
  have r2 := Rev_runs b (.both 16 (c - W.length)) (pre ++ W.reverse.flatten) post U hU (by omega) M1 h2
  rw [hpl] at r2
  refine call_of r2 ?_
  intro v M2 hv
  obtain ⟨_, hU2⟩ := hv
  simp -dsimp only [↓w_seq, ↓w_ops, ↓w_skip, ↓w_ret, ↓w_exit, ↓w_scope, ↓w_block, ↓w_cond, cond_true', cond_false', ↓t_nil, ↓t_plain, ↓t_guard, ↓t_gagain, ↓t_again, t_val, t_call, g_true, g_false, ga_true, ga_false, a_val, a_call, ↓n_normal, ↓n_ret, ↓n_exit, ↓b_normal, ↓b_ret, ↓b_exit, ↓e_normal, ↓e_ret, e_some, go_sem, ↓reduceIte, Nat.reduceEqDiff, Nat.reduceLT, Nat.reduceSub, A_slices_rotateLeft_entry_2]
  have h3 : M2.get b = some (.cells (pre ++ ((W.reverse ++ U.reverse).flatten ++ post)) false) := by rw [hU2.at_]; simp
  have hl3 : (W.reverse ++ U.reverse).length = W.length + U.length := by simp
  have r3 := Rev_runs b (.both 16 c) pre post (W.reverse ++ U.reverse) (hWr.app hUr) (by rw [hl3]; exact hn) M2 h3
  rw [hl3] at r3
  refine call_of r3 ?_
  intro v M3 hv
  obtain ⟨_, hU3⟩ := hv
  simp -dsimp only [↓w_seq, ↓w_ops, ↓w_skip, ↓w_ret, ↓w_exit, ↓w_scope, ↓w_block, ↓w_cond, cond_true', cond_false', ↓t_nil, ↓t_plain, ↓t_guard, ↓t_gagain, ↓t_again, t_val, t_call, g_true, g_false, ga_true, ga_false, a_val, a_call, ↓n_normal, ↓n_ret, ↓n_exit, ↓b_normal, ↓b_ret, ↓b_exit, ↓e_normal, ↓e_ret, e_some, go_sem, ↓reduceIte, Nat.reduceEqDiff, Nat.reduceLT, Nat.reduceSub]
  refine hR _ _ ⟨rfl, ?_⟩
  have e : (W.reverse ++ U.reverse).reverse = U ++ W := by simp
  rw [e] at hU3
  exact (hU1.trans hU2).trans hU3
theorem rotR_runs (b : Nat) (c : Nat) (pre post : List V) (W U : List (List V)) (hW : Rows 16 W) (hU : Rows 16 U) (hn : W.length + U.length < 2 ^ 40) (hc : W.length + U.length ≤ c) (hu : U ≠ []) (M : Mem) (h : M.get b = some (.cells (pre ++ ((W ++ U).flatten ++ post)) false)) :
    Runs D2 F_slices_rotateRight_entry [.slice (some (b, pre.length)) (W.length + U.length) (.both 16 c), .int .i64 (U.length : Int)] M fun v M' => v = .tup [] ∧ Upd M b (.cells (pre ++ ((U ++ W).flatten ++ post)) false) M' := by
  refine R_opq fun R hR => ?_
  refine Runs.walk (F := A_slices_rotateRight_entry) rfl (by rfl) (by rfl) ?_
  unfold A_slices_rotateRight_entry
  have e : ((W.length + U.length : Nat) : Int) - (U.length : Int) = (W.length : Int) := by omega
  simp -dsimp only [↓w_seq, ↓w_ops, ↓w_skip, ↓w_ret, ↓w_exit, ↓w_scope, ↓w_block, ↓w_cond, cond_true', cond_false', ↓t_nil, ↓t_plain, ↓t_guard, ↓t_gagain, ↓t_again, t_val, t_call, g_true, g_false, ga_true, ga_false, a_val, a_call, ↓n_normal, ↓n_ret, ↓n_exit, ↓b_normal, ↓b_ret, ↓b_exit, ↓e_normal, ↓e_ret, e_some, go_sem, ↓reduceIte, Nat.reduceEqDiff, Nat.reduceLT, Nat.reduceSub, A_slices_rotateRight_entry_0, e, IntWalk.i64_in (W.length : Int) (by omega)]
  refine call_of (rotL_runs b c pre post W U hW hU hn hc hu M h) ?_
  intro v M1 hv
  simp -dsimp only [↓w_seq, ↓w_ops, ↓w_skip, ↓w_ret, ↓w_exit, ↓w_scope, ↓w_block, ↓w_cond, cond_true', cond_false', ↓t_nil, ↓t_plain, ↓t_guard, ↓t_gagain, ↓t_again, t_val, t_call, g_true, g_false, ga_true, ga_false, a_val, a_call, ↓n_normal, ↓n_ret, ↓n_exit, ↓b_normal, ↓b_ret, ↓b_exit, ↓e_normal, ↓e_ret, e_some, go_sem, ↓reduceIte, Nat.reduceEqDiff, Nat.reduceLT, Nat.reduceSub]
  exact hR _ _ ⟨rfl, hv.2⟩
end Go.Am.Tryz.O


/- slices.Insert over a graph's entries: one more in the midst. -/
namespace Go.Am.Tryz.O
open Go Go.Am Go.Proofs Go.Sort Go.Shelf
set_option maxRecDepth 100000
set_option linter.unusedSimpArgs false
set_option linter.unusedVariables false

theorem rows_drop {es : Nat} : ∀ {xs : List (List V)} (k : Nat), Rows es xs → xs.flatten.drop (k * es) = (xs.drop k).flatten
  | xs, 0, _ => by simp
  | [], k + 1, _ => by simp
  | x :: xs, k + 1, h => by
    have hx := (h x (List.mem_cons_self ..)).1
    rw [List.flatten_cons, Nat.add_mul, Nat.one_mul, List.drop_append]
    have e1 : List.drop (k * es + es) x = [] := List.drop_eq_nil_of_le (by omega)
    have e2 : k * es + es - x.length = k * es := by omega
    rw [e1, e2, List.nil_append, rows_drop k fun y hy => h y (List.mem_cons_of_mem _ hy)]
    rfl
theorem rows_take {es : Nat} : ∀ {xs : List (List V)} (k : Nat), Rows es xs → xs.flatten.take (k * es) = (xs.take k).flatten
  | xs, 0, _ => by simp
  | [], k + 1, _ => by simp
  | x :: xs, k + 1, h => by
    have hx := (h x (List.mem_cons_self ..)).1
    rw [List.flatten_cons, Nat.add_mul, Nat.one_mul, List.take_append]
    have e1 : List.take (k * es + es) x = x := List.take_of_length_le (by omega)
    have e2 : k * es + es - x.length = k * es := by omega
    rw [e1, e2, rows_take k fun y hy => h y (List.mem_cons_of_mem _ hy)]
    rfl
theorem Rows.take {es : Nat} {xs : List (List V)} (h : Rows es xs) (k : Nat) : Rows es (xs.take k) := h.perm fun _ hy => List.mem_of_mem_take hy
theorem Rows.drop {es : Nat} {xs : List (List V)} (h : Rows es xs) (k : Nat) : Rows es (xs.drop k) := h.perm fun _ hy => List.mem_of_mem_drop hy
theorem writeG_rows {es : Nat} {M : Mem} {b lim : Nat} {A D Y : List (List V)} (hM : M.get b = some (.cells (A ++ D).flatten false)) (hA : Rows es A) (hD : Rows es D) (hY : Rows es Y) (hl : (A.length + Y.length) * es ≤ lim) :
    M.writeG b (A.length * es) Y.flatten lim = some (M.set b (.cells (A ++ (Y ++ D.drop Y.length)).flatten false)) := by
  have h1 : A.length * es ≤ (A ++ D).flatten.length := by rw [(hA.app hD).len, List.length_append]; exact Nat.mul_le_mul_right _ (by omega)
  have h2 : A.length * es + Y.flatten.length ≤ lim := by rw [hY.len, ← Nat.add_mul]; exact hl
  unfold Mem.writeG
  simp only [hM, ble_iff, decide_eq_true h1, decide_eq_true h2, cond_true, hY.all]
  congr 3
  rw [rows_take _ (hA.app hD), hY.len, ← Nat.add_mul, rows_drop _ (hA.app hD)]
  have e1 : (A ++ D).take A.length = A := by simp
  have e2 : (A ++ D).drop (A.length + Y.length) = D.drop Y.length := by rw [List.drop_append]; simp
  rw [e1, e2]
  simp
theorem write_rows' {es : Nat} {M : Mem} {b : Nat} {A W W' D : List (List V)} (hM : M.get b = some (.cells (A ++ (W ++ D)).flatten false)) (hA : Rows es A) (hW : Rows es W) (hW' : Rows es W') (hD : Rows es D) (hl : W'.length = W.length) :
    M.write b (A.length * es) W'.flatten = some (M.set b (.cells (A ++ (W' ++ D)).flatten false)) := by
  have h1 : A.length * es + W'.flatten.length ≤ (A ++ (W ++ D)).flatten.length := by
    rw [hW'.len, (hA.app (hW.app hD)).len, hl, ← Nat.add_mul]; exact Nat.mul_le_mul_right _ (by simp)
  rw [write_rows hM h1 hW'.all]
  have := rows_wr (pre := []) (post := []) hA hW hW' (D := D) hl
  simp only [List.nil_append, List.append_nil, List.length_nil, Nat.zero_add] at this
  rw [this]
theorem read_rows' {es : Nat} {M : Mem} {b : Nat} {ro : Bool} {A W D : List (List V)} (hM : M.get b = some (.cells (A ++ (W ++ D)).flatten ro)) (hA : Rows es A) (hW : Rows es W) : M.read b (A.length * es) (W.length * es) = some W.flatten := by
  rw [read_rows hM]
  have := rows_rd (pre := []) (post := []) (D := D) hA hW
  simpa using this
theorem repl_rows (z : List V) : ∀ n : Nat, repl n z = (List.replicate n z).flatten
  | 0 => rfl
  | n + 1 => by rw [List.replicate_succ, List.flatten_cons, ← repl_rows z n]; rfl

/-- The library's own look whether two slices overlap: whatever it tells, all stays. -/
theorem overlaps_ext (M : Mem) (vb b o m : Nat) (cap : Cap) (x cs : List V) (hx : M.get vb = some (.cells x false)) (hx1 : 0 < x.length) (hb : M.get b = some (.cells cs false)) (hm : m ≠ 0) :
    XExt Tryz.prog gl0 F_slices_overlaps_entry [.slice (some (vb, 0)) 1 (.exact 1), .slice (some (b, o)) m cap] M fun v M' => (∃ t, v = .bool t) ∧ M' = M := by
  intro E w args' hR hG hA
  obtain ⟨l⟩ := args'
  simp only at hA
  cases hA with
  | cons h1 hA =>
  cases hA with
  | cons h2 hA =>
  cases hA
  cases h1 with
  | slice hE1 hc1 hn1 =>
  cases h2 with
  | sliceZero => exact absurd rfl hm
  | slice hE2 hc2 hn2 =>
  rename_i c1 d1 k1 cc1 c2 d2 k2 cc2
  obtain ⟨arr1, e1, fz1, a1, a2, a3, a4⟩ := hR.cells hE1 hx
  obtain ⟨arr2, e2, fz2, b1, b2, b3, b4⟩ := hR.cells hE2 hb
  have hlt : d1 < arr1.size := by
    obtain ⟨u, hu, _⟩ := a2 0 x[0] (by simp [List.getElem?_eq_getElem hx1])
    have := (Array.getElem?_eq_some_iff.1 hu).1
    omega
  have hfz : w.frozen? ⟨c1, d1 + 0, none⟩ = false := by
    unfold World.frozen?
    simp only [a1]
    have := a4 rfl d1 hlt
    simp only [Nat.add_zero, Bool.and_eq_false_iff, decide_eq_false_iff_not]
    omega
  have hfz0 : w.frozen? ⟨c1, d1, none⟩ = false := hfz
  have hsh1 : w.shape? c1 = some (e1, arr1.size) := by unfold World.shape?; rw [a1]
  have hsh2 : w.shape? c2 = some (e2, arr2.size) := by unfold World.shape?; rw [b1]
  have hsz : ∀ w : World, (Go.sizeOf 122).run Tryz.prog w = .ok 16 w := fun w => run_sizeOf' (P := Tryz.prog) (t := 122) (n := 16) (by kernel_rfl) w
  have key : ∃ (t : Bool) (w' : World), (Extern.SlicesOverlaps.overlaps #[101, 101] #[4] #[.slice (some ⟨c1, d1 + 0, none⟩) 1 cc1, .slice (some ⟨c2, d2 + o, none⟩) m cc2]).run Tryz.prog w = .ok (.bool t) w' ∧ (w' = w ∨ w' = w.drew) := by
    change ∃ (t : Bool) (w' : World), Sem.run Tryz.prog (α := Value) (do
      let some t := (#[101, 101] : Array TypeId)[0]? | stuck "slices.overlaps: no parameter types"
      let .slice elem ← underlying t | stuck "slices.overlaps: slice type expected"
      let size ← sizeOf elem
      match (some ⟨c1, d1 + 0, none⟩ : Option Addr), (some ⟨c2, d2 + o, none⟩ : Option Addr) with
      | some a, some b =>
        if 1 = 0 ∨ m = 0 ∨ size = 0 then pure (Value.bool false)
        else if a.block != b.block && (← frozen a) && (← frozen b) then unsupported .addressObserved
        else do
          if a.block != b.block then do
            noView a; noView b
            if ← mayBeOne a b then return Value.bool ((← choose (.extern "sameAddr.stringBytes" 2)) == 1)
          pure (Value.bool (a.block == b.block && a.off < b.off + m * size && b.off < a.off + 1 * size))
      | _, _ => pure (Value.bool false)) w = .ok (.bool t) w' ∧ (w' = w ∨ w' = w.drew)
    by_cases hc : c1 = c2
    · subst hc
      simp [run_underlying (P := Tryz.prog) Tryz.underlying101, hsz, hm, frozen, Sem.run]
      by_cases hq : d1 < d2 + o + m * 16 ∧ d2 + o < d1 + 16
      · exact .inr ⟨w, ⟨hq, rfl⟩, .inl rfl⟩
      · exact .inl ⟨w, ⟨fun h => by omega, rfl⟩, .inl rfl⟩
    · have hnb : (c1 != c2) = true := by simpa using hc
      have hnb' : (c1 == c2) = false := by simpa using hc
      generalize hs1 : w.frozen? ⟨c1, arr1.size, none⟩ = s1
      generalize hf2 : w.frozen? ⟨c2, d2 + o, none⟩ = f2
      generalize hs2 : w.frozen? ⟨c2, arr2.size, none⟩ = s2
      simp [run_underlying (P := Tryz.prog) Tryz.underlying101, hsz, hm, hnb, hnb', frozen, noView, viewAt, mayBeOne, stringish, shape, Sem.run, hsh1, hsh2, hfz0, hs1, hf2, hs2]
      obtain ⟨q1, hq1⟩ : ∃ q, arr1.size = q + 1 := ⟨arr1.size - 1, by omega⟩
      rw [hq1]
      generalize hfo : (Question.extern "sameAddr.stringBytes" 2).forced = fo
      generalize ((Question.extern "sameAddr.stringBytes" 2).cut (w.tape w.drawn (Question.extern "sameAddr.stringBytes" 2)) == 1) = tt
      cases arr2.size <;> cases s1 <;> cases f2 <;> cases s2 <;> cases fo <;> cases tt <;> simp
  obtain ⟨t, w', hrun, hw⟩ := key
  have hcall : (callFunc F_slices_overlaps_entry #[.slice (some ⟨c1, d1 + 0, none⟩) 1 cc1, .slice (some ⟨c2, d2 + o, none⟩) m cc2]).run Tryz.prog w = .ok (.value (.bool t)) w' := by
    rw [run_callFunc_extern Tryz.func108 (by kernel_rfl) (by kernel_rfl) (by kernel_rfl) (e := Extern.SlicesOverlaps.overlaps #[101, 101] #[4]) (by kernel_rfl), hrun]
    rfl
  have hRX : Rel E M w' ∧ Ext E M w E M w' := by
    rcases hw with rfl | rfl
    · exact ⟨hR, Ext.refl E M w'⟩
    · exact hR.drew
  exact ⟨E, .bool t, .bool t, M, w', hcall, .bool t, hRX.1, hRX.2, ⟨t, rfl⟩, rfl⟩
end Go.Am.Tryz.O

