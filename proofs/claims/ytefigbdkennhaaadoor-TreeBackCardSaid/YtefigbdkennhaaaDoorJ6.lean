/- The machine and what is proved of its runs, part 6: what each part says stands at its head. -/
import Derived.Test.YtefigbdkennhaaaDoorJ5
set_option linter.unusedSimpArgs false
set_option linter.unusedVariables false
set_option linter.unusedSectionVars false
/- op.Node, op.Place, Spot.right, Has, Spot as parts. -/
namespace Go.Am.Tryd
open Go Go.Am Go.Proofs Go.Sort Go.Shelf
set_option maxRecDepth 100000
set_option linter.unusedSimpArgs false
set_option linter.unusedVariables false

def nodeSt (x : St) : Bool := rightSt x && decide (0 < x.1)
def placeSt (x : St) : Bool := nodeSt x || (decide (x = (0, 0)) || decide (x = (0, 1)))
def isG (M : Mem) : Bool :=
  match M.get 0, M.get 1 with
  | some (.cells [.int .i64 a, .int .i64 b] true), some (.cells [.int .i64 c, .int .i64 d] true) => (decide (a = 0) && decide (b = 0)) && (decide (c = 0) && decide (d = 1))
  | _, _ => false
theorem isG_is {M : Mem} (h : isG M = true) : M.get 0 = some (.cells (stC (0, 0)) true) ∧ M.get 1 = some (.cells (stC (0, 1)) true) := by
  unfold isG at h
  split at h
  · rename_i a b c d h0 h1
    simp only [Bool.and_eq_true, decide_eq_true_eq] at h
    obtain ⟨⟨rfl, rfl⟩, rfl, rfl⟩ := h
    exact ⟨h0, h1⟩
  · cases h
theorem isG_mk {M : Mem} (h0 : M.get 0 = some (.cells (stC (0, 0)) true)) (h1 : M.get 1 = some (.cells (stC (0, 1)) true)) : isG M = true := by
  simp only [isG, h0, h1, stC]
  rfl

theorem opNode_runs (M : Mem) (x : St) : Runs D1v F_op_Node [.agg (stC x)] M fun v M' => v = .bool (nodeSt x) ∧ ∀ c, c < M.next → M'.get c = M.get c := by
  refine R_opq fun R hR => ?_
  refine Runs.walk (F := A_op_Node) rfl (by rfl) (by rfl) ?_
  unfold A_op_Node
  have hcn : V.cells (.agg (stC x)) = stC x := rfl
  have hrd : rdCells (stC x) 0 2 = some (stC x) := rfl
  have g1 : (M.push (.cells (stC x) false)).get M.next = some (.cells (stC x) false) := Mem.get_push_same _ _
  have hG : ∀ c, c < M.next → (M.push (.cells (stC x) false)).get c = M.get c := (Grew.push _ _).old
  have e0 : (stC x)[0]? = some (.int .i64 x.1) := rfl
  have fin : ∀ b, b = nodeSt x → R (.bool b) (M.push (.cells (stC x) false)) := fun b hb => hR _ _ ⟨by rw [hb], hG⟩
  simp -dsimp only [↓w_seq, ↓w_ops, ↓w_skip, ↓w_ret, ↓w_exit, ↓w_scope, ↓w_block, ↓w_cond, cond_true', cond_false', ↓t_nil, ↓t_plain, ↓t_guard, ↓t_gagain, ↓t_again, t_val, t_call, g_true, g_false, ga_true, ga_false, a_val, a_call, ↓n_normal, ↓n_ret, ↓n_exit, ↓b_normal, ↓b_ret, ↓b_exit, ↓e_normal, ↓e_ret, e_some, go_sem, ↓reduceIte, Nat.reduceEqDiff, Nat.reduceLT, Nat.reduceSub, A_op_Node_0, A_op_Node_1, hcn]
  generalize M.push (.cells (stC x) false) = M1 at *
  simp -dsimp only [↓w_seq, ↓w_ops, ↓w_skip, ↓w_ret, ↓w_exit, ↓w_scope, ↓w_block, ↓w_cond, cond_true', cond_false', ↓t_nil, ↓t_plain, ↓t_guard, ↓t_gagain, ↓t_again, t_val, t_call, g_true, g_false, ga_true, ga_false, a_val, a_call, ↓n_normal, ↓n_ret, ↓n_exit, ↓b_normal, ↓b_ret, ↓b_exit, ↓e_normal, ↓e_ret, e_some, go_sem, ↓reduceIte, Nat.reduceEqDiff, Nat.reduceLT, Nat.reduceSub, vload, vptr, Mem.read, g1, Nat.add_zero, e0, hrd]
  refine call_eq (Runs.part (g := pSRight) rfl rfl) ?_
  cases hr : rightSt (x.1, x.2) with
  | true =>
    simp -dsimp only [↓w_seq, ↓w_ops, ↓w_skip, ↓w_ret, ↓w_exit, ↓w_scope, ↓w_block, ↓w_cond, cond_true', cond_false', ↓t_nil, ↓t_plain, ↓t_guard, ↓t_gagain, ↓t_again, t_val, t_call, g_true, g_false, ga_true, ga_false, a_val, a_call, ↓n_normal, ↓n_ret, ↓n_exit, ↓b_normal, ↓b_ret, ↓b_exit, ↓e_normal, ↓e_ret, e_some, go_sem, ↓reduceIte, Nat.reduceEqDiff, Nat.reduceLT, Nat.reduceSub, vload, vptr, Mem.read, g1, Nat.add_zero, e0, hrd]
    exact fin _ (by rw [nodeSt, show rightSt x = true from hr]; rfl)
  | false =>
    simp -dsimp only [↓w_seq, ↓w_ops, ↓w_skip, ↓w_ret, ↓w_exit, ↓w_scope, ↓w_block, ↓w_cond, cond_true', cond_false', ↓t_nil, ↓t_plain, ↓t_guard, ↓t_gagain, ↓t_again, t_val, t_call, g_true, g_false, ga_true, ga_false, a_val, a_call, ↓n_normal, ↓n_ret, ↓n_exit, ↓b_normal, ↓b_ret, ↓b_exit, ↓e_normal, ↓e_ret, e_some, go_sem, ↓reduceIte, Nat.reduceEqDiff, Nat.reduceLT, Nat.reduceSub, vload, vptr, Mem.read, g1, Nat.add_zero, e0, hrd]
    exact fin _ (by rw [nodeSt, show rightSt x = false from hr]; rfl)
def pOpNode (args : List V) (_ : Mem) : Option V :=
  match args with
  | [.agg [.int .i64 a, .int .i64 b]] => some (.bool (nodeSt (a, b)))
  | _ => none
theorem pOpNode_ok : CallOK Tryd.prog gl0 fun f' args M => if f' = F_op_Node then (pOpNode args M).map (·, M) else none := by
  refine prim_keep ⟨_, Tryd.func52, (by kernel_rfl), (by kernel_rfl)⟩ ?_
  intro args M v h hwf
  unfold pOpNode at h
  split at h
  · rename_i a b
    cases h
    exact ⟨rfl, XRuns.of_runs dok1v (opNode_runs M (a, b))⟩
  · cases h
def D1w1 : Decls := D1v.addP F_op_Node pOpNode
theorem dok1w1 : DOK Tryd.prog gl0 D1w1 := dok1v.addM pOpNode_ok

theorem opPlace_runs (M : Mem) (x : St) (hn : 2 ≤ M.next) (h0 : M.get 0 = some (.cells (stC (0, 0)) true)) (h1 : M.get 1 = some (.cells (stC (0, 1)) true)) :
    Runs D1w1 F_op_Place [.agg (stC x)] M fun v M' => v = .bool (placeSt x) ∧ ∀ c, c < M.next → M'.get c = M.get c := by
  refine R_opq fun R hR => ?_
  refine Runs.walk (F := A_op_Place) rfl (by rfl) (by rfl) ?_
  unfold A_op_Place
  have hcn : V.cells (.agg (stC x)) = stC x := rfl
  have hrd : ∀ x : St, rdCells (stC x) 0 2 = some (stC x) := fun _ => rfl
  have g1 : (M.push (.cells (stC x) false)).get M.next = some (.cells (stC x) false) := Mem.get_push_same _ _
  have hG : ∀ c, c < M.next → (M.push (.cells (stC x) false)).get c = M.get c := (Grew.push _ _).old
  have k0 := (hG 0 (by omega)).trans h0
  have k1 := (hG 1 (by omega)).trans h1
  have fin : ∀ b, b = placeSt x → R (.bool b) (M.push (.cells (stC x) false)) := fun b hb => hR _ _ ⟨by rw [hb], hG⟩
  simp -dsimp only [↓w_seq, ↓w_ops, ↓w_skip, ↓w_ret, ↓w_exit, ↓w_scope, ↓w_block, ↓w_cond, cond_true', cond_false', ↓t_nil, ↓t_plain, ↓t_guard, ↓t_gagain, ↓t_again, t_val, t_call, g_true, g_false, ga_true, ga_false, a_val, a_call, ↓n_normal, ↓n_ret, ↓n_exit, ↓b_normal, ↓b_ret, ↓b_exit, ↓e_normal, ↓e_ret, e_some, go_sem, ↓reduceIte, Nat.reduceEqDiff, Nat.reduceLT, Nat.reduceSub, A_op_Place_0, A_op_Place_1, hcn]
  generalize M.push (.cells (stC x) false) = M1 at *
  simp -dsimp only [↓w_seq, ↓w_ops, ↓w_skip, ↓w_ret, ↓w_exit, ↓w_scope, ↓w_block, ↓w_cond, cond_true', cond_false', ↓t_nil, ↓t_plain, ↓t_guard, ↓t_gagain, ↓t_again, t_val, t_call, g_true, g_false, ga_true, ga_false, a_val, a_call, ↓n_normal, ↓n_ret, ↓n_exit, ↓b_normal, ↓b_ret, ↓b_exit, ↓e_normal, ↓e_ret, e_some, go_sem, ↓reduceIte, Nat.reduceEqDiff, Nat.reduceLT, Nat.reduceSub, vload, vptr, Mem.read, g1, Nat.add_zero, hrd]
  refine call_eq (Runs.part (g := pOpNode) rfl rfl) ?_
  cases hr : nodeSt (x.1, x.2) with
  | true =>
    simp -dsimp only [↓w_seq, ↓w_ops, ↓w_skip, ↓w_ret, ↓w_exit, ↓w_scope, ↓w_block, ↓w_cond, cond_true', cond_false', ↓t_nil, ↓t_plain, ↓t_guard, ↓t_gagain, ↓t_again, t_val, t_call, g_true, g_false, ga_true, ga_false, a_val, a_call, ↓n_normal, ↓n_ret, ↓n_exit, ↓b_normal, ↓b_ret, ↓b_exit, ↓e_normal, ↓e_ret, e_some, go_sem, ↓reduceIte, Nat.reduceEqDiff, Nat.reduceLT, Nat.reduceSub, vload, vptr, Mem.read, g1, Nat.add_zero, hrd]
    exact fin _ (by rw [placeSt, show nodeSt x = true from hr]; rfl)
  | false =>
    simp -dsimp only [↓w_seq, ↓w_ops, ↓w_skip, ↓w_ret, ↓w_exit, ↓w_scope, ↓w_block, ↓w_cond, cond_true', cond_false', ↓t_nil, ↓t_plain, ↓t_guard, ↓t_gagain, ↓t_again, t_val, t_call, g_true, g_false, ga_true, ga_false, a_val, a_call, ↓n_normal, ↓n_ret, ↓n_exit, ↓b_normal, ↓b_ret, ↓b_exit, ↓e_normal, ↓e_ret, e_some, go_sem, ↓reduceIte, Nat.reduceEqDiff, Nat.reduceLT, Nat.reduceSub, vload, vptr, Mem.read, g1, k0, k1, Nat.add_zero, hrd, st_same]
    by_cases h2 : x = (0, 0)
    · simp -dsimp only [↓w_seq, ↓w_ops, ↓w_skip, ↓w_ret, ↓w_exit, ↓w_scope, ↓w_block, ↓w_cond, cond_true', cond_false', ↓t_nil, ↓t_plain, ↓t_guard, ↓t_gagain, ↓t_again, t_val, t_call, g_true, g_false, ga_true, ga_false, a_val, a_call, ↓n_normal, ↓n_ret, ↓n_exit, ↓b_normal, ↓b_ret, ↓b_exit, ↓e_normal, ↓e_ret, e_some, go_sem, ↓reduceIte, Nat.reduceEqDiff, Nat.reduceLT, Nat.reduceSub, h2, decide_true, vload, vptr, Mem.read, g1, k0, k1, Nat.add_zero, hrd, st_same]
      exact fin _ (by rw [placeSt, show nodeSt x = false from hr]; simp [h2])
    · simp -dsimp only [↓w_seq, ↓w_ops, ↓w_skip, ↓w_ret, ↓w_exit, ↓w_scope, ↓w_block, ↓w_cond, cond_true', cond_false', ↓t_nil, ↓t_plain, ↓t_guard, ↓t_gagain, ↓t_again, t_val, t_call, g_true, g_false, ga_true, ga_false, a_val, a_call, ↓n_normal, ↓n_ret, ↓n_exit, ↓b_normal, ↓b_ret, ↓b_exit, ↓e_normal, ↓e_ret, e_some, go_sem, ↓reduceIte, Nat.reduceEqDiff, Nat.reduceLT, Nat.reduceSub, h2, decide_false, vload, vptr, Mem.read, g1, k0, k1, Nat.add_zero, hrd, st_same]
      exact fin _ (by rw [placeSt, show nodeSt x = false from hr]; simp [h2])
def pOpPlace (args : List V) (M : Mem) : Option V :=
  match args with
  | [.agg [.int .i64 a, .int .i64 b]] => cond (isG M) (some (.bool (placeSt (a, b)))) none
  | _ => none
theorem isG_lt {M : Mem} (hwf : ∀ b, M.next ≤ b → M.get b = none) (h : isG M = true) : 2 ≤ M.next := lt_of_get hwf (isG_is h).2
theorem pOpPlace_ok : CallOK Tryd.prog gl0 fun f' args M => if f' = F_op_Place then (pOpPlace args M).map (·, M) else none := by
  refine prim_keep ⟨_, Tryd.func63, (by kernel_rfl), (by kernel_rfl)⟩ ?_
  intro args M v h hwf
  unfold pOpPlace at h
  split at h
  · rename_i a b
    obtain ⟨h1, h⟩ := cond_some h
    cases h
    exact ⟨rfl, XRuns.of_runs dok1w1 (opPlace_runs M (a, b) (isG_lt hwf h1) (isG_is h1).1 (isG_is h1).2)⟩
  · cases h
def D1w2 : Decls := D1w1.addP F_op_Place pOpPlace
theorem dok1w2 : DOK Tryd.prog gl0 D1w2 := dok1w1.addM pOpPlace_ok

def rightSp (s : Spot) : Bool := placeSt s.1 && rightK s.2
theorem spRight_runs (M : Mem) (s : Spot) (hg : isG M = true) (hn : 2 ≤ M.next) : Runs D1w2 F_tree_Spot_right [.agg (spC s)] M fun v M' => v = .bool (rightSp s) ∧ ∀ c, c < M.next → M'.get c = M.get c := by
  refine R_opq fun R hR => ?_
  refine Runs.walk (F := A_tree_Spot_right) rfl (by rfl) (by rfl) ?_
  unfold A_tree_Spot_right
  have hcn : V.cells (.agg (spC s)) = spC s := rfl
  have hrd : rdCells (spC s) 0 2 = some (stC s.1) := rfl
  have e2 : (spC s)[2]? = some (.str s.2) := rfl
  have g1 : (M.push (.cells (spC s) false)).get M.next = some (.cells (spC s) false) := Mem.get_push_same _ _
  have hG : ∀ c, c < M.next → (M.push (.cells (spC s) false)).get c = M.get c := (Grew.push _ _).old
  have hg1 : isG (M.push (.cells (spC s) false)) = true := isG_mk ((hG 0 (by omega)).trans (isG_is hg).1) ((hG 1 (by omega)).trans (isG_is hg).2)
  have fin : ∀ b, b = rightSp s → R (.bool b) (M.push (.cells (spC s) false)) := fun b hb => hR _ _ ⟨by rw [hb], hG⟩
  simp -dsimp only [↓w_seq, ↓w_ops, ↓w_skip, ↓w_ret, ↓w_exit, ↓w_scope, ↓w_block, ↓w_cond, cond_true', cond_false', ↓t_nil, ↓t_plain, ↓t_guard, ↓t_gagain, ↓t_again, t_val, t_call, g_true, g_false, ga_true, ga_false, a_val, a_call, ↓n_normal, ↓n_ret, ↓n_exit, ↓b_normal, ↓b_ret, ↓b_exit, ↓e_normal, ↓e_ret, e_some, go_sem, ↓reduceIte, Nat.reduceEqDiff, Nat.reduceLT, Nat.reduceSub, A_tree_Spot_right_0, A_tree_Spot_right_1, hcn]
  generalize M.push (.cells (spC s) false) = M1 at *
  simp -dsimp only [↓w_seq, ↓w_ops, ↓w_skip, ↓w_ret, ↓w_exit, ↓w_scope, ↓w_block, ↓w_cond, cond_true', cond_false', ↓t_nil, ↓t_plain, ↓t_guard, ↓t_gagain, ↓t_again, t_val, t_call, g_true, g_false, ga_true, ga_false, a_val, a_call, ↓n_normal, ↓n_ret, ↓n_exit, ↓b_normal, ↓b_ret, ↓b_exit, ↓e_normal, ↓e_ret, e_some, go_sem, ↓reduceIte, Nat.reduceEqDiff, Nat.reduceLT, Nat.reduceSub, vload, vptr, Mem.read, g1, Nat.add_zero, hrd, e2]
  refine call_eq (Runs.part (g := pOpPlace) (v := .bool (placeSt s.1)) rfl (by show cond (isG M1) _ none = _; rw [hg1]; rfl)) ?_
  cases hr : placeSt s.1 with
  | false =>
    simp -dsimp only [↓w_seq, ↓w_ops, ↓w_skip, ↓w_ret, ↓w_exit, ↓w_scope, ↓w_block, ↓w_cond, cond_true', cond_false', ↓t_nil, ↓t_plain, ↓t_guard, ↓t_gagain, ↓t_again, t_val, t_call, g_true, g_false, ga_true, ga_false, a_val, a_call, ↓n_normal, ↓n_ret, ↓n_exit, ↓b_normal, ↓b_ret, ↓b_exit, ↓e_normal, ↓e_ret, e_some, go_sem, ↓reduceIte, Nat.reduceEqDiff, Nat.reduceLT, Nat.reduceSub, vload, vptr, Mem.read, g1, Nat.add_zero, hrd, e2]
    exact fin _ (by rw [rightSp, hr]; rfl)
  | true =>
    simp -dsimp only [↓w_seq, ↓w_ops, ↓w_skip, ↓w_ret, ↓w_exit, ↓w_scope, ↓w_block, ↓w_cond, cond_true', cond_false', ↓t_nil, ↓t_plain, ↓t_guard, ↓t_gagain, ↓t_again, t_val, t_call, g_true, g_false, ga_true, ga_false, a_val, a_call, ↓n_normal, ↓n_ret, ↓n_exit, ↓b_normal, ↓b_ret, ↓b_exit, ↓e_normal, ↓e_ret, e_some, go_sem, ↓reduceIte, Nat.reduceEqDiff, Nat.reduceLT, Nat.reduceSub, vload, vptr, Mem.read, g1, Nat.zero_add, Nat.add_zero, hrd, e2]
    refine call_eq (Runs.part (g := pKRight) rfl rfl) ?_
    simp -dsimp only [↓w_seq, ↓w_ops, ↓w_skip, ↓w_ret, ↓w_exit, ↓w_scope, ↓w_block, ↓w_cond, cond_true', cond_false', ↓t_nil, ↓t_plain, ↓t_guard, ↓t_gagain, ↓t_again, t_val, t_call, g_true, g_false, ga_true, ga_false, a_val, a_call, ↓n_normal, ↓n_ret, ↓n_exit, ↓b_normal, ↓b_ret, ↓b_exit, ↓e_normal, ↓e_ret, e_some, go_sem, ↓reduceIte, Nat.reduceEqDiff, Nat.reduceLT, Nat.reduceSub, vload, vptr, Mem.read, g1, Nat.add_zero, hrd, e2]
    exact fin _ (by rw [rightSp, hr]; rfl)
def pSpRight (args : List V) (M : Mem) : Option V :=
  match args with
  | [.agg [.int .i64 a, .int .i64 b, .str k]] => cond (isG M) (some (.bool (rightSp ((a, b), k)))) none
  | _ => none
theorem pSpRight_ok : CallOK Tryd.prog gl0 fun f' args M => if f' = F_tree_Spot_right then (pSpRight args M).map (·, M) else none := by
  refine prim_keep ⟨_, Tryd.func53, (by kernel_rfl), (by kernel_rfl)⟩ ?_
  intro args M v h hwf
  unfold pSpRight at h
  split at h
  · rename_i a b k
    obtain ⟨h1, h⟩ := cond_some h
    cases h
    exact ⟨rfl, XRuns.of_runs dok1w2 (spRight_runs M ((a, b), k) h1 (isG_lt hwf h1))⟩
  · cases h

def hasB (l : Tr) (p : St) : Bool := (getS l p).isSome || (placeSt p && !nodeSt p)
theorem none_p {D : Decls} (hp : D.prim F_tree_Tree_none = some fun args M => (pNone args M).map (·, M)) {M : Mem} {tc : Nat} {l : Tr} (h : treeOf M tc = some (some l)) : Runs D F_tree_Tree_none [.ptr (some (tc, 0))] M fun v M' => v = .bool false ∧ M' = M :=
  Runs.part (g := pNone) hp (by simp only [pNone, h, Option.map_some, Option.isNone_some])
theorem none_p0 {D : Decls} (hp : D.prim F_tree_Tree_none = some fun args M => (pNone args M).map (·, M)) {M : Mem} {tc : Nat} (h : treeOf M tc = some none) : Runs D F_tree_Tree_none [.ptr (some (tc, 0))] M fun v M' => v = .bool true ∧ M' = M :=
  Runs.part (g := pNone) hp (by simp only [pNone, h, Option.map_some, Option.isNone_none])
theorem none_pn {D : Decls} (hp : D.prim F_tree_Tree_none = some fun args M => (pNone args M).map (·, M)) {M : Mem} : Runs D F_tree_Tree_none [.ptr none] M fun v M' => v = .bool true ∧ M' = M :=
  Runs.part (g := pNone) hp rfl
theorem place_p {D : Decls} (hp : D.prim F_op_Place = some fun args M => (pOpPlace args M).map (·, M)) {M : Mem} (x : St) (h : isG M = true) : Runs D F_op_Place [.agg (stC x)] M fun v M' => v = .bool (placeSt x) ∧ M' = M :=
  Runs.part (g := pOpPlace) hp (by show cond (isG M) _ none = _; rw [h]; rfl)
theorem opnode_p {D : Decls} (hp : D.prim F_op_Node = some fun args M => (pOpNode args M).map (·, M)) {M : Mem} (x : St) : Runs D F_op_Node [.agg (stC x)] M fun v M' => v = .bool (nodeSt x) ∧ M' = M :=
  Runs.part (g := pOpNode) hp rfl
theorem spright_p {D : Decls} (hp : D.prim F_tree_Spot_right = some fun args M => (pSpRight args M).map (·, M)) {M : Mem} (s : Spot) (h : isG M = true) : Runs D F_tree_Spot_right [.agg (spC s)] M fun v M' => v = .bool (rightSp s) ∧ M' = M :=
  Runs.part (g := pSpRight) hp (by show cond (isG M) _ none = _; rw [h]; rfl)
theorem node_p {D : Decls} (hp : D.prim F_tree_Tree_node = some fun args M => (pNode args M).map (·, M)) {M : Mem} {tc : Nat} {l : Tr} (h : treeOf M tc = some (some l)) (n : St) : Runs D F_tree_Tree_node [.ptr (some (tc, 0)), .agg (stC n)] M fun v M' => v = .bool (getS l n).isSome ∧ M' = M :=
  Runs.part (g := pNode) hp (by show (treeOf M tc).bind _ = _; rw [h]; rfl)
theorem within_p {D : Decls} (hp : D.prim F_tree_Tree_Within = some fun args M => (pWithin args M).map (·, M)) {M : Mem} {tc : Nat} {l : Tr} (h : treeOf M tc = some (some l)) (p n : St) {path : List St} (hpath : PathN l n path) : Runs D F_tree_Tree_Within [.ptr (some (tc, 0)), .agg (stC p), .agg (stC n)] M fun v M' => v = .bool (withinB l p n path) ∧ M' = M :=
  Runs.part (g := pWithin) hp (by
    show (treeOf M tc).bind _ = _
    rw [h]
    show (upL l (l.length + 1) n).map _ = _
    rw [hpath.of]
    rfl)

theorem tree_keep {M M' : Mem} {tc : Nat} {o : Option Tr} (h : treeOf M tc = some o) (hwf : ∀ b, M.next ≤ b → M.get b = none) (hk : ∀ c, c < M.next → M'.get c = M.get c) : treeOf M' tc = some o := by
  cases o with
  | none =>
    obtain ⟨rc, h1⟩ := treeOf_none h
    exact treeOf_is0 ((hk _ (lt_of_get hwf h1)).trans h1)
  | some l =>
    obtain ⟨bm, rc, h1, h2⟩ := treeOf_some h
    exact treeOf_is ((hk _ (lt_of_get hwf h1)).trans h1) ((hk _ (lt_of_get hwf h2)).trans h2)
theorem has_none (M : Mem) (t : V) (p : St) (h : ∀ M', Grew M M' → Runs D1w2 F_tree_Tree_none [t] M' fun v M'' => v = .bool true ∧ M'' = M') : Runs D1w2 F_tree_Tree_Has [t, .agg (stC p)] M fun v M' => v = .bool false ∧ ∀ c, c < M.next → M'.get c = M.get c := by
  refine R_opq fun R hR => ?_
  refine Runs.walk (F := A_tree_Tree_Has) rfl (by rfl) (by rfl) ?_
  unfold A_tree_Tree_Has
  have hcn : V.cells (.agg (stC p)) = stC p := rfl
  have hG := Grew.push M (.cells (stC p) false)
  simp -dsimp only [↓w_seq, ↓w_ops, ↓w_skip, ↓w_ret, ↓w_exit, ↓w_scope, ↓w_block, ↓w_cond, cond_true', cond_false', ↓t_nil, ↓t_plain, ↓t_guard, ↓t_gagain, ↓t_again, t_val, t_call, g_true, g_false, ga_true, ga_false, a_val, a_call, ↓n_normal, ↓n_ret, ↓n_exit, ↓b_normal, ↓b_ret, ↓b_exit, ↓e_normal, ↓e_ret, e_some, go_sem, ↓reduceIte, Nat.reduceEqDiff, Nat.reduceLT, Nat.reduceSub, A_tree_Tree_Has_0, A_tree_Tree_Has_1, A_tree_Tree_Has_2, hcn]
  generalize M.push (.cells (stC p) false) = M1 at *
  refine call_eq (h _ hG) ?_
  simp -dsimp only [↓w_seq, ↓w_ops, ↓w_skip, ↓w_ret, ↓w_exit, ↓w_scope, ↓w_block, ↓w_cond, cond_true', cond_false', ↓t_nil, ↓t_plain, ↓t_guard, ↓t_gagain, ↓t_again, t_val, t_call, g_true, g_false, ga_true, ga_false, a_val, a_call, ↓n_normal, ↓n_ret, ↓n_exit, ↓b_normal, ↓b_ret, ↓b_exit, ↓e_normal, ↓e_ret, e_some, go_sem, ↓reduceIte, Nat.reduceEqDiff, Nat.reduceLT, Nat.reduceSub, A_tree_Tree_Has_0, A_tree_Tree_Has_1, A_tree_Tree_Has_2, hcn]
  exact hR _ _ ⟨rfl, hG.old⟩
theorem has_runs (M : Mem) (tc bm : Nat) (rc : Bool) (l : Tr) (p : St) (hg : isG M = true) (hn : 2 ≤ M.next) (htc : tc < M.next) (hbm : bm < M.next) (h : M.get tc = some (.cells [.map (some bm)] rc)) (h2 : M.get bm = some (.map (encM l))) :
    Runs D1w2 F_tree_Tree_Has [.ptr (some (tc, 0)), .agg (stC p)] M fun v M' => v = .bool (hasB l p) ∧ ∀ c, c < M.next → M'.get c = M.get c := by
  refine R_opq fun R hR => ?_
  refine Runs.walk (F := A_tree_Tree_Has) rfl (by rfl) (by rfl) ?_
  unfold A_tree_Tree_Has
  have hcn : V.cells (.agg (stC p)) = stC p := rfl
  have hG := Grew.push M (.cells (stC p) false)
  have g1 : (M.push (.cells (stC p) false)).get M.next = some (.cells (stC p) false) := Mem.get_push_same _ _
  have hn1 : (M.push (.cells (stC p) false)).next = M.next + 1 := rfl
  simp -dsimp only [↓w_seq, ↓w_ops, ↓w_skip, ↓w_ret, ↓w_exit, ↓w_scope, ↓w_block, ↓w_cond, cond_true', cond_false', ↓t_nil, ↓t_plain, ↓t_guard, ↓t_gagain, ↓t_again, t_val, t_call, g_true, g_false, ga_true, ga_false, a_val, a_call, ↓n_normal, ↓n_ret, ↓n_exit, ↓b_normal, ↓b_ret, ↓b_exit, ↓e_normal, ↓e_ret, e_some, go_sem, ↓reduceIte, Nat.reduceEqDiff, Nat.reduceLT, Nat.reduceSub, A_tree_Tree_Has_0, A_tree_Tree_Has_1, hcn]
  generalize M.push (.cells (stC p) false) = M1 at *
  have k1 := (hG.old _ htc).trans h
  have k2 := (hG.old _ hbm).trans h2
  refine call_eq (none_p rfl (treeOf_is k1 k2)) ?_
  have hlk := look_is (by unfold mapAt; rw [k2] : mapAt M1 bm = some (encM l)) p
  have hrd2 : rdCells (stC p) 0 2 = some (stC p) := rfl
  have hw0 := write_full (M := M1.push (.cells [.int .i64 0, .int .i64 0, .str []] false)) (b := M1.next) (vs := spC ((getS l p).getD sp0)) (Mem.get_push_same _ _) rfl rfl
  simp -dsimp only [↓w_seq, ↓w_ops, ↓w_skip, ↓w_ret, ↓w_exit, ↓w_scope, ↓w_block, ↓w_cond, cond_true', cond_false', ↓t_nil, ↓t_plain, ↓t_guard, ↓t_gagain, ↓t_again, t_val, t_call, g_true, g_false, ga_true, ga_false, a_val, a_call, ↓n_normal, ↓n_ret, ↓n_exit, ↓b_normal, ↓b_ret, ↓b_exit, ↓e_normal, ↓e_ret, e_some, go_sem, ↓reduceIte, Nat.reduceEqDiff, Nat.reduceLT, Nat.reduceSub, A_tree_Tree_Has_3, vload, vptr, Mem.read, k1, g1, hrd2, Nat.add_zero, List.getElem?_cons_zero, List.getElem?_cons_succ, hlk, lookV_parts, vstore, V.cells, spC_len, hw0, Nat.reduceEqDiff]
  have hG2 : Grew M ((M1.push (.cells [.int .i64 0, .int .i64 0, .str []] false)).set M1.next (.cells (spC ((getS l p).getD sp0)) false)) := (hG.trans (Grew.push _ _)).upd (by omega) (Upd.set _ _ _)
  have g2 : ((M1.push (.cells [.int .i64 0, .int .i64 0, .str []] false)).set M1.next (.cells (spC ((getS l p).getD sp0)) false)).get M.next = some (.cells (stC p) false) := by rw [Mem.get_set_ne _ _ (by omega), Mem.get_push_ne _ _ (by omega)]; exact g1
  have hg2 : isG ((M1.push (.cells [.int .i64 0, .int .i64 0, .str []] false)).set M1.next (.cells (spC ((getS l p).getD sp0)) false)) = true := isG_mk ((hG2.old 0 (by omega)).trans (isG_is hg).1) ((hG2.old 1 (by omega)).trans (isG_is hg).2)
  clear hlk hw0
  generalize (M1.push (.cells [.int .i64 0, .int .i64 0, .str []] false)).set M1.next (.cells (spC ((getS l p).getD sp0)) false) = M2 at *
  cases hs : (getS l p).isSome with
  | true =>
    simp -dsimp only [↓w_seq, ↓w_ops, ↓w_skip, ↓w_ret, ↓w_exit, ↓w_scope, ↓w_block, ↓w_cond, cond_true', cond_false', ↓t_nil, ↓t_plain, ↓t_guard, ↓t_gagain, ↓t_again, t_val, t_call, g_true, g_false, ga_true, ga_false, a_val, a_call, ↓n_normal, ↓n_ret, ↓n_exit, ↓b_normal, ↓b_ret, ↓b_exit, ↓e_normal, ↓e_ret, e_some, go_sem, ↓reduceIte, Nat.reduceEqDiff, Nat.reduceLT, Nat.reduceSub, A_tree_Tree_Has_4]
    exact hR _ _ ⟨by rw [hasB, hs]; rfl, hG2.old⟩
  | false =>
    simp -dsimp only [↓w_seq, ↓w_ops, ↓w_skip, ↓w_ret, ↓w_exit, ↓w_scope, ↓w_block, ↓w_cond, cond_true', cond_false', ↓t_nil, ↓t_plain, ↓t_guard, ↓t_gagain, ↓t_again, t_val, t_call, g_true, g_false, ga_true, ga_false, a_val, a_call, ↓n_normal, ↓n_ret, ↓n_exit, ↓b_normal, ↓b_ret, ↓b_exit, ↓e_normal, ↓e_ret, e_some, go_sem, ↓reduceIte, Nat.reduceEqDiff, Nat.reduceLT, Nat.reduceSub, A_tree_Tree_Has_4, vload, vptr, Mem.read, g2, hrd2]
    refine call_eq (place_p rfl p hg2) ?_
    cases hpl : placeSt p with
    | false =>
      simp -dsimp only [↓w_seq, ↓w_ops, ↓w_skip, ↓w_ret, ↓w_exit, ↓w_scope, ↓w_block, ↓w_cond, cond_true', cond_false', ↓t_nil, ↓t_plain, ↓t_guard, ↓t_gagain, ↓t_again, t_val, t_call, g_true, g_false, ga_true, ga_false, a_val, a_call, ↓n_normal, ↓n_ret, ↓n_exit, ↓b_normal, ↓b_ret, ↓b_exit, ↓e_normal, ↓e_ret, e_some, go_sem, ↓reduceIte, Nat.reduceEqDiff, Nat.reduceLT, Nat.reduceSub]
      exact hR _ _ ⟨by rw [hasB, hs, hpl]; rfl, hG2.old⟩
    | true =>
      simp -dsimp only [↓w_seq, ↓w_ops, ↓w_skip, ↓w_ret, ↓w_exit, ↓w_scope, ↓w_block, ↓w_cond, cond_true', cond_false', ↓t_nil, ↓t_plain, ↓t_guard, ↓t_gagain, ↓t_again, t_val, t_call, g_true, g_false, ga_true, ga_false, a_val, a_call, ↓n_normal, ↓n_ret, ↓n_exit, ↓b_normal, ↓b_ret, ↓b_exit, ↓e_normal, ↓e_ret, e_some, go_sem, ↓reduceIte, Nat.reduceEqDiff, Nat.reduceLT, Nat.reduceSub, vload, vptr, Mem.read, g2, hrd2]
      refine call_eq (opnode_p rfl p) ?_
      simp -dsimp only [↓w_seq, ↓w_ops, ↓w_skip, ↓w_ret, ↓w_exit, ↓w_scope, ↓w_block, ↓w_cond, cond_true', cond_false', ↓t_nil, ↓t_plain, ↓t_guard, ↓t_gagain, ↓t_again, t_val, t_call, g_true, g_false, ga_true, ga_false, a_val, a_call, ↓n_normal, ↓n_ret, ↓n_exit, ↓b_normal, ↓b_ret, ↓b_exit, ↓e_normal, ↓e_ret, e_some, go_sem, ↓reduceIte, Nat.reduceEqDiff, Nat.reduceLT, Nat.reduceSub]
      exact hR _ _ ⟨by rw [hasB, hs, hpl]; rfl, hG2.old⟩
def pHas (args : List V) (M : Mem) : Option V :=
  match args with
  | [.ptr none, .agg [.int .i64 a, .int .i64 b]] => some (.bool false)
  | [.ptr (some (tc, 0)), .agg [.int .i64 a, .int .i64 b]] => (treeOf M tc).bind fun o => match o with
    | none => some (.bool false)
    | some l => cond (isG M) (some (.bool (hasB l (a, b)))) none
  | _ => none
theorem pHas_ok : CallOK Tryd.prog gl0 fun f' args M => if f' = F_tree_Tree_Has then (pHas args M).map (·, M) else none := by
  refine prim_keep ⟨_, Tryd.func30, (by kernel_rfl), (by kernel_rfl)⟩ ?_
  intro args M v h hwf
  unfold pHas at h
  split at h
  · rename_i a b
    cases h
    exact ⟨rfl, XRuns.of_runs dok1w2 (has_none M _ (a, b) fun M' _ => none_pn rfl)⟩
  · rename_i tc a b
    simp only [Option.bind_eq_some_iff] at h
    obtain ⟨o, h1, h⟩ := h
    cases o with
    | none =>
      cases h
      exact ⟨rfl, XRuns.of_runs dok1w2 (has_none M _ (a, b) fun M' hG => none_p0 rfl (tree_keep h1 hwf hG.old))⟩
    | some l =>
      obtain ⟨bm, rc, h2, h3⟩ := treeOf_some h1
      obtain ⟨hg, h⟩ := cond_some h
      cases h
      exact ⟨rfl, XRuns.of_runs dok1w2 (has_runs M tc bm rc l (a, b) hg (isG_lt hwf hg) (lt_of_get hwf h2) (lt_of_get hwf h3) h2 h3)⟩
  · cases h

theorem spot_none (M : Mem) (t : V) (p : St) (h : ∀ M', Grew M M' → Runs D1w2 F_tree_Tree_none [t] M' fun v M'' => v = .bool true ∧ M'' = M') : Runs D1w2 F_tree_Tree_Spot [t, .agg (stC p)] M fun v M' => v = .tup [.agg (spC sp0), .bool false] ∧ ∀ c, c < M.next → M'.get c = M.get c := by
  refine R_opq fun R hR => ?_
  refine Runs.walk (F := A_tree_Tree_Spot) rfl (by rfl) (by rfl) ?_
  unfold A_tree_Tree_Spot
  have hcn : V.cells (.agg (stC p)) = stC p := rfl
  have hG := (Grew.push M (.cells (stC p) false)).trans (Grew.push _ (.cells [.int .i64 0, .int .i64 0, .str []] false))
  have g1 : ((M.push (.cells (stC p) false)).push (.cells [.int .i64 0, .int .i64 0, .str []] false)).get (M.next + 1) = some (.cells (spC sp0) false) := Mem.get_push_same (M.push _) _
  simp -dsimp only [↓w_seq, ↓w_ops, ↓w_skip, ↓w_ret, ↓w_exit, ↓w_scope, ↓w_block, ↓w_cond, cond_true', cond_false', ↓t_nil, ↓t_plain, ↓t_guard, ↓t_gagain, ↓t_again, t_val, t_call, g_true, g_false, ga_true, ga_false, a_val, a_call, ↓n_normal, ↓n_ret, ↓n_exit, ↓b_normal, ↓b_ret, ↓b_exit, ↓e_normal, ↓e_ret, e_some, go_sem, ↓reduceIte, Nat.reduceEqDiff, Nat.reduceLT, Nat.reduceSub, A_tree_Tree_Spot_0, A_tree_Tree_Spot_1, hcn, Mem.next_push]
  generalize (M.push (.cells (stC p) false)).push (.cells [.int .i64 0, .int .i64 0, .str []] false) = M1 at *
  refine call_eq (h _ hG) ?_
  have hw0 := write_full (vs := spC sp0) g1 rfl rfl
  have hs := Mem.get_set_same M1 (M.next + 1) (.cells (spC sp0) false)
  have hG2 := hG.upd (b := M.next + 1) (by omega) (Upd.set M1 (M.next + 1) (.cells (spC sp0) false))
  have hb : fillCells [.int .i64 0, .int .i64 0, .str []] [] = some (spC sp0) := rfl
  have hrd : rdCells (spC sp0) 0 3 = some (spC sp0) := rfl
  simp -dsimp only [↓w_seq, ↓w_ops, ↓w_skip, ↓w_ret, ↓w_exit, ↓w_scope, ↓w_block, ↓w_cond, cond_true', cond_false', ↓t_nil, ↓t_plain, ↓t_guard, ↓t_gagain, ↓t_again, t_val, t_call, g_true, g_false, ga_true, ga_false, a_val, a_call, ↓n_normal, ↓n_ret, ↓n_exit, ↓b_normal, ↓b_ret, ↓b_exit, ↓e_normal, ↓e_ret, e_some, go_sem, ↓reduceIte, Nat.reduceEqDiff, Nat.reduceLT, Nat.reduceSub, A_tree_Tree_Spot_2, hb, vof, Option.map_some, vstore, V.cells, spC_len, hw0, Nat.reduceEqDiff]
  generalize M1.set (M.next + 1) (.cells (spC sp0) false) = M2 at *
  simp -dsimp only [↓w_seq, ↓w_ops, ↓w_skip, ↓w_ret, ↓w_exit, ↓w_scope, ↓w_block, ↓w_cond, cond_true', cond_false', ↓t_nil, ↓t_plain, ↓t_guard, ↓t_gagain, ↓t_again, t_val, t_call, g_true, g_false, ga_true, ga_false, a_val, a_call, ↓n_normal, ↓n_ret, ↓n_exit, ↓b_normal, ↓b_ret, ↓b_exit, ↓e_normal, ↓e_ret, e_some, go_sem, ↓reduceIte, Nat.reduceEqDiff, Nat.reduceLT, Nat.reduceSub, vload, vptr, Mem.read, hs, hrd, Nat.add_zero, Option.bind_some, oneOf]
  exact hR _ _ ⟨rfl, hG2.old⟩
theorem spot_runs (M : Mem) (tc bm : Nat) (rc : Bool) (l : Tr) (p : St) (htc : tc < M.next) (hbm : bm < M.next) (h : M.get tc = some (.cells [.map (some bm)] rc)) (h2 : M.get bm = some (.map (encM l))) :
    Runs D1w2 F_tree_Tree_Spot [.ptr (some (tc, 0)), .agg (stC p)] M fun v M' => v = .tup [.agg (spC ((getS l p).getD sp0)), .bool (getS l p).isSome] ∧ ∀ c, c < M.next → M'.get c = M.get c := by
  refine R_opq fun R hR => ?_
  refine Runs.walk (F := A_tree_Tree_Spot) rfl (by rfl) (by rfl) ?_
  unfold A_tree_Tree_Spot
  have hcn : V.cells (.agg (stC p)) = stC p := rfl
  have hG := (Grew.push M (.cells (stC p) false)).trans (Grew.push _ (.cells [.int .i64 0, .int .i64 0, .str []] false))
  have g0 : ((M.push (.cells (stC p) false)).push (.cells [.int .i64 0, .int .i64 0, .str []] false)).get M.next = some (.cells (stC p) false) := by rw [Mem.get_push_ne _ _ (by simp), Mem.get_push_same]
  have g1 : ((M.push (.cells (stC p) false)).push (.cells [.int .i64 0, .int .i64 0, .str []] false)).get (M.next + 1) = some (.cells (spC sp0) false) := Mem.get_push_same (M.push _) _
  have hn1 : ((M.push (.cells (stC p) false)).push (.cells [.int .i64 0, .int .i64 0, .str []] false)).next = M.next + 2 := rfl
  simp -dsimp only [↓w_seq, ↓w_ops, ↓w_skip, ↓w_ret, ↓w_exit, ↓w_scope, ↓w_block, ↓w_cond, cond_true', cond_false', ↓t_nil, ↓t_plain, ↓t_guard, ↓t_gagain, ↓t_again, t_val, t_call, g_true, g_false, ga_true, ga_false, a_val, a_call, ↓n_normal, ↓n_ret, ↓n_exit, ↓b_normal, ↓b_ret, ↓b_exit, ↓e_normal, ↓e_ret, e_some, go_sem, ↓reduceIte, Nat.reduceEqDiff, Nat.reduceLT, Nat.reduceSub, A_tree_Tree_Spot_0, A_tree_Tree_Spot_1, hcn, Mem.next_push]
  generalize (M.push (.cells (stC p) false)).push (.cells [.int .i64 0, .int .i64 0, .str []] false) = M1 at *
  have k1 := (hG.old _ htc).trans h
  have k2 := (hG.old _ hbm).trans h2
  refine call_eq (none_p rfl (treeOf_is k1 k2)) ?_
  have hlk := look_is (by unfold mapAt; rw [k2] : mapAt M1 bm = some (encM l)) p
  have hrd2 : rdCells (stC p) 0 2 = some (stC p) := rfl
  have hrd3 : ∀ s, rdCells (spC s) 0 3 = some (spC s) := fun _ => rfl
  have hw0 := write_full (M := M1.push (.cells [.int .i64 0, .int .i64 0, .str []] false)) (b := M1.next) (vs := spC ((getS l p).getD sp0)) (Mem.get_push_same _ _) rfl rfl
  simp -dsimp only [↓w_seq, ↓w_ops, ↓w_skip, ↓w_ret, ↓w_exit, ↓w_scope, ↓w_block, ↓w_cond, cond_true', cond_false', ↓t_nil, ↓t_plain, ↓t_guard, ↓t_gagain, ↓t_again, t_val, t_call, g_true, g_false, ga_true, ga_false, a_val, a_call, ↓n_normal, ↓n_ret, ↓n_exit, ↓b_normal, ↓b_ret, ↓b_exit, ↓e_normal, ↓e_ret, e_some, go_sem, ↓reduceIte, Nat.reduceEqDiff, Nat.reduceLT, Nat.reduceSub, A_tree_Tree_Spot_3, vload, vptr, Mem.read, k1, g0, hrd2, Nat.add_zero, List.getElem?_cons_zero, List.getElem?_cons_succ, hlk, lookV_parts, vstore, V.cells, spC_len, hw0, Nat.reduceEqDiff]
  have hG2 : Grew M ((M1.push (.cells [.int .i64 0, .int .i64 0, .str []] false)).set M1.next (.cells (spC ((getS l p).getD sp0)) false)) := (hG.trans (Grew.push _ _)).upd (by omega) (Upd.set _ _ _)
  have g2 : ((M1.push (.cells [.int .i64 0, .int .i64 0, .str []] false)).set M1.next (.cells (spC ((getS l p).getD sp0)) false)).get (M.next + 1) = some (.cells (spC sp0) false) := by rw [Mem.get_set_ne _ _ (by omega), Mem.get_push_ne _ _ (by omega)]; exact g1
  have g3 : ((M1.push (.cells [.int .i64 0, .int .i64 0, .str []] false)).set M1.next (.cells (spC ((getS l p).getD sp0)) false)).get M1.next = some (.cells (spC ((getS l p).getD sp0)) false) := Mem.get_set_same _ _ _
  clear hlk hw0
  generalize (M1.push (.cells [.int .i64 0, .int .i64 0, .str []] false)).set M1.next (.cells (spC ((getS l p).getD sp0)) false) = M2 at *
  have hw1 := write_full (vs := spC ((getS l p).getD sp0)) g2 rfl rfl
  have hs := Mem.get_set_same M2 (M.next + 1) (.cells (spC ((getS l p).getD sp0)) false)
  have hG3 := hG2.upd (b := M.next + 1) (by omega) (Upd.set M2 (M.next + 1) (.cells (spC ((getS l p).getD sp0)) false))
  simp -dsimp only [↓w_seq, ↓w_ops, ↓w_skip, ↓w_ret, ↓w_exit, ↓w_scope, ↓w_block, ↓w_cond, cond_true', cond_false', ↓t_nil, ↓t_plain, ↓t_guard, ↓t_gagain, ↓t_again, t_val, t_call, g_true, g_false, ga_true, ga_false, a_val, a_call, ↓n_normal, ↓n_ret, ↓n_exit, ↓b_normal, ↓b_ret, ↓b_exit, ↓e_normal, ↓e_ret, e_some, go_sem, ↓reduceIte, Nat.reduceEqDiff, Nat.reduceLT, Nat.reduceSub, A_tree_Tree_Spot_4, vload, vptr, Mem.read, g3, hrd3, Nat.add_zero, vstore, V.cells, spC_len, hw1, Nat.reduceEqDiff]
  generalize M2.set (M.next + 1) (.cells (spC ((getS l p).getD sp0)) false) = M3 at *
  simp -dsimp only [↓w_seq, ↓w_ops, ↓w_skip, ↓w_ret, ↓w_exit, ↓w_scope, ↓w_block, ↓w_cond, cond_true', cond_false', ↓t_nil, ↓t_plain, ↓t_guard, ↓t_gagain, ↓t_again, t_val, t_call, g_true, g_false, ga_true, ga_false, a_val, a_call, ↓n_normal, ↓n_ret, ↓n_exit, ↓b_normal, ↓b_ret, ↓b_exit, ↓e_normal, ↓e_ret, e_some, go_sem, ↓reduceIte, Nat.reduceEqDiff, Nat.reduceLT, Nat.reduceSub, vload, vptr, Mem.read, hs, hrd3, Nat.add_zero, Option.bind_some, oneOf]
  exact hR _ _ ⟨rfl, hG3.old⟩
def pSpotT (args : List V) (M : Mem) : Option V :=
  match args with
  | [.ptr none, .agg [.int .i64 a, .int .i64 b]] => some (.tup [.agg (spC sp0), .bool false])
  | [.ptr (some (tc, 0)), .agg [.int .i64 a, .int .i64 b]] => (treeOf M tc).map fun o => match o with
    | none => .tup [.agg (spC sp0), .bool false]
    | some l => .tup [.agg (spC ((getS l (a, b)).getD sp0)), .bool (getS l (a, b)).isSome]
  | _ => none
theorem pSpotT_ok : CallOK Tryd.prog gl0 fun f' args M => if f' = F_tree_Tree_Spot then (pSpotT args M).map (·, M) else none := by
  refine prim_keep ⟨_, Tryd.func17, (by kernel_rfl), (by kernel_rfl)⟩ ?_
  intro args M v h hwf
  unfold pSpotT at h
  split at h
  · rename_i a b
    cases h
    exact ⟨rfl, XRuns.of_runs dok1w2 (spot_none M _ (a, b) fun M' _ => none_pn rfl)⟩
  · rename_i tc a b
    simp only [Option.map_eq_some_iff] at h
    obtain ⟨o, h1, h⟩ := h
    cases o with
    | none =>
      cases h
      exact ⟨rfl, XRuns.of_runs dok1w2 (spot_none M _ (a, b) fun M' hG => none_p0 rfl (tree_keep h1 hwf hG.old))⟩
    | some l =>
      obtain ⟨bm, rc, h2, h3⟩ := treeOf_some h1
      cases h
      exact ⟨rfl, XRuns.of_runs dok1w2 (spot_runs M tc bm rc l (a, b) (lt_of_get hwf h2) (lt_of_get hwf h3) h2 h3)⟩
  · cases h
def D1w : Decls := ((D1w2.addP F_tree_Spot_right pSpRight).addP F_tree_Tree_Has pHas).addP F_tree_Tree_Spot pSpotT
theorem dok1w : DOK Tryd.prog gl0 D1w := ((dok1w2.addM pSpRight_ok).addM pHas_ok).addM pSpotT_ok

theorem has_p {D : Decls} (hp : D.prim F_tree_Tree_Has = some fun args M => (pHas args M).map (·, M)) {M : Mem} {tc : Nat} {l : Tr} (h : treeOf M tc = some (some l)) (hg : isG M = true) (p : St) : Runs D F_tree_Tree_Has [.ptr (some (tc, 0)), .agg (stC p)] M fun v M' => v = .bool (hasB l p) ∧ M' = M :=
  Runs.part (g := pHas) hp (by
    show (treeOf M tc).bind _ = _
    rw [h]
    show cond (isG M) _ none = _
    rw [hg]
    rfl)
theorem spot_p {D : Decls} (hp : D.prim F_tree_Tree_Spot = some fun args M => (pSpotT args M).map (·, M)) {M : Mem} {tc : Nat} {l : Tr} (h : treeOf M tc = some (some l)) (n : St) : Runs D F_tree_Tree_Spot [.ptr (some (tc, 0)), .agg (stC n)] M fun v M' => v = .tup [.agg (spC ((getS l n).getD sp0)), .bool (getS l n).isSome] ∧ M' = M :=
  Runs.part (g := pSpotT) hp (by show (treeOf M tc).map _ = _; rw [h]; rfl)
end Go.Am.Tryd

/- New, Own, Nodes, Below. -/
namespace Go.Am.Tryd
open Go Go.Am Go.Proofs Go.Sort Go.Shelf
set_option maxRecDepth 100000
set_option linter.unusedSimpArgs false
set_option linter.unusedVariables false

/-- A tree in memory. -/
structure TreeIn (M : Mem) (tc bm : Nat) (l : Tr) : Prop where
  c : M.get tc = some (.cells [.map (some bm)] false)
  m : M.get bm = some (.map (encM l))
  tl : tc < M.next
  bl : bm < M.next
theorem TreeIn.keep {M M' : Mem} {tc bm : Nat} {l : Tr} (h : TreeIn M tc bm l) (hk : ∀ c, c < M.next → M'.get c = M.get c) (hn : M.next ≤ M'.next) : TreeIn M' tc bm l :=
  ⟨(hk _ h.tl).trans h.c, (hk _ h.bl).trans h.m, Nat.lt_of_lt_of_le h.tl hn, Nat.lt_of_lt_of_le h.bl hn⟩
theorem TreeIn.grew {M M' : Mem} {tc bm : Nat} {l : Tr} (h : TreeIn M tc bm l) (hG : Grew M M') : TreeIn M' tc bm l := h.keep hG.old hG.next
theorem TreeIn.of {M : Mem} {tc bm : Nat} {l : Tr} (h : TreeIn M tc bm l) : treeOf M tc = some (some l) := treeOf_is h.c h.m
theorem TreeIn.at_ {M : Mem} {tc bm : Nat} {l : Tr} (h : TreeIn M tc bm l) : mapAt M bm = some (encM l) := by unfold mapAt; rw [h.m]
theorem isG_keep {M M' : Mem} (h : isG M = true) (hn : 2 ≤ M.next) (hk : ∀ c, c < M.next → M'.get c = M.get c) : isG M' = true :=
  isG_mk ((hk 0 (by omega)).trans (isG_is h).1) ((hk 1 (by omega)).trans (isG_is h).2)

theorem New_runs (D : Decls) (hp : D.prim F_tree_New = none) (hc : D.code.get F_tree_New = some A_tree_New) (M : Mem) : Runs D F_tree_New [] M fun v M' => v = .ptr (some (M.next + 1, 0)) ∧ Grew M M' ∧ TreeIn M' (M.next + 1) M.next [] := by
  refine R_opq fun R hR => ?_
  refine Runs.walk (F := A_tree_New) hp hc (by rfl) ?_
  unfold A_tree_New
  have hf : fillCells [.map none] [(0, 1, .map (some M.next))] = some [.map (some M.next)] := rfl
  simp -dsimp only [↓w_seq, ↓w_ops, ↓w_skip, ↓w_ret, ↓w_exit, ↓w_scope, ↓w_block, ↓w_cond, cond_true', cond_false', ↓t_nil, ↓t_plain, ↓t_guard, ↓t_gagain, ↓t_again, t_val, t_call, g_true, g_false, ga_true, ga_false, a_val, a_call, ↓n_normal, ↓n_ret, ↓n_exit, ↓b_normal, ↓b_ret, ↓b_exit, ↓e_normal, ↓e_ret, e_some, go_sem, ↓reduceIte, Nat.reduceEqDiff, Nat.reduceLT, Nat.reduceSub, A_tree_New_0, A_tree_New_1, hf, vof, Option.map_some, V.cells, Mem.next_push]
  have hG := (Grew.push M (.map [])).trans (Grew.push _ (.cells [.map (some M.next)] false))
  exact hR _ _ ⟨rfl, hG, Mem.get_push_same (M.push _) _, by rw [Mem.get_push_ne _ _ (by simp), Mem.get_push_same]; rfl, by simp only [Mem.next_push]; omega, by simp only [Mem.next_push]; omega⟩

theorem Own_runs (M : Mem) (s : Spot) : Runs D1w F_law10_Own [.agg (spC s)] M fun v M' => v = .agg (spC s) ∧ ∀ c, c < M.next → M'.get c = M.get c := by
  refine R_opq fun R hR => ?_
  refine Runs.walk (F := A_law10_Own) rfl (by rfl) (by rfl) ?_
  unfold A_law10_Own
  have hcn : V.cells (.agg (spC s)) = spC s := rfl
  have hrd : rdCells (spC s) 0 2 = some (stC s.1) := rfl
  have hrd3 : rdCells (spC s) 0 3 = some (spC s) := rfl
  have e2 : (spC s)[2]? = some (.str s.2) := rfl
  have hf : fillCells [.int .i64 0, .int .i64 0, .str []] [(0, 2, .agg (stC s.1)), (2, 1, .str s.2)] = some (spC s) := rfl
  have hG := (Grew.push M (.cells (spC s) false)).trans (Grew.push _ (.cells [.int .i64 0, .int .i64 0, .str []] false))
  have g0 : ((M.push (.cells (spC s) false)).push (.cells [.int .i64 0, .int .i64 0, .str []] false)).get M.next = some (.cells (spC s) false) := by rw [Mem.get_push_ne _ _ (by simp), Mem.get_push_same]
  have g1 : ((M.push (.cells (spC s) false)).push (.cells [.int .i64 0, .int .i64 0, .str []] false)).get (M.next + 1) = some (.cells (spC sp0) false) := Mem.get_push_same (M.push _) _
  simp -dsimp only [↓w_seq, ↓w_ops, ↓w_skip, ↓w_ret, ↓w_exit, ↓w_scope, ↓w_block, ↓w_cond, cond_true', cond_false', ↓t_nil, ↓t_plain, ↓t_guard, ↓t_gagain, ↓t_again, t_val, t_call, g_true, g_false, ga_true, ga_false, a_val, a_call, ↓n_normal, ↓n_ret, ↓n_exit, ↓b_normal, ↓b_ret, ↓b_exit, ↓e_normal, ↓e_ret, e_some, go_sem, ↓reduceIte, Nat.reduceEqDiff, Nat.reduceLT, Nat.reduceSub, A_law10_Own_0, hcn, Mem.next_push]
  generalize (M.push (.cells (spC s) false)).push (.cells [.int .i64 0, .int .i64 0, .str []] false) = M1 at *
  have hw := write_full (vs := spC s) g1 rfl rfl
  have hs := Mem.get_set_same M1 (M.next + 1) (.cells (spC s) false)
  have hG2 := hG.upd (b := M.next + 1) (by omega) (Upd.set M1 (M.next + 1) (.cells (spC s) false))
  simp -dsimp only [↓w_seq, ↓w_ops, ↓w_skip, ↓w_ret, ↓w_exit, ↓w_scope, ↓w_block, ↓w_cond, cond_true', cond_false', ↓t_nil, ↓t_plain, ↓t_guard, ↓t_gagain, ↓t_again, t_val, t_call, g_true, g_false, ga_true, ga_false, a_val, a_call, ↓n_normal, ↓n_ret, ↓n_exit, ↓b_normal, ↓b_ret, ↓b_exit, ↓e_normal, ↓e_ret, e_some, go_sem, ↓reduceIte, Nat.reduceEqDiff, Nat.reduceLT, Nat.reduceSub, A_law10_Own_1, vload, vptr, Mem.read, g0, hrd, e2, Nat.add_zero, Nat.zero_add, hf, vof, Option.map_some, vstore, hcn, spC_len, hw, Nat.reduceEqDiff]
  generalize M1.set (M.next + 1) (.cells (spC s) false) = M2 at *
  simp -dsimp only [↓w_seq, ↓w_ops, ↓w_skip, ↓w_ret, ↓w_exit, ↓w_scope, ↓w_block, ↓w_cond, cond_true', cond_false', ↓t_nil, ↓t_plain, ↓t_guard, ↓t_gagain, ↓t_again, t_val, t_call, g_true, g_false, ga_true, ga_false, a_val, a_call, ↓n_normal, ↓n_ret, ↓n_exit, ↓b_normal, ↓b_ret, ↓b_exit, ↓e_normal, ↓e_ret, e_some, go_sem, ↓reduceIte, Nat.reduceEqDiff, Nat.reduceLT, Nat.reduceSub, vload, vptr, Mem.read, hs, hrd3, Nat.add_zero, Option.bind_some, oneOf]
  exact hR _ _ ⟨rfl, hG2.old⟩
def pOwn (args : List V) (_ : Mem) : Option V :=
  match args with
  | [.agg [.int .i64 a, .int .i64 b, .str k]] => some (.agg (spC ((a, b), k)))
  | _ => none
theorem pOwn_ok : CallOK Tryd.prog gl0 fun f' args M => if f' = F_law10_Own then (pOwn args M).map (·, M) else none := by
  refine prim_keep ⟨_, Tryd.func21, (by kernel_rfl), (by kernel_rfl)⟩ ?_
  intro args M v h hwf
  unfold pOwn at h
  split at h
  · rename_i a b k
    cases h
    exact ⟨rfl, XRuns.of_runs dok1w (Own_runs M ((a, b), k))⟩
  · cases h
theorem own_p {D : Decls} (hp : D.prim F_law10_Own = some fun args M => (pOwn args M).map (·, M)) {M : Mem} (s : Spot) : Runs D F_law10_Own [.agg (spC s)] M fun v M' => v = .agg (spC s) ∧ M' = M :=
  Runs.part (g := pOwn) hp rfl

def D1x : Decls := D1w.addP F_law10_Own pOwn
theorem dok1x : DOK Tryd.prog gl0 D1x := dok1w.addM pOwn_ok

/-- Memory in which the two package variables stand alone. -/
def memG : Mem := Env.mem [(stC (0, 0), 0, 0, 2), (stC (0, 1), 1, 0, 2)]
theorem knows_closed : (callN D1x 400 F_law10_knows [] memG).map (·.1) = some (.bool true) := by kernel_rfl
def pKnows (args : List V) (M : Mem) : Option (V × Mem) :=
  match args with
  | [] => cond (isG M) (some (.bool true, M)) none
  | _ => none
theorem memG_0 : memG.get 0 = some (.cells (stC (0, 0)) true) := by rw [memG, Env.get_mem]; rfl
theorem memG_1 : memG.get 1 = some (.cells (stC (0, 1)) true) := by rw [memG, Env.get_mem]; rfl
theorem gl_two {x : Nat} (h : gl0 x = true) : x = 0 ∨ x = 1 := by
  have := Nat.le_of_ble_eq_true h
  omega
theorem pKnows_ok : CallOK Tryd.prog gl0 fun f' args M => if f' = F_law10_knows then pKnows args M else none := by
  obtain ⟨⟨v, M'⟩, h1, h2⟩ := Option.map_eq_some_iff.mp knows_closed
  simp only at h2
  subst h2
  refine prim_env dok1x (M0 := memG) rfl ?_ ?_ h1 ?_
  · intro b hb
    rw [memG, Env.next_mem] at hb
    rw [memG, Env.get_mem, List.getElem?_eq_none hb]
    rfl
  · intro x hx
    rcases gl_two hx with rfl | rfl
    · exact ⟨_, memG_0, rfl⟩
    · exact ⟨_, memG_1, rfl⟩
  · intro args M r h
    unfold pKnows at h
    split at h
    · obtain ⟨hg, h⟩ := cond_some h
      cases h
      refine ⟨rfl, rfl, fun x hx => ?_⟩
      rcases gl_two hx with rfl | rfl
      · rw [(isG_is hg).1, memG_0]
      · rw [(isG_is hg).2, memG_1]
    · cases h
def D2 : Decls := D1x.addM F_law10_knows pKnows
theorem dok2 : DOK Tryd.prog gl0 D2 := dok1x.addM pKnows_ok
theorem knows_p {M : Mem} (h : isG M = true) : Runs D2 F_law10_knows [] M fun v M' => v = .bool true ∧ M' = M :=
  Runs.prim (v := .bool true) (M' := M) rfl (by simp only [pKnows, h, cond_true]) ⟨rfl, rfl⟩

/-- Nodes by rising stamps; those below a place. -/
def nodesL (l : Tr) : List St := isort ltSt (keysS l)
def belF (l : Tr) (p : St) (n : St) : Bool := decide (((getS l n).getD sp0).1 = p)
def belowL (l : Tr) (p : St) : List St := (nodesL l).filter (belF l p)
theorem nodes_len (l : Tr) : (nodesL l).length = l.length := by simp [nodesL, isort_len, keysS]

theorem Keys_runs (D : Decls) (hp : D.prim F_maps_Keys_Stamp_Spot = none) (hc : D.code.get F_maps_Keys_Stamp_Spot = some A_maps_Keys_Stamp_Spot) (M : Mem) (bm : Nat) : Runs D F_maps_Keys_Stamp_Spot [.map (some bm)] M fun v M' => v = .fn F_maps_Keys_Stamp_Spot_c1 [] [.ptr (some (M.next, 0))] ∧ M' = M.push (.cells [.map (some bm)] false) := by
  refine R_opq fun R hR => ?_
  refine Runs.walk (F := A_maps_Keys_Stamp_Spot) hp hc (by rfl) ?_
  unfold A_maps_Keys_Stamp_Spot
  simp -dsimp only [↓w_seq, ↓w_ops, ↓w_skip, ↓w_ret, ↓w_exit, ↓w_scope, ↓w_block, ↓w_cond, cond_true', cond_false', ↓t_nil, ↓t_plain, ↓t_guard, ↓t_gagain, ↓t_again, t_val, t_call, g_true, g_false, ga_true, ga_false, a_val, a_call, ↓n_normal, ↓n_ret, ↓n_exit, ↓b_normal, ↓b_ret, ↓b_exit, ↓e_normal, ↓e_ret, e_some, go_sem, ↓reduceIte, Nat.reduceEqDiff, Nat.reduceLT, Nat.reduceSub, A_maps_Keys_Stamp_Spot_0, A_maps_Keys_Stamp_Spot_1, V.cells]
  exact hR _ _ ⟨rfl, rfl⟩
theorem Nodes_none (D : Decls) (hp : D.prim F_tree_Tree_Nodes = none) (hc : D.code.get F_tree_Tree_Nodes = some A_tree_Tree_Nodes) (M : Mem) (t : V) (h : Runs D F_tree_Tree_none [t] M fun v M' => v = .bool true ∧ M' = M) : Runs D F_tree_Tree_Nodes [t] M fun v M' => v = .slice none 0 (.exact 0) ∧ M' = M := by
  refine R_opq fun R hR => ?_
  refine Runs.walk (F := A_tree_Tree_Nodes) hp hc (by rfl) ?_
  unfold A_tree_Tree_Nodes
  simp -dsimp only [↓w_seq, ↓w_ops, ↓w_skip, ↓w_ret, ↓w_exit, ↓w_scope, ↓w_block, ↓w_cond, cond_true', cond_false', ↓t_nil, ↓t_plain, ↓t_guard, ↓t_gagain, ↓t_again, t_val, t_call, g_true, g_false, ga_true, ga_false, a_val, a_call, ↓n_normal, ↓n_ret, ↓n_exit, ↓b_normal, ↓b_ret, ↓b_exit, ↓e_normal, ↓e_ret, e_some, go_sem, ↓reduceIte, Nat.reduceEqDiff, Nat.reduceLT, Nat.reduceSub, A_tree_Tree_Nodes_0, A_tree_Tree_Nodes_1]
  refine call_eq h ?_
  simp -dsimp only [↓w_seq, ↓w_ops, ↓w_skip, ↓w_ret, ↓w_exit, ↓w_scope, ↓w_block, ↓w_cond, cond_true', cond_false', ↓t_nil, ↓t_plain, ↓t_guard, ↓t_gagain, ↓t_again, t_val, t_call, g_true, g_false, ga_true, ga_false, a_val, a_call, ↓n_normal, ↓n_ret, ↓n_exit, ↓b_normal, ↓b_ret, ↓b_exit, ↓e_normal, ↓e_ret, e_some, go_sem, ↓reduceIte, Nat.reduceEqDiff, Nat.reduceLT, Nat.reduceSub, A_tree_Tree_Nodes_2]
  exact hR _ _ ⟨rfl, rfl⟩
theorem Nodes_runs (M : Mem) (tc bm : Nat) (l : Tr) (T : TreeIn M tc bm l) (hN : (l.length + 1) * 16 ≤ maxRoom) : Runs D2 F_tree_Tree_Nodes [.ptr (some (tc, 0))] M fun v M' => Grew M M' ∧ Hold M.next M' 2 v (nodesL l).length (elSt.all (nodesL l)) := by
  refine R_opq fun R hR => ?_
  refine Runs.walk (F := A_tree_Tree_Nodes) rfl (by rfl) (by rfl) ?_
  unfold A_tree_Tree_Nodes
  simp -dsimp only [↓w_seq, ↓w_ops, ↓w_skip, ↓w_ret, ↓w_exit, ↓w_scope, ↓w_block, ↓w_cond, cond_true', cond_false', ↓t_nil, ↓t_plain, ↓t_guard, ↓t_gagain, ↓t_again, t_val, t_call, g_true, g_false, ga_true, ga_false, a_val, a_call, ↓n_normal, ↓n_ret, ↓n_exit, ↓b_normal, ↓b_ret, ↓b_exit, ↓e_normal, ↓e_ret, e_some, go_sem, ↓reduceIte, Nat.reduceEqDiff, Nat.reduceLT, Nat.reduceSub, A_tree_Tree_Nodes_0, A_tree_Tree_Nodes_1]
  refine call_eq (none_p rfl T.of) ?_
  simp -dsimp only [↓w_seq, ↓w_ops, ↓w_skip, ↓w_ret, ↓w_exit, ↓w_scope, ↓w_block, ↓w_cond, cond_true', cond_false', ↓t_nil, ↓t_plain, ↓t_guard, ↓t_gagain, ↓t_again, t_val, t_call, g_true, g_false, ga_true, ga_false, a_val, a_call, ↓n_normal, ↓n_ret, ↓n_exit, ↓b_normal, ↓b_ret, ↓b_exit, ↓e_normal, ↓e_ret, e_some, go_sem, ↓reduceIte, Nat.reduceEqDiff, Nat.reduceLT, Nat.reduceSub, A_tree_Tree_Nodes_3, vload, vptr, Mem.read, T.c, Nat.add_zero, List.getElem?_cons_zero]
  refine call_of (Keys_runs D2 rfl (by rfl) M bm) ?_
  intro v M1 hv
  rw [hv.1]
  have hG : Grew M M1 := by rw [hv.2]; exact Grew.push _ _
  have g1 : M1.get M.next = some (.cells [.map (some bm)] false) := by rw [hv.2]; exact Mem.get_push_same _ _
  clear hv
  have T1 := T.grew hG
  simp -dsimp only [↓w_seq, ↓w_ops, ↓w_skip, ↓w_ret, ↓w_exit, ↓w_scope, ↓w_block, ↓w_cond, cond_true', cond_false', ↓t_nil, ↓t_plain, ↓t_guard, ↓t_gagain, ↓t_again, t_val, t_call, g_true, g_false, ga_true, ga_false, a_val, a_call, ↓n_normal, ↓n_ret, ↓n_exit, ↓b_normal, ↓b_ret, ↓b_exit, ↓e_normal, ↓e_ret, e_some, go_sem, ↓reduceIte, Nat.reduceEqDiff, Nat.reduceLT, Nat.reduceSub]
  have hkl : (keysS l).length = l.length := keys_len l
  cases hk : keysS l with
  | nil =>
    refine call_of (S := fun v M2 => v = .slice none 0 (.exact 0) ∧ M2 = M1) (Runs.prim (v := .slice none 0 (.exact 0)) (M' := M1) rfl (by
      simp only [pSortedK, Nat.beq_refl, cond_true, g1, T1.m, keysOf_enc, Option.bind_some, hkl, ble_iff, decide_eq_true hN]
      rw [hk]
      rfl) ⟨rfl, rfl⟩) ?_
    intro v M2 hv
    rw [hv.1, hv.2]
    simp -dsimp only [↓w_seq, ↓w_ops, ↓w_skip, ↓w_ret, ↓w_exit, ↓w_scope, ↓w_block, ↓w_cond, cond_true', cond_false', ↓t_nil, ↓t_plain, ↓t_guard, ↓t_gagain, ↓t_again, t_val, t_call, g_true, g_false, ga_true, ga_false, a_val, a_call, ↓n_normal, ↓n_ret, ↓n_exit, ↓b_normal, ↓b_ret, ↓b_exit, ↓e_normal, ↓e_ret, e_some, go_sem, ↓reduceIte, Nat.reduceEqDiff, Nat.reduceLT, Nat.reduceSub]
    have hn : nodesL l = [] := by rw [nodesL, hk]; rfl
    exact hR _ _ ⟨hG, by rw [hn]; exact .nil⟩
  | cons x xs =>
    refine call_of (S := fun v M2 => v = .slice (some (M1.next, 0)) (xs.length + 1) (.upto 2) ∧ M2 = M1.push (.cells (elSt.all (isort ltSt (x :: xs))) false)) (Runs.prim rfl (by
      simp only [pSortedK, Nat.beq_refl, cond_true, g1, T1.m, keysOf_enc, Option.bind_some, hkl, ble_iff, decide_eq_true hN]
      rw [hk]
      rfl) ⟨rfl, rfl⟩) ?_
    intro v M2 hv
    rw [hv.1, hv.2]
    simp -dsimp only [↓w_seq, ↓w_ops, ↓w_skip, ↓w_ret, ↓w_exit, ↓w_scope, ↓w_block, ↓w_cond, cond_true', cond_false', ↓t_nil, ↓t_plain, ↓t_guard, ↓t_gagain, ↓t_again, t_val, t_call, g_true, g_false, ga_true, ga_false, a_val, a_call, ↓n_normal, ↓n_ret, ↓n_exit, ↓b_normal, ↓b_ret, ↓b_exit, ↓e_normal, ↓e_ret, e_some, go_sem, ↓reduceIte, Nat.reduceEqDiff, Nat.reduceLT, Nat.reduceSub]
    have hn : nodesL l = isort ltSt (x :: xs) := by rw [nodesL, hk]
    have hlen : (nodesL l).length = xs.length + 1 := by rw [nodes_len, ← hkl, hk]; rfl
    refine hR _ _ ⟨hG.trans (Grew.push _ _), ?_⟩
    rw [hlen, hn]
    refine .row (Mem.get_push_same _ _) ?_ hG.next (by simp)
    rw [← hn, elSt.all_len, hlen]
    rfl

theorem st_at {M : Mem} {s : V} {xs : List St} (h : SlR elSt M s xs) {i : Nat} (hi : i < xs.length) : ∃ b o cs ro cap, s = .slice (some (b, o)) xs.length cap ∧ M.get b = some (.cells cs ro) ∧ rdCells cs (o + i * 2) 2 = some (stC xs[i]) := by
  obtain ⟨a, cap, rfl, h⟩ := h
  rcases h with h | ⟨b, o, cs, ro, rfl, h1, h2⟩
  · subst h; simp at hi
  · exact ⟨b, o, cs, ro, cap, rfl, h1, h2 i hi⟩
theorem Hold.slR {lo : Nat} {M : Mem} {s : V} {xs : List St} (h : Hold lo M 2 s xs.length (elSt.all xs)) : SlR elSt M s xs := by
  generalize hn : xs.length = n at h
  generalize hc : elSt.all xs = cs at h
  cases h with
  | nil => exact ⟨none, .exact 0, by rw [hn], .inl (List.eq_nil_of_length_eq_zero hn)⟩
  | row h1 h2 h3 h4 =>
    refine ⟨_, _, by rw [hn], .inr ⟨_, 0, _, false, rfl, h1, fun i hi => ?_⟩⟩
    rw [← hc, Nat.zero_add]
    exact elSt.rd xs i hi

theorem look1 {M : Mem} {b : Nat} {l : Tr} (h : mapAt M b = some (encM l)) (k : St) : vlookup ⟨true, [.int .i64, .int .i64]⟩ (.agg [.int .i64 0, .int .i64 0, .str []]) false M (.map (some b)) (.agg (stC k)) = some (.agg (spC ((getS l k).getD sp0))) := by
  have hok : Sh.ok ⟨true, [.int .i64, .int .i64]⟩ (.agg (stC k)) = true := rfl
  simp only [vlookup, h, Option.bind_some, hok, cond_true, mapIdx_is, Option.map_some, idx_get]
  cases getS l k <;> rfl
theorem Below_loop (tc bm b3 : Nat) (l : Tr) (p : St) (ns : List St) (sn : V) (M0 : Mem) (T : TreeIn M0 tc bm l) (h3 : M0.get b3 = some (.cells (stC p) false)) (l3 : b3 < M0.next) (hns : SlR elSt M0 sn ns) (hlt : ∀ b, sn.blk = some b → b < M0.next) (hN : (ns.length + 1) * 16 ≤ maxRoom) {Q : AExit → Fr → Mem → Prop}
    (hE : ∀ fr M s, Grew M0 M → Hold M0.next M 2 s (ns.filter (belF l p)).length (elSt.all (ns.filter (belF l p))) → fr.rd 5 = s → Q (.exit 0) fr M) :
    ∀ (f i : Nat) (s : V) (fr : Fr) (M : Mem), i + f = ns.length → Grew M0 M → Hold M0.next M 2 s ((ns.take i).filter (belF l p)).length (elSt.all ((ns.take i).filter (belF l p))) → fr.rd 0 = .ptr (some (tc, 0)) → fr.rd 3 = .ptr (some (b3, 0)) → fr.rd 5 = s → fr.rd 9 = sn → fr.rd 10 = .int .i64 (ns.length : Int) → fr.rd 11 = .int .i64 (i : Int) → WC D2 30 (.loop A_tree_Tree_Below_8) fr M Q := by
  have hmx : maxRoom = 17592186044416 := rfl
  intro f
  induction f with
  | zero =>
    intro i s fr M hi hG hH h0 hf3 h5 h9 h10 h11
    refine WC.loop (W_of ?_)
    unfold A_tree_Tree_Below_8
    have : ¬ (i : Int) < ns.length := by omega
    simp -dsimp only [↓w_seq, ↓w_ops, ↓w_skip, ↓w_ret, ↓w_exit, ↓w_scope, ↓w_block, ↓w_cond, cond_true', cond_false', ↓t_nil, ↓t_plain, ↓t_guard, ↓t_gagain, ↓t_again, t_val, t_call, g_true, g_false, ga_true, ga_false, a_val, a_call, ↓n_normal, ↓n_ret, ↓n_exit, ↓b_normal, ↓b_ret, ↓b_exit, ↓e_normal, ↓e_ret, e_some, go_sem, ↓reduceIte, Nat.reduceEqDiff, Nat.reduceLT, Nat.reduceSub, A_tree_Tree_Below_3, h10, h11, this, decide_false]
    have : i = ns.length := by omega
    subst this
    rw [List.take_length] at hH
    exact hE _ _ s hG hH (by simp only [go_sem, ↓reduceIte, Nat.reduceEqDiff, Nat.reduceLT, Nat.reduceSub, h5])
  | succ f ih =>
    intro i s fr M hi hG hH h0 hf3 h5 h9 h10 h11
    refine WC.loop (W_of ?_)
    unfold A_tree_Tree_Below_8
    have hil : i < ns.length := by omega
    have hsM : SlR elSt M sn ns := hns.keep fun b hb => hG.old b (hlt b hb)
    obtain ⟨b, o, cs, ro, cap, rfl, hM, hr⟩ := st_at hsM hil
    have hb : b < M.next := Nat.lt_of_lt_of_le (hlt b rfl) hG.next
    have h1 : (i : Int) < ns.length := by omega
    have h2 : i + 1 ≤ ns.length := by omega
    have h5' : (i : Int) + 1 = ((i + 1 : Nat) : Int) := by omega
    have hw := write_full (M := M.push (.cells [.int .i64 0, .int .i64 0] false)) (b := M.next) (vs := stC ns[i]) (Mem.get_push_same _ _) rfl rfl
    have hrd : ∀ x : St, rdCells (stC x) 0 2 = some (stC x) := fun _ => rfl
    have hn0 := hG.next
    simp -dsimp only [↓w_seq, ↓w_ops, ↓w_skip, ↓w_ret, ↓w_exit, ↓w_scope, ↓w_block, ↓w_cond, cond_true', cond_false', ↓t_nil, ↓t_plain, ↓t_guard, ↓t_gagain, ↓t_again, t_val, t_call, g_true, g_false, ga_true, ga_false, a_val, a_call, ↓n_normal, ↓n_ret, ↓n_exit, ↓b_normal, ↓b_ret, ↓b_exit, ↓e_normal, ↓e_ret, e_some, go_sem, ↓reduceIte, Nat.reduceEqDiff, Nat.reduceLT, Nat.reduceSub, A_tree_Tree_Below_3, A_tree_Tree_Below_4, h9, h10, h11, h1, h2, decide_true, vload, vptr, hM, Mem.read, hr, Nat.add_zero, vstore, V.cells, stC_len, hw, Nat.reduceEqDiff]
    have hG1 : Grew M ((M.push (.cells [.int .i64 0, .int .i64 0] false)).set M.next (.cells (stC ns[i]) false)) := (Grew.push M _).upd (Nat.le_refl _) (Upd.set _ _ _)
    have g7 : ((M.push (.cells [.int .i64 0, .int .i64 0] false)).set M.next (.cells (stC ns[i]) false)).get M.next = some (.cells (stC ns[i]) false) := Mem.get_set_same _ _ _
    have hn1 : ((M.push (.cells [.int .i64 0, .int .i64 0] false)).set M.next (.cells (stC ns[i]) false)).next = M.next + 1 := rfl
    clear hw
    generalize (M.push (.cells [.int .i64 0, .int .i64 0] false)).set M.next (.cells (stC ns[i]) false) = M1 at *
    have T1 := (T.grew hG).grew hG1
    have k3 := ((hG.trans hG1).old _ l3).trans h3
    have hH1 : Hold M0.next M1 2 s ((ns.take i).filter (belF l p)).length (elSt.all ((ns.take i).filter (belF l p))) := hH.keep (fun c hc => hG1.old c (hH.blk_le hc).2.1) hG1.next
    have hlk : vlookup ⟨true, [.int .i64, .int .i64]⟩ (.agg [.int .i64 0, .int .i64 0, .str []]) false M1 (.map (some bm)) (.agg (stC ns[i])) = some (.agg (spC ((getS l ns[i]).getD sp0))) := look1 T1.at_ _
    have hfd : partOf (spC ((getS l ns[i]).getD sp0)) 0 (some 2) = some (.agg (stC ((getS l ns[i]).getD sp0).1)) := rfl
    have htk : (ns.take (i + 1)).filter (belF l p) = (ns.take i).filter (belF l p) ++ (if belF l p ns[i] then [ns[i]] else []) := by
      rw [List.take_add_one, List.getElem?_eq_getElem hil, List.filter_append]
      cases hbl : belF l p ns[i] <;> simp [hbl]
    simp -dsimp only [↓w_seq, ↓w_ops, ↓w_skip, ↓w_ret, ↓w_exit, ↓w_scope, ↓w_block, ↓w_cond, cond_true', cond_false', ↓t_nil, ↓t_plain, ↓t_guard, ↓t_gagain, ↓t_again, t_val, t_call, g_true, g_false, ga_true, ga_false, a_val, a_call, ↓n_normal, ↓n_ret, ↓n_exit, ↓b_normal, ↓b_ret, ↓b_exit, ↓e_normal, ↓e_ret, e_some, go_sem, ↓reduceIte, Nat.reduceEqDiff, Nat.reduceLT, Nat.reduceSub, A_tree_Tree_Below_5, h0, hf3, vload, vptr, T1.c, Mem.read, g7, k3, hrd, Nat.add_zero, List.getElem?_cons_zero, hlk, hfd, vof, st_same]
    have hbl : belF l p ns[i] = decide (((getS l ns[i]).getD sp0).1 = p) := rfl
    rw [← hbl]
    have hnl : ((ns.take i).filter (belF l p)).length ≤ i := Nat.le_trans (List.length_filter_le _ _) (by rw [List.length_take]; omega)
    cases hb2 : belF l p ns[i] with
    | false =>
      rw [hb2, if_neg (by simp), List.append_nil] at htk
      simp -dsimp only [↓w_seq, ↓w_ops, ↓w_skip, ↓w_ret, ↓w_exit, ↓w_scope, ↓w_block, ↓w_cond, cond_true', cond_false', ↓t_nil, ↓t_plain, ↓t_guard, ↓t_gagain, ↓t_again, t_val, t_call, g_true, g_false, ga_true, ga_false, a_val, a_call, ↓n_normal, ↓n_ret, ↓n_exit, ↓b_normal, ↓b_ret, ↓b_exit, ↓e_normal, ↓e_ret, e_some, go_sem, ↓reduceIte, Nat.reduceEqDiff, Nat.reduceLT, Nat.reduceSub, A_tree_Tree_Below_7, h11, h5', IntWalk.i64_in ((i + 1 : Nat) : Int) (by omega)]
      refine ih (i + 1) s _ M1 (by omega) (hG.trans hG1) (by rw [htk]; exact hH1) ?_ ?_ ?_ ?_ ?_ ?_
      all_goals simp only [go_sem, ↓reduceIte, Nat.reduceEqDiff, Nat.reduceLT, Nat.reduceSub, h0, hf3, h5, h9, h10]
    | true =>
      rw [hb2, if_pos rfl] at htk
      have hH3 : Hold M0.next (M1.push (.cells (stC ns[i]) false)) 2 s ((ns.take i).filter (belF l p)).length (elSt.all ((ns.take i).filter (belF l p))) := hH1.keep (fun c hc => Mem.get_push_ne _ _ (by have := hH1.blk_le hc; omega)) (by simp)
      obtain ⟨M4, hap, hH4, hn4, ho4⟩ := hH3.append (bytes := 16) (m := 1) (x := .slice (some (M1.next, 0)) 1 (.exact 1)) (new := stC ns[i]) (by simp; omega) rfl
        (by
          have := read_all (Mem.get_push_same M1 (.cells (stC ns[i]) false))
          simp only [srcCells, beq_dec, Nat.one_mul, Nat.reduceEqDiff, decide_false, cond_false]
          exact this) (by omega) rfl (Nat.le_trans (Nat.mul_le_mul_right 16 (by omega)) hN) rfl
      have hf : fillCells [.int .i64 0, .int .i64 0] [(0, 2, .agg (stC ns[i]))] = some (stC ns[i]) := rfl
      simp -dsimp only [↓w_seq, ↓w_ops, ↓w_skip, ↓w_ret, ↓w_exit, ↓w_scope, ↓w_block, ↓w_cond, cond_true', cond_false', ↓t_nil, ↓t_plain, ↓t_guard, ↓t_gagain, ↓t_again, t_val, t_call, g_true, g_false, ga_true, ga_false, a_val, a_call, ↓n_normal, ↓n_ret, ↓n_exit, ↓b_normal, ↓b_ret, ↓b_exit, ↓e_normal, ↓e_ret, e_some, go_sem, ↓reduceIte, Nat.reduceEqDiff, Nat.reduceLT, Nat.reduceSub, A_tree_Tree_Below_6, A_tree_Tree_Below_7, h5, h11, h5', vload, vptr, Mem.read, g7, hrd, repl, List.append_nil, hf, hap, IntWalk.i64_in ((i + 1 : Nat) : Int) (by omega)]
      simp only [Mem.next_push] at hH4 hn4 ho4
      have hn1' := hG1.next
      refine ih (i + 1) (.slice (some (M1.next + 1, 0)) (((ns.take i).filter (belF l p)).length + 1) (.upto 2)) _ M4 (by omega) ⟨by omega, fun c hc => ?_⟩ ?_ ?_ ?_ ?_ ?_ ?_ ?_
      · rw [ho4 c (by omega) (fun e => by have := (hH1.blk_le e).1; omega), Mem.get_push_ne _ _ (by omega), hG1.old c (by omega)]
        exact hG.old c hc
      · have e1 : (((ns.take i).filter (belF l p)) ++ [ns[i]]).length = ((ns.take i).filter (belF l p)).length + 1 := by simp
        have e2 : elSt.all (((ns.take i).filter (belF l p)) ++ [ns[i]]) = elSt.all ((ns.take i).filter (belF l p)) ++ stC ns[i] := by simp [Elem.all, elSt]
        rw [htk, e1, e2]
        exact hH4
      all_goals simp only [go_sem, ↓reduceIte, Nat.reduceEqDiff, Nat.reduceLT, Nat.reduceSub, h0, hf3, h9, h10, Mem.next_push]

theorem Below_none (D : Decls) (hp : D.prim F_tree_Tree_Below = none) (hc : D.code.get F_tree_Tree_Below = some A_tree_Tree_Below) (hp2 : D.prim F_tree_Tree_Nodes = none) (hc2 : D.code.get F_tree_Tree_Nodes = some A_tree_Tree_Nodes) (M : Mem) (t : V) (p : St) (h : ∀ M', Grew M M' → Runs D F_tree_Tree_none [t] M' fun v M'' => v = .bool true ∧ M'' = M') : Runs D F_tree_Tree_Below [t, .agg (stC p)] M fun v M' => v = .slice none 0 (.exact 0) ∧ Grew M M' := by
  refine R_opq fun R hR => ?_
  refine Runs.walk (F := A_tree_Tree_Below) hp hc (by rfl) ?_
  unfold A_tree_Tree_Below
  have hcn : V.cells (.agg (stC p)) = stC p := rfl
  have hG := Grew.push M (.cells (stC p) false)
  simp -dsimp only [↓w_seq, ↓w_ops, ↓w_skip, ↓w_ret, ↓w_exit, ↓w_scope, ↓w_block, ↓w_cond, cond_true', cond_false', ↓t_nil, ↓t_plain, ↓t_guard, ↓t_gagain, ↓t_again, t_val, t_call, g_true, g_false, ga_true, ga_false, a_val, a_call, ↓n_normal, ↓n_ret, ↓n_exit, ↓b_normal, ↓b_ret, ↓b_exit, ↓e_normal, ↓e_ret, e_some, go_sem, ↓reduceIte, Nat.reduceEqDiff, Nat.reduceLT, Nat.reduceSub, A_tree_Tree_Below_0, A_tree_Tree_Below_1, A_tree_Tree_Below_2, hcn]
  generalize M.push (.cells (stC p) false) = M1 at *
  refine call_eq (Nodes_none D hp2 hc2 M1 t (h M1 hG)) ?_
  simp -dsimp only [↓w_seq, ↓w_ops, ↓w_skip, ↓w_ret, ↓w_exit, ↓w_scope, ↓w_block, ↓w_cond, cond_true', cond_false', ↓t_nil, ↓t_plain, ↓t_guard, ↓t_gagain, ↓t_again, t_val, t_call, g_true, g_false, ga_true, ga_false, a_val, a_call, ↓n_normal, ↓n_ret, ↓n_exit, ↓b_normal, ↓b_ret, ↓b_exit, ↓e_normal, ↓e_ret, e_some, go_sem, ↓reduceIte, Nat.reduceEqDiff, Nat.reduceLT, Nat.reduceSub]
  refine WC.loop (W_of ?_)
  unfold A_tree_Tree_Below_8
  simp -dsimp only [↓w_seq, ↓w_ops, ↓w_skip, ↓w_ret, ↓w_exit, ↓w_scope, ↓w_block, ↓w_cond, cond_true', cond_false', ↓t_nil, ↓t_plain, ↓t_guard, ↓t_gagain, ↓t_again, t_val, t_call, g_true, g_false, ga_true, ga_false, a_val, a_call, ↓n_normal, ↓n_ret, ↓n_exit, ↓b_normal, ↓b_ret, ↓b_exit, ↓e_normal, ↓e_ret, e_some, go_sem, ↓reduceIte, Nat.reduceEqDiff, Nat.reduceLT, Nat.reduceSub, A_tree_Tree_Below_3, Int.lt_irrefl, decide_false, Int.natCast_zero, A_tree_Tree_Below_9, Int.ofNat_zero]
  exact hR _ _ ⟨rfl, hG⟩
theorem Below_runs (M : Mem) (tc bm : Nat) (l : Tr) (p : St) (T : TreeIn M tc bm l) (hN : (l.length + 1) * 16 ≤ maxRoom) : Runs D2 F_tree_Tree_Below [.ptr (some (tc, 0)), .agg (stC p)] M fun v M' => Grew M M' ∧ Hold M.next M' 2 v (belowL l p).length (elSt.all (belowL l p)) := by
  refine R_opq fun R hR => ?_
  refine Runs.walk (F := A_tree_Tree_Below) rfl (by rfl) (by rfl) ?_
  unfold A_tree_Tree_Below
  have hcn : V.cells (.agg (stC p)) = stC p := rfl
  have hG := Grew.push M (.cells (stC p) false)
  have g3 : (M.push (.cells (stC p) false)).get M.next = some (.cells (stC p) false) := Mem.get_push_same _ _
  have hn1 : (M.push (.cells (stC p) false)).next = M.next + 1 := rfl
  simp -dsimp only [↓w_seq, ↓w_ops, ↓w_skip, ↓w_ret, ↓w_exit, ↓w_scope, ↓w_block, ↓w_cond, cond_true', cond_false', ↓t_nil, ↓t_plain, ↓t_guard, ↓t_gagain, ↓t_again, t_val, t_call, g_true, g_false, ga_true, ga_false, a_val, a_call, ↓n_normal, ↓n_ret, ↓n_exit, ↓b_normal, ↓b_ret, ↓b_exit, ↓e_normal, ↓e_ret, e_some, go_sem, ↓reduceIte, Nat.reduceEqDiff, Nat.reduceLT, Nat.reduceSub, A_tree_Tree_Below_0, A_tree_Tree_Below_1, A_tree_Tree_Below_2, hcn]
  generalize M.push (.cells (stC p) false) = M1 at *
  refine call_of (Nodes_runs M1 tc bm l (T.grew hG) hN) ?_
  intro v M2 hv
  obtain ⟨hG2, hH⟩ := hv
  have hsl := Hold.slR hH
  obtain ⟨a, cap, rfl⟩ := hH.shape
  simp -dsimp only [↓w_seq, ↓w_ops, ↓w_skip, ↓w_ret, ↓w_exit, ↓w_scope, ↓w_block, ↓w_cond, cond_true', cond_false', ↓t_nil, ↓t_plain, ↓t_guard, ↓t_gagain, ↓t_again, t_val, t_call, g_true, g_false, ga_true, ga_false, a_val, a_call, ↓n_normal, ↓n_ret, ↓n_exit, ↓b_normal, ↓b_ret, ↓b_exit, ↓e_normal, ↓e_ret, e_some, go_sem, ↓reduceIte, Nat.reduceEqDiff, Nat.reduceLT, Nat.reduceSub]
  have hln := nodes_len l
  refine Below_loop tc bm M.next l p (nodesL l) _ M2 ((T.grew hG).grew hG2) ((hG2.old _ (by omega)).trans g3) (by have := hG2.next; omega) hsl (fun b hb => (hH.blk_le hb).2.1) (by rw [hln]; exact hN) ?_ (nodesL l).length 0 (.slice none 0 (.exact 0)) _ M2 (by omega) (Grew.refl _) ?_ ?_ ?_ ?_ ?_ ?_ ?_
  · intro fr M' s hG3 hH3 h5
    simp -dsimp only [↓w_seq, ↓w_ops, ↓w_skip, ↓w_ret, ↓w_exit, ↓w_scope, ↓w_block, ↓w_cond, cond_true', cond_false', ↓t_nil, ↓t_plain, ↓t_guard, ↓t_gagain, ↓t_again, t_val, t_call, g_true, g_false, ga_true, ga_false, a_val, a_call, ↓n_normal, ↓n_ret, ↓n_exit, ↓b_normal, ↓b_ret, ↓b_exit, ↓e_normal, ↓e_ret, e_some, go_sem, ↓reduceIte, Nat.reduceEqDiff, Nat.reduceLT, Nat.reduceSub, A_tree_Tree_Below_9, h5]
    have := hG2.next
    exact hR _ _ ⟨(hG.trans hG2).trans hG3, hH3.lower (by omega)⟩
  · rw [List.take_zero]; exact .nil
  all_goals simp only [go_sem, ↓reduceIte, Nat.reduceEqDiff, Nat.reduceLT, Nat.reduceSub]
  rfl
end Go.Am.Tryd

/- Add, Move, Drop. -/
namespace Go.Am.Tryd
open Go Go.Am Go.Proofs Go.Sort Go.Shelf
set_option maxRecDepth 100000
set_option linter.unusedSimpArgs false
set_option linter.unusedVariables false

/-- All but one block is as it was. -/
structure Chg (M : Mem) (b : Nat) (M' : Mem) : Prop where
  next : M.next ≤ M'.next
  old : ∀ c, c < M.next → c ≠ b → M'.get c = M.get c
theorem Chg.of {M M' : Mem} {b : Nat} (h : Grew M M') : Chg M b M' := ⟨h.next, fun c hc _ => h.old c hc⟩
theorem Chg.trans {M M' M'' : Mem} {b : Nat} (h : Chg M b M') (h' : Chg M' b M'') : Chg M b M'' := ⟨Nat.le_trans h.next h'.next, fun c hc hb => (h'.old c (Nat.lt_of_lt_of_le hc h.next) hb).trans (h.old c hc hb)⟩
theorem Chg.set {M M' : Mem} {b : Nat} {o : O} (h : Grew M M') : Chg M b (M'.set b o) := ⟨h.next, fun c hc hb => (Mem.get_set_ne _ _ hb).trans (h.old c hc)⟩
theorem TreeIn.ne {M : Mem} {tc bm : Nat} {l : Tr} (h : TreeIn M tc bm l) : tc ≠ bm := fun e => by have := h.c; rw [e, h.m] at this; cases this
theorem TreeIn.set {M M' : Mem} {tc bm : Nat} {l l' : Tr} (h : TreeIn M tc bm l) (hG : Grew M M') : TreeIn (M'.set bm (.map (encM l'))) tc bm l' :=
  ⟨by rw [Mem.get_set_ne _ _ h.ne]; exact (h.grew hG).c, Mem.get_set_same _ _ _, (h.grew hG).tl, (h.grew hG).bl⟩

theorem Chg.set_new {M M' : Mem} {b b' : Nat} {o : O} (h : Chg M b M') (hb : M.next ≤ b') : Chg M b (M'.set b' o) := ⟨h.next, fun c hc hne => (Mem.get_set_ne _ _ (by omega)).trans (h.old c hc hne)⟩
theorem TreeIn.set_new {M M' : Mem} {tc bm b' : Nat} {l l' : Tr} {o : O} (T : TreeIn M tc bm l) (h : TreeIn M' tc bm l') (hb : M.next ≤ b') : TreeIn (M'.set b' o) tc bm l' := by
  have h1 := T.tl
  have h2 := T.bl
  exact ⟨(Mem.get_set_ne _ _ (by omega)).trans h.c, (Mem.get_set_ne _ _ (by omega)).trans h.m, h.tl, h.bl⟩

def addE (l : Tr) (n : St) (s : Spot) : Nat := if (nodeSt n && rightSp s) = false then 1 else if (getS l n).isSome = true then 4 else if hasB l s.1 = false then 3 else if 65536 ≤ l.length then 7 else 0
def addT (l : Tr) (n : St) (s : Spot) : Tr := if addE l n s = 0 then putS l n s else l

theorem enc_lenI {M : Mem} {bm : Nat} {l : Tr} (h : mapAt M bm = some (encM l)) : vlenMap M (.map (some bm)) = some (.int .i64 (l.length : Int)) := by
  simp only [vlenMap, h, Option.map_some, enc_len]

theorem Add_runs (M : Mem) (tc bm : Nat) (l : Tr) (n : St) (s : Spot) (T : TreeIn M tc bm l) (hg : isG M = true) (hn : 2 ≤ M.next) :
    Runs D2 F_tree_Tree_Add [.ptr (some (tc, 0)), .agg (stC n), .agg (spC s)] M fun v M' => v = .int .i64 (addE l n s : Int) ∧ Chg M bm M' ∧ TreeIn M' tc bm (addT l n s) := by
  refine R_opq fun R hR => ?_
  refine Runs.walk (F := A_tree_Tree_Add) rfl (by rfl) (by rfl) ?_
  unfold A_tree_Tree_Add
  have hcn : V.cells (.agg (stC n)) = stC n := rfl
  have hcs : V.cells (.agg (spC s)) = spC s := rfl
  have hrn : rdCells (stC n) 0 2 = some (stC n) := rfl
  have hrs : rdCells (spC s) 0 3 = some (spC s) := rfl
  have hrp : rdCells (spC s) 0 2 = some (stC s.1) := rfl
  have hG := (Grew.push M (.cells (stC n) false)).trans (Grew.push _ (.cells (spC s) false))
  have g4 : ((M.push (.cells (stC n) false)).push (.cells (spC s) false)).get M.next = some (.cells (stC n) false) := by rw [Mem.get_push_ne _ _ (by simp), Mem.get_push_same]
  have g5 : ((M.push (.cells (stC n) false)).push (.cells (spC s) false)).get (M.next + 1) = some (.cells (spC s) false) := Mem.get_push_same (M.push _) _
  simp -dsimp only [↓w_seq, ↓w_ops, ↓w_skip, ↓w_ret, ↓w_exit, ↓w_scope, ↓w_block, ↓w_cond, cond_true', cond_false', ↓t_nil, ↓t_plain, ↓t_guard, ↓t_gagain, ↓t_again, t_val, t_call, g_true, g_false, ga_true, ga_false, a_val, a_call, ↓n_normal, ↓n_ret, ↓n_exit, ↓b_normal, ↓b_ret, ↓b_exit, ↓e_normal, ↓e_ret, e_some, go_sem, ↓reduceIte, Nat.reduceEqDiff, Nat.reduceLT, Nat.reduceSub, A_tree_Tree_Add_0, A_tree_Tree_Add_1, hcn, hcs, Mem.next_push]
  have T1 := T.grew hG
  have hg1 := isG_keep hg hn hG.old
  generalize (M.push (.cells (stC n) false)).push (.cells (spC s) false) = M1 at *
  have bad : ∀ e : Nat, addE l n s = e → e ≠ 0 → R (.int .i64 (e : Int)) M1 := fun e h1 h2 => hR _ _ ⟨by rw [h1], Chg.of hG, by rw [addT, if_neg (by omega)]; exact T1⟩
  refine call_eq (none_p rfl T1.of) ?_
  simp -dsimp only [↓w_seq, ↓w_ops, ↓w_skip, ↓w_ret, ↓w_exit, ↓w_scope, ↓w_block, ↓w_cond, cond_true', cond_false', ↓t_nil, ↓t_plain, ↓t_guard, ↓t_gagain, ↓t_again, t_val, t_call, g_true, g_false, ga_true, ga_false, a_val, a_call, ↓n_normal, ↓n_ret, ↓n_exit, ↓b_normal, ↓b_ret, ↓b_exit, ↓e_normal, ↓e_ret, e_some, go_sem, ↓reduceIte, Nat.reduceEqDiff, Nat.reduceLT, Nat.reduceSub, vload, vptr, Mem.read, g4, hrn]
  refine call_eq (opnode_p rfl n) ?_
  cases h1 : nodeSt n with
  | false =>
    simp -dsimp only [↓w_seq, ↓w_ops, ↓w_skip, ↓w_ret, ↓w_exit, ↓w_scope, ↓w_block, ↓w_cond, cond_true', cond_false', ↓t_nil, ↓t_plain, ↓t_guard, ↓t_gagain, ↓t_again, t_val, t_call, g_true, g_false, ga_true, ga_false, a_val, a_call, ↓n_normal, ↓n_ret, ↓n_exit, ↓b_normal, ↓b_ret, ↓b_exit, ↓e_normal, ↓e_ret, e_some, go_sem, ↓reduceIte, Nat.reduceEqDiff, Nat.reduceLT, Nat.reduceSub, A_tree_Tree_Add_2, Bool.not_false]
    exact bad 1 (by rw [addE, h1]; rfl) (by decide)
  | true =>
    simp -dsimp only [↓w_seq, ↓w_ops, ↓w_skip, ↓w_ret, ↓w_exit, ↓w_scope, ↓w_block, ↓w_cond, cond_true', cond_false', ↓t_nil, ↓t_plain, ↓t_guard, ↓t_gagain, ↓t_again, t_val, t_call, g_true, g_false, ga_true, ga_false, a_val, a_call, ↓n_normal, ↓n_ret, ↓n_exit, ↓b_normal, ↓b_ret, ↓b_exit, ↓e_normal, ↓e_ret, e_some, go_sem, ↓reduceIte, Nat.reduceEqDiff, Nat.reduceLT, Nat.reduceSub, Bool.not_true, vload, vptr, Mem.read, g5, hrs]
    refine call_eq (spright_p rfl s hg1) ?_
    cases h2 : rightSp s with
    | false =>
      simp -dsimp only [↓w_seq, ↓w_ops, ↓w_skip, ↓w_ret, ↓w_exit, ↓w_scope, ↓w_block, ↓w_cond, cond_true', cond_false', ↓t_nil, ↓t_plain, ↓t_guard, ↓t_gagain, ↓t_again, t_val, t_call, g_true, g_false, ga_true, ga_false, a_val, a_call, ↓n_normal, ↓n_ret, ↓n_exit, ↓b_normal, ↓b_ret, ↓b_exit, ↓e_normal, ↓e_ret, e_some, go_sem, ↓reduceIte, Nat.reduceEqDiff, Nat.reduceLT, Nat.reduceSub, A_tree_Tree_Add_2, Bool.not_false]
      exact bad 1 (by rw [addE, h1, h2]; rfl) (by decide)
    | true =>
      have hb : (nodeSt n && rightSp s) = true := by rw [h1, h2]; rfl
      simp -dsimp only [↓w_seq, ↓w_ops, ↓w_skip, ↓w_ret, ↓w_exit, ↓w_scope, ↓w_block, ↓w_cond, cond_true', cond_false', ↓t_nil, ↓t_plain, ↓t_guard, ↓t_gagain, ↓t_again, t_val, t_call, g_true, g_false, ga_true, ga_false, a_val, a_call, ↓n_normal, ↓n_ret, ↓n_exit, ↓b_normal, ↓b_ret, ↓b_exit, ↓e_normal, ↓e_ret, e_some, go_sem, ↓reduceIte, Nat.reduceEqDiff, Nat.reduceLT, Nat.reduceSub, Bool.not_true, A_tree_Tree_Add_3, vload, vptr, Mem.read, g4, hrn]
      refine call_eq (node_p rfl T1.of n) ?_
      cases h3 : (getS l n).isSome with
      | true =>
        simp -dsimp only [↓w_seq, ↓w_ops, ↓w_skip, ↓w_ret, ↓w_exit, ↓w_scope, ↓w_block, ↓w_cond, cond_true', cond_false', ↓t_nil, ↓t_plain, ↓t_guard, ↓t_gagain, ↓t_again, t_val, t_call, g_true, g_false, ga_true, ga_false, a_val, a_call, ↓n_normal, ↓n_ret, ↓n_exit, ↓b_normal, ↓b_ret, ↓b_exit, ↓e_normal, ↓e_ret, e_some, go_sem, ↓reduceIte, Nat.reduceEqDiff, Nat.reduceLT, Nat.reduceSub, A_tree_Tree_Add_4]
        exact bad 4 (by rw [addE, hb, h3]; rfl) (by decide)
      | false =>
        simp -dsimp only [↓w_seq, ↓w_ops, ↓w_skip, ↓w_ret, ↓w_exit, ↓w_scope, ↓w_block, ↓w_cond, cond_true', cond_false', ↓t_nil, ↓t_plain, ↓t_guard, ↓t_gagain, ↓t_again, t_val, t_call, g_true, g_false, ga_true, ga_false, a_val, a_call, ↓n_normal, ↓n_ret, ↓n_exit, ↓b_normal, ↓b_ret, ↓b_exit, ↓e_normal, ↓e_ret, e_some, go_sem, ↓reduceIte, Nat.reduceEqDiff, Nat.reduceLT, Nat.reduceSub, A_tree_Tree_Add_5, vload, vptr, Mem.read, g5, hrp, Nat.add_zero]
        refine call_eq (has_p rfl T1.of hg1 s.1) ?_
        cases h4 : hasB l s.1 with
        | false =>
          simp -dsimp only [↓w_seq, ↓w_ops, ↓w_skip, ↓w_ret, ↓w_exit, ↓w_scope, ↓w_block, ↓w_cond, cond_true', cond_false', ↓t_nil, ↓t_plain, ↓t_guard, ↓t_gagain, ↓t_again, t_val, t_call, g_true, g_false, ga_true, ga_false, a_val, a_call, ↓n_normal, ↓n_ret, ↓n_exit, ↓b_normal, ↓b_ret, ↓b_exit, ↓e_normal, ↓e_ret, e_some, go_sem, ↓reduceIte, Nat.reduceEqDiff, Nat.reduceLT, Nat.reduceSub, A_tree_Tree_Add_6, Bool.not_false]
          exact bad 3 (by rw [addE, hb, h3, h4]; rfl) (by decide)
        | true =>
          simp -dsimp only [↓w_seq, ↓w_ops, ↓w_skip, ↓w_ret, ↓w_exit, ↓w_scope, ↓w_block, ↓w_cond, cond_true', cond_false', ↓t_nil, ↓t_plain, ↓t_guard, ↓t_gagain, ↓t_again, t_val, t_call, g_true, g_false, ga_true, ga_false, a_val, a_call, ↓n_normal, ↓n_ret, ↓n_exit, ↓b_normal, ↓b_ret, ↓b_exit, ↓e_normal, ↓e_ret, e_some, go_sem, ↓reduceIte, Nat.reduceEqDiff, Nat.reduceLT, Nat.reduceSub, A_tree_Tree_Add_7, Bool.not_true, vload, vptr, Mem.read, T1.c, Nat.add_zero, List.getElem?_cons_zero, enc_lenI T1.at_]
          by_cases h5 : 65536 ≤ l.length
          · have h5' : (65536 : Int) ≤ (l.length : Int) := by omega
            simp -dsimp only [↓w_seq, ↓w_ops, ↓w_skip, ↓w_ret, ↓w_exit, ↓w_scope, ↓w_block, ↓w_cond, cond_true', cond_false', ↓t_nil, ↓t_plain, ↓t_guard, ↓t_gagain, ↓t_again, t_val, t_call, g_true, g_false, ga_true, ga_false, a_val, a_call, ↓n_normal, ↓n_ret, ↓n_exit, ↓b_normal, ↓b_ret, ↓b_exit, ↓e_normal, ↓e_ret, e_some, go_sem, ↓reduceIte, Nat.reduceEqDiff, Nat.reduceLT, Nat.reduceSub, h5', decide_true, A_tree_Tree_Add_8]
            exact bad 7 (by rw [addE, hb, h3, h4, if_pos h5]; rfl) (by decide)
          · have h5' : ¬ (65536 : Int) ≤ (l.length : Int) := by omega
            simp -dsimp only [↓w_seq, ↓w_ops, ↓w_skip, ↓w_ret, ↓w_exit, ↓w_scope, ↓w_block, ↓w_cond, cond_true', cond_false', ↓t_nil, ↓t_plain, ↓t_guard, ↓t_gagain, ↓t_again, t_val, t_call, g_true, g_false, ga_true, ga_false, a_val, a_call, ↓n_normal, ↓n_ret, ↓n_exit, ↓b_normal, ↓b_ret, ↓b_exit, ↓e_normal, ↓e_ret, e_some, go_sem, ↓reduceIte, Nat.reduceEqDiff, Nat.reduceLT, Nat.reduceSub, h5', decide_false, A_tree_Tree_Add_9, A_tree_Tree_Add_10, vload, vptr, Mem.read, T1.c, g4, g5, hrn, hrs, Nat.add_zero, List.getElem?_cons_zero, put_is T1.m n s, Option.map_some]
            have h0 : addE l n s = 0 := by rw [addE, hb, h3, h4, if_neg h5]; rfl
            refine hR _ _ ⟨by rw [h0]; rfl, Chg.set hG, ?_⟩
            rw [addT, if_pos h0]
            exact T.set hG

def moveE (l : Tr) (n : St) (s : Spot) : Nat := if (nodeSt n && rightSp s) = false then 1 else if ((getS l n).isSome && hasB l s.1) = false then 3 else if withinB l n s.1 (pathOf l s.1) = true then 41 else 0
def moveT (l : Tr) (n : St) (s : Spot) : Tr := if moveE l n s = 0 then putS l n s else l
def moveW (l : Tr) (n : St) (s : Spot) : Spot := if moveE l n s = 0 then (getS l n).getD sp0 else sp0

theorem Move_runs (M : Mem) (tc bm : Nat) (l : Tr) (n : St) (s : Spot) (T : TreeIn M tc bm l) (hg : isG M = true) (hn : 2 ≤ M.next) (hI : Inv l) :
    Runs D2 F_tree_Tree_Move [.ptr (some (tc, 0)), .agg (stC n), .agg (spC s)] M fun v M' => v = .tup [.agg (spC (moveW l n s)), .int .i64 (moveE l n s : Int)] ∧ Chg M bm M' ∧ TreeIn M' tc bm (moveT l n s) := by
  refine R_opq fun R hR => ?_
  refine Runs.walk (F := A_tree_Tree_Move) rfl (by rfl) (by rfl) ?_
  unfold A_tree_Tree_Move
  have hcn : V.cells (.agg (stC n)) = stC n := rfl
  have hcs : ∀ s, V.cells (.agg (spC s)) = spC s := fun _ => rfl
  have hrn : rdCells (stC n) 0 2 = some (stC n) := rfl
  have hrs : ∀ s, rdCells (spC s) 0 3 = some (spC s) := fun _ => rfl
  have hrp : rdCells (spC s) 0 2 = some (stC s.1) := rfl
  have hG := ((Grew.push M (.cells (stC n) false)).trans (Grew.push _ (.cells (spC s) false))).trans (Grew.push _ (.cells [.int .i64 0, .int .i64 0, .str []] false))
  have g4 : (((M.push (.cells (stC n) false)).push (.cells (spC s) false)).push (.cells [.int .i64 0, .int .i64 0, .str []] false)).get M.next = some (.cells (stC n) false) := by rw [Mem.get_push_ne _ _ (by simp; omega), Mem.get_push_ne _ _ (by simp), Mem.get_push_same]
  have g5 : (((M.push (.cells (stC n) false)).push (.cells (spC s) false)).push (.cells [.int .i64 0, .int .i64 0, .str []] false)).get (M.next + 1) = some (.cells (spC s) false) := by rw [Mem.get_push_ne _ _ (by simp)]; exact Mem.get_push_same (M.push _) _
  have g6 : (((M.push (.cells (stC n) false)).push (.cells (spC s) false)).push (.cells [.int .i64 0, .int .i64 0, .str []] false)).get (M.next + 1 + 1) = some (.cells (spC sp0) false) := Mem.get_push_same ((M.push _).push _) _
  simp -dsimp only [↓w_seq, ↓w_ops, ↓w_skip, ↓w_ret, ↓w_exit, ↓w_scope, ↓w_block, ↓w_cond, cond_true', cond_false', ↓t_nil, ↓t_plain, ↓t_guard, ↓t_gagain, ↓t_again, t_val, t_call, g_true, g_false, ga_true, ga_false, a_val, a_call, ↓n_normal, ↓n_ret, ↓n_exit, ↓b_normal, ↓b_ret, ↓b_exit, ↓e_normal, ↓e_ret, e_some, go_sem, ↓reduceIte, Nat.reduceEqDiff, Nat.reduceLT, Nat.reduceSub, A_tree_Tree_Move_0, A_tree_Tree_Move_1, hcn, hcs, Mem.next_push]
  have T1 := T.grew hG
  have hg1 := isG_keep hg hn hG.old
  generalize ((M.push (.cells (stC n) false)).push (.cells (spC s) false)).push (.cells [.int .i64 0, .int .i64 0, .str []] false) = M1 at *
  have hw0 := write_full (vs := spC sp0) g6 rfl rfl
  have hs0 := Mem.get_set_same M1 (M.next + 1 + 1) (.cells (spC sp0) false)
  have hG0 := hG.upd (b := M.next + 1 + 1) (by omega) (Upd.set M1 (M.next + 1 + 1) (.cells (spC sp0) false))
  have bad : ∀ e : Nat, moveE l n s = e → e ≠ 0 → R (.tup [.agg (spC sp0), .int .i64 (e : Int)]) (M1.set (M.next + 1 + 1) (.cells (spC sp0) false)) := fun e h1 h2 => hR _ _ ⟨by rw [moveW, if_neg (by omega), h1], Chg.of hG0, by rw [moveT, if_neg (by omega)]; exact T.grew hG0⟩
  refine call_eq (none_p rfl T1.of) ?_
  simp -dsimp only [↓w_seq, ↓w_ops, ↓w_skip, ↓w_ret, ↓w_exit, ↓w_scope, ↓w_block, ↓w_cond, cond_true', cond_false', ↓t_nil, ↓t_plain, ↓t_guard, ↓t_gagain, ↓t_again, t_val, t_call, g_true, g_false, ga_true, ga_false, a_val, a_call, ↓n_normal, ↓n_ret, ↓n_exit, ↓b_normal, ↓b_ret, ↓b_exit, ↓e_normal, ↓e_ret, e_some, go_sem, ↓reduceIte, Nat.reduceEqDiff, Nat.reduceLT, Nat.reduceSub, vload, vptr, Mem.read, g4, hrn]
  refine call_eq (opnode_p rfl n) ?_
  cases h1 : nodeSt n with
  | false =>
    simp -dsimp only [↓w_seq, ↓w_ops, ↓w_skip, ↓w_ret, ↓w_exit, ↓w_scope, ↓w_block, ↓w_cond, cond_true', cond_false', ↓t_nil, ↓t_plain, ↓t_guard, ↓t_gagain, ↓t_again, t_val, t_call, g_true, g_false, ga_true, ga_false, a_val, a_call, ↓n_normal, ↓n_ret, ↓n_exit, ↓b_normal, ↓b_ret, ↓b_exit, ↓e_normal, ↓e_ret, e_some, go_sem, ↓reduceIte, Nat.reduceEqDiff, Nat.reduceLT, Nat.reduceSub, A_tree_Tree_Move_2, Bool.not_false, vload, vptr, Mem.read, g6, hrs, Nat.add_zero, vstore, hcs, spC_len, hw0, hs0, Option.bind_some, oneOf, Nat.reduceEqDiff]
    exact bad 1 (by rw [moveE, h1]; rfl) (by decide)
  | true =>
    simp -dsimp only [↓w_seq, ↓w_ops, ↓w_skip, ↓w_ret, ↓w_exit, ↓w_scope, ↓w_block, ↓w_cond, cond_true', cond_false', ↓t_nil, ↓t_plain, ↓t_guard, ↓t_gagain, ↓t_again, t_val, t_call, g_true, g_false, ga_true, ga_false, a_val, a_call, ↓n_normal, ↓n_ret, ↓n_exit, ↓b_normal, ↓b_ret, ↓b_exit, ↓e_normal, ↓e_ret, e_some, go_sem, ↓reduceIte, Nat.reduceEqDiff, Nat.reduceLT, Nat.reduceSub, Bool.not_true, vload, vptr, Mem.read, g5, hrs]
    refine call_eq (spright_p rfl s hg1) ?_
    cases h2 : rightSp s with
    | false =>
      simp -dsimp only [↓w_seq, ↓w_ops, ↓w_skip, ↓w_ret, ↓w_exit, ↓w_scope, ↓w_block, ↓w_cond, cond_true', cond_false', ↓t_nil, ↓t_plain, ↓t_guard, ↓t_gagain, ↓t_again, t_val, t_call, g_true, g_false, ga_true, ga_false, a_val, a_call, ↓n_normal, ↓n_ret, ↓n_exit, ↓b_normal, ↓b_ret, ↓b_exit, ↓e_normal, ↓e_ret, e_some, go_sem, ↓reduceIte, Nat.reduceEqDiff, Nat.reduceLT, Nat.reduceSub, A_tree_Tree_Move_2, Bool.not_false, vload, vptr, Mem.read, g6, hrs, Nat.add_zero, vstore, hcs, spC_len, hw0, hs0, Option.bind_some, oneOf, Nat.reduceEqDiff]
      exact bad 1 (by rw [moveE, h1, h2]; rfl) (by decide)
    | true =>
      have hb : (nodeSt n && rightSp s) = true := by rw [h1, h2]; rfl
      simp -dsimp only [↓w_seq, ↓w_ops, ↓w_skip, ↓w_ret, ↓w_exit, ↓w_scope, ↓w_block, ↓w_cond, cond_true', cond_false', ↓t_nil, ↓t_plain, ↓t_guard, ↓t_gagain, ↓t_again, t_val, t_call, g_true, g_false, ga_true, ga_false, a_val, a_call, ↓n_normal, ↓n_ret, ↓n_exit, ↓b_normal, ↓b_ret, ↓b_exit, ↓e_normal, ↓e_ret, e_some, go_sem, ↓reduceIte, Nat.reduceEqDiff, Nat.reduceLT, Nat.reduceSub, Bool.not_true, A_tree_Tree_Move_3, vload, vptr, Mem.read, g4, hrn]
      refine call_eq (node_p rfl T1.of n) ?_
      cases h3 : (getS l n).isSome with
      | false =>
        simp -dsimp only [↓w_seq, ↓w_ops, ↓w_skip, ↓w_ret, ↓w_exit, ↓w_scope, ↓w_block, ↓w_cond, cond_true', cond_false', ↓t_nil, ↓t_plain, ↓t_guard, ↓t_gagain, ↓t_again, t_val, t_call, g_true, g_false, ga_true, ga_false, a_val, a_call, ↓n_normal, ↓n_ret, ↓n_exit, ↓b_normal, ↓b_ret, ↓b_exit, ↓e_normal, ↓e_ret, e_some, go_sem, ↓reduceIte, Nat.reduceEqDiff, Nat.reduceLT, Nat.reduceSub, A_tree_Tree_Move_4, Bool.not_false, vload, vptr, Mem.read, g6, hrs, Nat.add_zero, vstore, hcs, spC_len, hw0, hs0, Option.bind_some, oneOf, Nat.reduceEqDiff]
        exact bad 3 (by rw [moveE, hb, h3]; rfl) (by decide)
      | true =>
        simp -dsimp only [↓w_seq, ↓w_ops, ↓w_skip, ↓w_ret, ↓w_exit, ↓w_scope, ↓w_block, ↓w_cond, cond_true', cond_false', ↓t_nil, ↓t_plain, ↓t_guard, ↓t_gagain, ↓t_again, t_val, t_call, g_true, g_false, ga_true, ga_false, a_val, a_call, ↓n_normal, ↓n_ret, ↓n_exit, ↓b_normal, ↓b_ret, ↓b_exit, ↓e_normal, ↓e_ret, e_some, go_sem, ↓reduceIte, Nat.reduceEqDiff, Nat.reduceLT, Nat.reduceSub, Bool.not_true, vload, vptr, Mem.read, g5, hrp, Nat.add_zero]
        refine call_eq (has_p rfl T1.of hg1 s.1) ?_
        cases h4 : hasB l s.1 with
        | false =>
          simp -dsimp only [↓w_seq, ↓w_ops, ↓w_skip, ↓w_ret, ↓w_exit, ↓w_scope, ↓w_block, ↓w_cond, cond_true', cond_false', ↓t_nil, ↓t_plain, ↓t_guard, ↓t_gagain, ↓t_again, t_val, t_call, g_true, g_false, ga_true, ga_false, a_val, a_call, ↓n_normal, ↓n_ret, ↓n_exit, ↓b_normal, ↓b_ret, ↓b_exit, ↓e_normal, ↓e_ret, e_some, go_sem, ↓reduceIte, Nat.reduceEqDiff, Nat.reduceLT, Nat.reduceSub, A_tree_Tree_Move_4, Bool.not_false, vload, vptr, Mem.read, g6, hrs, Nat.add_zero, vstore, hcs, spC_len, hw0, hs0, Option.bind_some, oneOf, Nat.reduceEqDiff]
          exact bad 3 (by rw [moveE, hb, h3, h4]; rfl) (by decide)
        | true =>
          simp -dsimp only [↓w_seq, ↓w_ops, ↓w_skip, ↓w_ret, ↓w_exit, ↓w_scope, ↓w_block, ↓w_cond, cond_true', cond_false', ↓t_nil, ↓t_plain, ↓t_guard, ↓t_gagain, ↓t_again, t_val, t_call, g_true, g_false, ga_true, ga_false, a_val, a_call, ↓n_normal, ↓n_ret, ↓n_exit, ↓b_normal, ↓b_ret, ↓b_exit, ↓e_normal, ↓e_ret, e_some, go_sem, ↓reduceIte, Nat.reduceEqDiff, Nat.reduceLT, Nat.reduceSub, A_tree_Tree_Move_5, Bool.not_true, vload, vptr, Mem.read, g4, g5, hrn, hrp, Nat.add_zero]
          refine call_eq (within_p rfl T1.of n s.1 (hI.path s.1)) ?_
          cases h5 : withinB l n s.1 (pathOf l s.1) with
          | true =>
            simp -dsimp only [↓w_seq, ↓w_ops, ↓w_skip, ↓w_ret, ↓w_exit, ↓w_scope, ↓w_block, ↓w_cond, cond_true', cond_false', ↓t_nil, ↓t_plain, ↓t_guard, ↓t_gagain, ↓t_again, t_val, t_call, g_true, g_false, ga_true, ga_false, a_val, a_call, ↓n_normal, ↓n_ret, ↓n_exit, ↓b_normal, ↓b_ret, ↓b_exit, ↓e_normal, ↓e_ret, e_some, go_sem, ↓reduceIte, Nat.reduceEqDiff, Nat.reduceLT, Nat.reduceSub, A_tree_Tree_Move_6, vload, vptr, Mem.read, g6, hrs, Nat.add_zero, vstore, hcs, spC_len, hw0, hs0, Option.bind_some, oneOf, Nat.reduceEqDiff]
            exact bad 41 (by rw [moveE, hb, h3, h4, h5]; rfl) (by decide)
          | false =>
            have h0 : moveE l n s = 0 := by rw [moveE, hb, h3, h4, h5]; rfl
            have hw1 := write_full (vs := spC ((getS l n).getD sp0)) g6 rfl rfl
            simp -dsimp only [↓w_seq, ↓w_ops, ↓w_skip, ↓w_ret, ↓w_exit, ↓w_scope, ↓w_block, ↓w_cond, cond_true', cond_false', ↓t_nil, ↓t_plain, ↓t_guard, ↓t_gagain, ↓t_again, t_val, t_call, g_true, g_false, ga_true, ga_false, a_val, a_call, ↓n_normal, ↓n_ret, ↓n_exit, ↓b_normal, ↓b_ret, ↓b_exit, ↓e_normal, ↓e_ret, e_some, go_sem, ↓reduceIte, Nat.reduceEqDiff, Nat.reduceLT, Nat.reduceSub, A_tree_Tree_Move_7, vload, vptr, Mem.read, T1.c, g4, hrn, Nat.add_zero, List.getElem?_cons_zero, look1 T1.at_ n, vof, vstore, hcs, spC_len, hw1, Nat.reduceEqDiff]
            have hG2 := hG.upd (b := M.next + 1 + 1) (by omega) (Upd.set M1 (M.next + 1 + 1) (.cells (spC ((getS l n).getD sp0)) false))
            have hs2 := Mem.get_set_same M1 (M.next + 1 + 1) (.cells (spC ((getS l n).getD sp0)) false)
            have k4 : (M1.set (M.next + 1 + 1) (.cells (spC ((getS l n).getD sp0)) false)).get M.next = some (.cells (stC n) false) := (Mem.get_set_ne _ _ (by omega)).trans g4
            have k5 : (M1.set (M.next + 1 + 1) (.cells (spC ((getS l n).getD sp0)) false)).get (M.next + 1) = some (.cells (spC s) false) := (Mem.get_set_ne _ _ (by omega)).trans g5
            have T2 := T.grew hG2
            generalize M1.set (M.next + 1 + 1) (.cells (spC ((getS l n).getD sp0)) false) = M2 at *
            have T3 := T.set (l' := putS l n s) hG2
            have hlt := T.bl
            have hC := Chg.set (b := bm) (o := .map (encM (putS l n s))) hG2
            have hs3 : (M2.set bm (.map (encM (putS l n s)))).get (M.next + 1 + 1) = some (.cells (spC ((getS l n).getD sp0)) false) := (Mem.get_set_ne _ _ (by omega)).trans hs2
            simp -dsimp only [↓w_seq, ↓w_ops, ↓w_skip, ↓w_ret, ↓w_exit, ↓w_scope, ↓w_block, ↓w_cond, cond_true', cond_false', ↓t_nil, ↓t_plain, ↓t_guard, ↓t_gagain, ↓t_again, t_val, t_call, g_true, g_false, ga_true, ga_false, a_val, a_call, ↓n_normal, ↓n_ret, ↓n_exit, ↓b_normal, ↓b_ret, ↓b_exit, ↓e_normal, ↓e_ret, e_some, go_sem, ↓reduceIte, Nat.reduceEqDiff, Nat.reduceLT, Nat.reduceSub, A_tree_Tree_Move_8, vload, vptr, Mem.read, T2.c, k4, k5, hrn, hrs, Nat.add_zero, List.getElem?_cons_zero, put_is T2.m n s, Option.map_some]
            generalize M2.set bm (.map (encM (putS l n s))) = M3 at *
            have hw3 := write_full (vs := spC ((getS l n).getD sp0)) hs3 rfl rfl
            simp -dsimp only [↓w_seq, ↓w_ops, ↓w_skip, ↓w_ret, ↓w_exit, ↓w_scope, ↓w_block, ↓w_cond, cond_true', cond_false', ↓t_nil, ↓t_plain, ↓t_guard, ↓t_gagain, ↓t_again, t_val, t_call, g_true, g_false, ga_true, ga_false, a_val, a_call, ↓n_normal, ↓n_ret, ↓n_exit, ↓b_normal, ↓b_ret, ↓b_exit, ↓e_normal, ↓e_ret, e_some, go_sem, ↓reduceIte, Nat.reduceEqDiff, Nat.reduceLT, Nat.reduceSub, A_tree_Tree_Move_9, vload, vptr, Mem.read, hs3, hrs, Nat.add_zero, vstore, hcs, spC_len, hw3, Option.bind_some, oneOf, Nat.reduceEqDiff]
            have hs4 := Mem.get_set_same M3 (M.next + 1 + 1) (.cells (spC ((getS l n).getD sp0)) false)
            have T4 := TreeIn.set_new (o := .cells (spC ((getS l n).getD sp0)) false) T T3 (show M.next ≤ M.next + 1 + 1 by omega)
            have hC4 := hC.set_new (o := .cells (spC ((getS l n).getD sp0)) false) (show M.next ≤ M.next + 1 + 1 by omega)
            generalize M3.set (M.next + 1 + 1) (.cells (spC ((getS l n).getD sp0)) false) = M4 at *
            simp only [hs4, hrs, Option.map_some, Option.bind_some, e_some, oneOf]
            exact hR _ _ ⟨by rw [moveW, if_pos h0, h0]; rfl, hC4, by rw [moveT, if_pos h0]; exact T4⟩

def dropE (l : Tr) (n : St) : Nat := if (getS l n).isSome = false then 3 else if 0 < (belowL l n).length then 4 else 0
def dropT (l : Tr) (n : St) : Tr := if dropE l n = 0 then delS l n else l
def dropW (l : Tr) (n : St) : Spot := if dropE l n = 0 then (getS l n).getD sp0 else sp0

theorem Drop_runs (M : Mem) (tc bm : Nat) (l : Tr) (n : St) (T : TreeIn M tc bm l) (hN : (l.length + 1) * 16 ≤ maxRoom) :
    Runs D2 F_tree_Tree_Drop [.ptr (some (tc, 0)), .agg (stC n)] M fun v M' => v = .tup [.agg (spC (dropW l n)), .int .i64 (dropE l n : Int)] ∧ Chg M bm M' ∧ TreeIn M' tc bm (dropT l n) := by
  refine R_opq fun R hR => ?_
  refine Runs.walk (F := A_tree_Tree_Drop) rfl (by rfl) (by rfl) ?_
  unfold A_tree_Tree_Drop
  have hcn : V.cells (.agg (stC n)) = stC n := rfl
  have hcs : ∀ s, V.cells (.agg (spC s)) = spC s := fun _ => rfl
  have hrn : rdCells (stC n) 0 2 = some (stC n) := rfl
  have hrs : ∀ s, rdCells (spC s) 0 3 = some (spC s) := fun _ => rfl
  have hG := (Grew.push M (.cells (stC n) false)).trans (Grew.push _ (.cells [.int .i64 0, .int .i64 0, .str []] false))
  have g3 : ((M.push (.cells (stC n) false)).push (.cells [.int .i64 0, .int .i64 0, .str []] false)).get M.next = some (.cells (stC n) false) := by rw [Mem.get_push_ne _ _ (by simp), Mem.get_push_same]
  have g4 : ((M.push (.cells (stC n) false)).push (.cells [.int .i64 0, .int .i64 0, .str []] false)).get (M.next + 1) = some (.cells (spC sp0) false) := Mem.get_push_same (M.push _) _
  have hn1 : ((M.push (.cells (stC n) false)).push (.cells [.int .i64 0, .int .i64 0, .str []] false)).next = M.next + 2 := rfl
  simp -dsimp only [↓w_seq, ↓w_ops, ↓w_skip, ↓w_ret, ↓w_exit, ↓w_scope, ↓w_block, ↓w_cond, cond_true', cond_false', ↓t_nil, ↓t_plain, ↓t_guard, ↓t_gagain, ↓t_again, t_val, t_call, g_true, g_false, ga_true, ga_false, a_val, a_call, ↓n_normal, ↓n_ret, ↓n_exit, ↓b_normal, ↓b_ret, ↓b_exit, ↓e_normal, ↓e_ret, e_some, go_sem, ↓reduceIte, Nat.reduceEqDiff, Nat.reduceLT, Nat.reduceSub, A_tree_Tree_Drop_0, A_tree_Tree_Drop_1, hcn, hcs, Mem.next_push]
  have T1 := T.grew hG
  generalize (M.push (.cells (stC n) false)).push (.cells [.int .i64 0, .int .i64 0, .str []] false) = M1 at *
  have bad : ∀ (M1 : Mem) (e : Nat), Grew M M1 → dropE l n = e → e ≠ 0 → R (.tup [.agg (spC sp0), .int .i64 (e : Int)]) (M1.set (M.next + 1) (.cells (spC sp0) false)) := fun M1 e hG h1 h2 => by
    have hG0 := hG.upd (b := M.next + 1) (by omega) (Upd.set M1 (M.next + 1) (.cells (spC sp0) false))
    exact hR _ _ ⟨by rw [dropW, if_neg (by omega), h1], Chg.of hG0, by rw [dropT, if_neg (by omega)]; exact T.grew hG0⟩
  refine call_eq (none_p rfl T1.of) ?_
  simp -dsimp only [↓w_seq, ↓w_ops, ↓w_skip, ↓w_ret, ↓w_exit, ↓w_scope, ↓w_block, ↓w_cond, cond_true', cond_false', ↓t_nil, ↓t_plain, ↓t_guard, ↓t_gagain, ↓t_again, t_val, t_call, g_true, g_false, ga_true, ga_false, a_val, a_call, ↓n_normal, ↓n_ret, ↓n_exit, ↓b_normal, ↓b_ret, ↓b_exit, ↓e_normal, ↓e_ret, e_some, go_sem, ↓reduceIte, Nat.reduceEqDiff, Nat.reduceLT, Nat.reduceSub, A_tree_Tree_Drop_3, vload, vptr, Mem.read, g3, hrn]
  refine call_eq (node_p rfl T1.of n) ?_
  cases h3 : (getS l n).isSome with
  | false =>
    have hw0 := write_full (vs := spC sp0) g4 rfl rfl
    have hs0 := Mem.get_set_same M1 (M.next + 1) (.cells (spC sp0) false)
    simp -dsimp only [↓w_seq, ↓w_ops, ↓w_skip, ↓w_ret, ↓w_exit, ↓w_scope, ↓w_block, ↓w_cond, cond_true', cond_false', ↓t_nil, ↓t_plain, ↓t_guard, ↓t_gagain, ↓t_again, t_val, t_call, g_true, g_false, ga_true, ga_false, a_val, a_call, ↓n_normal, ↓n_ret, ↓n_exit, ↓b_normal, ↓b_ret, ↓b_exit, ↓e_normal, ↓e_ret, e_some, go_sem, ↓reduceIte, Nat.reduceEqDiff, Nat.reduceLT, Nat.reduceSub, A_tree_Tree_Drop_4, Bool.not_false, vload, vptr, Mem.read, g4, hrs, Nat.add_zero, vstore, hcs, spC_len, hw0, hs0, Option.bind_some, oneOf, Nat.reduceEqDiff]
    exact bad M1 3 hG (by rw [dropE, h3]; rfl) (by decide)
  | true =>
    simp -dsimp only [↓w_seq, ↓w_ops, ↓w_skip, ↓w_ret, ↓w_exit, ↓w_scope, ↓w_block, ↓w_cond, cond_true', cond_false', ↓t_nil, ↓t_plain, ↓t_guard, ↓t_gagain, ↓t_again, t_val, t_call, g_true, g_false, ga_true, ga_false, a_val, a_call, ↓n_normal, ↓n_ret, ↓n_exit, ↓b_normal, ↓b_ret, ↓b_exit, ↓e_normal, ↓e_ret, e_some, go_sem, ↓reduceIte, Nat.reduceEqDiff, Nat.reduceLT, Nat.reduceSub, A_tree_Tree_Drop_5, Bool.not_true, vload, vptr, Mem.read, g3, hrn]
    refine call_of (Below_runs M1 tc bm l n T1 hN) ?_
    intro v M2 hv
    obtain ⟨hG2, hH⟩ := hv
    obtain ⟨a, cap, rfl⟩ := hH.shape
    have k4 := (hG2.old _ (by omega)).trans g4
    have k3 := (hG2.old _ (by omega)).trans g3
    have T2 := T1.grew hG2
    have hGG := hG.trans hG2
    by_cases h4 : 0 < (belowL l n).length
    · have h4' : (0 : Int) < ((belowL l n).length : Int) := by omega
      have hw0 := write_full (vs := spC sp0) k4 rfl rfl
      have hs0 := Mem.get_set_same M2 (M.next + 1) (.cells (spC sp0) false)
      simp -dsimp only [↓w_seq, ↓w_ops, ↓w_skip, ↓w_ret, ↓w_exit, ↓w_scope, ↓w_block, ↓w_cond, cond_true', cond_false', ↓t_nil, ↓t_plain, ↓t_guard, ↓t_gagain, ↓t_again, t_val, t_call, g_true, g_false, ga_true, ga_false, a_val, a_call, ↓n_normal, ↓n_ret, ↓n_exit, ↓b_normal, ↓b_ret, ↓b_exit, ↓e_normal, ↓e_ret, e_some, go_sem, ↓reduceIte, Nat.reduceEqDiff, Nat.reduceLT, Nat.reduceSub, h4', decide_true, A_tree_Tree_Drop_6, vload, vptr, Mem.read, k4, hrs, Nat.add_zero, vstore, hcs, spC_len, hw0, hs0, Option.bind_some, oneOf, Nat.reduceEqDiff]
      exact bad M2 4 hGG (by rw [dropE, h3, if_pos h4]; rfl) (by decide)
    · have h4' : ¬ (0 : Int) < ((belowL l n).length : Int) := by omega
      have h0 : dropE l n = 0 := by rw [dropE, h3, if_neg h4]; rfl
      have hw1 := write_full (vs := spC ((getS l n).getD sp0)) k4 rfl rfl
      simp -dsimp only [↓w_seq, ↓w_ops, ↓w_skip, ↓w_ret, ↓w_exit, ↓w_scope, ↓w_block, ↓w_cond, cond_true', cond_false', ↓t_nil, ↓t_plain, ↓t_guard, ↓t_gagain, ↓t_again, t_val, t_call, g_true, g_false, ga_true, ga_false, a_val, a_call, ↓n_normal, ↓n_ret, ↓n_exit, ↓b_normal, ↓b_ret, ↓b_exit, ↓e_normal, ↓e_ret, e_some, go_sem, ↓reduceIte, Nat.reduceEqDiff, Nat.reduceLT, Nat.reduceSub, h4', decide_false, A_tree_Tree_Drop_7, vload, vptr, Mem.read, T2.c, k3, hrn, Nat.add_zero, List.getElem?_cons_zero, look1 T2.at_ n, vof, vstore, hcs, spC_len, hw1, Nat.reduceEqDiff]
      have hG3 := hGG.upd (b := M.next + 1) (by omega) (Upd.set M2 (M.next + 1) (.cells (spC ((getS l n).getD sp0)) false))
      have hs2 := Mem.get_set_same M2 (M.next + 1) (.cells (spC ((getS l n).getD sp0)) false)
      have j3 : (M2.set (M.next + 1) (.cells (spC ((getS l n).getD sp0)) false)).get M.next = some (.cells (stC n) false) := (Mem.get_set_ne _ _ (by omega)).trans k3
      have T3 := T.grew hG3
      generalize M2.set (M.next + 1) (.cells (spC ((getS l n).getD sp0)) false) = M3 at *
      have T4 := T.set (l' := delS l n) hG3
      have hlt := T.bl
      have hC := Chg.set (b := bm) (o := .map (encM (delS l n))) hG3
      have hs3 : (M3.set bm (.map (encM (delS l n)))).get (M.next + 1) = some (.cells (spC ((getS l n).getD sp0)) false) := (Mem.get_set_ne _ _ (by omega)).trans hs2
      simp -dsimp only [↓w_seq, ↓w_ops, ↓w_skip, ↓w_ret, ↓w_exit, ↓w_scope, ↓w_block, ↓w_cond, cond_true', cond_false', ↓t_nil, ↓t_plain, ↓t_guard, ↓t_gagain, ↓t_again, t_val, t_call, g_true, g_false, ga_true, ga_false, a_val, a_call, ↓n_normal, ↓n_ret, ↓n_exit, ↓b_normal, ↓b_ret, ↓b_exit, ↓e_normal, ↓e_ret, e_some, go_sem, ↓reduceIte, Nat.reduceEqDiff, Nat.reduceLT, Nat.reduceSub, A_tree_Tree_Drop_8, vload, vptr, Mem.read, T3.c, j3, hrn, Nat.add_zero, List.getElem?_cons_zero, del_is T3.m n, Option.map_some]
      generalize M3.set bm (.map (encM (delS l n))) = M4 at *
      have hw3 := write_full (vs := spC ((getS l n).getD sp0)) hs3 rfl rfl
      simp -dsimp only [↓w_seq, ↓w_ops, ↓w_skip, ↓w_ret, ↓w_exit, ↓w_scope, ↓w_block, ↓w_cond, cond_true', cond_false', ↓t_nil, ↓t_plain, ↓t_guard, ↓t_gagain, ↓t_again, t_val, t_call, g_true, g_false, ga_true, ga_false, a_val, a_call, ↓n_normal, ↓n_ret, ↓n_exit, ↓b_normal, ↓b_ret, ↓b_exit, ↓e_normal, ↓e_ret, e_some, go_sem, ↓reduceIte, Nat.reduceEqDiff, Nat.reduceLT, Nat.reduceSub, A_tree_Tree_Drop_9, vload, vptr, Mem.read, hs3, hrs, Nat.add_zero, vstore, hcs, spC_len, hw3, Option.bind_some, oneOf, Nat.reduceEqDiff]
      have hs4 := Mem.get_set_same M4 (M.next + 1) (.cells (spC ((getS l n).getD sp0)) false)
      have T5 := TreeIn.set_new (o := .cells (spC ((getS l n).getD sp0)) false) T T4 (show M.next ≤ M.next + 1 by omega)
      have hC5 := hC.set_new (o := .cells (spC ((getS l n).getD sp0)) false) (show M.next ≤ M.next + 1 by omega)
      generalize M4.set (M.next + 1) (.cells (spC ((getS l n).getD sp0)) false) = M5 at *
      simp only [hs4, hrs, Option.map_some, Option.bind_some, e_some, oneOf]
      exact hR _ _ ⟨by rw [dropW, if_pos h0, h0]; rfl, hC5, by rw [dropT, if_pos h0]; exact T5⟩

/-! ### acts -/
abbrev Act := Int × St × Spot
def actC (a : Act) : List V := .int .i64 a.1 :: stC a.2.1 ++ spC a.2.2
def doT (l : Tr) (a : Act) : Tr := if a.1 = 0 then addT l a.2.1 a.2.2 else if a.1 = 1 then moveT l a.2.1 a.2.2 else if a.1 = 2 then dropT l a.2.1 else l

theorem do_runs (M : Mem) (tc bm : Nat) (l : Tr) (a : Act) (T : TreeIn M tc bm l) (hg : isG M = true) (hn : 2 ≤ M.next) (hI : Inv l) (hN : (l.length + 1) * 16 ≤ maxRoom) :
    Runs D2 F_law10_do [.ptr (some (tc, 0)), .agg (actC a)] M fun v M' => Chg M bm M' ∧ TreeIn M' tc bm (doT l a) := by
  refine R_opq fun R hR => ?_
  refine Runs.walk (F := A_law10_do) rfl (by rfl) (by rfl) ?_
  unfold A_law10_do
  obtain ⟨k, n, s⟩ := a
  have hca : V.cells (.agg (actC (k, n, s))) = actC (k, n, s) := rfl
  have e0 : (actC (k, n, s))[0]? = some (.int .i64 k) := rfl
  have r1 : rdCells (actC (k, n, s)) 1 2 = some (stC n) := rfl
  have r3 : rdCells (actC (k, n, s)) 3 3 = some (spC s) := rfl
  have hG := Grew.push M (.cells (actC (k, n, s)) false)
  have g3 : (M.push (.cells (actC (k, n, s)) false)).get M.next = some (.cells (actC (k, n, s)) false) := Mem.get_push_same _ _
  simp -dsimp only [↓w_seq, ↓w_ops, ↓w_skip, ↓w_ret, ↓w_exit, ↓w_scope, ↓w_block, ↓w_cond, cond_true', cond_false', ↓t_nil, ↓t_plain, ↓t_guard, ↓t_gagain, ↓t_again, t_val, t_call, g_true, g_false, ga_true, ga_false, a_val, a_call, ↓n_normal, ↓n_ret, ↓n_exit, ↓b_normal, ↓b_ret, ↓b_exit, ↓e_normal, ↓e_ret, e_some, go_sem, ↓reduceIte, Nat.reduceEqDiff, Nat.reduceLT, Nat.reduceSub, A_law10_do_0, hca]
  have T1 := T.grew hG
  have hg1 := isG_keep hg hn hG.old
  have hn1 : 2 ≤ (M.push (.cells (actC (k, n, s)) false)).next := Nat.le_trans hn hG.next
  generalize M.push (.cells (actC (k, n, s)) false) = M1 at *
  simp -dsimp only [↓w_seq, ↓w_ops, ↓w_skip, ↓w_ret, ↓w_exit, ↓w_scope, ↓w_block, ↓w_cond, cond_true', cond_false', ↓t_nil, ↓t_plain, ↓t_guard, ↓t_gagain, ↓t_again, t_val, t_call, g_true, g_false, ga_true, ga_false, a_val, a_call, ↓n_normal, ↓n_ret, ↓n_exit, ↓b_normal, ↓b_ret, ↓b_exit, ↓e_normal, ↓e_ret, e_some, go_sem, ↓reduceIte, Nat.reduceEqDiff, Nat.reduceLT, Nat.reduceSub, A_law10_do_1, A_law10_do_2, vload, vptr, Mem.read, g3, e0, Nat.add_zero]
  by_cases h0 : k = 0
  · subst h0
    simp -dsimp only [↓w_seq, ↓w_ops, ↓w_skip, ↓w_ret, ↓w_exit, ↓w_scope, ↓w_block, ↓w_cond, cond_true', cond_false', ↓t_nil, ↓t_plain, ↓t_guard, ↓t_gagain, ↓t_again, t_val, t_call, g_true, g_false, ga_true, ga_false, a_val, a_call, ↓n_normal, ↓n_ret, ↓n_exit, ↓b_normal, ↓b_ret, ↓b_exit, ↓e_normal, ↓e_ret, e_some, go_sem, ↓reduceIte, Nat.reduceEqDiff, Nat.reduceLT, Nat.reduceSub, decide_true, A_law10_do_3, vload, vptr, Mem.read, g3, r1, r3, Nat.zero_add]
    refine callA_by (k := ⟨⟩) (l' := ⟨⟩) (g' := ⟨⟩) (own_p rfl s) ?_
    intro v M2 hv
    rw [hv.1, hv.2]
    clear hv
    refine ⟨?_, ?_⟩
    · simp only [List.all_cons, List.all_nil, Bool.and_true, againOk, wantedA, cond_true, go_sem, ↓reduceIte, Nat.reduceEqDiff, Nat.reduceLT, Nat.reduceSub, vload, vptr, Mem.read, g3, r1, Nat.zero_add, V.beq, V.beq_self, V.beqs_self, Bool.and_self, Nat.reduceAdd, Nat.reduceLeDiff, decide_true, cond_true]
    · simp -dsimp only [↓w_seq, ↓w_ops, ↓w_skip, ↓w_ret, ↓w_exit, ↓w_scope, ↓w_block, ↓w_cond, cond_true', cond_false', ↓t_nil, ↓t_plain, ↓t_guard, ↓t_gagain, ↓t_again, t_val, t_call, g_true, g_false, ga_true, ga_false, a_val, a_call, ↓n_normal, ↓n_ret, ↓n_exit, ↓b_normal, ↓b_ret, ↓b_exit, ↓e_normal, ↓e_ret, e_some, go_sem, ↓reduceIte, Nat.reduceEqDiff, Nat.reduceLT, Nat.reduceSub]
      refine call_of (Add_runs M1 tc bm l n s T1 hg1 hn1) ?_
      intro v M3 hv
      simp -dsimp only [↓w_seq, ↓w_ops, ↓w_skip, ↓w_ret, ↓w_exit, ↓w_scope, ↓w_block, ↓w_cond, cond_true', cond_false', ↓t_nil, ↓t_plain, ↓t_guard, ↓t_gagain, ↓t_again, t_val, t_call, g_true, g_false, ga_true, ga_false, a_val, a_call, ↓n_normal, ↓n_ret, ↓n_exit, ↓b_normal, ↓b_ret, ↓b_exit, ↓e_normal, ↓e_ret, e_some, go_sem, ↓reduceIte, Nat.reduceEqDiff, Nat.reduceLT, Nat.reduceSub]
      exact hR _ _ ⟨(Chg.of hG).trans hv.2.1, by rw [doT]; exact hv.2.2⟩
  · simp -dsimp only [↓w_seq, ↓w_ops, ↓w_skip, ↓w_ret, ↓w_exit, ↓w_scope, ↓w_block, ↓w_cond, cond_true', cond_false', ↓t_nil, ↓t_plain, ↓t_guard, ↓t_gagain, ↓t_again, t_val, t_call, g_true, g_false, ga_true, ga_false, a_val, a_call, ↓n_normal, ↓n_ret, ↓n_exit, ↓b_normal, ↓b_ret, ↓b_exit, ↓e_normal, ↓e_ret, e_some, go_sem, ↓reduceIte, Nat.reduceEqDiff, Nat.reduceLT, Nat.reduceSub, h0, decide_false, A_law10_do_4]
    by_cases h1 : k = 1
    · subst h1
      simp -dsimp only [↓w_seq, ↓w_ops, ↓w_skip, ↓w_ret, ↓w_exit, ↓w_scope, ↓w_block, ↓w_cond, cond_true', cond_false', ↓t_nil, ↓t_plain, ↓t_guard, ↓t_gagain, ↓t_again, t_val, t_call, g_true, g_false, ga_true, ga_false, a_val, a_call, ↓n_normal, ↓n_ret, ↓n_exit, ↓b_normal, ↓b_ret, ↓b_exit, ↓e_normal, ↓e_ret, e_some, go_sem, ↓reduceIte, Nat.reduceEqDiff, Nat.reduceLT, Nat.reduceSub, decide_true, A_law10_do_5, vload, vptr, Mem.read, g3, r1, r3, Nat.zero_add]
      refine callA_by (k := ⟨⟩) (l' := ⟨⟩) (g' := ⟨⟩) (own_p rfl s) ?_
      intro v M2 hv
      rw [hv.1, hv.2]
      clear hv
      refine ⟨?_, ?_⟩
      · simp only [List.all_cons, List.all_nil, Bool.and_true, againOk, wantedA, cond_true, go_sem, ↓reduceIte, Nat.reduceEqDiff, Nat.reduceLT, Nat.reduceSub, vload, vptr, Mem.read, g3, r1, Nat.zero_add, V.beq, V.beq_self, V.beqs_self, Bool.and_self, Nat.reduceAdd, Nat.reduceLeDiff, decide_true, cond_true]
      · simp -dsimp only [↓w_seq, ↓w_ops, ↓w_skip, ↓w_ret, ↓w_exit, ↓w_scope, ↓w_block, ↓w_cond, cond_true', cond_false', ↓t_nil, ↓t_plain, ↓t_guard, ↓t_gagain, ↓t_again, t_val, t_call, g_true, g_false, ga_true, ga_false, a_val, a_call, ↓n_normal, ↓n_ret, ↓n_exit, ↓b_normal, ↓b_ret, ↓b_exit, ↓e_normal, ↓e_ret, e_some, go_sem, ↓reduceIte, Nat.reduceEqDiff, Nat.reduceLT, Nat.reduceSub]
        refine call_of (Move_runs M1 tc bm l n s T1 hg1 hn1 hI) ?_
        intro v M3 hv
        simp -dsimp only [↓w_seq, ↓w_ops, ↓w_skip, ↓w_ret, ↓w_exit, ↓w_scope, ↓w_block, ↓w_cond, cond_true', cond_false', ↓t_nil, ↓t_plain, ↓t_guard, ↓t_gagain, ↓t_again, t_val, t_call, g_true, g_false, ga_true, ga_false, a_val, a_call, ↓n_normal, ↓n_ret, ↓n_exit, ↓b_normal, ↓b_ret, ↓b_exit, ↓e_normal, ↓e_ret, e_some, go_sem, ↓reduceIte, Nat.reduceEqDiff, Nat.reduceLT, Nat.reduceSub]
        exact hR _ _ ⟨(Chg.of hG).trans hv.2.1, by rw [doT]; exact hv.2.2⟩
    · simp -dsimp only [↓w_seq, ↓w_ops, ↓w_skip, ↓w_ret, ↓w_exit, ↓w_scope, ↓w_block, ↓w_cond, cond_true', cond_false', ↓t_nil, ↓t_plain, ↓t_guard, ↓t_gagain, ↓t_again, t_val, t_call, g_true, g_false, ga_true, ga_false, a_val, a_call, ↓n_normal, ↓n_ret, ↓n_exit, ↓b_normal, ↓b_ret, ↓b_exit, ↓e_normal, ↓e_ret, e_some, go_sem, ↓reduceIte, Nat.reduceEqDiff, Nat.reduceLT, Nat.reduceSub, h1, decide_false, A_law10_do_6]
      by_cases h2 : k = 2
      · subst h2
        simp -dsimp only [↓w_seq, ↓w_ops, ↓w_skip, ↓w_ret, ↓w_exit, ↓w_scope, ↓w_block, ↓w_cond, cond_true', cond_false', ↓t_nil, ↓t_plain, ↓t_guard, ↓t_gagain, ↓t_again, t_val, t_call, g_true, g_false, ga_true, ga_false, a_val, a_call, ↓n_normal, ↓n_ret, ↓n_exit, ↓b_normal, ↓b_ret, ↓b_exit, ↓e_normal, ↓e_ret, e_some, go_sem, ↓reduceIte, Nat.reduceEqDiff, Nat.reduceLT, Nat.reduceSub, decide_true, A_law10_do_7, vload, vptr, Mem.read, g3, r1, r3, Nat.zero_add]
        refine call_of (Drop_runs M1 tc bm l n T1 hN) ?_
        intro v M3 hv
        simp -dsimp only [↓w_seq, ↓w_ops, ↓w_skip, ↓w_ret, ↓w_exit, ↓w_scope, ↓w_block, ↓w_cond, cond_true', cond_false', ↓t_nil, ↓t_plain, ↓t_guard, ↓t_gagain, ↓t_again, t_val, t_call, g_true, g_false, ga_true, ga_false, a_val, a_call, ↓n_normal, ↓n_ret, ↓n_exit, ↓b_normal, ↓b_ret, ↓b_exit, ↓e_normal, ↓e_ret, e_some, go_sem, ↓reduceIte, Nat.reduceEqDiff, Nat.reduceLT, Nat.reduceSub]
        exact hR _ _ ⟨(Chg.of hG).trans hv.2.1, by rw [doT]; exact hv.2.2⟩
      · simp -dsimp only [↓w_seq, ↓w_ops, ↓w_skip, ↓w_ret, ↓w_exit, ↓w_scope, ↓w_block, ↓w_cond, cond_true', cond_false', ↓t_nil, ↓t_plain, ↓t_guard, ↓t_gagain, ↓t_again, t_val, t_call, g_true, g_false, ga_true, ga_false, a_val, a_call, ↓n_normal, ↓n_ret, ↓n_exit, ↓b_normal, ↓b_ret, ↓b_exit, ↓e_normal, ↓e_ret, e_some, go_sem, ↓reduceIte, Nat.reduceEqDiff, Nat.reduceLT, Nat.reduceSub, h2, decide_false]
        exact hR _ _ ⟨Chg.of hG, by rw [doT]; simp only [h0, h1, h2, if_false]; exact T1⟩
end Go.Am.Tryd

/- Trees, plainly: acts keep the tree a tree. -/
namespace Go.Am.Tryd
open Go Go.Am Go.Proofs Go.Sort Go.Shelf
set_option maxRecDepth 100000
set_option linter.unusedSimpArgs false
set_option linter.unusedVariables false

theorem node_pos {n : St} (h : nodeSt n = true) : 0 < n.1 := by
  simp only [nodeSt, Bool.and_eq_true, decide_eq_true_eq] at h
  exact h.2
theorem hasB_P {l : Tr} {p : St} (h : hasB l p = true) : hasP l p := by
  simp only [hasB, Bool.or_eq_true, Bool.and_eq_true, Bool.not_eq_true'] at h
  rcases h with h | ⟨h1, h2⟩
  · exact .inl h
  · simp only [placeSt, h2, Bool.false_or, Bool.or_eq_true, decide_eq_true_eq] at h1
    exact .inr h1
theorem Inv.no_up {l : Tr} (h : Inv l) {n : St} (h0 : 0 < n.1) (hn : getS l n = none) {p : St} (hp : hasP l p) : n ∉ p :: pathOf l p := by
  have key : ∀ q, hasP l q → q ≠ n := fun q hq e => by
    subst e
    rcases hq with h1 | h1 | h1
    · rw [hn] at h1; cases h1
    · rw [h1] at h0; exact absurd h0 (by decide)
    · rw [h1] at h0; exact absurd h0 (by decide)
  intro hm
  rcases List.mem_cons.mp hm with e | hm
  · exact key p hp e.symm
  · obtain ⟨k, s, h1, h2⟩ := (h.path p).met hm
    exact key _ (h.par k s h1) h2

theorem addE_0 {l : Tr} {n : St} {s : Spot} (h : addE l n s = 0) : nodeSt n = true ∧ rightSp s = true ∧ getS l n = none ∧ hasB l s.1 = true ∧ l.length < 65536 := by
  unfold addE at h
  split at h
  · cases h
  · rename_i h1
    split at h
    · cases h
    · rename_i h2
      split at h
      · cases h
      · rename_i h3
        split at h
        · cases h
        · rename_i h4
          simp only [Bool.not_eq_false, Bool.and_eq_true] at h1 h3
          refine ⟨h1.1, h1.2, ?_, h3, by omega⟩
          cases hg : getS l n with
          | none => rfl
          | some t => rw [hg] at h2; exact absurd rfl h2
theorem moveE_0 {l : Tr} {n : St} {s : Spot} (h : moveE l n s = 0) : nodeSt n = true ∧ rightSp s = true ∧ (getS l n).isSome = true ∧ hasB l s.1 = true ∧ withinB l n s.1 (pathOf l s.1) = false := by
  unfold moveE at h
  split at h
  · cases h
  · rename_i h1
    split at h
    · cases h
    · rename_i h2
      split at h
      · cases h
      · rename_i h3
        simp only [Bool.not_eq_false, Bool.and_eq_true] at h1 h2
        exact ⟨h1.1, h1.2, h2.1, h2.2, by simpa using h3⟩
theorem dropE_0 {l : Tr} {n : St} (h : dropE l n = 0) : (getS l n).isSome = true ∧ belowL l n = [] := by
  unfold dropE at h
  split at h
  · cases h
  · rename_i h1
    split at h
    · cases h
    · rename_i h2
      exact ⟨by rwa [Bool.not_eq_false] at h1, List.eq_nil_of_length_eq_zero (by omega)⟩
theorem mem_nodes {l : Tr} {n : St} : n ∈ nodesL l ↔ n ∈ keysS l := (isort_perm ltSt (keysS l)).mem_iff
theorem mem_below {l : Tr} {n p : St} : n ∈ belowL l p ↔ ∃ s, getS l n = some s ∧ s.1 = p := by
  unfold belowL belF
  rw [List.mem_filter, mem_nodes, ← get_mem, decide_eq_true_eq]
  constructor
  · rintro ⟨h1, h2⟩
    cases hg : getS l n with
    | none => rw [hg] at h1; cases h1
    | some s => rw [hg] at h2; exact ⟨s, rfl, h2⟩
  · rintro ⟨s, h1, h2⟩
    rw [h1]
    exact ⟨rfl, h2⟩
theorem Inv.add {l : Tr} (h : Inv l) (n : St) (s : Spot) : Inv (addT l n s) := by
  unfold addT
  split
  · rename_i h0
    obtain ⟨h1, _, h3, h4, _⟩ := addE_0 h0
    exact h.put (node_pos h1) (hasB_P h4) (h.no_up (node_pos h1) h3 (hasB_P h4))
  · exact h
theorem Inv.move {l : Tr} (h : Inv l) (n : St) (s : Spot) : Inv (moveT l n s) := by
  unfold moveT
  split
  · rename_i h0
    obtain ⟨h1, _, h3, h4, h5⟩ := moveE_0 h0
    refine h.put (node_pos h1) (hasB_P h4) fun hm => ?_
    simp only [withinB] at h5
    cases hs : getS l s.1 with
    | some t =>
      rw [hs] at h5
      simp only [Option.isSome_some, Bool.true_and, Bool.or_eq_false_iff, decide_eq_false_iff_not] at h5
      rcases List.mem_cons.mp hm with e | hm
      · exact h5.2 e
      · exact h5.1 hm
    | none =>
      have := (PathN.nil hs).eq
      rw [← this] at hm
      simp only [List.mem_singleton] at hm
      rw [hm, hs] at h3
      cases h3
  · exact h
theorem Inv.drop {l : Tr} (h : Inv l) (n : St) : Inv (dropT l n) := by
  unfold dropT
  split
  · rename_i h0
    obtain ⟨h1, h2⟩ := dropE_0 h0
    refine h.del fun m s hm e => ?_
    have : m ∈ belowL l n := mem_below.mpr ⟨s, hm, e⟩
    rw [h2] at this
    cases this
  · exact h
theorem Inv.act {l : Tr} (h : Inv l) (a : Act) : Inv (doT l a) := by
  unfold doT
  split
  · exact h.add _ _
  · split
    · exact h.move _ _
    · split
      · exact h.drop _
      · exact h
theorem put_len (n : St) (s : Spot) : ∀ l : Tr, (putS l n s).length ≤ l.length + 1
  | [] => by simp [putS]
  | p :: r => by
    unfold putS
    split
    · simp
    · have := put_len n s r
      simp only [List.length_cons]
      omega
theorem del_len (n : St) : ∀ l : Tr, (delS l n).length ≤ l.length
  | [] => by simp [delS]
  | p :: r => by
    unfold delS
    split
    · simp
    · have := del_len n r
      simp only [List.length_cons]
      omega
theorem act_len (l : Tr) (a : Act) : (doT l a).length ≤ l.length + 1 := by
  unfold doT addT moveT dropT
  split
  · split
    · exact put_len _ _ _
    · omega
  · split
    · split
      · exact put_len _ _ _
      · omega
    · split
      · split
        · have := del_len a.2.1 l; omega
        · omega
      · omega
/-- The tree that acts come to. -/
def actsT (acts : List Act) : Tr := acts.foldl doT []
theorem acts_snoc (acts : List Act) (a : Act) : actsT (acts ++ [a]) = doT (actsT acts) a := by simp [actsT]
theorem inv_acts (acts : List Act) : Inv (actsT acts) := by
  unfold actsT
  have : ∀ (acts : List Act) (l : Tr), Inv l → Inv (acts.foldl doT l) := by
    intro acts
    induction acts with
    | nil => exact fun l h => h
    | cons a acts ih => exact fun l h => ih _ (h.act a)
  exact this acts [] inv_nil
theorem len_acts (acts : List Act) : (actsT acts).length ≤ acts.length := by
  unfold actsT
  have : ∀ (acts : List Act) (l : Tr), (acts.foldl doT l).length ≤ l.length + acts.length := by
    intro acts
    induction acts with
    | nil => exact fun l => by simp
    | cons a acts ih =>
      intro l
      have h1 := ih (doT l a)
      have h2 := act_len l a
      simp only [List.foldl_cons, List.length_cons]
      omega
  simpa using this acts []
theorem room_small {n : Nat} (h : n ≤ 1000) : (n + 1) * 16 ≤ maxRoom := by
  have hmx : maxRoom = 17592186044416 := rfl
  omega
end Go.Am.Tryd

/- The law TreeReaches on the machine. -/
namespace Go.Am.Tryd
open Go Go.Am Go.Proofs Go.Sort Go.Shelf
set_option maxRecDepth 100000
set_option linter.unusedSimpArgs false
set_option linter.unusedVariables false

def decAct : List V → Option Act
  | [.int .i64 k, .int .i64 a, .int .i64 b, .int .i64 c, .int .i64 d, .str s] => some (k, (a, b), ((c, d), s))
  | _ => none
def elAct : Elem Act where
  k := 6
  cv := actC
  enc x := [.int .i64 x.1, .int .i64 x.2.1.1, .int .i64 x.2.1.2, .int .i64 x.2.2.1.1, .int .i64 x.2.2.1.2, .string ⟨x.2.2.2.toArray⟩]
  dec := decAct
  k_pos := by omega
  len _ := rfl
  elen _ := rfl
  dec_some cs x h := by unfold decAct at h; split at h <;> cases h; rfl
  dec_cv _ := rfl
  rel E x := .cons (.int _ _) (.cons (.int _ _) (.cons (.int _ _) (.cons (.int _ _) (.cons (.int _ _) (.cons (by have := VR.str (E := E) ⟨x.2.2.2.toArray⟩; simpa using this) .nil)))))
  rel_eq E x us h := by
    cases h with
    | cons h1 t => cases t with
      | cons h2 t => cases t with
        | cons h3 t => cases t with
          | cons h4 t => cases t with
            | cons h5 t => cases t with
              | cons h6 t =>
                cases t; cases h1; cases h2; cases h3; cases h4; cases h5
                generalize hs : V.str x.2.2.2 = v at h6
                cases h6 <;> first | (cases hs; done) | skip
                rename_i s
                have hx := V.str.inj hs
                rw [hx]
  one x v hv := by simp at hv; rcases hv with rfl | rfl | rfl | rfl | rfl | rfl <;> rfl
  one' _ := rfl
  flat _ := rfl

theorem act_at {M : Mem} {s : V} {xs : List Act} (h : SlR elAct M s xs) {i : Nat} (hi : i < xs.length) : ∃ b o cs ro cap, s = .slice (some (b, o)) xs.length cap ∧ M.get b = some (.cells cs ro) ∧ rdCells cs (o + i * 6) 6 = some (actC xs[i]) ∧ cs[o + i * 6 + 5]? = some (.str xs[i].2.2.2) := by
  obtain ⟨a, cap, rfl, h⟩ := h
  rcases h with h | ⟨b, o, cs, ro, rfl, h1, h2⟩
  · subst h; simp at hi
  · exact ⟨b, o, cs, ro, cap, rfl, h1, h2 i hi, rd_cell (h2 i hi) 5 (by decide)⟩

theorem Long_loop (s : V) (acts : List Act) (M : Mem) (hs : SlR elAct M s acts) (hk : ∀ x ∈ acts, x.2.2.2.length < 2 ^ 63) {Q : AExit → Fr → Mem → Prop}
    (hE : ∀ fr, fr.rd 0 = s → Q (.exit 0) fr M) (hR : ∀ fr, fr.rd 2 = .bool true → Q .ret fr M) :
    ∀ (f i : Nat) (fr : Fr), i + f = 300 → fr.rd 0 = s → fr.rd 3 = .int .i64 (i : Int) → WC D2 25 (.loop A_law10_Long_6) fr M Q := by
  intro f
  induction f with
  | zero =>
    intro i fr hi h0 h3
    refine WC.loop (W_of ?_)
    unfold A_law10_Long_6
    obtain ⟨a, cap, rfl, _⟩ := id hs
    have h2 : ¬ (i : Int) < 300 := by omega
    by_cases hil : (i : Int) < acts.length
    · simp -dsimp only [↓w_seq, ↓w_ops, ↓w_skip, ↓w_ret, ↓w_exit, ↓w_scope, ↓w_block, ↓w_cond, cond_true', cond_false', ↓t_nil, ↓t_plain, ↓t_guard, ↓t_gagain, ↓t_again, t_val, t_call, g_true, g_false, ga_true, ga_false, a_val, a_call, ↓n_normal, ↓n_ret, ↓n_exit, ↓b_normal, ↓b_ret, ↓b_exit, ↓e_normal, ↓e_ret, e_some, go_sem, ↓reduceIte, Nat.reduceEqDiff, Nat.reduceLT, Nat.reduceSub, A_law10_Long_2, h0, h3, hil, h2, decide_true, decide_false]
      exact hE _ (by simp only [go_sem, ↓reduceIte, Nat.reduceEqDiff, Nat.reduceLT, Nat.reduceSub, h0])
    · simp -dsimp only [↓w_seq, ↓w_ops, ↓w_skip, ↓w_ret, ↓w_exit, ↓w_scope, ↓w_block, ↓w_cond, cond_true', cond_false', ↓t_nil, ↓t_plain, ↓t_guard, ↓t_gagain, ↓t_again, t_val, t_call, g_true, g_false, ga_true, ga_false, a_val, a_call, ↓n_normal, ↓n_ret, ↓n_exit, ↓b_normal, ↓b_ret, ↓b_exit, ↓e_normal, ↓e_ret, e_some, go_sem, ↓reduceIte, Nat.reduceEqDiff, Nat.reduceLT, Nat.reduceSub, A_law10_Long_2, h0, h3, hil, h2, decide_true, decide_false]
      exact hE _ (by simp only [go_sem, ↓reduceIte, Nat.reduceEqDiff, Nat.reduceLT, Nat.reduceSub, h0])
  | succ f ih =>
    intro i fr hi h0 h3
    refine WC.loop (W_of ?_)
    unfold A_law10_Long_6
    have h2 : (i : Int) < 300 := by omega
    have h5' : (i : Int) + 1 = ((i + 1 : Nat) : Int) := by omega
    by_cases hil : i < acts.length
    · obtain ⟨b, o, cs, ro, cap, rfl, hM, hr, hk5⟩ := act_at hs hil
      rw [Nat.add_assoc] at hk5
      have e1 : (i : Int) < acts.length := by omega
      have e2 : i + 1 ≤ acts.length := by omega
      have hkl := hk _ (List.getElem_mem hil)
      by_cases h500 : (500 : Int) < acts[i].2.2.2.length
      · simp -dsimp only [↓w_seq, ↓w_ops, ↓w_skip, ↓w_ret, ↓w_exit, ↓w_scope, ↓w_block, ↓w_cond, cond_true', cond_false', ↓t_nil, ↓t_plain, ↓t_guard, ↓t_gagain, ↓t_again, t_val, t_call, g_true, g_false, ga_true, ga_false, a_val, a_call, ↓n_normal, ↓n_ret, ↓n_exit, ↓b_normal, ↓b_ret, ↓b_exit, ↓e_normal, ↓e_ret, e_some, go_sem, ↓reduceIte, Nat.reduceEqDiff, Nat.reduceLT, Nat.reduceSub, A_law10_Long_2, A_law10_Long_3, A_law10_Long_4, h0, h3, e1, h2, e2, decide_true, decide_false, vload, vptr, Mem.read, hM, Nat.add_assoc, Nat.reduceAdd, hk5, vof, h500]
        exact hR _ (by simp only [go_sem, ↓reduceIte, Nat.reduceEqDiff, Nat.reduceLT, Nat.reduceSub])
      · simp -dsimp only [↓w_seq, ↓w_ops, ↓w_skip, ↓w_ret, ↓w_exit, ↓w_scope, ↓w_block, ↓w_cond, cond_true', cond_false', ↓t_nil, ↓t_plain, ↓t_guard, ↓t_gagain, ↓t_again, t_val, t_call, g_true, g_false, ga_true, ga_false, a_val, a_call, ↓n_normal, ↓n_ret, ↓n_exit, ↓b_normal, ↓b_ret, ↓b_exit, ↓e_normal, ↓e_ret, e_some, go_sem, ↓reduceIte, Nat.reduceEqDiff, Nat.reduceLT, Nat.reduceSub, A_law10_Long_2, A_law10_Long_3, A_law10_Long_5, h0, h3, e1, h2, e2, decide_true, decide_false, vload, vptr, Mem.read, hM, Nat.add_assoc, Nat.reduceAdd, hk5, vof, h500, h5', IntWalk.i64_in ((i + 1 : Nat) : Int) (by omega)]
        refine ih (i + 1) _ (by omega) ?_ ?_
        all_goals simp only [go_sem, ↓reduceIte, Nat.reduceEqDiff, Nat.reduceLT, Nat.reduceSub, h0]
    · obtain ⟨a, cap, rfl, _⟩ := id hs
      have e1 : ¬ (i : Int) < acts.length := by omega
      simp -dsimp only [↓w_seq, ↓w_ops, ↓w_skip, ↓w_ret, ↓w_exit, ↓w_scope, ↓w_block, ↓w_cond, cond_true', cond_false', ↓t_nil, ↓t_plain, ↓t_guard, ↓t_gagain, ↓t_again, t_val, t_call, g_true, g_false, ga_true, ga_false, a_val, a_call, ↓n_normal, ↓n_ret, ↓n_exit, ↓b_normal, ↓b_ret, ↓b_exit, ↓e_normal, ↓e_ret, e_some, go_sem, ↓reduceIte, Nat.reduceEqDiff, Nat.reduceLT, Nat.reduceSub, A_law10_Long_2, h0, h3, e1, h2, decide_true, decide_false]
      exact hE _ (by simp only [go_sem, ↓reduceIte, Nat.reduceEqDiff, Nat.reduceLT, Nat.reduceSub, h0])
theorem Long_runs (s : V) (acts : List Act) (M : Mem) (hs : SlR elAct M s acts) (hk : ∀ x ∈ acts, x.2.2.2.length < 2 ^ 63) : Runs D2 F_law10_Long [s] M fun v M' => (∃ b, v = .bool b ∧ (b = false → acts.length ≤ 150)) ∧ M' = M := by
  refine R_opq fun R hR => ?_
  refine Runs.walk (F := A_law10_Long) rfl (by rfl) (by rfl) ?_
  unfold A_law10_Long
  simp -dsimp only [↓w_seq, ↓w_ops, ↓w_skip, ↓w_ret, ↓w_exit, ↓w_scope, ↓w_block, ↓w_cond, cond_true', cond_false', ↓t_nil, ↓t_plain, ↓t_guard, ↓t_gagain, ↓t_again, t_val, t_call, g_true, g_false, ga_true, ga_false, a_val, a_call, ↓n_normal, ↓n_ret, ↓n_exit, ↓b_normal, ↓b_ret, ↓b_exit, ↓e_normal, ↓e_ret, e_some, go_sem, ↓reduceIte, Nat.reduceEqDiff, Nat.reduceLT, Nat.reduceSub, A_law10_Long_0, A_law10_Long_1]
  refine Long_loop s acts M hs hk ?_ ?_ 300 0 _ (by omega) ?_ ?_
  · intro fr h0
    obtain ⟨a, cap, rfl, _⟩ := hs
    simp -dsimp only [↓w_seq, ↓w_ops, ↓w_skip, ↓w_ret, ↓w_exit, ↓w_scope, ↓w_block, ↓w_cond, cond_true', cond_false', ↓t_nil, ↓t_plain, ↓t_guard, ↓t_gagain, ↓t_again, t_val, t_call, g_true, g_false, ga_true, ga_false, a_val, a_call, ↓n_normal, ↓n_ret, ↓n_exit, ↓b_normal, ↓b_ret, ↓b_exit, ↓e_normal, ↓e_ret, e_some, go_sem, ↓reduceIte, Nat.reduceEqDiff, Nat.reduceLT, Nat.reduceSub, A_law10_Long_7, h0]
    exact hR _ _ ⟨⟨_, rfl, fun h => by have := of_decide_eq_false h; omega⟩, rfl⟩
  · intro fr h2
    simp -dsimp only [↓w_seq, ↓w_ops, ↓w_skip, ↓w_ret, ↓w_exit, ↓w_scope, ↓w_block, ↓w_cond, cond_true', cond_false', ↓t_nil, ↓t_plain, ↓t_guard, ↓t_gagain, ↓t_again, t_val, t_call, g_true, g_false, ga_true, ga_false, a_val, a_call, ↓n_normal, ↓n_ret, ↓n_exit, ↓b_normal, ↓b_ret, ↓b_exit, ↓e_normal, ↓e_ret, e_some, go_sem, ↓reduceIte, Nat.reduceEqDiff, Nat.reduceLT, Nat.reduceSub, h2]
    exact hR _ _ ⟨⟨true, rfl, fun h => by cases h⟩, rfl⟩
  all_goals simp only [go_sem, ↓reduceIte, Nat.reduceEqDiff, Nat.reduceLT, Nat.reduceSub]
  rfl

/-- Where a law stands: what it was given is as it was; a tree of its own. -/
structure LS (M0 M : Mem) (tc bm : Nat) (l : Tr) : Prop where
  old : ∀ c, c < M0.next → M.get c = M0.get c
  next : M0.next ≤ M.next
  T : TreeIn M tc bm l
  tb : M0.next ≤ bm
theorem LS.grew {M0 M M' : Mem} {tc bm : Nat} {l : Tr} (h : LS M0 M tc bm l) (hG : Grew M M') : LS M0 M' tc bm l :=
  ⟨fun c hc => (hG.old c (Nat.lt_of_lt_of_le hc h.next)).trans (h.old c hc), Nat.le_trans h.next hG.next, h.T.grew hG, h.tb⟩
theorem LS.chg {M0 M M' : Mem} {tc bm : Nat} {l l' : Tr} (h : LS M0 M tc bm l) (hC : Chg M bm M') (hT : TreeIn M' tc bm l') : LS M0 M' tc bm l' :=
  ⟨fun c hc => (hC.old c (Nat.lt_of_lt_of_le hc h.next) (by have := h.tb; omega)).trans (h.old c hc), Nat.le_trans h.next hC.next, hT, h.tb⟩
theorem LS.g {M0 M : Mem} {tc bm : Nat} {l : Tr} (h : LS M0 M tc bm l) (hg : isG M0 = true) (hn : 2 ≤ M0.next) : isG M = true := isG_keep hg hn h.old

theorem take_snoc {α : Type} (xs : List α) {i : Nat} (h : i < xs.length) : xs.take (i + 1) = xs.take i ++ [xs[i]] := by
  rw [List.take_add_one, List.getElem?_eq_getElem h]; rfl

theorem doR_loop (tc bm : Nat) (acts : List Act) (s : V) (M0 : Mem) (hs : SlR elAct M0 s acts) (hlt : ∀ b, s.blk = some b → acts ≠ [] → b < M0.next) (hg : isG M0 = true) (hn : 2 ≤ M0.next) (hL : acts.length ≤ 150) {Q : AExit → Fr → Mem → Prop}
    (hE : ∀ fr M, LS M0 M tc bm (actsT acts) → fr.rd 3 = .ptr (some (tc, 0)) → Q (.exit 0) fr M) :
    ∀ (f i : Nat) (fr : Fr) (M : Mem), i + f = acts.length → LS M0 M tc bm (actsT (acts.take i)) → fr.rd 0 = s → fr.rd 3 = .ptr (some (tc, 0)) → fr.rd 4 = .int .i64 (i : Int) → WC D2 94 (.loop A_law10_TreeReaches_10) fr M Q := by
  intro f
  induction f with
  | zero =>
    intro i fr M hi hS h0 h3 h4
    refine WC.loop (W_of ?_)
    unfold A_law10_TreeReaches_10
    obtain ⟨a, cap, rfl, _⟩ := hs
    have : ¬ (i : Int) < acts.length := by omega
    simp -dsimp only [↓w_seq, ↓w_ops, ↓w_skip, ↓w_ret, ↓w_exit, ↓w_scope, ↓w_block, ↓w_cond, cond_true', cond_false', ↓t_nil, ↓t_plain, ↓t_guard, ↓t_gagain, ↓t_again, t_val, t_call, g_true, g_false, ga_true, ga_false, a_val, a_call, ↓n_normal, ↓n_ret, ↓n_exit, ↓b_normal, ↓b_ret, ↓b_exit, ↓e_normal, ↓e_ret, e_some, go_sem, ↓reduceIte, Nat.reduceEqDiff, Nat.reduceLT, Nat.reduceSub, A_law10_TreeReaches_7, h0, h4, this, decide_false]
    have : i = acts.length := by omega
    subst this
    rw [List.take_length] at hS
    exact hE _ _ hS (by simp only [go_sem, ↓reduceIte, Nat.reduceEqDiff, Nat.reduceLT, Nat.reduceSub, h3])
  | succ f ih =>
    intro i fr M hi hS h0 h3 h4
    refine WC.loop (W_of ?_)
    unfold A_law10_TreeReaches_10
    have hil : i < acts.length := by omega
    obtain ⟨b, o, cs, ro, cap, rfl, hM, hr, _⟩ := act_at hs hil
    have hM' : M.get b = some (.cells cs ro) := (hS.old b (hlt b rfl (by intro h; subst h; simp at hil))).trans hM
    have e1 : (i : Int) < acts.length := by omega
    have e2 : i + 1 ≤ acts.length := by omega
    have h5' : (i : Int) + 1 = ((i + 1 : Nat) : Int) := by omega
    simp -dsimp only [↓w_seq, ↓w_ops, ↓w_skip, ↓w_ret, ↓w_exit, ↓w_scope, ↓w_block, ↓w_cond, cond_true', cond_false', ↓t_nil, ↓t_plain, ↓t_guard, ↓t_gagain, ↓t_again, t_val, t_call, g_true, g_false, ga_true, ga_false, a_val, a_call, ↓n_normal, ↓n_ret, ↓n_exit, ↓b_normal, ↓b_ret, ↓b_exit, ↓e_normal, ↓e_ret, e_some, go_sem, ↓reduceIte, Nat.reduceEqDiff, Nat.reduceLT, Nat.reduceSub, A_law10_TreeReaches_7, A_law10_TreeReaches_8, h0, h3, h4, e1, e2, decide_true, vload, vptr, Mem.read, hM', hr]
    refine call_of (do_runs M tc bm _ acts[i] hS.T (hS.g hg hn) (Nat.le_trans hn hS.next) (inv_acts _) (room_small (by have := len_acts (acts.take i); rw [List.length_take] at this; omega))) ?_
    intro v M2 hv
    simp -dsimp only [↓w_seq, ↓w_ops, ↓w_skip, ↓w_ret, ↓w_exit, ↓w_scope, ↓w_block, ↓w_cond, cond_true', cond_false', ↓t_nil, ↓t_plain, ↓t_guard, ↓t_gagain, ↓t_again, t_val, t_call, g_true, g_false, ga_true, ga_false, a_val, a_call, ↓n_normal, ↓n_ret, ↓n_exit, ↓b_normal, ↓b_ret, ↓b_exit, ↓e_normal, ↓e_ret, e_some, go_sem, ↓reduceIte, Nat.reduceEqDiff, Nat.reduceLT, Nat.reduceSub, A_law10_TreeReaches_9, h4, h5', IntWalk.i64_in ((i + 1 : Nat) : Int) (by omega)]
    refine ih (i + 1) _ M2 (by omega) ?_ ?_ ?_ ?_
    · rw [take_snoc acts hil, acts_snoc]
      exact hS.chg hv.1 hv.2
    all_goals simp only [go_sem, ↓reduceIte, Nat.reduceEqDiff, Nat.reduceLT, Nat.reduceSub, h0, h3]

/-! ### the stamps met -/
def encB (ks : List St) : List (V × V) := ks.map fun x => (.agg (stC x), .bool true)
def idxB : List St → St → Option Nat
  | [], _ => none
  | p :: r, k => if k = p then some 0 else (idxB r k).map (· + 1)
theorem mapIdxB (k : St) : ∀ ks : List St, mapIdx ⟨true, [.int .i64, .int .i64]⟩ (.agg (stC k)) (encB ks) = some (idxB ks k)
  | [] => rfl
  | p :: r => by
    show (match vsame _ (.agg (stC k)) (.agg (stC p)) with | some true => _ | some false => _ | none => _) = _
    rw [st_same]
    unfold idxB
    by_cases h : k = p
    · simp only [h, decide_true, if_true]
    · simp only [h, decide_false, if_false]
      have := mapIdxB k r
      unfold encB at this
      rw [this]
      rfl
theorem idxB_get (k : St) : ∀ ks : List St, putOk false (.bool false) ((idxB ks k).bind fun i => (encB ks)[i]?.map (·.2)) = .bool (decide (k ∈ ks))
  | [] => by simp [idxB, putOk]
  | p :: r => by
    have ih := idxB_get k r
    unfold idxB
    by_cases h : k = p
    · simp only [h, if_true, Option.bind_some]
      simp [encB, putOk]
    · simp only [h, if_false]
      have e : ((idxB r k).map (· + 1)).bind (fun i => (encB (p :: r))[i]?.map (·.2)) = (idxB r k).bind fun i => (encB r)[i]?.map (·.2) := by cases idxB r k <;> rfl
      rw [e, ih]
      simp [h]
theorem lookB {M : Mem} {b : Nat} {ks : List St} (h : M.get b = some (.map (encB ks))) (k : St) : vlookup ⟨true, [.int .i64, .int .i64]⟩ (.bool false) false M (.map (some b)) (.agg (stC k)) = some (.bool (decide (k ∈ ks))) := by
  have hok : Sh.ok ⟨true, [.int .i64, .int .i64]⟩ (.agg (stC k)) = true := rfl
  have hm : mapAt M b = some (encB ks) := by unfold mapAt; rw [h]
  simp only [vlookup, hm, Option.bind_some, hok, cond_true, mapIdxB, Option.map_some, idxB_get]
theorem idxB_none {k : St} : ∀ {ks : List St}, k ∉ ks → idxB ks k = none
  | [], _ => rfl
  | p :: r, h => by
    rw [List.mem_cons, not_or] at h
    simp only [idxB, h.1, if_false, idxB_none h.2, Option.map_none]
theorem putB {M : Mem} {b : Nat} {ks : List St} (h : M.get b = some (.map (encB ks))) {k : St} (hk : k ∉ ks) : vmapUpdate ⟨true, [.int .i64, .int .i64]⟩ M (.map (some b)) (.agg (stC k)) (.bool true) = some (M.set b (.map (encB (ks ++ [k])))) := by
  have hok : Sh.ok ⟨true, [.int .i64, .int .i64]⟩ (.agg (stC k)) = true := rfl
  have e : mapPut (encB ks) (.agg (stC k)) (.bool true) none = encB (ks ++ [k]) := by simp [mapPut, encB]
  simp only [vmapUpdate, mapOf, h, Option.bind_some, hok, cond_true, mapIdxB, Option.map_some, idxB_none hk, e]

theorem met_loop (mb : Nat) (n : St) (up : List St) (su : V) (hnd : (n :: up).Nodup) (hul : up.length ≤ 1000) (M0 : Mem) (hs : SlR elSt M0 su up) (hlt : ∀ b, su.blk = some b → b ≠ mb) {Q : AExit → Fr → Mem → Prop} {x3 x5 x6 : V}
    (hE : ∀ fr M, (∀ c, c ≠ mb → M.get c = M0.get c) → M.next = M0.next → fr.rd 3 = x3 → fr.rd 5 = x5 → fr.rd 6 = x6 → fr.rd 7 = su → Q (.exit 4) fr M) :
    ∀ (f k : Nat) (fr : Fr) (M : Mem), k + f = up.length → (∀ c, c ≠ mb → M.get c = M0.get c) → M.next = M0.next → M.get mb = some (.map (encB (n :: up.take k))) → fr.rd 3 = x3 → fr.rd 5 = x5 → fr.rd 6 = x6 → fr.rd 7 = su → fr.rd 8 = .map (some mb) → fr.rd 9 = .int .i64 (k : Int) → WC D2 94 (.loop A_law10_TreeReaches_24) fr M Q := by
  intro f
  induction f with
  | zero =>
    intro k fr M hi hk hn hm h3 h5 h6 h7 h8 h9
    refine WC.loop (W_of ?_)
    unfold A_law10_TreeReaches_24
    obtain ⟨a, cap, rfl, _⟩ := hs
    have : ¬ (k : Int) < up.length := by omega
    simp -dsimp only [↓w_seq, ↓w_ops, ↓w_skip, ↓w_ret, ↓w_exit, ↓w_scope, ↓w_block, ↓w_cond, cond_true', cond_false', ↓t_nil, ↓t_plain, ↓t_guard, ↓t_gagain, ↓t_again, t_val, t_call, g_true, g_false, ga_true, ga_false, a_val, a_call, ↓n_normal, ↓n_ret, ↓n_exit, ↓b_normal, ↓b_ret, ↓b_exit, ↓e_normal, ↓e_ret, e_some, go_sem, ↓reduceIte, Nat.reduceEqDiff, Nat.reduceLT, Nat.reduceSub, A_law10_TreeReaches_19, h7, h9, this, decide_false]
    refine hE _ M hk hn ?_ ?_ ?_ ?_
    all_goals simp only [go_sem, ↓reduceIte, Nat.reduceEqDiff, Nat.reduceLT, Nat.reduceSub, h3, h5, h6, h7]
  | succ f ih =>
    intro k fr M hi hk hn hm h3 h5 h6 h7 h8 h9
    refine WC.loop (W_of ?_)
    unfold A_law10_TreeReaches_24
    have hil : k < up.length := by omega
    obtain ⟨b, o, cs, ro, cap, rfl, hM, hr⟩ := st_at hs hil
    have hM' : M.get b = some (.cells cs ro) := (hk b (hlt b rfl)).trans hM
    have e1 : (k : Int) < up.length := by omega
    have e2 : k + 1 ≤ up.length := by omega
    have h5' : (k : Int) + 1 = ((k + 1 : Nat) : Int) := by omega
    have hni : up[k] ∉ n :: up.take k := by
      rw [List.nodup_cons] at hnd
      intro hx
      rcases List.mem_cons.mp hx with e | hx
      · exact hnd.1 (e ▸ List.getElem_mem hil)
      · obtain ⟨j, hj, e⟩ := List.getElem_of_mem hx
        rw [List.length_take] at hj
        rw [List.getElem_take] at e
        exact List.pairwise_iff_getElem.mp hnd.2 j k (by omega) hil (by omega) e
    have hp := putB hm hni
    simp -dsimp only [↓w_seq, ↓w_ops, ↓w_skip, ↓w_ret, ↓w_exit, ↓w_scope, ↓w_block, ↓w_cond, cond_true', cond_false', ↓t_nil, ↓t_plain, ↓t_guard, ↓t_gagain, ↓t_again, t_val, t_call, g_true, g_false, ga_true, ga_false, a_val, a_call, ↓n_normal, ↓n_ret, ↓n_exit, ↓b_normal, ↓b_ret, ↓b_exit, ↓e_normal, ↓e_ret, e_some, go_sem, ↓reduceIte, Nat.reduceEqDiff, Nat.reduceLT, Nat.reduceSub, A_law10_TreeReaches_19, A_law10_TreeReaches_20, A_law10_TreeReaches_22, A_law10_TreeReaches_23, h7, h8, h9, e1, e2, decide_true, vload, vptr, Mem.read, hM', hr, lookB hm, hni, decide_false, vof, hp, Option.map_some, h5', IntWalk.i64_in ((k + 1 : Nat) : Int) (by omega)]
    refine ih (k + 1) _ _ (by omega) (fun c hc => (Mem.get_set_ne _ _ hc).trans (hk c hc)) hn ?_ ?_ ?_ ?_ ?_ ?_ ?_
    · rw [take_snoc up hil]; exact Mem.get_set_same _ _ _
    all_goals simp only [go_sem, ↓reduceIte, Nat.reduceEqDiff, Nat.reduceLT, Nat.reduceSub, h3, h5, h6, h7, h8]

theorem above_p (M : Mem) (tc bm : Nat) (l : Tr) (T : TreeIn M tc bm l) (n : St) {path : List St} (hp : PathN l n path) (hne : path ≠ []) (hN : (path.length + 1) * 16 ≤ maxRoom) :
    Runs D2 F_tree_Tree_Above [.ptr (some (tc, 0)), .agg (stC n)] M fun v M' => v = .slice (some (M.next, 0)) path.length (.upto 2) ∧ M' = M.push (.cells (elSt.all path) false) := by
  cases path with
  | nil => exact absurd rfl hne
  | cons x xs =>
    refine Runs.prim rfl ?_ ⟨rfl, rfl⟩
    have e : pAbove [.ptr (some (tc, 0)), .agg (stC n)] M = some (.row (xs.length + 1) 2 (elSt.all (x :: xs))) := by
      show (match M.get tc with
        | some (.cells [.map none] _) => some (KeepR.flat (.slice none 0 (.exact 0)))
        | some (.cells [.map (some bm)] _) => (match M.get bm with
          | some (.map es) => (decM es).bind fun l => (upL l (l.length + 1) n).bind fun path => cond (Nat.ble ((path.length + 1) * 16) maxRoom) (some (match path with
            | [] => KeepR.flat (.slice none 0 (.exact 0))
            | x :: xs => KeepR.row (xs.length + 1) 2 (elSt.all (x :: xs)))) none
          | _ => none)
        | _ => none) = _
      simp only [T.c, T.m, decM_enc, Option.bind_some, hp.of, ble_iff, decide_eq_true hN, cond_true]
    show ((pAbove [.ptr (some (tc, 0)), .agg (stC n)] M).map fun r => r.res M) = _
    rw [e]
    rfl
end Go.Am.Tryd

/- The law TreeReaches answers true. -/
namespace Go.Am.Tryd
open Go Go.Am Go.Proofs Go.Sort Go.Shelf
set_option maxRecDepth 100000
set_option linter.unusedSimpArgs false
set_option linter.unusedVariables false

theorem Inv.path_ne {l : Tr} (h : Inv l) {n : St} (hn : n ∈ keysS l) : pathOf l n ≠ [] := by
  have h2 := (h.path n).look
  have h3 := get_mem.mpr hn
  cases hg : getS l n with
  | none => rw [hg] at h3; cases h3
  | some s =>
    rw [hg] at h2
    obtain ⟨r, e, _⟩ := h2
    rw [e]
    simp

theorem nodesR_loop (tc bm : Nat) (l : Tr) (hI : Inv l) (hl : l.length ≤ 150) (sn : V) (M1 : Mem) (T1 : TreeIn M1 tc bm l) (hs : SlR elSt M1 sn (nodesL l)) (hlt : ∀ b, sn.blk = some b → b < M1.next) {Q : AExit → Fr → Mem → Prop}
    (hE : ∀ fr M, Q (.exit 2) fr M) :
    ∀ (f i : Nat) (fr : Fr) (M : Mem), i + f = (nodesL l).length → Grew M1 M → fr.rd 3 = .ptr (some (tc, 0)) → fr.rd 5 = sn → fr.rd 6 = .int .i64 (i : Int) → WC D2 94 (.loop A_law10_TreeReaches_29) fr M Q := by
  have hnl := nodes_len l
  intro f
  induction f with
  | zero =>
    intro i fr M hi hG h3 h5 h6
    refine WC.loop (W_of ?_)
    unfold A_law10_TreeReaches_29
    obtain ⟨a, cap, rfl, _⟩ := hs
    have : ¬ (i : Int) < (nodesL l).length := by omega
    simp -dsimp only [↓w_seq, ↓w_ops, ↓w_skip, ↓w_ret, ↓w_exit, ↓w_scope, ↓w_block, ↓w_cond, cond_true', cond_false', ↓t_nil, ↓t_plain, ↓t_guard, ↓t_gagain, ↓t_again, t_val, t_call, g_true, g_false, ga_true, ga_false, a_val, a_call, ↓n_normal, ↓n_ret, ↓n_exit, ↓b_normal, ↓b_ret, ↓b_exit, ↓e_normal, ↓e_ret, e_some, go_sem, ↓reduceIte, Nat.reduceEqDiff, Nat.reduceLT, Nat.reduceSub, A_law10_TreeReaches_13, h5, h6, this, decide_false]
    exact hE _ _
  | succ f ih =>
    intro i fr M hi hG h3 h5 h6
    refine WC.loop (W_of ?_)
    unfold A_law10_TreeReaches_29
    have hil : i < (nodesL l).length := by omega
    have hsM : SlR elSt M sn (nodesL l) := hs.keep fun b hb => hG.old b (hlt b hb)
    obtain ⟨b, o, cs, ro, cap, rfl, hM, hr⟩ := st_at hsM hil
    have hb : b < M.next := Nat.lt_of_lt_of_le (hlt b rfl) hG.next
    have e1 : (i : Int) < (nodesL l).length := by omega
    have e2 : i + 1 ≤ (nodesL l).length := by omega
    have h5' : (i : Int) + 1 = ((i + 1 : Nat) : Int) := by omega
    have hmem : (nodesL l)[i] ∈ keysS l := mem_nodes.mp (List.getElem_mem hil)
    generalize (nodesL l)[i] = n at hr hmem
    have hp := hI.path n
    have hne := hI.path_ne hmem
    have hpl := hp.len
    have hend := hI.end_ hp hne
    have hnd := hp.nodup
    generalize pathOf l n = path at hp hne hpl hend hnd
    simp -dsimp only [↓w_seq, ↓w_ops, ↓w_skip, ↓w_ret, ↓w_exit, ↓w_scope, ↓w_block, ↓w_cond, cond_true', cond_false', ↓t_nil, ↓t_plain, ↓t_guard, ↓t_gagain, ↓t_again, t_val, t_call, g_true, g_false, ga_true, ga_false, a_val, a_call, ↓n_normal, ↓n_ret, ↓n_exit, ↓b_normal, ↓b_ret, ↓b_exit, ↓e_normal, ↓e_ret, e_some, go_sem, ↓reduceIte, Nat.reduceEqDiff, Nat.reduceLT, Nat.reduceSub, A_law10_TreeReaches_13, A_law10_TreeReaches_14, h3, h5, h6, e1, e2, decide_true, vload, vptr, Mem.read, hM, hr]
    refine call_of (above_p M tc bm l (T1.grew hG) n hp hne (room_small (by omega))) ?_
    intro v M2 hv
    rw [hv.1, hv.2]
    clear hv
    have hp0 : 0 < path.length := List.length_pos_iff.mpr hne
    have hz : ¬ path.length = 0 := by omega
    have hz' : ¬ (path.length : Int) = 0 := by omega
    have hgt : ¬ ((nodesL l).length : Int) < (path.length : Int) := by omega
    have g2 : (M.push (.cells (elSt.all path) false)).get M.next = some (.cells (elSt.all path) false) := Mem.get_push_same _ _
    have hG2 := Grew.push M (.cells (elSt.all path) false)
    have hn2 : (M.push (.cells (elSt.all path) false)).next = M.next + 1 := rfl
    generalize M.push (.cells (elSt.all path) false) = M2 at *
    have hM2 := (hG2.old _ hb).trans hM
    have hM3 : (M2.push (.map [])).get b = some (.cells cs ro) := (Mem.get_push_ne _ _ (by omega)).trans hM2
    have hpb : vmapUpdate ⟨true, [.int .i64, .int .i64]⟩ (M2.push (.map [])) (.map (some M2.next)) (.agg (stC n)) (.bool true) = some ((M2.push (.map [])).set M2.next (.map (encB [n]))) := putB (M := M2.push (.map [])) (b := M2.next) (ks := []) (k := n) (Mem.get_push_same _ _) (by simp)
    simp -dsimp only [↓w_seq, ↓w_ops, ↓w_skip, ↓w_ret, ↓w_exit, ↓w_scope, ↓w_block, ↓w_cond, cond_true', cond_false', ↓t_nil, ↓t_plain, ↓t_guard, ↓t_gagain, ↓t_again, t_val, t_call, g_true, g_false, ga_true, ga_false, a_val, a_call, ↓n_normal, ↓n_ret, ↓n_exit, ↓b_normal, ↓b_ret, ↓b_exit, ↓e_normal, ↓e_ret, e_some, go_sem, ↓reduceIte, Nat.reduceEqDiff, Nat.reduceLT, Nat.reduceSub, A_law10_TreeReaches_15, A_law10_TreeReaches_17, A_law10_TreeReaches_18, h5, h6, hz, hz', hgt, e1, e2, decide_true, decide_false, vload, vptr, Mem.read, hM3, hr, hpb, Option.map_some]
    have k1 : ∀ c, c ≠ M2.next → ((M2.push (.map [])).set M2.next (.map (encB [n]))).get c = M2.get c := fun c hc => by rw [Mem.get_set_ne _ _ hc, Mem.get_push_ne _ _ hc]
    have k2 : ((M2.push (.map [])).set M2.next (.map (encB [n]))).get M2.next = some (.map (encB (n :: path.take 0))) := by rw [Mem.get_set_same, List.take_zero]
    have k3 : ((M2.push (.map [])).set M2.next (.map (encB [n]))).next = M2.next + 1 := rfl
    generalize (M2.push (.map [])).set M2.next (.map (encB [n])) = M3 at *
    have hsu : SlR elSt M3 (.slice (some (M.next, 0)) path.length (.upto 2)) path := ⟨_, _, rfl, .inr ⟨_, 0, _, false, rfl, by rw [k1 _ (by omega)]; exact g2, fun j hj => by rw [Nat.zero_add]; exact elSt.rd path j hj⟩⟩
    refine met_loop M2.next n path _ hnd (by omega) M3 hsu (fun b hb => by simp only [V.blk, Option.some.injEq] at hb; omega) ?_ path.length 0 _ M3 (by omega) (fun _ _ => rfl) rfl k2 (x3 := .ptr (some (tc, 0))) (x5 := .slice (some (b, o)) (nodesL l).length cap) (x6 := .int .i64 (i : Int)) ?_ ?_ ?_ ?_ ?_ ?_
    · intro fr4 M4 hk4 hn4 j3 j5 j6 j7
      have e4 : (path.length : Int) - 1 = ((path.length - 1 : Nat) : Int) := by omega
      have e5 : path.length - 1 + 1 ≤ path.length := by omega
      have g4 : M4.get M.next = some (.cells (elSt.all path) false) := by rw [hk4 _ (by omega), k1 _ (by omega)]; exact g2
      have hrl : rdCells (elSt.all path) ((path.length - 1) * 2) 2 = some (stC (path.getLast hne)) := by
        have := elSt.rd path (path.length - 1) (by omega)
        rw [List.getLast_eq_getElem]
        exact this
      generalize path.getLast hne = e at *
      have hw := write_full (M := M4.push (.cells [.int .i64 0, .int .i64 0] false)) (b := M4.next) (vs := stC e) (Mem.get_push_same _ _) rfl rfl
      have hrd : ∀ x : St, rdCells (stC x) 0 2 = some (stC x) := fun _ => rfl
      have h10 : ¬ ((0, 1) : St) = (0, 0) := by decide
      simp -dsimp only [↓w_seq, ↓w_ops, ↓w_skip, ↓w_ret, ↓w_exit, ↓w_scope, ↓w_block, ↓w_cond, cond_true', cond_false', ↓t_nil, ↓t_plain, ↓t_guard, ↓t_gagain, ↓t_again, t_val, t_call, g_true, g_false, ga_true, ga_false, a_val, a_call, ↓n_normal, ↓n_ret, ↓n_exit, ↓b_normal, ↓b_ret, ↓b_exit, ↓e_normal, ↓e_ret, e_some, go_sem, ↓reduceIte, Nat.reduceEqDiff, Nat.reduceLT, Nat.reduceSub, A_law10_TreeReaches_25, j7, e4, e5, decide_true, vload, vptr, Mem.read, g4, Nat.zero_add, hrl, vstore, V.cells, stC_len, hw, Nat.reduceEqDiff, IntWalk.i64_in ((path.length - 1 : Nat) : Int) (by omega)]
      have hG5 : Grew M1 ((M4.push (.cells [.int .i64 0, .int .i64 0] false)).set M4.next (.cells (stC e) false)) := by
        refine ⟨by simp only [Mem.next_set, Mem.next_push]; have := hG.next; omega, fun c hc => ?_⟩
        have := hG.next
        rw [Mem.get_set_ne _ _ (by omega), Mem.get_push_ne _ _ (by omega), hk4 _ (by omega), k1 _ (by omega), hG2.old _ (by omega)]
        exact hG.old c hc
      have g5 : ((M4.push (.cells [.int .i64 0, .int .i64 0] false)).set M4.next (.cells (stC e) false)).get M4.next = some (.cells (stC e) false) := Mem.get_set_same _ _ _
      clear hw
      generalize (M4.push (.cells [.int .i64 0, .int .i64 0] false)).set M4.next (.cells (stC e) false) = M5 at *
      have f0 : fillCells [.int .i64 0, .int .i64 0] [] = some (stC (0, 0)) := rfl
      have f1 : fillCells [.int .i64 0, .int .i64 0] [(1, 1, .int .i64 1)] = some (stC (0, 1)) := rfl
      by_cases h00 : e = (0, 0)
      · simp -dsimp only [↓w_seq, ↓w_ops, ↓w_skip, ↓w_ret, ↓w_exit, ↓w_scope, ↓w_block, ↓w_cond, cond_true', cond_false', ↓t_nil, ↓t_plain, ↓t_guard, ↓t_gagain, ↓t_again, t_val, t_call, g_true, g_false, ga_true, ga_false, a_val, a_call, ↓n_normal, ↓n_ret, ↓n_exit, ↓b_normal, ↓b_ret, ↓b_exit, ↓e_normal, ↓e_ret, e_some, go_sem, ↓reduceIte, Nat.reduceEqDiff, Nat.reduceLT, Nat.reduceSub, A_law10_TreeReaches_26, A_law10_TreeReaches_28, vload, vptr, Mem.read, g5, hrd, f0, f1, vof, Option.map_some, st_same, h00, decide_true, Bool.not_true, j6, h5', IntWalk.i64_in ((i + 1 : Nat) : Int) (by omega)]
        refine ih (i + 1) _ M5 (by omega) hG5 ?_ ?_ ?_
        all_goals simp only [go_sem, ↓reduceIte, Nat.reduceEqDiff, Nat.reduceLT, Nat.reduceSub, j3, j5]
      · have h01 : e = (0, 1) := hend.resolve_left h00
        simp -dsimp only [↓w_seq, ↓w_ops, ↓w_skip, ↓w_ret, ↓w_exit, ↓w_scope, ↓w_block, ↓w_cond, cond_true', cond_false', ↓t_nil, ↓t_plain, ↓t_guard, ↓t_gagain, ↓t_again, t_val, t_call, g_true, g_false, ga_true, ga_false, a_val, a_call, ↓n_normal, ↓n_ret, ↓n_exit, ↓b_normal, ↓b_ret, ↓b_exit, ↓e_normal, ↓e_ret, e_some, go_sem, ↓reduceIte, Nat.reduceEqDiff, Nat.reduceLT, Nat.reduceSub, A_law10_TreeReaches_26, A_law10_TreeReaches_28, vload, vptr, Mem.read, g5, hrd, f0, f1, vof, Option.map_some, st_same, h10, h01, decide_true, decide_false, Bool.not_true, Bool.not_false, j6, h5', IntWalk.i64_in ((i + 1 : Nat) : Int) (by omega)]
        refine ih (i + 1) _ M5 (by omega) hG5 ?_ ?_ ?_
        all_goals simp only [go_sem, ↓reduceIte, Nat.reduceEqDiff, Nat.reduceLT, Nat.reduceSub, j3, j5]
    all_goals simp only [go_sem, ↓reduceIte, Nat.reduceEqDiff, Nat.reduceLT, Nat.reduceSub, h3, h5, h6]
    rfl

theorem tree_reaches_runs (s : V) (acts : List Act) (M0 : Mem) (hs : SlR elAct M0 s acts) (hk : ∀ x ∈ acts, x.2.2.2.length < 2 ^ 63) (hlt : ∀ b, s.blk = some b → acts ≠ [] → b < M0.next) (hg : isG M0 = true) (hn : 2 ≤ M0.next) :
    Runs D2 F_law10_TreeReaches [s] M0 fun v _ => v = .bool true := by
  refine R_opq fun R hR => ?_
  refine Runs.walk (F := A_law10_TreeReaches) rfl (by rfl) (by rfl) ?_
  unfold A_law10_TreeReaches
  simp -dsimp only [↓w_seq, ↓w_ops, ↓w_skip, ↓w_ret, ↓w_exit, ↓w_scope, ↓w_block, ↓w_cond, cond_true', cond_false', ↓t_nil, ↓t_plain, ↓t_guard, ↓t_gagain, ↓t_again, t_val, t_call, g_true, g_false, ga_true, ga_false, a_val, a_call, ↓n_normal, ↓n_ret, ↓n_exit, ↓b_normal, ↓b_ret, ↓b_exit, ↓e_normal, ↓e_ret, e_some, go_sem, ↓reduceIte, Nat.reduceEqDiff, Nat.reduceLT, Nat.reduceSub, A_law10_TreeReaches_0, A_law10_TreeReaches_1]
  refine call_of (Long_runs s acts M0 hs hk) ?_
  intro v M hv
  obtain ⟨⟨b, hb, hL⟩, hM⟩ := hv
  rw [hb, hM]
  clear hb hM
  cases b with
  | true =>
    simp -dsimp only [↓w_seq, ↓w_ops, ↓w_skip, ↓w_ret, ↓w_exit, ↓w_scope, ↓w_block, ↓w_cond, cond_true', cond_false', ↓t_nil, ↓t_plain, ↓t_guard, ↓t_gagain, ↓t_again, t_val, t_call, g_true, g_false, ga_true, ga_false, a_val, a_call, ↓n_normal, ↓n_ret, ↓n_exit, ↓b_normal, ↓b_ret, ↓b_exit, ↓e_normal, ↓e_ret, e_some, go_sem, ↓reduceIte, Nat.reduceEqDiff, Nat.reduceLT, Nat.reduceSub, A_law10_TreeReaches_2]
    refine call_eq (knows_p hg) ?_
    simp -dsimp only [↓w_seq, ↓w_ops, ↓w_skip, ↓w_ret, ↓w_exit, ↓w_scope, ↓w_block, ↓w_cond, cond_true', cond_false', ↓t_nil, ↓t_plain, ↓t_guard, ↓t_gagain, ↓t_again, t_val, t_call, g_true, g_false, ga_true, ga_false, a_val, a_call, ↓n_normal, ↓n_ret, ↓n_exit, ↓b_normal, ↓b_ret, ↓b_exit, ↓e_normal, ↓e_ret, e_some, go_sem, ↓reduceIte, Nat.reduceEqDiff, Nat.reduceLT, Nat.reduceSub]
    exact hR _ _ rfl
  | false =>
    have hL := hL rfl
    simp -dsimp only [↓w_seq, ↓w_ops, ↓w_skip, ↓w_ret, ↓w_exit, ↓w_scope, ↓w_block, ↓w_cond, cond_true', cond_false', ↓t_nil, ↓t_plain, ↓t_guard, ↓t_gagain, ↓t_again, t_val, t_call, g_true, g_false, ga_true, ga_false, a_val, a_call, ↓n_normal, ↓n_ret, ↓n_exit, ↓b_normal, ↓b_ret, ↓b_exit, ↓e_normal, ↓e_ret, e_some, go_sem, ↓reduceIte, Nat.reduceEqDiff, Nat.reduceLT, Nat.reduceSub, A_law10_TreeReaches_3]
    refine call_of (New_runs D2 rfl (by rfl) M0) ?_
    intro v M1 hv
    rw [hv.1]
    obtain ⟨_, hG, hT⟩ := hv
    have hS : LS M0 M1 (M0.next + 1) M0.next (actsT (acts.take 0)) := ⟨hG.old, hG.next, hT, Nat.le_refl _⟩
    simp -dsimp only [↓w_seq, ↓w_ops, ↓w_skip, ↓w_ret, ↓w_exit, ↓w_scope, ↓w_block, ↓w_cond, cond_true', cond_false', ↓t_nil, ↓t_plain, ↓t_guard, ↓t_gagain, ↓t_again, t_val, t_call, g_true, g_false, ga_true, ga_false, a_val, a_call, ↓n_normal, ↓n_ret, ↓n_exit, ↓b_normal, ↓b_ret, ↓b_exit, ↓e_normal, ↓e_ret, e_some, go_sem, ↓reduceIte, Nat.reduceEqDiff, Nat.reduceLT, Nat.reduceSub, A_law10_TreeReaches_4, nil_ptr, nil_ptr', Option.map_some]
    refine call_eq (knows_p (hS.g hg hn)) ?_
    simp -dsimp only [↓w_seq, ↓w_ops, ↓w_skip, ↓w_ret, ↓w_exit, ↓w_scope, ↓w_block, ↓w_cond, cond_true', cond_false', ↓t_nil, ↓t_plain, ↓t_guard, ↓t_gagain, ↓t_again, t_val, t_call, g_true, g_false, ga_true, ga_false, a_val, a_call, ↓n_normal, ↓n_ret, ↓n_exit, ↓b_normal, ↓b_ret, ↓b_exit, ↓e_normal, ↓e_ret, e_some, go_sem, ↓reduceIte, Nat.reduceEqDiff, Nat.reduceLT, Nat.reduceSub, Bool.not_true, A_law10_TreeReaches_6]
    refine doR_loop (M0.next + 1) M0.next acts s M0 hs hlt hg hn hL ?_ acts.length 0 _ M1 (by omega) hS ?_ ?_ ?_
    · intro fr M2 hS2 h3
      have hl := len_acts acts
      simp -dsimp only [↓w_seq, ↓w_ops, ↓w_skip, ↓w_ret, ↓w_exit, ↓w_scope, ↓w_block, ↓w_cond, cond_true', cond_false', ↓t_nil, ↓t_plain, ↓t_guard, ↓t_gagain, ↓t_again, t_val, t_call, g_true, g_false, ga_true, ga_false, a_val, a_call, ↓n_normal, ↓n_ret, ↓n_exit, ↓b_normal, ↓b_ret, ↓b_exit, ↓e_normal, ↓e_ret, e_some, go_sem, ↓reduceIte, Nat.reduceEqDiff, Nat.reduceLT, Nat.reduceSub, A_law10_TreeReaches_11, A_law10_TreeReaches_12, h3]
      refine call_of (Nodes_runs M2 _ _ _ hS2.T (room_small (by omega))) ?_
      intro v M3 hv
      obtain ⟨hG3, hH⟩ := hv
      simp -dsimp only [↓w_seq, ↓w_ops, ↓w_skip, ↓w_ret, ↓w_exit, ↓w_scope, ↓w_block, ↓w_cond, cond_true', cond_false', ↓t_nil, ↓t_plain, ↓t_guard, ↓t_gagain, ↓t_again, t_val, t_call, g_true, g_false, ga_true, ga_false, a_val, a_call, ↓n_normal, ↓n_ret, ↓n_exit, ↓b_normal, ↓b_ret, ↓b_exit, ↓e_normal, ↓e_ret, e_some, go_sem, ↓reduceIte, Nat.reduceEqDiff, Nat.reduceLT, Nat.reduceSub, A_law10_TreeReaches_12]
      refine nodesR_loop (M0.next + 1) M0.next (actsT acts) (inv_acts acts) (by omega) v M3 (hS2.T.grew hG3) (Hold.slR hH) (fun b hb => (hH.blk_le hb).2.1) ?_ _ 0 _ M3 (Nat.zero_add _) (Grew.refl _) ?_ ?_ ?_
      · intro fr M4
        simp -dsimp only [↓w_seq, ↓w_ops, ↓w_skip, ↓w_ret, ↓w_exit, ↓w_scope, ↓w_block, ↓w_cond, cond_true', cond_false', ↓t_nil, ↓t_plain, ↓t_guard, ↓t_gagain, ↓t_again, t_val, t_call, g_true, g_false, ga_true, ga_false, a_val, a_call, ↓n_normal, ↓n_ret, ↓n_exit, ↓b_normal, ↓b_ret, ↓b_exit, ↓e_normal, ↓e_ret, e_some, go_sem, ↓reduceIte, Nat.reduceEqDiff, Nat.reduceLT, Nat.reduceSub, A_law10_TreeReaches_30]
        exact hR _ _ rfl
      all_goals simp only [go_sem, ↓reduceIte, Nat.reduceEqDiff, Nat.reduceLT, Nat.reduceSub, h3]
      rfl
    all_goals simp only [go_sem, ↓reduceIte, Nat.reduceEqDiff, Nat.reduceLT, Nat.reduceSub]
    rfl
end Go.Am.Tryd

/- The law TreeBelow answers true. -/
namespace Go.Am.Tryd
open Go Go.Am Go.Proofs Go.Sort Go.Shelf
set_option maxRecDepth 100000
set_option linter.unusedSimpArgs false
set_option linter.unusedVariables false

theorem doB_loop (tc bm : Nat) (acts : List Act) (s : V) (M0 : Mem) (hs : SlR elAct M0 s acts) (hlt : ∀ b, s.blk = some b → acts ≠ [] → b < M0.next) (hg : isG M0 = true) (hn : 2 ≤ M0.next) (hL : acts.length ≤ 150) {Q : AExit → Fr → Mem → Prop}
    (hE : ∀ fr M, LS M0 M tc bm (actsT acts) → fr.rd 3 = .ptr (some (tc, 0)) → Q (.exit 0) fr M) :
    ∀ (f i : Nat) (fr : Fr) (M : Mem), i + f = acts.length → LS M0 M tc bm (actsT (acts.take i)) → fr.rd 0 = s → fr.rd 3 = .ptr (some (tc, 0)) → fr.rd 4 = .int .i64 (i : Int) → WC D2 116 (.loop A_law10_TreeBelow_10) fr M Q := by
  intro f
  induction f with
  | zero =>
    intro i fr M hi hS h0 h3 h4
    refine WC.loop (W_of ?_)
    unfold A_law10_TreeBelow_10
    obtain ⟨a, cap, rfl, _⟩ := hs
    have : ¬ (i : Int) < acts.length := by omega
    simp -dsimp only [↓w_seq, ↓w_ops, ↓w_skip, ↓w_ret, ↓w_exit, ↓w_scope, ↓w_block, ↓w_cond, cond_true', cond_false', ↓t_nil, ↓t_plain, ↓t_guard, ↓t_gagain, ↓t_again, t_val, t_call, g_true, g_false, ga_true, ga_false, a_val, a_call, ↓n_normal, ↓n_ret, ↓n_exit, ↓b_normal, ↓b_ret, ↓b_exit, ↓e_normal, ↓e_ret, e_some, go_sem, ↓reduceIte, Nat.reduceEqDiff, Nat.reduceLT, Nat.reduceSub, A_law10_TreeBelow_7, h0, h4, this, decide_false]
    have : i = acts.length := by omega
    subst this
    rw [List.take_length] at hS
    exact hE _ _ hS (by simp only [go_sem, ↓reduceIte, Nat.reduceEqDiff, Nat.reduceLT, Nat.reduceSub, h3])
  | succ f ih =>
    intro i fr M hi hS h0 h3 h4
    refine WC.loop (W_of ?_)
    unfold A_law10_TreeBelow_10
    have hil : i < acts.length := by omega
    obtain ⟨b, o, cs, ro, cap, rfl, hM, hr, _⟩ := act_at hs hil
    have hM' : M.get b = some (.cells cs ro) := (hS.old b (hlt b rfl (by intro h; subst h; simp at hil))).trans hM
    have e1 : (i : Int) < acts.length := by omega
    have e2 : i + 1 ≤ acts.length := by omega
    have h5' : (i : Int) + 1 = ((i + 1 : Nat) : Int) := by omega
    simp -dsimp only [↓w_seq, ↓w_ops, ↓w_skip, ↓w_ret, ↓w_exit, ↓w_scope, ↓w_block, ↓w_cond, cond_true', cond_false', ↓t_nil, ↓t_plain, ↓t_guard, ↓t_gagain, ↓t_again, t_val, t_call, g_true, g_false, ga_true, ga_false, a_val, a_call, ↓n_normal, ↓n_ret, ↓n_exit, ↓b_normal, ↓b_ret, ↓b_exit, ↓e_normal, ↓e_ret, e_some, go_sem, ↓reduceIte, Nat.reduceEqDiff, Nat.reduceLT, Nat.reduceSub, A_law10_TreeBelow_7, A_law10_TreeBelow_8, h0, h3, h4, e1, e2, decide_true, vload, vptr, Mem.read, hM', hr]
    refine call_of (do_runs M tc bm _ acts[i] hS.T (hS.g hg hn) (Nat.le_trans hn hS.next) (inv_acts _) (room_small (by have := len_acts (acts.take i); rw [List.length_take] at this; omega))) ?_
    intro v M2 hv
    simp -dsimp only [↓w_seq, ↓w_ops, ↓w_skip, ↓w_ret, ↓w_exit, ↓w_scope, ↓w_block, ↓w_cond, cond_true', cond_false', ↓t_nil, ↓t_plain, ↓t_guard, ↓t_gagain, ↓t_again, t_val, t_call, g_true, g_false, ga_true, ga_false, a_val, a_call, ↓n_normal, ↓n_ret, ↓n_exit, ↓b_normal, ↓b_ret, ↓b_exit, ↓e_normal, ↓e_ret, e_some, go_sem, ↓reduceIte, Nat.reduceEqDiff, Nat.reduceLT, Nat.reduceSub, A_law10_TreeBelow_9, h4, h5', IntWalk.i64_in ((i + 1 : Nat) : Int) (by omega)]
    refine ih (i + 1) _ M2 (by omega) ?_ ?_ ?_ ?_
    · rw [take_snoc acts hil, acts_snoc]
      exact hS.chg hv.1 hv.2
    all_goals simp only [go_sem, ↓reduceIte, Nat.reduceEqDiff, Nat.reduceLT, Nat.reduceSub, h0, h3]


/-! ### how many stand below -/
theorem sum_add {α : Type} (f g : α → Nat) : ∀ l : List α, (l.map fun x => f x + g x).sum = (l.map f).sum + (l.map g).sum
  | [] => rfl
  | x :: l => by
    have := sum_add f g l
    simp only [List.map_cons, List.sum_cons, this]
    omega
theorem sum_zero {α : Type} (f : α → Nat) : ∀ l : List α, (∀ x ∈ l, f x = 0) → (l.map f).sum = 0
  | [], _ => rfl
  | x :: l, h => by
    simp only [List.map_cons, List.sum_cons, h x (List.mem_cons_self ..), sum_zero f l fun y hy => h y (List.mem_cons_of_mem _ hy)]
theorem sum_one (k : St) : ∀ ps : List St, ps.Nodup → k ∈ ps → (ps.map fun p => if k = p then 1 else 0).sum = 1
  | [], _, h => by cases h
  | p :: ps, hn, h => by
    rw [List.nodup_cons] at hn
    simp only [List.map_cons, List.sum_cons]
    by_cases e : k = p
    · rw [if_pos e, sum_zero _ ps fun x hx => if_neg fun e' => hn.1 (by rw [← e, e']; exact hx)]
    · rw [if_neg e, Nat.zero_add]
      exact sum_one k ps hn.2 ((List.mem_cons.mp h).resolve_left e)
theorem sum_filter (f : St → St) (ps : List St) (hn : ps.Nodup) : ∀ ns : List St, (∀ n ∈ ns, f n ∈ ps) → (ps.map fun p => (ns.filter fun n => decide (f n = p)).length).sum = ns.length
  | [], _ => sum_zero _ ps fun _ _ => rfl
  | n :: ns, h => by
    have ih := sum_filter f ps hn ns fun m hm => h m (List.mem_cons_of_mem _ hm)
    have e : (fun p => ((n :: ns).filter fun n => decide (f n = p)).length) = fun p => (if f n = p then 1 else 0) + (ns.filter fun n => decide (f n = p)).length := by
      funext p
      by_cases e : f n = p
      · rw [if_pos e, List.filter_cons_of_pos (by simpa using e), List.length_cons, Nat.add_comm]
      · rw [if_neg e, List.filter_cons_of_neg (by simpa using e), Nat.zero_add]
    rw [e, sum_add, ih, sum_one (f n) ps hn (h n (List.mem_cons_self ..)), List.length_cons, Nat.add_comm]
def placesL (l : Tr) : List St := nodesL l ++ [(0, 0), (0, 1)]
def totL (l : Tr) (ps : List St) : Nat := (ps.map fun p => (belowL l p).length).sum
theorem places_nodup {l : Tr} (h : Inv l) : (placesL l).Nodup := by
  unfold placesL
  have hn : (nodesL l).Nodup := (isort_perm ltSt (keysS l)).nodup_iff.mpr h.nd
  have hp : ∀ n ∈ nodesL l, 0 < n.1 := fun n hn => by
    have h2 := get_mem.mpr (mem_nodes.mp hn)
    cases hg : getS l n with
    | none => rw [hg] at h2; cases h2
    | some s => exact h.node n s hg
  rw [List.nodup_append]
  refine ⟨hn, by decide, fun a ha b hb e => ?_⟩
  subst e
  have := hp a ha
  simp only [List.mem_cons, List.not_mem_nil, or_false] at hb
  rcases hb with rfl | rfl
  · exact absurd this (by decide)
  · exact absurd this (by decide)
theorem total {l : Tr} (h : Inv l) : totL l (placesL l) = (nodesL l).length := by
  unfold totL belowL belF
  refine sum_filter (fun n => ((getS l n).getD sp0).1) (placesL l) (places_nodup h) (nodesL l) fun n hn => ?_
  have h2 := get_mem.mpr (mem_nodes.mp hn)
  unfold placesL
  rw [List.mem_append]
  cases hg : getS l n with
  | none => rw [hg] at h2; cases h2
  | some s =>
    rcases h.par n s hg with h3 | h3 | h3
    · exact .inl (mem_nodes.mpr (get_mem.mp h3))
    · exact .inr (by simp [h3])
    · exact .inr (by simp [h3])
theorem tot_le (l : Tr) : ∀ ps : List St, totL l ps ≤ ps.length * l.length
  | [] => by simp [totL]
  | p :: ps => by
    have ih := tot_le l ps
    have h1 : (belowL l p).length ≤ l.length := by rw [← nodes_len l]; exact List.length_filter_le _ _
    unfold totL at ih ⊢
    simp only [List.map_cons, List.sum_cons, List.length_cons, Nat.add_mul, Nat.one_mul]
    omega
theorem tot_snoc (l : Tr) (ps : List St) (p : St) : totL l (ps ++ [p]) = totL l ps + (belowL l p).length := by simp [totL]

theorem places_append (lo : Nat) (M : Mem) (sn : V) (ns : List St) (hN : (ns.length + 2 + 1) * 16 ≤ maxRoom) (h : Hold lo M 2 sn ns.length (elSt.all ns)) :
    ∃ s39 M3 s43 M5, vappend 2 16 (M.push (.cells [] false)) (.slice (some (M.next, 0)) 0 (.exact 0)) sn = some (s39, M3) ∧ vappend 2 16 (M3.push (.cells [.int .i64 0, .int .i64 0, .int .i64 0, .int .i64 1] false)) s39 (.slice (some (M3.next, 0)) 2 (.exact 2)) = some (s43, M5) ∧
      Hold M.next M5 2 s43 (ns ++ [(0, 0), (0, 1)]).length (elSt.all (ns ++ [(0, 0), (0, 1)])) ∧ Grew M M5 := by
  have h1 : Hold lo (M.push (.cells [] false)) 2 sn ns.length (elSt.all ns) := h.keep (fun c hc => Mem.get_push_ne _ _ (by have := h.blk_le hc; omega)) (by simp)
  obtain ⟨hsl, hsc⟩ := h1.src
  have hall : elSt.all (ns ++ [(0, 0), (0, 1)]) = elSt.all ns ++ [.int .i64 0, .int .i64 0, .int .i64 0, .int .i64 1] := by simp [Elem.all, elSt, stC]
  have hlen : (ns ++ [(0, 0), (0, 1)]).length = ns.length + 2 := by simp
  rw [hall, hlen]
  have hr2 : Nat.ble ((0 + 2) * 16) maxRoom = true := by decide
  cases ns with
  | nil =>
    refine ⟨.slice (some (M.next, 0)) 0 (.exact 0), M.push (.cells [] false), .slice (some (M.next + 1 + 1, 0)) 2 (.upto 2), ((M.push (.cells [] false)).push (.cells [.int .i64 0, .int .i64 0, .int .i64 0, .int .i64 1] false)).push (.cells [.int .i64 0, .int .i64 0, .int .i64 0, .int .i64 1] false), ?_, ?_, ?_, ?_⟩
    · have hsl0 : srcLen sn = some 0 := hsl
      have hsc0 : srcCells 2 (M.push (.cells [] false)) 0 sn = some [] := hsc
      simp only [vappend, hsl0, hsc0, Option.bind_some, Nat.beq_refl, cond_true]
    · have hrd : (((M.push (.cells [] false)).push (.cells [.int .i64 0, .int .i64 0, .int .i64 0, .int .i64 1] false)).read (M.next + 1) 0 4) = some [.int .i64 0, .int .i64 0, .int .i64 0, .int .i64 1] := read_all (Mem.get_push_same (M.push _) _)
      have e0 : Nat.beq 2 0 = false := rfl
      have e1 : Nat.ble (0 + 2) 0 = false := rfl
      simp only [vappend, srcLen, srcCells, Option.bind_some, e0, e1, cond_false, cond_true, Mem.next_push, hrd, Nat.reduceMul, hr2, Nat.beq_refl, List.nil_append, Nat.zero_add, Option.map_some]
    · refine .row (Mem.get_push_same ((M.push _).push _) _) (by simp [Elem.all]) (by omega) (by simp only [Mem.next_push]; omega)
    · exact ((Grew.push _ _).trans (Grew.push _ _)).trans (Grew.push _ _)
  | cons y ns =>
    have e0 : Nat.beq (y :: ns).length 0 = false := rfl
    have e1 : Nat.ble (0 + (y :: ns).length) 0 = false := by rw [Nat.zero_add]; rfl
    have hroom : Nat.ble ((0 + (y :: ns).length) * 16) maxRoom = true := by
      rw [ble_iff, decide_eq_true_eq]
      exact Nat.le_trans (Nat.mul_le_mul_right 16 (by omega)) hN
    have hp1 : vappend 2 16 (M.push (.cells [] false)) (.slice (some (M.next, 0)) 0 (.exact 0)) sn = some (.slice (some (M.next + 1, 0)) (y :: ns).length (.upto 2), (M.push (.cells [] false)).push (.cells (elSt.all (y :: ns)) false)) := by
      simp only [vappend, hsl, hsc, Option.bind_some, e0, e1, cond_false, cond_true, hroom, Nat.beq_refl, List.nil_append, Nat.zero_add, Mem.next_push]
      simp only [Nat.zero_add] at hroom
      rw [hroom]
      rfl
    have hH : Hold M.next (((M.push (.cells [] false)).push (.cells (elSt.all (y :: ns)) false)).push (.cells [.int .i64 0, .int .i64 0, .int .i64 0, .int .i64 1] false)) 2 (.slice (some (M.next + 1, 0)) (y :: ns).length (.upto 2)) (y :: ns).length (elSt.all (y :: ns)) := by
      refine .row ?_ (by rw [elSt.all_len]; rfl) (by omega) (by simp only [Mem.next_push]; omega)
      rw [Mem.get_push_ne _ _ (by simp only [Mem.next_push]; omega)]
      exact Mem.get_push_same (M.push _) _
    obtain ⟨M5, hap, hH5, hn5, ho5⟩ := hH.append (bytes := 16) (m := 2) (x := .slice (some (M.next + 1 + 1, 0)) 2 (.exact 2)) (new := [.int .i64 0, .int .i64 0, .int .i64 0, .int .i64 1]) (by simp only [Mem.next_push]; omega) rfl
      (by
        have := read_all (Mem.get_push_same ((M.push (.cells [] false)).push (.cells (elSt.all (y :: ns)) false)) (.cells [.int .i64 0, .int .i64 0, .int .i64 0, .int .i64 1] false))
        simp only [srcCells, beq_dec, Nat.reduceEqDiff, decide_false, cond_false]
        exact this) (by omega) rfl (Nat.le_trans (Nat.mul_le_mul_right 16 (by omega)) hN) rfl
    refine ⟨_, _, _, M5, hp1, hap, hH5, ⟨by rw [hn5]; simp only [Mem.next_push]; omega, fun c hc => ?_⟩⟩
    rw [ho5 c (by simp only [Mem.next_push]; omega) (fun e => by simp only [V.blk, Option.some.injEq] at e; omega), Mem.get_push_ne _ _ (by simp only [Mem.next_push]; omega), Mem.get_push_ne _ _ (by simp only [Mem.next_push]; omega), Mem.get_push_ne _ _ (by omega)]

theorem each_loop (tc bm : Nat) (l : Tr) (hI : Inv l) (hl : l.length ≤ 150) (p : St) (sp sb : V) (ps : List St) (j : Nat) (hj : j < ps.length) (hpj : ps[j] = p) (M1 : Mem) (T1 : TreeIn M1 tc bm l) (hsp : SlR elSt M1 sp ps) (hltp : ∀ b, sp.blk = some b → b < M1.next) (hsb : SlR elSt M1 sb (belowL l p)) (hltb : ∀ b, sb.blk = some b → b < M1.next) {Q : AExit → Fr → Mem → Prop} {x5 x7 : V}
    (hE : ∀ fr M, Grew M1 M → fr.rd 3 = .ptr (some (tc, 0)) → fr.rd 5 = x5 → fr.rd 6 = sp → fr.rd 7 = x7 → fr.rd 8 = .int .i64 (j : Int) → Q (.exit 4) fr M) :
    ∀ (f k : Nat) (fr : Fr) (M : Mem), k + f = (belowL l p).length → Grew M1 M → fr.rd 3 = .ptr (some (tc, 0)) → fr.rd 5 = x5 → fr.rd 6 = sp → fr.rd 7 = x7 → fr.rd 8 = .int .i64 (j : Int) → fr.rd 9 = sb → fr.rd 10 = .int .i64 (k : Int) → WC D2 116 (.loop A_law10_TreeBelow_24) fr M Q := by
  have hbl : (belowL l p).length ≤ l.length := by rw [← nodes_len l]; exact List.length_filter_le _ _
  intro f
  induction f with
  | zero =>
    intro k fr M hi hG h3 h5 h6 h7 h8 h9 h10
    refine WC.loop (W_of ?_)
    unfold A_law10_TreeBelow_24
    obtain ⟨a, cap, rfl, _⟩ := hsb
    have : ¬ (k : Int) < (belowL l p).length := by omega
    simp -dsimp only [↓w_seq, ↓w_ops, ↓w_skip, ↓w_ret, ↓w_exit, ↓w_scope, ↓w_block, ↓w_cond, cond_true', cond_false', ↓t_nil, ↓t_plain, ↓t_guard, ↓t_gagain, ↓t_again, t_val, t_call, g_true, g_false, ga_true, ga_false, a_val, a_call, ↓n_normal, ↓n_ret, ↓n_exit, ↓b_normal, ↓b_ret, ↓b_exit, ↓e_normal, ↓e_ret, e_some, go_sem, ↓reduceIte, Nat.reduceEqDiff, Nat.reduceLT, Nat.reduceSub, A_law10_TreeBelow_19, h9, h10, this, decide_false]
    refine hE _ M hG ?_ ?_ ?_ ?_ ?_
    all_goals simp only [go_sem, ↓reduceIte, Nat.reduceEqDiff, Nat.reduceLT, Nat.reduceSub, h3, h5, h6, h7, h8]
  | succ f ih =>
    intro k fr M hi hG h3 h5 h6 h7 h8 h9 h10
    refine WC.loop (W_of ?_)
    unfold A_law10_TreeBelow_24
    have hil : k < (belowL l p).length := by omega
    obtain ⟨b, o, cs, ro, cap, e0, hM, hr⟩ := st_at (hsb.keep fun b hb => hG.old b (hltb b hb)) hil
    obtain ⟨b', o', cs', ro', cap', e0', hM', hr'⟩ := st_at (hsp.keep fun b hb => hG.old b (hltp b hb)) hj
    have hbn : b < M.next := Nat.lt_of_lt_of_le (hltb b (by rw [e0]; rfl)) hG.next
    have hbn' : b' < M.next := Nat.lt_of_lt_of_le (hltp b' (by rw [e0']; rfl)) hG.next
    rw [hpj] at hr'
    have e1 : (k : Int) < (belowL l p).length := by omega
    have e2 : k + 1 ≤ (belowL l p).length := by omega
    have e3 : j + 1 ≤ ps.length := by omega
    have h5' : (k : Int) + 1 = ((k + 1 : Nat) : Int) := by omega
    obtain ⟨s, hgs, hsp1⟩ := mem_below.mp (List.getElem_mem hil)
    generalize (belowL l p)[k] = n at hr hgs
    have h9' := h9
    have h6' := h6
    rw [e0] at h9
    rw [e0'] at h6
    have T := T1.grew hG
    simp -dsimp only [↓w_seq, ↓w_ops, ↓w_skip, ↓w_ret, ↓w_exit, ↓w_scope, ↓w_block, ↓w_cond, cond_true', cond_false', ↓t_nil, ↓t_plain, ↓t_guard, ↓t_gagain, ↓t_again, t_val, t_call, g_true, g_false, ga_true, ga_false, a_val, a_call, ↓n_normal, ↓n_ret, ↓n_exit, ↓b_normal, ↓b_ret, ↓b_exit, ↓e_normal, ↓e_ret, e_some, go_sem, ↓reduceIte, Nat.reduceEqDiff, Nat.reduceLT, Nat.reduceSub, A_law10_TreeBelow_19, A_law10_TreeBelow_20, h3, h9, h10, e1, e2, decide_true, vload, vptr, Mem.read, hM, hr]
    refine call_eq (spot_p rfl T.of n) ?_
    have hw := write_full (M := M.push (.cells [.int .i64 0, .int .i64 0, .str []] false)) (b := M.next) (vs := spC s) (Mem.get_push_same _ _) rfl rfl
    rw [hgs]
    simp -dsimp only [↓w_seq, ↓w_ops, ↓w_skip, ↓w_ret, ↓w_exit, ↓w_scope, ↓w_block, ↓w_cond, cond_true', cond_false', ↓t_nil, ↓t_plain, ↓t_guard, ↓t_gagain, ↓t_again, t_val, t_call, g_true, g_false, ga_true, ga_false, a_val, a_call, ↓n_normal, ↓n_ret, ↓n_exit, ↓b_normal, ↓b_ret, ↓b_exit, ↓e_normal, ↓e_ret, e_some, go_sem, ↓reduceIte, Nat.reduceEqDiff, Nat.reduceLT, Nat.reduceSub, A_law10_TreeBelow_20, Option.getD_some, Option.isSome_some, List.getElem?_cons_zero, List.getElem?_cons_succ, vstore, V.cells, spC_len, hw, Nat.reduceEqDiff]
    have hGn : Grew M ((M.push (.cells [.int .i64 0, .int .i64 0, .str []] false)).set M.next (.cells (spC s) false)) := (Grew.push M _).upd (Nat.le_refl _) (Upd.set _ _ _)
    have g11 : ((M.push (.cells [.int .i64 0, .int .i64 0, .str []] false)).set M.next (.cells (spC s) false)).get M.next = some (.cells (spC s) false) := Mem.get_set_same _ _ _
    clear hw
    generalize (M.push (.cells [.int .i64 0, .int .i64 0, .str []] false)).set M.next (.cells (spC s) false) = M2 at *
    have hM2 := (hGn.old b hbn).trans hM
    have hM2' := (hGn.old b' hbn').trans hM'
    have hrs : rdCells (spC s) 0 2 = some (stC s.1) := rfl
    have T2 := T.grew hGn
    have hpa := hI.path n
    have hw1 : withinB l n n (pathOf l n) = true := by simp [withinB, hgs]
    have hw2 : withinB l p n (pathOf l n) = true := by
      have h2 := hpa.look
      rw [hgs] at h2
      obtain ⟨r, e, _⟩ := h2
      simp [withinB, hgs, e, hsp1]
    simp -dsimp only [↓w_seq, ↓w_ops, ↓w_skip, ↓w_ret, ↓w_exit, ↓w_scope, ↓w_block, ↓w_cond, cond_true', cond_false', ↓t_nil, ↓t_plain, ↓t_guard, ↓t_gagain, ↓t_again, t_val, t_call, g_true, g_false, ga_true, ga_false, a_val, a_call, ↓n_normal, ↓n_ret, ↓n_exit, ↓b_normal, ↓b_ret, ↓b_exit, ↓e_normal, ↓e_ret, e_some, go_sem, ↓reduceIte, Nat.reduceEqDiff, Nat.reduceLT, Nat.reduceSub, A_law10_TreeBelow_21, Bool.not_true, h3, h6, h8, h9, h10, e1, e2, e3, decide_true, vload, vptr, Mem.read, g11, hM2, hM2', hr, hr', hrs, Nat.add_zero, st_same, hsp1]
    refine call_eq (within_p rfl T2.of n n hpa) ?_
    rw [hw1]
    simp -dsimp only [↓w_seq, ↓w_ops, ↓w_skip, ↓w_ret, ↓w_exit, ↓w_scope, ↓w_block, ↓w_cond, cond_true', cond_false', ↓t_nil, ↓t_plain, ↓t_guard, ↓t_gagain, ↓t_again, t_val, t_call, g_true, g_false, ga_true, ga_false, a_val, a_call, ↓n_normal, ↓n_ret, ↓n_exit, ↓b_normal, ↓b_ret, ↓b_exit, ↓e_normal, ↓e_ret, e_some, go_sem, ↓reduceIte, Nat.reduceEqDiff, Nat.reduceLT, Nat.reduceSub, A_law10_TreeBelow_21, Bool.not_true, h3, h6, h8, h9, h10, e1, e2, e3, decide_true, vload, vptr, Mem.read, g11, hM2, hM2', hr, hr', hrs, Nat.add_zero, st_same, hsp1]
    refine call_eq (within_p rfl T2.of p n hpa) ?_
    rw [hw2]
    simp -dsimp only [↓w_seq, ↓w_ops, ↓w_skip, ↓w_ret, ↓w_exit, ↓w_scope, ↓w_block, ↓w_cond, cond_true', cond_false', ↓t_nil, ↓t_plain, ↓t_guard, ↓t_gagain, ↓t_again, t_val, t_call, g_true, g_false, ga_true, ga_false, a_val, a_call, ↓n_normal, ↓n_ret, ↓n_exit, ↓b_normal, ↓b_ret, ↓b_exit, ↓e_normal, ↓e_ret, e_some, go_sem, ↓reduceIte, Nat.reduceEqDiff, Nat.reduceLT, Nat.reduceSub, A_law10_TreeBelow_21, A_law10_TreeBelow_23, Bool.not_true, h10, h5', IntWalk.i64_in ((k + 1 : Nat) : Int) (by omega)]
    refine ih (k + 1) _ M2 (by omega) (hG.trans hGn) ?_ ?_ ?_ ?_ ?_ ?_ ?_
    all_goals simp only [go_sem, ↓reduceIte, Nat.reduceEqDiff, Nat.reduceLT, Nat.reduceSub, h3, h5, h6', h7, h8, h9']

theorem placesB_loop (tc bm : Nat) (l : Tr) (hI : Inv l) (hl : l.length ≤ 150) (sp : V) (M1 : Mem) (T1 : TreeIn M1 tc bm l) (hsp : SlR elSt M1 sp (placesL l)) (hltp : ∀ b, sp.blk = some b → b < M1.next) {Q : AExit → Fr → Mem → Prop} {x5 : V}
    (hE : ∀ fr M, fr.rd 5 = x5 → fr.rd 7 = .int .i64 ((nodesL l).length : Int) → Q (.exit 2) fr M) :
    ∀ (f i : Nat) (fr : Fr) (M : Mem), i + f = (placesL l).length → Grew M1 M → fr.rd 3 = .ptr (some (tc, 0)) → fr.rd 5 = x5 → fr.rd 6 = sp → fr.rd 7 = .int .i64 (totL l ((placesL l).take i) : Int) → fr.rd 8 = .int .i64 (i : Int) → WC D2 116 (.loop A_law10_TreeBelow_26) fr M Q := by
  have hnl := nodes_len l
  have hpl : (placesL l).length = l.length + 2 := by simp [placesL, hnl]
  intro f
  induction f with
  | zero =>
    intro i fr M hi hG h3 h5 h6 h7 h8
    refine WC.loop (W_of ?_)
    unfold A_law10_TreeBelow_26
    obtain ⟨a, cap, rfl, _⟩ := hsp
    have : ¬ (i : Int) < (placesL l).length := by omega
    simp -dsimp only [↓w_seq, ↓w_ops, ↓w_skip, ↓w_ret, ↓w_exit, ↓w_scope, ↓w_block, ↓w_cond, cond_true', cond_false', ↓t_nil, ↓t_plain, ↓t_guard, ↓t_gagain, ↓t_again, t_val, t_call, g_true, g_false, ga_true, ga_false, a_val, a_call, ↓n_normal, ↓n_ret, ↓n_exit, ↓b_normal, ↓b_ret, ↓b_exit, ↓e_normal, ↓e_ret, e_some, go_sem, ↓reduceIte, Nat.reduceEqDiff, Nat.reduceLT, Nat.reduceSub, A_law10_TreeBelow_15, h6, h8, this, decide_false]
    have : i = (placesL l).length := by omega
    subst this
    rw [List.take_length, total hI] at h7
    refine hE _ M ?_ ?_
    all_goals simp only [go_sem, ↓reduceIte, Nat.reduceEqDiff, Nat.reduceLT, Nat.reduceSub, h5, h7]
  | succ f ih =>
    intro i fr M hi hG h3 h5 h6 h7 h8
    refine WC.loop (W_of ?_)
    unfold A_law10_TreeBelow_26
    have hil : i < (placesL l).length := by omega
    have hspM := hsp.keep fun b hb => hG.old b (hltp b hb)
    obtain ⟨b, o, cs, ro, cap, e0, hM, hr⟩ := st_at hspM hil
    have e1 : (i : Int) < (placesL l).length := by omega
    have e2 : i + 1 ≤ (placesL l).length := by omega
    have h5' : (i : Int) + 1 = ((i + 1 : Nat) : Int) := by omega
    have h6' := h6
    rw [e0] at h6
    have htk : totL l ((placesL l).take (i + 1)) = totL l ((placesL l).take i) + (belowL l (placesL l)[i]).length := by rw [take_snoc _ hil, tot_snoc]
    have hbound : totL l ((placesL l).take (i + 1)) ≤ 152 * 150 := Nat.le_trans (tot_le l _) (Nat.mul_le_mul (by rw [List.length_take]; omega) hl)
    generalize hpe : (placesL l)[i] = p at hr htk
    have T := T1.grew hG
    simp -dsimp only [↓w_seq, ↓w_ops, ↓w_skip, ↓w_ret, ↓w_exit, ↓w_scope, ↓w_block, ↓w_cond, cond_true', cond_false', ↓t_nil, ↓t_plain, ↓t_guard, ↓t_gagain, ↓t_again, t_val, t_call, g_true, g_false, ga_true, ga_false, a_val, a_call, ↓n_normal, ↓n_ret, ↓n_exit, ↓b_normal, ↓b_ret, ↓b_exit, ↓e_normal, ↓e_ret, e_some, go_sem, ↓reduceIte, Nat.reduceEqDiff, Nat.reduceLT, Nat.reduceSub, A_law10_TreeBelow_15, A_law10_TreeBelow_16, h3, h6, h8, e1, e2, decide_true, vload, vptr, Mem.read, hM, hr]
    refine call_of (Below_runs M tc bm l p T (room_small (by omega))) ?_
    intro v M2 hv
    obtain ⟨hG2, hH⟩ := hv
    have hsb := Hold.slR hH
    have hltb : ∀ b, v.blk = some b → b < M2.next := fun b hb => (hH.blk_le hb).2.1
    obtain ⟨a, cap2, rfl⟩ := hH.shape
    have h77 : (totL l ((placesL l).take i) : Int) + ((belowL l p).length : Int) = ((totL l ((placesL l).take (i + 1)) : Nat) : Int) := by omega
    simp -dsimp only [↓w_seq, ↓w_ops, ↓w_skip, ↓w_ret, ↓w_exit, ↓w_scope, ↓w_block, ↓w_cond, cond_true', cond_false', ↓t_nil, ↓t_plain, ↓t_guard, ↓t_gagain, ↓t_again, t_val, t_call, g_true, g_false, ga_true, ga_false, a_val, a_call, ↓n_normal, ↓n_ret, ↓n_exit, ↓b_normal, ↓b_ret, ↓b_exit, ↓e_normal, ↓e_ret, e_some, go_sem, ↓reduceIte, Nat.reduceEqDiff, Nat.reduceLT, Nat.reduceSub, A_law10_TreeBelow_17, A_law10_TreeBelow_18, h7, h77, IntWalk.i64_in ((totL l ((placesL l).take (i + 1)) : Nat) : Int) (by omega)]
    refine each_loop tc bm l hI hl p sp _ (placesL l) i hil hpe M2 (T.grew hG2) (hspM.keep fun b hb => hG2.old b (Nat.lt_of_lt_of_le (hltp b hb) hG.next)) (fun b hb => Nat.lt_of_lt_of_le (hltp b hb) (Nat.le_trans hG.next hG2.next)) hsb hltb (x5 := x5) (x7 := .int .i64 ((totL l ((placesL l).take (i + 1)) : Nat) : Int)) ?_ (belowL l p).length 0 _ M2 (by omega) (Grew.refl _) ?_ ?_ ?_ ?_ ?_ ?_ ?_
    · intro fr4 M4 hG4 j3 j5 j6 j7 j8
      simp -dsimp only [↓w_seq, ↓w_ops, ↓w_skip, ↓w_ret, ↓w_exit, ↓w_scope, ↓w_block, ↓w_cond, cond_true', cond_false', ↓t_nil, ↓t_plain, ↓t_guard, ↓t_gagain, ↓t_again, t_val, t_call, g_true, g_false, ga_true, ga_false, a_val, a_call, ↓n_normal, ↓n_ret, ↓n_exit, ↓b_normal, ↓b_ret, ↓b_exit, ↓e_normal, ↓e_ret, e_some, go_sem, ↓reduceIte, Nat.reduceEqDiff, Nat.reduceLT, Nat.reduceSub, A_law10_TreeBelow_25, j8, h5', IntWalk.i64_in ((i + 1 : Nat) : Int) (by omega)]
      refine ih (i + 1) _ M4 (by omega) ((hG.trans hG2).trans hG4) ?_ ?_ ?_ ?_ ?_
      all_goals simp only [go_sem, ↓reduceIte, Nat.reduceEqDiff, Nat.reduceLT, Nat.reduceSub, j3, j5, j6, j7]
    all_goals simp only [go_sem, ↓reduceIte, Nat.reduceEqDiff, Nat.reduceLT, Nat.reduceSub, h3, h5, h6', h8]
    rfl

theorem tree_below_runs (s : V) (acts : List Act) (M0 : Mem) (hs : SlR elAct M0 s acts) (hk : ∀ x ∈ acts, x.2.2.2.length < 2 ^ 63) (hlt : ∀ b, s.blk = some b → acts ≠ [] → b < M0.next) (hg : isG M0 = true) (hn : 2 ≤ M0.next) :
    Runs D2 F_law10_TreeBelow [s] M0 fun v _ => v = .bool true := by
  refine R_opq fun R hR => ?_
  refine Runs.walk (F := A_law10_TreeBelow) rfl (by rfl) (by rfl) ?_
  unfold A_law10_TreeBelow
  simp -dsimp only [↓w_seq, ↓w_ops, ↓w_skip, ↓w_ret, ↓w_exit, ↓w_scope, ↓w_block, ↓w_cond, cond_true', cond_false', ↓t_nil, ↓t_plain, ↓t_guard, ↓t_gagain, ↓t_again, t_val, t_call, g_true, g_false, ga_true, ga_false, a_val, a_call, ↓n_normal, ↓n_ret, ↓n_exit, ↓b_normal, ↓b_ret, ↓b_exit, ↓e_normal, ↓e_ret, e_some, go_sem, ↓reduceIte, Nat.reduceEqDiff, Nat.reduceLT, Nat.reduceSub, A_law10_TreeBelow_0, A_law10_TreeBelow_1]
  refine call_of (Long_runs s acts M0 hs hk) ?_
  intro v M hv
  obtain ⟨⟨b, hb, hL⟩, hM⟩ := hv
  rw [hb, hM]
  clear hb hM
  cases b with
  | true =>
    simp -dsimp only [↓w_seq, ↓w_ops, ↓w_skip, ↓w_ret, ↓w_exit, ↓w_scope, ↓w_block, ↓w_cond, cond_true', cond_false', ↓t_nil, ↓t_plain, ↓t_guard, ↓t_gagain, ↓t_again, t_val, t_call, g_true, g_false, ga_true, ga_false, a_val, a_call, ↓n_normal, ↓n_ret, ↓n_exit, ↓b_normal, ↓b_ret, ↓b_exit, ↓e_normal, ↓e_ret, e_some, go_sem, ↓reduceIte, Nat.reduceEqDiff, Nat.reduceLT, Nat.reduceSub, A_law10_TreeBelow_2]
    refine call_eq (knows_p hg) ?_
    simp -dsimp only [↓w_seq, ↓w_ops, ↓w_skip, ↓w_ret, ↓w_exit, ↓w_scope, ↓w_block, ↓w_cond, cond_true', cond_false', ↓t_nil, ↓t_plain, ↓t_guard, ↓t_gagain, ↓t_again, t_val, t_call, g_true, g_false, ga_true, ga_false, a_val, a_call, ↓n_normal, ↓n_ret, ↓n_exit, ↓b_normal, ↓b_ret, ↓b_exit, ↓e_normal, ↓e_ret, e_some, go_sem, ↓reduceIte, Nat.reduceEqDiff, Nat.reduceLT, Nat.reduceSub]
    exact hR _ _ rfl
  | false =>
    have hL := hL rfl
    simp -dsimp only [↓w_seq, ↓w_ops, ↓w_skip, ↓w_ret, ↓w_exit, ↓w_scope, ↓w_block, ↓w_cond, cond_true', cond_false', ↓t_nil, ↓t_plain, ↓t_guard, ↓t_gagain, ↓t_again, t_val, t_call, g_true, g_false, ga_true, ga_false, a_val, a_call, ↓n_normal, ↓n_ret, ↓n_exit, ↓b_normal, ↓b_ret, ↓b_exit, ↓e_normal, ↓e_ret, e_some, go_sem, ↓reduceIte, Nat.reduceEqDiff, Nat.reduceLT, Nat.reduceSub, A_law10_TreeBelow_3]
    refine call_of (New_runs D2 rfl (by rfl) M0) ?_
    intro v M1 hv
    rw [hv.1]
    obtain ⟨_, hG, hT⟩ := hv
    have hS : LS M0 M1 (M0.next + 1) M0.next (actsT (acts.take 0)) := ⟨hG.old, hG.next, hT, Nat.le_refl _⟩
    simp -dsimp only [↓w_seq, ↓w_ops, ↓w_skip, ↓w_ret, ↓w_exit, ↓w_scope, ↓w_block, ↓w_cond, cond_true', cond_false', ↓t_nil, ↓t_plain, ↓t_guard, ↓t_gagain, ↓t_again, t_val, t_call, g_true, g_false, ga_true, ga_false, a_val, a_call, ↓n_normal, ↓n_ret, ↓n_exit, ↓b_normal, ↓b_ret, ↓b_exit, ↓e_normal, ↓e_ret, e_some, go_sem, ↓reduceIte, Nat.reduceEqDiff, Nat.reduceLT, Nat.reduceSub, A_law10_TreeBelow_4, nil_ptr, nil_ptr', Option.map_some]
    refine call_eq (knows_p (hS.g hg hn)) ?_
    simp -dsimp only [↓w_seq, ↓w_ops, ↓w_skip, ↓w_ret, ↓w_exit, ↓w_scope, ↓w_block, ↓w_cond, cond_true', cond_false', ↓t_nil, ↓t_plain, ↓t_guard, ↓t_gagain, ↓t_again, t_val, t_call, g_true, g_false, ga_true, ga_false, a_val, a_call, ↓n_normal, ↓n_ret, ↓n_exit, ↓b_normal, ↓b_ret, ↓b_exit, ↓e_normal, ↓e_ret, e_some, go_sem, ↓reduceIte, Nat.reduceEqDiff, Nat.reduceLT, Nat.reduceSub, Bool.not_true, A_law10_TreeBelow_6]
    refine doB_loop (M0.next + 1) M0.next acts s M0 hs hlt hg hn hL ?_ acts.length 0 _ M1 (by omega) hS ?_ ?_ ?_
    · intro fr M2 hS2 h3
      have hl := len_acts acts
      have hnl := nodes_len (actsT acts)
      simp -dsimp only [↓w_seq, ↓w_ops, ↓w_skip, ↓w_ret, ↓w_exit, ↓w_scope, ↓w_block, ↓w_cond, cond_true', cond_false', ↓t_nil, ↓t_plain, ↓t_guard, ↓t_gagain, ↓t_again, t_val, t_call, g_true, g_false, ga_true, ga_false, a_val, a_call, ↓n_normal, ↓n_ret, ↓n_exit, ↓b_normal, ↓b_ret, ↓b_exit, ↓e_normal, ↓e_ret, e_some, go_sem, ↓reduceIte, Nat.reduceEqDiff, Nat.reduceLT, Nat.reduceSub, A_law10_TreeBelow_11, h3]
      refine call_of (Nodes_runs M2 _ _ _ hS2.T (room_small (by omega))) ?_
      intro v M3 hv
      obtain ⟨hG3, hH⟩ := hv
      obtain ⟨s39, M4, s43, M5, hp1, hp2, hH5, hG5⟩ := places_append _ M3 v (nodesL (actsT acts)) (by
        have hmx : maxRoom = 17592186044416 := rfl
        omega) hH
      obtain ⟨a, cap, rfl⟩ := hH.shape
      have f0 : fillCells [.int .i64 0, .int .i64 0] [] = some (stC (0, 0)) := rfl
      have f1 : fillCells [.int .i64 0, .int .i64 0] [(1, 1, .int .i64 1)] = some (stC (0, 1)) := rfl
      have f2 : fillCells [.int .i64 0, .int .i64 0, .int .i64 0, .int .i64 0] [(0, 2, .agg (stC (0, 0))), (2, 2, .agg (stC (0, 1)))] = some [.int .i64 0, .int .i64 0, .int .i64 0, .int .i64 1] := rfl
      have f3 : fillCells [] [] = some [] := rfl
      simp -dsimp only [↓w_seq, ↓w_ops, ↓w_skip, ↓w_ret, ↓w_exit, ↓w_scope, ↓w_block, ↓w_cond, cond_true', cond_false', ↓t_nil, ↓t_plain, ↓t_guard, ↓t_gagain, ↓t_again, t_val, t_call, g_true, g_false, ga_true, ga_false, a_val, a_call, ↓n_normal, ↓n_ret, ↓n_exit, ↓b_normal, ↓b_ret, ↓b_exit, ↓e_normal, ↓e_ret, e_some, go_sem, ↓reduceIte, Nat.reduceEqDiff, Nat.reduceLT, Nat.reduceSub, A_law10_TreeBelow_12, A_law10_TreeBelow_13, A_law10_TreeBelow_14, f0, f1, f2, f3, vof, Option.map_some, hp1, hp2, repl]
      refine placesB_loop (M0.next + 1) M0.next (actsT acts) (inv_acts acts) (by omega) s43 M5 ((hS2.T.grew hG3).grew hG5) (Hold.slR hH5) (fun b hb => (hH5.blk_le hb).2.1) (x5 := .slice a (nodesL (actsT acts)).length cap) ?_ _ 0 _ M5 (Nat.zero_add _) (Grew.refl _) ?_ ?_ ?_ ?_ ?_
      · intro fr M6 j5 j7
        simp -dsimp only [↓w_seq, ↓w_ops, ↓w_skip, ↓w_ret, ↓w_exit, ↓w_scope, ↓w_block, ↓w_cond, cond_true', cond_false', ↓t_nil, ↓t_plain, ↓t_guard, ↓t_gagain, ↓t_again, t_val, t_call, g_true, g_false, ga_true, ga_false, a_val, a_call, ↓n_normal, ↓n_ret, ↓n_exit, ↓b_normal, ↓b_ret, ↓b_exit, ↓e_normal, ↓e_ret, e_some, go_sem, ↓reduceIte, Nat.reduceEqDiff, Nat.reduceLT, Nat.reduceSub, A_law10_TreeBelow_27, j5, j7, decide_true]
        exact hR _ _ rfl
      all_goals simp only [go_sem, ↓reduceIte, Nat.reduceEqDiff, Nat.reduceLT, Nat.reduceSub, h3]
      all_goals rfl
    all_goals simp only [go_sem, ↓reduceIte, Nat.reduceEqDiff, Nat.reduceLT, Nat.reduceSub]
    rfl
end Go.Am.Tryd

/- No tree: what each function tells of it. -/
namespace Go.Am.Tryd
open Go Go.Am Go.Proofs Go.Sort Go.Shelf
set_option maxRecDepth 100000
set_option linter.unusedSimpArgs false
set_option linter.unusedVariables false

/-- A pointer to no tree, or to one that nobody made. -/
def NoTree (M : Mem) (t : V) : Prop := t = .ptr none ∨ ∃ tc rc, t = .ptr (some (tc, 0)) ∧ tc < M.next ∧ M.get tc = some (.cells [.map none] rc)
theorem NoTree.grew {M M' : Mem} {t : V} (h : NoTree M t) (hG : Grew M M') : NoTree M' t := by
  rcases h with rfl | ⟨tc, rc, rfl, h1, h2⟩
  · exact .inl rfl
  · exact .inr ⟨tc, rc, rfl, Nat.lt_of_lt_of_le h1 hG.next, (hG.old _ h1).trans h2⟩
theorem NoTree.none_ {M : Mem} {t : V} (h : NoTree M t) : Runs D2 F_tree_Tree_none [t] M fun v M' => v = .bool true ∧ M' = M := by
  rcases h with rfl | ⟨tc, rc, rfl, h1, h2⟩
  · exact none_pn rfl
  · exact none_p0 rfl (treeOf_is0 h2)
theorem NoTree.has {M : Mem} {t : V} (h : NoTree M t) (p : St) : Runs D2 F_tree_Tree_Has [t, .agg (stC p)] M fun v M' => v = .bool false ∧ M' = M := by
  rcases h with rfl | ⟨tc, rc, rfl, h1, h2⟩
  · exact Runs.part (g := pHas) rfl rfl
  · exact Runs.part (g := pHas) rfl (by show (treeOf M tc).bind _ = _; rw [treeOf_is0 h2]; rfl)
theorem NoTree.spot {M : Mem} {t : V} (h : NoTree M t) (p : St) : Runs D2 F_tree_Tree_Spot [t, .agg (stC p)] M fun v M' => v = .tup [.agg (spC sp0), .bool false] ∧ M' = M := by
  rcases h with rfl | ⟨tc, rc, rfl, h1, h2⟩
  · exact Runs.part (g := pSpotT) rfl rfl
  · exact Runs.part (g := pSpotT) rfl (by show (treeOf M tc).map _ = _; rw [treeOf_is0 h2]; rfl)
theorem NoTree.within {M : Mem} {t : V} (h : NoTree M t) (p n : St) : Runs D2 F_tree_Tree_Within [t, .agg (stC p), .agg (stC n)] M fun v M' => v = .bool false ∧ M' = M := by
  rcases h with rfl | ⟨tc, rc, rfl, h1, h2⟩
  · exact Runs.part (g := pWithin) rfl rfl
  · exact Runs.part (g := pWithin) rfl (by show (treeOf M tc).bind _ = _; rw [treeOf_is0 h2]; rfl)
theorem NoTree.above {M : Mem} {t : V} (h : NoTree M t) (n : St) : Runs D2 F_tree_Tree_Above [t, .agg (stC n)] M fun v M' => v = .slice none 0 (.exact 0) ∧ M' = M := by
  rcases h with rfl | ⟨tc, rc, rfl, h1, h2⟩
  · exact Runs.prim (v := .slice none 0 (.exact 0)) (M' := M) rfl rfl ⟨rfl, rfl⟩
  · refine Runs.prim (v := .slice none 0 (.exact 0)) (M' := M) rfl ?_ ⟨rfl, rfl⟩
    have e : pAbove [.ptr (some (tc, 0)), .agg (stC n)] M = some (.flat (.slice none 0 (.exact 0))) := by
      show (match M.get tc with
        | some (.cells [.map none] _) => some (KeepR.flat (.slice none 0 (.exact 0)))
        | some (.cells [.map (some bm)] _) => _
        | _ => none) = _
      simp only [h2]
    show ((pAbove [.ptr (some (tc, 0)), .agg (stC n)] M).map fun r => r.res M) = _
    rw [e]
    rfl
theorem NoTree.nodes {M : Mem} {t : V} (h : NoTree M t) : Runs D2 F_tree_Tree_Nodes [t] M fun v M' => v = .slice none 0 (.exact 0) ∧ M' = M := Nodes_none D2 rfl (by rfl) M t h.none_
theorem NoTree.below {M : Mem} {t : V} (h : NoTree M t) (p : St) : Runs D2 F_tree_Tree_Below [t, .agg (stC p)] M fun v M' => v = .slice none 0 (.exact 0) ∧ Grew M M' := Below_none D2 rfl (by rfl) rfl (by rfl) M t p fun M' hG => (h.grew hG).none_
theorem NoTree.same {M : Mem} {t : V} (h : NoTree M t) (u : V) : Runs D2 F_tree_Tree_Same [t, u] M fun v M' => v = .bool false ∧ M' = M := by
  refine R_opq fun R hR => ?_
  refine Runs.walk (F := A_tree_Tree_Same) rfl (by rfl) (by rfl) ?_
  unfold A_tree_Tree_Same
  simp -dsimp only [↓w_seq, ↓w_ops, ↓w_skip, ↓w_ret, ↓w_exit, ↓w_scope, ↓w_block, ↓w_cond, cond_true', cond_false', ↓t_nil, ↓t_plain, ↓t_guard, ↓t_gagain, ↓t_again, t_val, t_call, g_true, g_false, ga_true, ga_false, a_val, a_call, ↓n_normal, ↓n_ret, ↓n_exit, ↓b_normal, ↓b_ret, ↓b_exit, ↓e_normal, ↓e_ret, e_some, go_sem, ↓reduceIte, Nat.reduceEqDiff, Nat.reduceLT, Nat.reduceSub, A_tree_Tree_Same_0, A_tree_Tree_Same_1]
  refine call_eq h.none_ ?_
  simp -dsimp only [↓w_seq, ↓w_ops, ↓w_skip, ↓w_ret, ↓w_exit, ↓w_scope, ↓w_block, ↓w_cond, cond_true', cond_false', ↓t_nil, ↓t_plain, ↓t_guard, ↓t_gagain, ↓t_again, t_val, t_call, g_true, g_false, ga_true, ga_false, a_val, a_call, ↓n_normal, ↓n_ret, ↓n_exit, ↓b_normal, ↓b_ret, ↓b_exit, ↓e_normal, ↓e_ret, e_some, go_sem, ↓reduceIte, Nat.reduceEqDiff, Nat.reduceLT, Nat.reduceSub, Bool.not_true]
  exact hR _ _ ⟨rfl, rfl⟩
theorem NoTree.clone {M : Mem} {t : V} (h : NoTree M t) : Runs D2 F_tree_Tree_Clone [t] M fun v M' => v = .ptr none ∧ M' = M := by
  refine R_opq fun R hR => ?_
  refine Runs.walk (F := A_tree_Tree_Clone) rfl (by rfl) (by rfl) ?_
  unfold A_tree_Tree_Clone
  simp -dsimp only [↓w_seq, ↓w_ops, ↓w_skip, ↓w_ret, ↓w_exit, ↓w_scope, ↓w_block, ↓w_cond, cond_true', cond_false', ↓t_nil, ↓t_plain, ↓t_guard, ↓t_gagain, ↓t_again, t_val, t_call, g_true, g_false, ga_true, ga_false, a_val, a_call, ↓n_normal, ↓n_ret, ↓n_exit, ↓b_normal, ↓b_ret, ↓b_exit, ↓e_normal, ↓e_ret, e_some, go_sem, ↓reduceIte, Nat.reduceEqDiff, Nat.reduceLT, Nat.reduceSub, A_tree_Tree_Clone_0, A_tree_Tree_Clone_1]
  refine call_eq h.none_ ?_
  simp -dsimp only [↓w_seq, ↓w_ops, ↓w_skip, ↓w_ret, ↓w_exit, ↓w_scope, ↓w_block, ↓w_cond, cond_true', cond_false', ↓t_nil, ↓t_plain, ↓t_guard, ↓t_gagain, ↓t_again, t_val, t_call, g_true, g_false, ga_true, ga_false, a_val, a_call, ↓n_normal, ↓n_ret, ↓n_exit, ↓b_normal, ↓b_ret, ↓b_exit, ↓e_normal, ↓e_ret, e_some, go_sem, ↓reduceIte, Nat.reduceEqDiff, Nat.reduceLT, Nat.reduceSub, A_tree_Tree_Clone_2]
  exact hR _ _ ⟨rfl, rfl⟩
theorem num_p (M : Mem) (n : Int) : Runs D2 F_law10_num [.int .i64 n] M fun v M' => v = .int .i64 n ∧ M' = M := by
  refine R_opq fun R hR => ?_
  refine Runs.walk (F := A_law10_num) rfl (by rfl) (by rfl) ?_
  unfold A_law10_num
  simp -dsimp only [↓w_seq, ↓w_ops, ↓w_skip, ↓w_ret, ↓w_exit, ↓w_scope, ↓w_block, ↓w_cond, cond_true', cond_false', ↓t_nil, ↓t_plain, ↓t_guard, ↓t_gagain, ↓t_again, t_val, t_call, g_true, g_false, ga_true, ga_false, a_val, a_call, ↓n_normal, ↓n_ret, ↓n_exit, ↓b_normal, ↓b_ret, ↓b_exit, ↓e_normal, ↓e_ret, e_some, go_sem, ↓reduceIte, Nat.reduceEqDiff, Nat.reduceLT, Nat.reduceSub, A_law10_num_0, A_law10_num_1]
  exact hR _ _ ⟨rfl, rfl⟩
theorem NoTree.add {M : Mem} {t : V} (h : NoTree M t) (n : St) (s : Spot) : Runs D2 F_tree_Tree_Add [t, .agg (stC n), .agg (spC s)] M fun v M' => v = .int .i64 1 ∧ Grew M M' := by
  refine R_opq fun R hR => ?_
  refine Runs.walk (F := A_tree_Tree_Add) rfl (by rfl) (by rfl) ?_
  unfold A_tree_Tree_Add
  have hcn : V.cells (.agg (stC n)) = stC n := rfl
  have hcs : V.cells (.agg (spC s)) = spC s := rfl
  have hG := (Grew.push M (.cells (stC n) false)).trans (Grew.push _ (.cells (spC s) false))
  simp -dsimp only [↓w_seq, ↓w_ops, ↓w_skip, ↓w_ret, ↓w_exit, ↓w_scope, ↓w_block, ↓w_cond, cond_true', cond_false', ↓t_nil, ↓t_plain, ↓t_guard, ↓t_gagain, ↓t_again, t_val, t_call, g_true, g_false, ga_true, ga_false, a_val, a_call, ↓n_normal, ↓n_ret, ↓n_exit, ↓b_normal, ↓b_ret, ↓b_exit, ↓e_normal, ↓e_ret, e_some, go_sem, ↓reduceIte, Nat.reduceEqDiff, Nat.reduceLT, Nat.reduceSub, A_tree_Tree_Add_0, A_tree_Tree_Add_1, hcn, hcs, Mem.next_push]
  generalize (M.push (.cells (stC n) false)).push (.cells (spC s) false) = M1 at *
  refine call_eq (h.grew hG).none_ ?_
  simp -dsimp only [↓w_seq, ↓w_ops, ↓w_skip, ↓w_ret, ↓w_exit, ↓w_scope, ↓w_block, ↓w_cond, cond_true', cond_false', ↓t_nil, ↓t_plain, ↓t_guard, ↓t_gagain, ↓t_again, t_val, t_call, g_true, g_false, ga_true, ga_false, a_val, a_call, ↓n_normal, ↓n_ret, ↓n_exit, ↓b_normal, ↓b_ret, ↓b_exit, ↓e_normal, ↓e_ret, e_some, go_sem, ↓reduceIte, Nat.reduceEqDiff, Nat.reduceLT, Nat.reduceSub, A_tree_Tree_Add_2]
  exact hR _ _ ⟨rfl, hG⟩
theorem NoTree.move {M : Mem} {t : V} (h : NoTree M t) (n : St) (s : Spot) : Runs D2 F_tree_Tree_Move [t, .agg (stC n), .agg (spC s)] M fun v M' => v = .tup [.agg (spC sp0), .int .i64 1] ∧ Grew M M' := by
  refine R_opq fun R hR => ?_
  refine Runs.walk (F := A_tree_Tree_Move) rfl (by rfl) (by rfl) ?_
  unfold A_tree_Tree_Move
  have hcn : V.cells (.agg (stC n)) = stC n := rfl
  have hcs : ∀ s, V.cells (.agg (spC s)) = spC s := fun _ => rfl
  have hrs : ∀ s, rdCells (spC s) 0 3 = some (spC s) := fun _ => rfl
  have hG := ((Grew.push M (.cells (stC n) false)).trans (Grew.push _ (.cells (spC s) false))).trans (Grew.push _ (.cells [.int .i64 0, .int .i64 0, .str []] false))
  have g6 : (((M.push (.cells (stC n) false)).push (.cells (spC s) false)).push (.cells [.int .i64 0, .int .i64 0, .str []] false)).get (M.next + 1 + 1) = some (.cells (spC sp0) false) := Mem.get_push_same ((M.push _).push _) _
  simp -dsimp only [↓w_seq, ↓w_ops, ↓w_skip, ↓w_ret, ↓w_exit, ↓w_scope, ↓w_block, ↓w_cond, cond_true', cond_false', ↓t_nil, ↓t_plain, ↓t_guard, ↓t_gagain, ↓t_again, t_val, t_call, g_true, g_false, ga_true, ga_false, a_val, a_call, ↓n_normal, ↓n_ret, ↓n_exit, ↓b_normal, ↓b_ret, ↓b_exit, ↓e_normal, ↓e_ret, e_some, go_sem, ↓reduceIte, Nat.reduceEqDiff, Nat.reduceLT, Nat.reduceSub, A_tree_Tree_Move_0, A_tree_Tree_Move_1, hcn, hcs, Mem.next_push]
  generalize ((M.push (.cells (stC n) false)).push (.cells (spC s) false)).push (.cells [.int .i64 0, .int .i64 0, .str []] false) = M1 at *
  have hw0 := write_full (vs := spC sp0) g6 rfl rfl
  have hs0 := Mem.get_set_same M1 (M.next + 1 + 1) (.cells (spC sp0) false)
  have hG0 := hG.upd (b := M.next + 1 + 1) (by omega) (Upd.set M1 (M.next + 1 + 1) (.cells (spC sp0) false))
  refine call_eq (h.grew hG).none_ ?_
  simp -dsimp only [↓w_seq, ↓w_ops, ↓w_skip, ↓w_ret, ↓w_exit, ↓w_scope, ↓w_block, ↓w_cond, cond_true', cond_false', ↓t_nil, ↓t_plain, ↓t_guard, ↓t_gagain, ↓t_again, t_val, t_call, g_true, g_false, ga_true, ga_false, a_val, a_call, ↓n_normal, ↓n_ret, ↓n_exit, ↓b_normal, ↓b_ret, ↓b_exit, ↓e_normal, ↓e_ret, e_some, go_sem, ↓reduceIte, Nat.reduceEqDiff, Nat.reduceLT, Nat.reduceSub, A_tree_Tree_Move_2, vload, vptr, Mem.read, g6, hrs, Nat.add_zero, vstore, hcs, spC_len, hw0, hs0, Option.bind_some, oneOf, Nat.reduceEqDiff]
  exact hR _ _ ⟨rfl, hG0⟩
theorem NoTree.drop {M : Mem} {t : V} (h : NoTree M t) (n : St) : Runs D2 F_tree_Tree_Drop [t, .agg (stC n)] M fun v M' => v = .tup [.agg (spC sp0), .int .i64 1] ∧ Grew M M' := by
  refine R_opq fun R hR => ?_
  refine Runs.walk (F := A_tree_Tree_Drop) rfl (by rfl) (by rfl) ?_
  unfold A_tree_Tree_Drop
  have hcn : V.cells (.agg (stC n)) = stC n := rfl
  have hcs : ∀ s, V.cells (.agg (spC s)) = spC s := fun _ => rfl
  have hrs : ∀ s, rdCells (spC s) 0 3 = some (spC s) := fun _ => rfl
  have hG := (Grew.push M (.cells (stC n) false)).trans (Grew.push _ (.cells [.int .i64 0, .int .i64 0, .str []] false))
  have g4 : ((M.push (.cells (stC n) false)).push (.cells [.int .i64 0, .int .i64 0, .str []] false)).get (M.next + 1) = some (.cells (spC sp0) false) := Mem.get_push_same (M.push _) _
  simp -dsimp only [↓w_seq, ↓w_ops, ↓w_skip, ↓w_ret, ↓w_exit, ↓w_scope, ↓w_block, ↓w_cond, cond_true', cond_false', ↓t_nil, ↓t_plain, ↓t_guard, ↓t_gagain, ↓t_again, t_val, t_call, g_true, g_false, ga_true, ga_false, a_val, a_call, ↓n_normal, ↓n_ret, ↓n_exit, ↓b_normal, ↓b_ret, ↓b_exit, ↓e_normal, ↓e_ret, e_some, go_sem, ↓reduceIte, Nat.reduceEqDiff, Nat.reduceLT, Nat.reduceSub, A_tree_Tree_Drop_0, A_tree_Tree_Drop_1, hcn, hcs, Mem.next_push]
  generalize (M.push (.cells (stC n) false)).push (.cells [.int .i64 0, .int .i64 0, .str []] false) = M1 at *
  have hw0 := write_full (vs := spC sp0) g4 rfl rfl
  have hs0 := Mem.get_set_same M1 (M.next + 1) (.cells (spC sp0) false)
  have hG0 := hG.upd (b := M.next + 1) (by omega) (Upd.set M1 (M.next + 1) (.cells (spC sp0) false))
  refine call_eq (h.grew hG).none_ ?_
  simp -dsimp only [↓w_seq, ↓w_ops, ↓w_skip, ↓w_ret, ↓w_exit, ↓w_scope, ↓w_block, ↓w_cond, cond_true', cond_false', ↓t_nil, ↓t_plain, ↓t_guard, ↓t_gagain, ↓t_again, t_val, t_call, g_true, g_false, ga_true, ga_false, a_val, a_call, ↓n_normal, ↓n_ret, ↓n_exit, ↓b_normal, ↓b_ret, ↓b_exit, ↓e_normal, ↓e_ret, e_some, go_sem, ↓reduceIte, Nat.reduceEqDiff, Nat.reduceLT, Nat.reduceSub, A_tree_Tree_Drop_2, vload, vptr, Mem.read, g4, hrs, Nat.add_zero, vstore, hcs, spC_len, hw0, hs0, Option.bind_some, oneOf, Nat.reduceEqDiff]
  exact hR _ _ ⟨rfl, hG0⟩

/-- What is asked of a frame, and no more. -/
theorem WT_abs {D : Decls} {n : Nat} {l : List Item} {fr : Fr} {M : Mem} {K : Fr → Mem → Prop} {k : Tg K} (p : Fr → Prop) (hp : p fr) (h : ∀ fr, p fr → WT D n l fr M k) : WT D n l fr M k := h fr hp
theorem W_abs {D : Decls} {n : Nat} {c : ACode} {fr : Fr} {M : Mem} {Q : AExit → Fr → Mem → Prop} {k : Tg Q} (p : Fr → Prop) (hp : p fr) (h : ∀ fr, p fr → W D n c fr M k) : W D n c fr M k := h fr hp

set_option maxHeartbeats 1000000 in
theorem nil_round (a : Act) (M0 M : Mem) (hG : Grew M0 M) (b1 : Nat) (lb : b1 < M0.next) (hb : M0.get b1 = some (.cells (actC a) false)) (t : V) (ht : NoTree M t) (fr : Fr) (h1 : fr.rd 1 = .ptr (some (b1, 0))) (h3 : fr.rd 3 = t) (i : Nat) (hi : i < 2) (h4 : fr.rd 4 = .int .i64 (i : Int)) {Q : AExit → Fr → Mem → Prop}
    (hQ : ∀ fr M' t', Grew M0 M' → NoTree M' t' → fr.rd 1 = .ptr (some (b1, 0)) → fr.rd 3 = t' → fr.rd 4 = .int .i64 ((i + 1 : Nat) : Int) → WC D2 115 (.loop A_law10_TreeNil_13) fr M' Q) : WC D2 115 (.loop A_law10_TreeNil_13) fr M Q := by
  obtain ⟨k, n, s⟩ := a
  refine WC.loop (W_of ?_)
  unfold A_law10_TreeNil_13
  have e1 : (i : Int) < 2 := by omega
  have h5' : (i : Int) + 1 = ((i + 1 : Nat) : Int) := by omega
  have hM := (hG.old _ lb).trans hb
  have r1 : rdCells (actC (k, n, s)) 1 2 = some (stC n) := rfl
  have r3 : rdCells (actC (k, n, s)) 3 3 = some (spC s) := rfl
  have hcs : ∀ s, V.cells (.agg (spC s)) = spC s := fun _ => rfl
  have hMp : (M.push (.cells [.int .i64 0, .int .i64 0, .str []] false)).get b1 = some (.cells (actC (k, n, s)) false) := (Mem.get_push_ne _ _ (by have := hG.next; omega)).trans hM
  have hGp : Grew M (M.push (.cells [.int .i64 0, .int .i64 0, .str []] false)) := Grew.push _ _
  have g5 : (M.push (.cells [.int .i64 0, .int .i64 0, .str []] false)).get M.next = some (.cells (spC sp0) false) := Mem.get_push_same _ _
  have hnp : (M.push (.cells [.int .i64 0, .int .i64 0, .str []] false)).next = M.next + 1 := rfl
  simp -dsimp only [↓w_seq, ↓w_ops, ↓w_skip, ↓w_ret, ↓w_exit, ↓w_scope, ↓w_block, ↓w_cond, cond_true', cond_false', ↓t_nil, ↓t_plain, ↓t_guard, ↓t_gagain, ↓t_again, t_val, t_call, g_true, g_false, ga_true, ga_false, a_val, a_call, ↓n_normal, ↓n_ret, ↓n_exit, ↓b_normal, ↓b_ret, ↓b_exit, ↓e_normal, ↓e_ret, e_some, go_sem, ↓reduceIte, Nat.reduceEqDiff, Nat.reduceLT, Nat.reduceSub, A_law10_TreeNil_5, A_law10_TreeNil_6, h1, h3, h4, e1, decide_true, vload, vptr, Mem.read, hM, r1, r3, Nat.zero_add]
  generalize M.push (.cells [.int .i64 0, .int .i64 0, .str []] false) = Mp at *
  refine callA_by (k := ⟨⟩) (l' := ⟨⟩) (g' := ⟨⟩) (own_p rfl s) ?_
  intro v M2 hv
  rw [hv.1, hv.2]
  clear hv
  refine ⟨?_, ?_⟩
  · simp only [List.all_cons, List.all_nil, Bool.and_true, againOk, wantedA, cond_true, go_sem, ↓reduceIte, Nat.reduceEqDiff, Nat.reduceLT, Nat.reduceSub, vload, vptr, Mem.read, hMp, g5, r1, sameCells, Nat.zero_add, V.beq, V.beq_self, V.beqs_self, Bool.and_self, Nat.reduceAdd, Nat.reduceLeDiff, decide_true, cond_true]
  have tp := ht.grew hGp
  simp -dsimp only [↓w_seq, ↓w_ops, ↓w_skip, ↓w_ret, ↓w_exit, ↓w_scope, ↓w_block, ↓w_cond, cond_true', cond_false', ↓t_nil, ↓t_plain, ↓t_guard, ↓t_gagain, ↓t_again, t_val, t_call, g_true, g_false, ga_true, ga_false, a_val, a_call, ↓n_normal, ↓n_ret, ↓n_exit, ↓b_normal, ↓b_ret, ↓b_exit, ↓e_normal, ↓e_ret, e_some, go_sem, ↓reduceIte, Nat.reduceEqDiff, Nat.reduceLT, Nat.reduceSub]
  refine callA_by (k := ⟨⟩) (l' := ⟨⟩) (g' := ⟨⟩) (tp.move n s) ?_
  intro v M2 hv
  rw [hv.1]
  have hG2 := hv.2
  clear hv
  have g52 := (hG2.old _ (by omega)).trans g5
  refine ⟨?_, ?_⟩
  · simp only [List.all_cons, List.all_nil, Bool.and_true, againOk, wantedA, cond_true, go_sem, ↓reduceIte, Nat.reduceEqDiff, Nat.reduceLT, Nat.reduceSub, g52, g5, sameCells, Nat.zero_add, V.beq, V.beq_self, V.beqs_self, Bool.and_self, Nat.reduceAdd, Nat.reduceLeDiff, decide_true, cond_true]
  have hw5 := write_full (vs := spC sp0) g52 rfl rfl
  have hGa : Grew M0 (M2.set M.next (.cells (spC sp0) false)) := ((hG.trans hGp).trans hG2).upd hG.next (Upd.set _ _ _)
  have ta : NoTree (M2.set M.next (.cells (spC sp0) false)) t := ht.grew ((hGp.trans hG2).upd (Nat.le_refl _) (Upd.set _ _ _))
  clear g5 g52 hMp hM hnp
  simp -dsimp only [↓w_seq, ↓w_ops, ↓w_skip, ↓w_ret, ↓w_exit, ↓w_scope, ↓w_block, ↓w_cond, cond_true', cond_false', ↓t_nil, ↓t_plain, ↓t_guard, ↓t_gagain, ↓t_again, t_val, t_call, g_true, g_false, ga_true, ga_false, a_val, a_call, ↓n_normal, ↓n_ret, ↓n_exit, ↓b_normal, ↓b_ret, ↓b_exit, ↓e_normal, ↓e_ret, e_some, go_sem, ↓reduceIte, Nat.reduceEqDiff, Nat.reduceLT, Nat.reduceSub, List.getElem?_cons_zero, List.getElem?_cons_succ, vstore, hcs, spC_len, hw5, Nat.reduceEqDiff]
  clear hw5
  generalize M2.set M.next (.cells (spC sp0) false) = Ma at *
  have hMa := (hGa.old _ lb).trans hb
  refine WT_abs (fun fr => fr.rd 1 = .ptr (some (b1, 0)) ∧ fr.rd 3 = t ∧ fr.rd 4 = .int .i64 (i : Int) ∧ fr.rd 6 = .int .i64 1) ⟨by simp only [go_sem, ↓reduceIte, Nat.reduceEqDiff, Nat.reduceLT, Nat.reduceSub, h1], by simp only [go_sem, ↓reduceIte, Nat.reduceEqDiff, Nat.reduceLT, Nat.reduceSub, h3], by simp only [go_sem, ↓reduceIte, Nat.reduceEqDiff, Nat.reduceLT, Nat.reduceSub, h4], by simp only [go_sem, ↓reduceIte, Nat.reduceEqDiff, Nat.reduceLT, Nat.reduceSub]⟩ ?_
  clear h1 h3 h4 fr
  intro fr hfr
  obtain ⟨h1, h3, h4, h6⟩ := hfr
  simp -dsimp only [↓w_seq, ↓w_ops, ↓w_skip, ↓w_ret, ↓w_exit, ↓w_scope, ↓w_block, ↓w_cond, cond_true', cond_false', ↓t_nil, ↓t_plain, ↓t_guard, ↓t_gagain, ↓t_again, t_val, t_call, g_true, g_false, ga_true, ga_false, a_val, a_call, ↓n_normal, ↓n_ret, ↓n_exit, ↓b_normal, ↓b_ret, ↓b_exit, ↓e_normal, ↓e_ret, e_some, go_sem, ↓reduceIte, Nat.reduceEqDiff, Nat.reduceLT, Nat.reduceSub, A_law10_TreeNil_7, h1, h3, vload, vptr, Mem.read, hMa, r1, Nat.zero_add]
  refine call_of (ta.drop n) ?_
  intro v Mb hv
  rw [hv.1]
  have hGb := hv.2
  clear hv
  have hw7 := write_full (M := Mb.push (.cells [.int .i64 0, .int .i64 0, .str []] false)) (b := Mb.next) (vs := spC sp0) (Mem.get_push_same _ _) rfl rfl
  simp -dsimp only [↓w_seq, ↓w_ops, ↓w_skip, ↓w_ret, ↓w_exit, ↓w_scope, ↓w_block, ↓w_cond, cond_true', cond_false', ↓t_nil, ↓t_plain, ↓t_guard, ↓t_gagain, ↓t_again, t_val, t_call, g_true, g_false, ga_true, ga_false, a_val, a_call, ↓n_normal, ↓n_ret, ↓n_exit, ↓b_normal, ↓b_ret, ↓b_exit, ↓e_normal, ↓e_ret, e_some, go_sem, ↓reduceIte, Nat.reduceEqDiff, Nat.reduceLT, Nat.reduceSub, A_law10_TreeNil_7, List.getElem?_cons_zero, List.getElem?_cons_succ, vstore, hcs, spC_len, hw7, Nat.reduceEqDiff]
  clear hw7
  have hGc : Grew Ma ((Mb.push (.cells [.int .i64 0, .int .i64 0, .str []] false)).set Mb.next (.cells (spC sp0) false)) := (hGb.trans (Grew.push _ _)).upd hGb.next (Upd.set _ _ _)
  generalize (Mb.push (.cells [.int .i64 0, .int .i64 0, .str []] false)).set Mb.next (.cells (spC sp0) false) = Mc at *
  have tc := ta.grew hGc
  have hMc := ((hGa.trans hGc).old _ lb).trans hb
  refine WT_abs (fun fr => fr.rd 1 = .ptr (some (b1, 0)) ∧ fr.rd 3 = t ∧ fr.rd 4 = .int .i64 (i : Int) ∧ fr.rd 6 = .int .i64 1 ∧ fr.rd 8 = .int .i64 1) ⟨by simp only [go_sem, ↓reduceIte, Nat.reduceEqDiff, Nat.reduceLT, Nat.reduceSub, h1], by simp only [go_sem, ↓reduceIte, Nat.reduceEqDiff, Nat.reduceLT, Nat.reduceSub, h3], by simp only [go_sem, ↓reduceIte, Nat.reduceEqDiff, Nat.reduceLT, Nat.reduceSub, h4], by simp only [go_sem, ↓reduceIte, Nat.reduceEqDiff, Nat.reduceLT, Nat.reduceSub, h6], by simp only [go_sem, ↓reduceIte, Nat.reduceEqDiff, Nat.reduceLT, Nat.reduceSub]⟩ ?_
  clear h1 h3 h4 h6 fr
  intro fr hfr
  obtain ⟨h1, h3, h4, h6, h8⟩ := hfr
  simp -dsimp only [↓w_seq, ↓w_ops, ↓w_skip, ↓w_ret, ↓w_exit, ↓w_scope, ↓w_block, ↓w_cond, cond_true', cond_false', ↓t_nil, ↓t_plain, ↓t_guard, ↓t_gagain, ↓t_again, t_val, t_call, g_true, g_false, ga_true, ga_false, a_val, a_call, ↓n_normal, ↓n_ret, ↓n_exit, ↓b_normal, ↓b_ret, ↓b_exit, ↓e_normal, ↓e_ret, e_some, go_sem, ↓reduceIte, Nat.reduceEqDiff, Nat.reduceLT, Nat.reduceSub, A_law10_TreeNil_8, h1, h3, vload, vptr, Mem.read, hMc, r1, Nat.zero_add]
  refine call_eq (tc.spot n) ?_
  have hw9 := write_full (M := Mc.push (.cells [.int .i64 0, .int .i64 0, .str []] false)) (b := Mc.next) (vs := spC sp0) (Mem.get_push_same _ _) rfl rfl
  simp -dsimp only [↓w_seq, ↓w_ops, ↓w_skip, ↓w_ret, ↓w_exit, ↓w_scope, ↓w_block, ↓w_cond, cond_true', cond_false', ↓t_nil, ↓t_plain, ↓t_guard, ↓t_gagain, ↓t_again, t_val, t_call, g_true, g_false, ga_true, ga_false, a_val, a_call, ↓n_normal, ↓n_ret, ↓n_exit, ↓b_normal, ↓b_ret, ↓b_exit, ↓e_normal, ↓e_ret, e_some, go_sem, ↓reduceIte, Nat.reduceEqDiff, Nat.reduceLT, Nat.reduceSub, A_law10_TreeNil_8, List.getElem?_cons_zero, List.getElem?_cons_succ, vstore, hcs, spC_len, hw9, Nat.reduceEqDiff]
  clear hw9
  have hGd : Grew Mc ((Mc.push (.cells [.int .i64 0, .int .i64 0, .str []] false)).set Mc.next (.cells (spC sp0) false)) := (Grew.push _ _).upd (Nat.le_refl _) (Upd.set _ _ _)
  generalize (Mc.push (.cells [.int .i64 0, .int .i64 0, .str []] false)).set Mc.next (.cells (spC sp0) false) = Md at *
  have td := tc.grew hGd
  have hGd0 := (hGa.trans hGc).trans hGd
  have hMd := (hGd0.old _ lb).trans hb
  clear ta tc tp hMc hMa
  refine WT_abs (fun fr => fr.rd 1 = .ptr (some (b1, 0)) ∧ fr.rd 3 = t ∧ fr.rd 4 = .int .i64 (i : Int) ∧ fr.rd 6 = .int .i64 1 ∧ fr.rd 8 = .int .i64 1 ∧ fr.rd 10 = .bool false) ⟨by simp only [go_sem, ↓reduceIte, Nat.reduceEqDiff, Nat.reduceLT, Nat.reduceSub, h1], by simp only [go_sem, ↓reduceIte, Nat.reduceEqDiff, Nat.reduceLT, Nat.reduceSub, h3], by simp only [go_sem, ↓reduceIte, Nat.reduceEqDiff, Nat.reduceLT, Nat.reduceSub, h4], by simp only [go_sem, ↓reduceIte, Nat.reduceEqDiff, Nat.reduceLT, Nat.reduceSub, h6], by simp only [go_sem, ↓reduceIte, Nat.reduceEqDiff, Nat.reduceLT, Nat.reduceSub, h8], by simp only [go_sem, ↓reduceIte, Nat.reduceEqDiff, Nat.reduceLT, Nat.reduceSub]⟩ ?_
  clear h1 h3 h4 h6 h8 fr
  intro fr hfr
  obtain ⟨h1, h3, h4, h6, h8, h10⟩ := hfr
  simp -dsimp only [↓w_seq, ↓w_ops, ↓w_skip, ↓w_ret, ↓w_exit, ↓w_scope, ↓w_block, ↓w_cond, cond_true', cond_false', ↓t_nil, ↓t_plain, ↓t_guard, ↓t_gagain, ↓t_again, t_val, t_call, g_true, g_false, ga_true, ga_false, a_val, a_call, ↓n_normal, ↓n_ret, ↓n_exit, ↓b_normal, ↓b_ret, ↓b_exit, ↓e_normal, ↓e_ret, e_some, go_sem, ↓reduceIte, Nat.reduceEqDiff, Nat.reduceLT, Nat.reduceSub, A_law10_TreeNil_9, h1, h3, vload, vptr, Mem.read, hMd, r1, r3, Nat.zero_add]
  refine callA_by (k := ⟨⟩) (l' := ⟨⟩) (g' := ⟨⟩) (own_p rfl s) ?_
  intro v M3 hv
  rw [hv.1, hv.2]
  clear hv
  refine ⟨?_, ?_⟩
  · simp only [List.all_cons, List.all_nil, Bool.and_true, againOk, wantedA, cond_true, go_sem, ↓reduceIte, Nat.reduceEqDiff, Nat.reduceLT, Nat.reduceSub, vload, vptr, Mem.read, hMd, r1, sameCells, Nat.zero_add, V.beq, V.beq_self, V.beqs_self, Bool.and_self, Nat.reduceAdd, Nat.reduceLeDiff, decide_true, cond_true]
  simp -dsimp only [↓w_seq, ↓w_ops, ↓w_skip, ↓w_ret, ↓w_exit, ↓w_scope, ↓w_block, ↓w_cond, cond_true', cond_false', ↓t_nil, ↓t_plain, ↓t_guard, ↓t_gagain, ↓t_again, t_val, t_call, g_true, g_false, ga_true, ga_false, a_val, a_call, ↓n_normal, ↓n_ret, ↓n_exit, ↓b_normal, ↓b_ret, ↓b_exit, ↓e_normal, ↓e_ret, e_some, go_sem, ↓reduceIte, Nat.reduceEqDiff, Nat.reduceLT, Nat.reduceSub]
  refine call_of (td.add n s) ?_
  intro v Me hv
  rw [hv.1]
  have hGe := hv.2
  clear hv
  have te := td.grew hGe
  have hGe0 := hGd0.trans hGe
  have hMe := (hGe0.old _ lb).trans hb
  simp -dsimp only [↓w_seq, ↓w_ops, ↓w_skip, ↓w_ret, ↓w_exit, ↓w_scope, ↓w_block, ↓w_cond, cond_true', cond_false', ↓t_nil, ↓t_plain, ↓t_guard, ↓t_gagain, ↓t_again, t_val, t_call, g_true, g_false, ga_true, ga_false, a_val, a_call, ↓n_normal, ↓n_ret, ↓n_exit, ↓b_normal, ↓b_ret, ↓b_exit, ↓e_normal, ↓e_ret, e_some, go_sem, ↓reduceIte, Nat.reduceEqDiff, Nat.reduceLT, Nat.reduceSub]
  refine call_eq (num_p Me 1) ?_
  simp -dsimp only [↓w_seq, ↓w_ops, ↓w_skip, ↓w_ret, ↓w_exit, ↓w_scope, ↓w_block, ↓w_cond, cond_true', cond_false', ↓t_nil, ↓t_plain, ↓t_guard, ↓t_gagain, ↓t_again, t_val, t_call, g_true, g_false, ga_true, ga_false, a_val, a_call, ↓n_normal, ↓n_ret, ↓n_exit, ↓b_normal, ↓b_ret, ↓b_exit, ↓e_normal, ↓e_ret, e_some, go_sem, ↓reduceIte, Nat.reduceEqDiff, Nat.reduceLT, Nat.reduceSub, ne_eq, not_true_eq_false, decide_false, h6]
  refine call_eq (num_p Me 1) ?_
  simp -dsimp only [↓w_seq, ↓w_ops, ↓w_skip, ↓w_ret, ↓w_exit, ↓w_scope, ↓w_block, ↓w_cond, cond_true', cond_false', ↓t_nil, ↓t_plain, ↓t_guard, ↓t_gagain, ↓t_again, t_val, t_call, g_true, g_false, ga_true, ga_false, a_val, a_call, ↓n_normal, ↓n_ret, ↓n_exit, ↓b_normal, ↓b_ret, ↓b_exit, ↓e_normal, ↓e_ret, e_some, go_sem, ↓reduceIte, Nat.reduceEqDiff, Nat.reduceLT, Nat.reduceSub, ne_eq, not_true_eq_false, decide_false, h8]
  refine call_eq (num_p Me 1) ?_
  refine WT_abs (fun fr => fr.rd 1 = .ptr (some (b1, 0)) ∧ fr.rd 3 = t ∧ fr.rd 4 = .int .i64 (i : Int) ∧ fr.rd 10 = .bool false ∧ fr.rd 57 = .bool false ∧ fr.rd 59 = .int .i64 1) ⟨by simp only [go_sem, ↓reduceIte, Nat.reduceEqDiff, Nat.reduceLT, Nat.reduceSub, h1], by simp only [go_sem, ↓reduceIte, Nat.reduceEqDiff, Nat.reduceLT, Nat.reduceSub, h3], by simp only [go_sem, ↓reduceIte, Nat.reduceEqDiff, Nat.reduceLT, Nat.reduceSub, h4], by simp only [go_sem, ↓reduceIte, Nat.reduceEqDiff, Nat.reduceLT, Nat.reduceSub, h10], by simp only [go_sem, ↓reduceIte, Nat.reduceEqDiff, Nat.reduceLT, Nat.reduceSub], by simp only [go_sem, ↓reduceIte, Nat.reduceEqDiff, Nat.reduceLT, Nat.reduceSub]⟩ ?_
  clear h1 h3 h4 h6 h8 h10 fr
  intro fr hfr
  obtain ⟨h1, h3, h4, h10, h57, h59⟩ := hfr
  simp -dsimp only [↓w_seq, ↓w_ops, ↓w_skip, ↓w_ret, ↓w_exit, ↓w_scope, ↓w_block, ↓w_cond, cond_true', cond_false', ↓t_nil, ↓t_plain, ↓t_guard, ↓t_gagain, ↓t_again, t_val, t_call, g_true, g_false, ga_true, ga_false, a_val, a_call, ↓n_normal, ↓n_ret, ↓n_exit, ↓b_normal, ↓b_ret, ↓b_exit, ↓e_normal, ↓e_ret, e_some, go_sem, ↓reduceIte, Nat.reduceEqDiff, Nat.reduceLT, Nat.reduceSub, ne_eq, not_true_eq_false, decide_false, h1, h3, h10, h57, h59, vload, vptr, Mem.read, hMe, r1, Nat.zero_add]
  refine call_eq (te.has n) ?_
  refine WT_abs (fun fr => fr.rd 1 = .ptr (some (b1, 0)) ∧ fr.rd 3 = t ∧ fr.rd 4 = .int .i64 (i : Int) ∧ fr.rd 65 = .bool false ∧ fr.rd 69 = .bool false) ⟨by simp only [go_sem, ↓reduceIte, Nat.reduceEqDiff, Nat.reduceLT, Nat.reduceSub, h1], by simp only [go_sem, ↓reduceIte, Nat.reduceEqDiff, Nat.reduceLT, Nat.reduceSub, h3], by simp only [go_sem, ↓reduceIte, Nat.reduceEqDiff, Nat.reduceLT, Nat.reduceSub, h4], by simp only [go_sem, ↓reduceIte, Nat.reduceEqDiff, Nat.reduceLT, Nat.reduceSub], by simp only [go_sem, ↓reduceIte, Nat.reduceEqDiff, Nat.reduceLT, Nat.reduceSub]⟩ ?_
  clear h1 h3 h4 h10 h57 h59 fr
  intro fr hfr
  obtain ⟨h1, h3, h4, h65, h69⟩ := hfr
  simp -dsimp only [↓w_seq, ↓w_ops, ↓w_skip, ↓w_ret, ↓w_exit, ↓w_scope, ↓w_block, ↓w_cond, cond_true', cond_false', ↓t_nil, ↓t_plain, ↓t_guard, ↓t_gagain, ↓t_again, t_val, t_call, g_true, g_false, ga_true, ga_false, a_val, a_call, ↓n_normal, ↓n_ret, ↓n_exit, ↓b_normal, ↓b_ret, ↓b_exit, ↓e_normal, ↓e_ret, e_some, go_sem, ↓reduceIte, Nat.reduceEqDiff, Nat.reduceLT, Nat.reduceSub, h1, h3, h65, h69, vload, vptr, Mem.read, hMe, r1, Nat.zero_add]
  refine call_eq (te.within n n) ?_
  refine WT_abs (fun fr => fr.rd 1 = .ptr (some (b1, 0)) ∧ fr.rd 3 = t ∧ fr.rd 4 = .int .i64 (i : Int) ∧ fr.rd 71 = .bool false ∧ fr.rd 77 = .bool false) ⟨by simp only [go_sem, ↓reduceIte, Nat.reduceEqDiff, Nat.reduceLT, Nat.reduceSub, h1], by simp only [go_sem, ↓reduceIte, Nat.reduceEqDiff, Nat.reduceLT, Nat.reduceSub, h3], by simp only [go_sem, ↓reduceIte, Nat.reduceEqDiff, Nat.reduceLT, Nat.reduceSub, h4], by simp only [go_sem, ↓reduceIte, Nat.reduceEqDiff, Nat.reduceLT, Nat.reduceSub], by simp only [go_sem, ↓reduceIte, Nat.reduceEqDiff, Nat.reduceLT, Nat.reduceSub]⟩ ?_
  clear h1 h3 h4 h65 h69 fr
  intro fr hfr
  obtain ⟨h1, h3, h4, h71, h77⟩ := hfr
  simp -dsimp only [↓w_seq, ↓w_ops, ↓w_skip, ↓w_ret, ↓w_exit, ↓w_scope, ↓w_block, ↓w_cond, cond_true', cond_false', ↓t_nil, ↓t_plain, ↓t_guard, ↓t_gagain, ↓t_again, t_val, t_call, g_true, g_false, ga_true, ga_false, a_val, a_call, ↓n_normal, ↓n_ret, ↓n_exit, ↓b_normal, ↓b_ret, ↓b_exit, ↓e_normal, ↓e_ret, e_some, go_sem, ↓reduceIte, Nat.reduceEqDiff, Nat.reduceLT, Nat.reduceSub, h1, h3, h71, h77, vload, vptr, Mem.read, hMe, r1, Nat.zero_add]
  refine callA_by (k := ⟨⟩) (l' := ⟨⟩) (g' := ⟨⟩) (te.below n) ?_
  intro v Mf hv
  rw [hv.1]
  have hGf := hv.2
  clear hv
  have hMf := ((hGe0.trans hGf).old _ lb).trans hb
  have tf := te.grew hGf
  refine ⟨?_, ?_⟩
  · simp only [List.all_cons, List.all_nil, Bool.and_true, againOk, wantedA, cond_true, go_sem, ↓reduceIte, Nat.reduceEqDiff, Nat.reduceLT, Nat.reduceSub, vload, vptr, Mem.read, hMf, r1, sameCells, Nat.zero_add, V.beq, V.beq_self, V.beqs_self, Bool.and_self, Nat.reduceAdd, Nat.reduceLeDiff, decide_true, cond_true, Bool.not_false, Bool.not_true]
  simp -dsimp only [↓w_seq, ↓w_ops, ↓w_skip, ↓w_ret, ↓w_exit, ↓w_scope, ↓w_block, ↓w_cond, cond_true', cond_false', ↓t_nil, ↓t_plain, ↓t_guard, ↓t_gagain, ↓t_again, t_val, t_call, g_true, g_false, ga_true, ga_false, a_val, a_call, ↓n_normal, ↓n_ret, ↓n_exit, ↓b_normal, ↓b_ret, ↓b_exit, ↓e_normal, ↓e_ret, e_some, go_sem, ↓reduceIte, Nat.reduceEqDiff, Nat.reduceLT, Nat.reduceSub]
  refine call_eq (tf.above n) ?_
  simp -dsimp only [↓w_seq, ↓w_ops, ↓w_skip, ↓w_ret, ↓w_exit, ↓w_scope, ↓w_block, ↓w_cond, cond_true', cond_false', ↓t_nil, ↓t_plain, ↓t_guard, ↓t_gagain, ↓t_again, t_val, t_call, g_true, g_false, ga_true, ga_false, a_val, a_call, ↓n_normal, ↓n_ret, ↓n_exit, ↓b_normal, ↓b_ret, ↓b_exit, ↓e_normal, ↓e_ret, e_some, go_sem, ↓reduceIte, Nat.reduceEqDiff, Nat.reduceLT, Nat.reduceSub]
  refine call_eq tf.nodes ?_
  refine WT_abs (fun fr => fr.rd 3 = t ∧ fr.rd 4 = .int .i64 (i : Int) ∧ fr.rd 1 = .ptr (some (b1, 0)) ∧ fr.rd 79 = .bool false ∧ fr.rd 90 = .int .i64 (IntKind.i64.wrap 0) ∧ fr.rd 92 = .slice none 0 (.exact 0)) ⟨by simp only [go_sem, ↓reduceIte, Nat.reduceEqDiff, Nat.reduceLT, Nat.reduceSub, h3], by simp only [go_sem, ↓reduceIte, Nat.reduceEqDiff, Nat.reduceLT, Nat.reduceSub, h4], by simp only [go_sem, ↓reduceIte, Nat.reduceEqDiff, Nat.reduceLT, Nat.reduceSub, h1], by simp only [go_sem, ↓reduceIte, Nat.reduceEqDiff, Nat.reduceLT, Nat.reduceSub], by simp only [go_sem, ↓reduceIte, Nat.reduceEqDiff, Nat.reduceLT, Nat.reduceSub]; rfl, by simp only [go_sem, ↓reduceIte, Nat.reduceEqDiff, Nat.reduceLT, Nat.reduceSub]⟩ ?_
  clear h1 h3 h4 h71 h77 fr
  intro fr hfr
  obtain ⟨h3, h4, h1, h79, h90, h92⟩ := hfr
  have z0 : IntKind.i64.wrap 0 = 0 := by rw [IntWalk.i64_in _ (by omega)]
  rw [z0] at h90
  simp -dsimp only [↓w_seq, ↓w_ops, ↓w_skip, ↓w_ret, ↓w_exit, ↓w_scope, ↓w_block, ↓w_cond, cond_true', cond_false', ↓t_nil, ↓t_plain, ↓t_guard, ↓t_gagain, ↓t_again, t_val, t_call, g_true, g_false, ga_true, ga_false, a_val, a_call, ↓n_normal, ↓n_ret, ↓n_exit, ↓b_normal, ↓b_ret, ↓b_exit, ↓e_normal, ↓e_ret, e_some, go_sem, ↓reduceIte, Nat.reduceEqDiff, Nat.reduceLT, Nat.reduceSub, h3, h79, h90, h92, Int.natCast_zero, Int.add_zero, z0, ne_eq, not_true_eq_false, decide_false, Int.ofNat_zero]
  refine call_eq (tf.same t) ?_
  simp -dsimp only [↓w_seq, ↓w_ops, ↓w_skip, ↓w_ret, ↓w_exit, ↓w_scope, ↓w_block, ↓w_cond, cond_true', cond_false', ↓t_nil, ↓t_plain, ↓t_guard, ↓t_gagain, ↓t_again, t_val, t_call, g_true, g_false, ga_true, ga_false, a_val, a_call, ↓n_normal, ↓n_ret, ↓n_exit, ↓b_normal, ↓b_ret, ↓b_exit, ↓e_normal, ↓e_ret, e_some, go_sem, ↓reduceIte, Nat.reduceEqDiff, Nat.reduceLT, Nat.reduceSub, h3]
  refine call_of (New_runs D2 rfl (by rfl) Mf) ?_
  intro v Mg hv
  rw [hv.1]
  have hGg := hv.2.1
  clear hv
  have tg := tf.grew hGg
  simp -dsimp only [↓w_seq, ↓w_ops, ↓w_skip, ↓w_ret, ↓w_exit, ↓w_scope, ↓w_block, ↓w_cond, cond_true', cond_false', ↓t_nil, ↓t_plain, ↓t_guard, ↓t_gagain, ↓t_again, t_val, t_call, g_true, g_false, ga_true, ga_false, a_val, a_call, ↓n_normal, ↓n_ret, ↓n_exit, ↓b_normal, ↓b_ret, ↓b_exit, ↓e_normal, ↓e_ret, e_some, go_sem, ↓reduceIte, Nat.reduceEqDiff, Nat.reduceLT, Nat.reduceSub]
  refine call_eq (tg.same _) ?_
  simp -dsimp only [↓w_seq, ↓w_ops, ↓w_skip, ↓w_ret, ↓w_exit, ↓w_scope, ↓w_block, ↓w_cond, cond_true', cond_false', ↓t_nil, ↓t_plain, ↓t_guard, ↓t_gagain, ↓t_again, t_val, t_call, g_true, g_false, ga_true, ga_false, a_val, a_call, ↓n_normal, ↓n_ret, ↓n_exit, ↓b_normal, ↓b_ret, ↓b_exit, ↓e_normal, ↓e_ret, e_some, go_sem, ↓reduceIte, Nat.reduceEqDiff, Nat.reduceLT, Nat.reduceSub, h3]
  refine call_eq tg.clone ?_
  have f0 : fillCells [.map none] [] = some [.map none] := rfl
  have hnn : vnil .ptr (.ptr none) (.ptr none) = some true := rfl
  have hc1 : V.cells (.agg [.map none]) = [.map none] := rfl
  simp -dsimp only [↓w_seq, ↓w_ops, ↓w_skip, ↓w_ret, ↓w_exit, ↓w_scope, ↓w_block, ↓w_cond, cond_true', cond_false', ↓t_nil, ↓t_plain, ↓t_guard, ↓t_gagain, ↓t_again, t_val, t_call, g_true, g_false, ga_true, ga_false, a_val, a_call, ↓n_normal, ↓n_ret, ↓n_exit, ↓b_normal, ↓b_ret, ↓b_exit, ↓e_normal, ↓e_ret, e_some, go_sem, ↓reduceIte, Nat.reduceEqDiff, Nat.reduceLT, Nat.reduceSub, A_law10_TreeNil_11, A_law10_TreeNil_12, hnn, Option.map_some, Bool.not_true, f0, vof, hc1, h4, h5', IntWalk.i64_in ((i + 1 : Nat) : Int) (by omega)]
  refine hQ _ _ (.ptr (some (Mg.next, 0))) (((hGe0.trans hGf).trans hGg).trans (Grew.push _ _)) (.inr ⟨_, false, rfl, by simp, Mem.get_push_same _ _⟩) ?_ ?_ ?_
  all_goals simp only [go_sem, ↓reduceIte, Nat.reduceEqDiff, Nat.reduceLT, Nat.reduceSub, h1, Mem.next_push]

theorem tree_nil_runs (a : Act) (hk : a.2.2.2.length < 2 ^ 63) (M0 : Mem) (hg : isG M0 = true) (hn : 2 ≤ M0.next) : Runs D2 F_law10_TreeNil [.agg (actC a)] M0 fun v _ => v = .bool true := by
  refine R_opq fun R hR => ?_
  refine Runs.walk (F := A_law10_TreeNil) rfl (by rfl) (by rfl) ?_
  unfold A_law10_TreeNil
  have hca : V.cells (.agg (actC a)) = actC a := rfl
  have r6 : rdCells (actC a) 0 6 = some (actC a) := rfl
  have f6 : fillCells [.int .i64 0, .int .i64 0, .int .i64 0, .int .i64 0, .int .i64 0, .str []] [(0, 6, .agg (actC a))] = some (actC a) := rfl
  have g1 : (M0.push (.cells (actC a) false)).get M0.next = some (.cells (actC a) false) := Mem.get_push_same _ _
  have hG1 := Grew.push M0 (.cells (actC a) false)
  have hn1 : (M0.push (.cells (actC a) false)).next = M0.next + 1 := rfl
  simp -dsimp only [↓w_seq, ↓w_ops, ↓w_skip, ↓w_ret, ↓w_exit, ↓w_scope, ↓w_block, ↓w_cond, cond_true', cond_false', ↓t_nil, ↓t_plain, ↓t_guard, ↓t_gagain, ↓t_again, t_val, t_call, g_true, g_false, ga_true, ga_false, a_val, a_call, ↓n_normal, ↓n_ret, ↓n_exit, ↓b_normal, ↓b_ret, ↓b_exit, ↓e_normal, ↓e_ret, e_some, go_sem, ↓reduceIte, Nat.reduceEqDiff, Nat.reduceLT, Nat.reduceSub, A_law10_TreeNil_0, hca]
  generalize M0.push (.cells (actC a) false) = M1 at *
  simp -dsimp only [↓w_seq, ↓w_ops, ↓w_skip, ↓w_ret, ↓w_exit, ↓w_scope, ↓w_block, ↓w_cond, cond_true', cond_false', ↓t_nil, ↓t_plain, ↓t_guard, ↓t_gagain, ↓t_again, t_val, t_call, g_true, g_false, ga_true, ga_false, a_val, a_call, ↓n_normal, ↓n_ret, ↓n_exit, ↓b_normal, ↓b_ret, ↓b_exit, ↓e_normal, ↓e_ret, e_some, go_sem, ↓reduceIte, Nat.reduceEqDiff, Nat.reduceLT, Nat.reduceSub, A_law10_TreeNil_1, vload, vptr, Mem.read, g1, r6, f6, vof, Option.map_some, repl, List.append_nil]
  have g2 : (M1.push (.cells (actC a) false)).get M1.next = some (.cells (actC a) false) := Mem.get_push_same _ _
  have hG2 := Grew.push M1 (.cells (actC a) false)
  have hn2 : (M1.push (.cells (actC a) false)).next = M1.next + 1 := rfl
  generalize M1.push (.cells (actC a) false) = M2 at *
  have hG := hG1.trans hG2
  have hs : SlR elAct M2 (.slice (some (M1.next, 0)) 1 (.exact 1)) [a] := ⟨_, _, rfl, .inr ⟨_, 0, _, false, rfl, g2, fun j hj => by
    have : j = 0 := by simpa using hj
    subst this
    rfl⟩⟩
  refine call_of (Long_runs _ [a] M2 hs (fun x hx => by simp only [List.mem_singleton] at hx; rw [hx]; exact hk)) ?_
  intro v M hv
  obtain ⟨⟨b, hb, hL⟩, hM⟩ := hv
  rw [hb, hM]
  clear hb hM
  cases b with
  | true =>
    simp -dsimp only [↓w_seq, ↓w_ops, ↓w_skip, ↓w_ret, ↓w_exit, ↓w_scope, ↓w_block, ↓w_cond, cond_true', cond_false', ↓t_nil, ↓t_plain, ↓t_guard, ↓t_gagain, ↓t_again, t_val, t_call, g_true, g_false, ga_true, ga_false, a_val, a_call, ↓n_normal, ↓n_ret, ↓n_exit, ↓b_normal, ↓b_ret, ↓b_exit, ↓e_normal, ↓e_ret, e_some, go_sem, ↓reduceIte, Nat.reduceEqDiff, Nat.reduceLT, Nat.reduceSub, A_law10_TreeNil_2]
    refine call_eq (knows_p (isG_keep hg hn hG.old)) ?_
    simp -dsimp only [↓w_seq, ↓w_ops, ↓w_skip, ↓w_ret, ↓w_exit, ↓w_scope, ↓w_block, ↓w_cond, cond_true', cond_false', ↓t_nil, ↓t_plain, ↓t_guard, ↓t_gagain, ↓t_again, t_val, t_call, g_true, g_false, ga_true, ga_false, a_val, a_call, ↓n_normal, ↓n_ret, ↓n_exit, ↓b_normal, ↓b_ret, ↓b_exit, ↓e_normal, ↓e_ret, e_some, go_sem, ↓reduceIte, Nat.reduceEqDiff, Nat.reduceLT, Nat.reduceSub]
    exact hR _ _ rfl
  | false =>
    have hb2 := (hG2.old _ (by omega)).trans g1
    simp -dsimp only [↓w_seq, ↓w_ops, ↓w_skip, ↓w_ret, ↓w_exit, ↓w_scope, ↓w_block, ↓w_cond, cond_true', cond_false', ↓t_nil, ↓t_plain, ↓t_guard, ↓t_gagain, ↓t_again, t_val, t_call, g_true, g_false, ga_true, ga_false, a_val, a_call, ↓n_normal, ↓n_ret, ↓n_exit, ↓b_normal, ↓b_ret, ↓b_exit, ↓e_normal, ↓e_ret, e_some, go_sem, ↓reduceIte, Nat.reduceEqDiff, Nat.reduceLT, Nat.reduceSub, A_law10_TreeNil_3, A_law10_TreeNil_4]
    refine nil_round a M2 M2 (Grew.refl _) M0.next (by omega) hb2 (.ptr none) (.inl rfl) _ ?_ ?_ 0 (by omega) ?_ ?_
    · simp only [go_sem, ↓reduceIte, Nat.reduceEqDiff, Nat.reduceLT, Nat.reduceSub]
    · simp only [go_sem, ↓reduceIte, Nat.reduceEqDiff, Nat.reduceLT, Nat.reduceSub]
    · simp only [go_sem, ↓reduceIte, Nat.reduceEqDiff, Nat.reduceLT, Nat.reduceSub]; rfl
    · intro fr M3 t' hG3 ht h1 h3 h4
      refine nil_round a M2 M3 hG3 M0.next (by omega) hb2 t' ht fr h1 h3 1 (by omega) h4 ?_
      intro fr M4 t' hG4 ht h1 h3 h4
      refine WC.loop (W_of ?_)
      unfold A_law10_TreeNil_13
      have e2 : ¬ (((1 + 1 : Nat) : Int)) < 2 := by omega
      simp -dsimp only [↓w_seq, ↓w_ops, ↓w_skip, ↓w_ret, ↓w_exit, ↓w_scope, ↓w_block, ↓w_cond, cond_true', cond_false', ↓t_nil, ↓t_plain, ↓t_guard, ↓t_gagain, ↓t_again, t_val, t_call, g_true, g_false, ga_true, ga_false, a_val, a_call, ↓n_normal, ↓n_ret, ↓n_exit, ↓b_normal, ↓b_ret, ↓b_exit, ↓e_normal, ↓e_ret, e_some, go_sem, ↓reduceIte, Nat.reduceEqDiff, Nat.reduceLT, Nat.reduceSub, A_law10_TreeNil_5, h4, e2, decide_false, A_law10_TreeNil_14]
      refine call_eq (knows_p (isG_keep hg hn (hG.trans hG4).old)) ?_
      simp -dsimp only [↓w_seq, ↓w_ops, ↓w_skip, ↓w_ret, ↓w_exit, ↓w_scope, ↓w_block, ↓w_cond, cond_true', cond_false', ↓t_nil, ↓t_plain, ↓t_guard, ↓t_gagain, ↓t_again, t_val, t_call, g_true, g_false, ga_true, ga_false, a_val, a_call, ↓n_normal, ↓n_ret, ↓n_exit, ↓b_normal, ↓b_ret, ↓b_exit, ↓e_normal, ↓e_ret, e_some, go_sem, ↓reduceIte, Nat.reduceEqDiff, Nat.reduceLT, Nat.reduceSub]
      exact hR _ _ rfl
end Go.Am.Tryd

/- A machine with more parts does what it did. -/
namespace Go.Am
open Go

structure Decls.le (D D' : Decls) : Prop where
  prim : ∀ f g, D.prim f = some g → D'.prim f = some g
  code : ∀ f F, D.prim f = none → D.code.get f = some F → D'.prim f = none ∧ D'.code.get f = some F
theorem callN_more {D D' : Decls} (h : D.le D') : ∀ (k : Nat), CallLe (callN D k) (callN D' k)
  | 0 => fun f args M r hr => by cases hr
  | k + 1 => fun f args M r hr => by
    simp only [callN] at hr ⊢
    cases hp : D.prim f with
    | some g =>
      rw [hp] at hr
      rw [h.prim f g hp]
      exact hr
    | none =>
      rw [hp] at hr
      simp only at hr
      cases hg : D.code.get f with
      | none => rw [hg] at hr; cases hr
      | some F =>
        rw [hg] at hr
        obtain ⟨h1, h2⟩ := h.code f F hp hg
        rw [h1, h2]
        simp only [Bool.cond_eq_ite] at hr ⊢
        split at hr
        · rename_i hle
          rw [if_pos hle]
          split at hr
          · rename_i fr' M' he
            rw [exec_mono (callN_more h k) (Nat.le_refl _) _ he]
            exact hr
          · rename_i fr' M' he
            rw [exec_mono (callN_more h k) (Nat.le_refl _) _ he]
            exact hr
          · cases hr
        · cases hr
theorem Runs.more {D D' : Decls} (hle : D.le D') {f : FuncId} {args : List V} {M : Mem} {R : V → Mem → Prop} (h : Runs D f args M R) : Runs D' f args M R := by
  obtain ⟨k, v, M', h1, h2⟩ := h
  exact ⟨k, v, M', callN_more hle k _ _ _ _ h1, h2⟩
/-- A part for a function that the machine did not know. -/
theorem Decls.le_addM {D : Decls} {f : FuncId} {g : List V → Mem → Option (V × Mem)} (hp : D.prim f = none) (hc : D.code.get f = none) : D.le (D.addM f g) := by
  refine ⟨fun f' g' h => ?_, fun f' F h hF => ?_⟩
  · simp only [Decls.addM]
    cases hb : Nat.beq f' f with
    | true =>
      have := Nat.eq_of_beq_eq_true hb
      subst this
      rw [hp] at h; cases h
    | false => exact h
  · simp only [Decls.addM]
    cases hb : Nat.beq f' f with
    | true =>
      have := Nat.eq_of_beq_eq_true hb
      subst this
      rw [hc] at hF; cases hF
    | false => exact ⟨h, hF⟩
theorem Decls.le_trans {D D' D'' : Decls} (h : D.le D') (h' : D'.le D'') : D.le D'' :=
  ⟨fun f g hg => h'.prim f g (h.prim f g hg), fun f F hp hc => by obtain ⟨a, b⟩ := h.code f F hp hc; exact h'.code f F a b⟩
end Go.Am
