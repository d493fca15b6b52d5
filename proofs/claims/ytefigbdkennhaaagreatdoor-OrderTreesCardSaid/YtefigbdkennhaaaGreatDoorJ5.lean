/- The machine and what is proved of its runs, part 5: what each part says stands at its head. -/
import Derived.Test.YtefigbdkennhaaaGreatDoorJ4
set_option linter.unusedSimpArgs false
set_option linter.unusedVariables false
set_option linter.unusedSectionVars false
/- What stands above a node, handed on. -/
namespace Go.Am.Tryz
open Go Go.Am Go.Proofs Go.Sort Go.Shelf
set_option maxRecDepth 100000
set_option linter.unusedSimpArgs false
set_option linter.unusedVariables false

def PathN (l : Tr) (n : St) (r : List St) : Prop := ∃ f, upL l f n = some r
def PathO (l : Tr) : Option Spot → List St → Prop
  | none, ys => ys = []
  | some s, ys => ∃ r, ys = s.1 :: r ∧ PathN l s.1 r
theorem PathN.look {l : Tr} {n : St} {r : List St} (h : PathN l n r) : PathO l (getS l n) r := by
  obtain ⟨f, h⟩ := h
  cases f with
  | zero => cases h
  | succ f =>
    unfold upL at h
    cases hg : getS l n with
    | none => rw [hg] at h; cases h; rfl
    | some s =>
      rw [hg] at h
      simp only [Option.map_eq_some_iff] at h
      obtain ⟨r', h1, rfl⟩ := h
      exact ⟨r', rfl, f, h1⟩

theorem spC_len (s : Spot) : (spC s).length = 3 := rfl
theorem lookV_parts (o : Option Spot) : lookV o = .tup [.agg (spC (o.getD sp0)), .bool o.isSome] := by cases o <;> rfl

set_option maxHeartbeats 1000000 in
theorem Up_loop (b bt tc bm : Nat) (rt rc : Bool) (l : Tr) (N : Nat) (J Jx : List St → Mem → Prop) (M0 : Mem) (path : List St)
    (hG : ∀ pre M, J pre M → M.get bt = some (.cells [.ptr (some (tc, 0))] rt) ∧ M.get tc = some (.cells [.map (some bm)] rc) ∧ mapAt M bm = some (encM l))
    (hps : ∀ pre M o o', J pre M → J pre ((M.push o).set M.next o'))
    (hsp : ∀ pre M' c x y t, J pre M' → M0.next ≤ c → isSpot M' c → J pre (M'.set c (.cells [.int .i64 x, .int .i64 y, .str t] false)))
    (hY : ∀ pre x M', J pre M' → pre.length < N → XYield Tryz.prog gl0 b [.agg (stC x)] M' fun v M'' => (v = .bool true ∧ J (pre ++ [x]) M'' ∧ M'.next ≤ M''.next ∧ (∀ c, c < M'.next → isIter M' c → M''.get c = M'.get c) ∧ ∀ c, M0.next ≤ c → c < M'.next → isSpot M' c → M''.get c = M'.get c) ∨ (v = .bool false ∧ Jx (pre ++ [x]) M''))
    (Q : XQ) (hQ : ∀ fr M, J path M → Q (.exit 0) fr M) (hQx : ∀ pre fr M, pre <+: path → Jx pre M → Q .ret fr M) :
    ∀ (ys pre : List St) (os : Option Spot) (c4 : Nat) (fr : Fr) (M : Mem), PathO l os ys → pre ++ ys = path → path.length ≤ N → J pre M → M0.next ≤ M.next → M0.next ≤ c4 → c4 < M.next → M.get c4 = some (.cells (spC (os.getD sp0)) false) →
      fr.rd 0 = .yld b → fr.rd 1 = .ptr (some (bt, 0)) → fr.rd 4 = .ptr (some (c4, 0)) → fr.rd 5 = .bool os.isSome → roundsX (WX Tryz.prog gl0 32 X_tree_Tree_up_c1_6 false) (ys.length + 1) fr M Q := by
  intro ys
  induction ys with
  | nil =>
    intro pre os c4 fr M hp hpre hN hJ hMn hc0 hc1 hc h0 h1 h4 h5
    have ho : os = none := by
      cases os with
      | none => rfl
      | some s => obtain ⟨r, e, _⟩ := hp; cases e
    subst ho
    rw [rounds_x_succ]
    refine xw_of ?_
    unfold X_tree_Tree_up_c1_6
    simp only [Option.isSome_none] at h5
    simp -dsimp only [↓x_seq', ↓x_ops, ↓x_skip, ↓x_ret, ↓x_exit, ↓x_block', ↓x_cond', cond_true', cond_false', ↓i_nil, ↓i_plain, ↓i_guard, xs_val, xs_call, xs_yield, xg_true, xg_false, ↓n_normal, ↓n_ret, ↓n_exit, ↓b_normal, ↓b_ret, ↓b_exit, ↓xe_normal, ↓xe_ret, e_some, yieldOf, go_sem, ↓reduceIte, Nat.reduceEqDiff, Nat.reduceLT, Nat.reduceSub, X_tree_Tree_up_c1_0, X_tree_Tree_up_c1_1, X_tree_Tree_up_c1_2, X_tree_Tree_up_c1_3, X_tree_Tree_up_c1_4, X_tree_Tree_up_c1_5, h5]
    rw [List.append_nil] at hpre
    subst hpre
    exact hQ _ _ hJ
  | cons y r ih =>
    intro pre os c4 fr M hp hpre hN hJ hMn hc0 hc1 hc h0 h1 h4 h5
    obtain ⟨s, rfl⟩ : ∃ s, os = some s := by
      cases os with
      | none => cases hp
      | some s => exact ⟨s, rfl⟩
    obtain ⟨r', e, hpath⟩ := hp
    cases e
    simp only [Option.isSome_some] at h5
    simp only [Option.getD_some] at hc
    rw [rounds_x_succ]
    refine xw_of ?_
    unfold X_tree_Tree_up_c1_6
    have hrd2 : rdCells (spC s) 0 2 = some (stC s.1) := rfl
    have hrd3 : rdCells (spC s) 0 3 = some (spC s) := rfl
    simp -dsimp only [↓x_seq', ↓x_ops, ↓x_skip, ↓x_ret, ↓x_exit, ↓x_block', ↓x_cond', cond_true', cond_false', ↓i_nil, ↓i_plain, ↓i_guard, xs_val, xs_call, xs_yield, xg_true, xg_false, ↓n_normal, ↓n_ret, ↓n_exit, ↓b_normal, ↓b_ret, ↓b_exit, ↓xe_normal, ↓xe_ret, e_some, yieldOf, go_sem, ↓reduceIte, Nat.reduceEqDiff, Nat.reduceLT, Nat.reduceSub, X_tree_Tree_up_c1_0, X_tree_Tree_up_c1_1, X_tree_Tree_up_c1_2, X_tree_Tree_up_c1_3, X_tree_Tree_up_c1_4, X_tree_Tree_up_c1_5, h0, h4, h5, vload, vptr, Mem.read, hc, hrd2, Nat.add_zero]
    have hlen : pre.length < N := by
      have := congrArg List.length hpre
      simp at this
      omega
    refine xyield_of (hY pre s.1 M hJ hlen) ?_
    rintro v M2 (⟨rfl, hJ2, hn2, _, hk2⟩ | ⟨rfl, hJ2⟩)
    · have hc2 : M2.get c4 = some (.cells (spC s) false) := (hk2 c4 hc0 hc1 ⟨_, _, _, hc⟩).trans hc
      have hw0 := write_full (M := M2.push (.cells [.int .i64 0, .int .i64 0, .str []] false)) (b := M2.next) (vs := spC s) (Mem.get_push_same _ _) rfl rfl
      simp -dsimp only [↓x_seq', ↓x_ops, ↓x_skip, ↓x_ret, ↓x_exit, ↓x_block', ↓x_cond', cond_true', cond_false', ↓i_nil, ↓i_plain, ↓i_guard, xs_val, xs_call, xs_yield, xg_true, xg_false, ↓n_normal, ↓n_ret, ↓n_exit, ↓b_normal, ↓b_ret, ↓b_exit, ↓xe_normal, ↓xe_ret, e_some, yieldOf, go_sem, ↓reduceIte, Nat.reduceEqDiff, Nat.reduceLT, Nat.reduceSub, X_tree_Tree_up_c1_0, X_tree_Tree_up_c1_1, X_tree_Tree_up_c1_2, X_tree_Tree_up_c1_3, X_tree_Tree_up_c1_4, X_tree_Tree_up_c1_5, h4, vload, vptr, Mem.read, hc2, hrd3, Nat.add_zero, vstore, V.cells, spC_len, hw0, Nat.reduceEqDiff]
      have hJ3 := hps _ _ (.cells [.int .i64 0, .int .i64 0, .str []] false) (.cells (spC s) false) hJ2
      have hc3 : ((M2.push (.cells [.int .i64 0, .int .i64 0, .str []] false)).set M2.next (.cells (spC s) false)).get M2.next = some (.cells (spC s) false) := Mem.get_set_same _ _ _
      have hn3 : ((M2.push (.cells [.int .i64 0, .int .i64 0, .str []] false)).set M2.next (.cells (spC s) false)).next = M2.next + 1 := rfl
      generalize (M2.push (.cells [.int .i64 0, .int .i64 0, .str []] false)).set M2.next (.cells (spC s) false) = M3 at *
      obtain ⟨g1, g2, g3⟩ := hG _ _ hJ3
      refine x_dops dok0 ?_
      have hlk := look_is g3 s.1
      have hw3 := write_full (M := M3) (b := M2.next) (vs := spC ((getS l s.1).getD sp0)) hc3 rfl rfl
      have hJ4 : J (pre ++ [s.1]) (M3.set M2.next (.cells (spC ((getS l s.1).getD sp0)) false)) := hsp _ M3 M2.next ((getS l s.1).getD sp0).1.1 ((getS l s.1).getD sp0).1.2 ((getS l s.1).getD sp0).2 hJ3 (by omega) ⟨_, _, _, hc3⟩
      simp -dsimp only [↓w_seq, ↓w_ops, ↓w_skip, ↓w_ret, ↓w_exit, ↓w_scope, ↓w_block, ↓w_cond, cond_true', cond_false', ↓t_nil, ↓t_plain, ↓t_guard, ↓t_gagain, ↓t_again, t_val, t_call, g_true, g_false, ga_true, ga_false, a_val, a_call, ↓n_normal, ↓n_ret, ↓n_exit, ↓b_normal, ↓b_ret, ↓b_exit, ↓e_normal, ↓e_ret, e_some, go_sem, ↓reduceIte, Nat.reduceEqDiff, Nat.reduceLT, Nat.reduceSub, X_tree_Tree_up_c1_0, X_tree_Tree_up_c1_1, X_tree_Tree_up_c1_2, X_tree_Tree_up_c1_3, X_tree_Tree_up_c1_4, X_tree_Tree_up_c1_5, h1, vload, vptr, Mem.read, g1, g2, hc3, hrd2, Nat.add_zero, List.getElem?_cons_zero, List.getElem?_cons_succ, hlk, lookV_parts, vstore, V.cells, spC_len, hw3, Nat.reduceEqDiff]
      have hc4 : (M3.set M2.next (.cells (spC ((getS l s.1).getD sp0)) false)).get M2.next = some (.cells (spC ((getS l s.1).getD sp0)) false) := Mem.get_set_same _ _ _
      have hn4 : (M3.set M2.next (.cells (spC ((getS l s.1).getD sp0)) false)).next = M2.next + 1 := hn3
      generalize M3.set M2.next (.cells (spC ((getS l s.1).getD sp0)) false) = M4 at *
      have q1 : M0.next ≤ M2.next := by omega
      have q2 : M0.next ≤ M4.next := by rw [hn4]; omega
      have q3 : M2.next < M4.next := by rw [hn4]; exact Nat.lt_succ_self _
      have q4 : pre ++ [s.1] ++ r = path := by rw [← hpre]; simp
      have q5 := hpath.look
      clear hw3 hw0 hlk hG hY hsp hps hQ hQx
      have ih' := ih (pre ++ [s.1]) (getS l s.1) M2.next
      have ih2 := fun fr => ih' fr M4 q5 q4 hN hJ4 q2 q1 q3 hc4
      refine ih2 _ ?_ ?_ ?_ ?_
      all_goals simp only [go_sem, ↓reduceIte, Nat.reduceEqDiff, Nat.reduceLT, Nat.reduceSub, h0, h1]
    · simp -dsimp only [↓x_seq', ↓x_ops, ↓x_skip, ↓x_ret, ↓x_exit, ↓x_block', ↓x_cond', cond_true', cond_false', ↓i_nil, ↓i_plain, ↓i_guard, xs_val, xs_call, xs_yield, xg_true, xg_false, ↓n_normal, ↓n_ret, ↓n_exit, ↓b_normal, ↓b_ret, ↓b_exit, ↓xe_normal, ↓xe_ret, e_some, yieldOf, go_sem, ↓reduceIte, Nat.reduceEqDiff, Nat.reduceLT, Nat.reduceSub, X_tree_Tree_up_c1_0, X_tree_Tree_up_c1_1, X_tree_Tree_up_c1_2, X_tree_Tree_up_c1_3, X_tree_Tree_up_c1_4, X_tree_Tree_up_c1_5]
      refine hQx _ _ _ ⟨r, ?_⟩ hJ2
      rw [← hpre]; simp
end Go.Am.Tryz


/- tree.up's function, as one that is ranged over. -/
namespace Go.Am.Tryz
open Go Go.Am Go.Proofs Go.Sort Go.Shelf
set_option maxRecDepth 100000
set_option linter.unusedSimpArgs false
set_option linter.unusedVariables false

set_option maxHeartbeats 1000000 in
theorem Up_seq (bt bn tc bm : Nat) (rt rn rc : Bool) (l : Tr) (n : St) (path : List St) (hp : PathN l n path) :
    SeqP F_tree_Tree_up_c1 [] [.ptr (some (bt, 0)), .ptr (some (bn, 0))] (fun x => .agg (stC x))
      (fun M => (M.get bt = some (.cells [.ptr (some (tc, 0))] rt) ∧ M.get tc = some (.cells [.map (some bm)] rc) ∧ mapAt M bm = some (encM l)) ∧ M.get bn = some (.cells (stC n) rn)) (fun ys => ys = path) (fun pre => pre <+: path) path.length := by
  intro b J Jx M hG hpu hps hi hsp hY hJ
  refine XRuns.walk mixed Tryz.func136 b_tree_Tree_up_c1 n_tree_Tree_up_c1 r_tree_Tree_up_c1 (by rfl) ?_
  unfold X_tree_Tree_up_c1
  obtain ⟨⟨g1, g2, g3⟩, g4⟩ := hG _ _ hJ
  have hlk := look_is g3 n
  have hrd2 : rdCells (stC n) 0 2 = some (stC n) := rfl
  have hw0 := write_full (M := M.push (.cells [.int .i64 0, .int .i64 0, .str []] false)) (b := M.next) (vs := spC ((getS l n).getD sp0)) (Mem.get_push_same _ _) rfl rfl
  simp -dsimp only [↓x_seq', ↓x_ops, ↓x_skip, ↓x_ret, ↓x_exit, ↓x_block', ↓x_cond', cond_true', cond_false', ↓i_nil, ↓i_plain, ↓i_guard, xs_val, xs_call, xs_yield, xg_true, xg_false, ↓n_normal, ↓n_ret, ↓n_exit, ↓b_normal, ↓b_ret, ↓b_exit, ↓xe_normal, ↓xe_ret, e_some, yieldOf, go_sem, ↓reduceIte, Nat.reduceEqDiff, Nat.reduceLT, Nat.reduceSub, List.singleton_append, List.cons_append, List.nil_append]
  refine x_dops dok0 ?_
  simp -dsimp only [↓w_seq, ↓w_ops, ↓w_skip, ↓w_ret, ↓w_exit, ↓w_scope, ↓w_block, ↓w_cond, cond_true', cond_false', ↓t_nil, ↓t_plain, ↓t_guard, ↓t_gagain, ↓t_again, t_val, t_call, g_true, g_false, ga_true, ga_false, a_val, a_call, ↓n_normal, ↓n_ret, ↓n_exit, ↓b_normal, ↓b_ret, ↓b_exit, ↓e_normal, ↓e_ret, e_some, go_sem, ↓reduceIte, Nat.reduceEqDiff, Nat.reduceLT, Nat.reduceSub, X_tree_Tree_up_c1_0, X_tree_Tree_up_c1_1, X_tree_Tree_up_c1_2, X_tree_Tree_up_c1_3, X_tree_Tree_up_c1_4, X_tree_Tree_up_c1_5, vload, vptr, Mem.read, g1, g2, g4, hrd2, Nat.add_zero, List.getElem?_cons_zero, List.getElem?_cons_succ, hlk, lookV_parts, vstore, V.cells, spC_len, hw0, Nat.reduceEqDiff, List.singleton_append, List.cons_append, List.nil_append]
  have hJ1 := hps _ _ (.cells [.int .i64 0, .int .i64 0, .str []] false) (.cells (spC ((getS l n).getD sp0)) false) hJ
  have hc1 : ((M.push (.cells [.int .i64 0, .int .i64 0, .str []] false)).set M.next (.cells (spC ((getS l n).getD sp0)) false)).get M.next = some (.cells (spC ((getS l n).getD sp0)) false) := Mem.get_set_same _ _ _
  have hn1 : ((M.push (.cells [.int .i64 0, .int .i64 0, .str []] false)).set M.next (.cells (spC ((getS l n).getD sp0)) false)).next = M.next + 1 := rfl
  generalize (M.push (.cells [.int .i64 0, .int .i64 0, .str []] false)).set M.next (.cells (spC ((getS l n).getD sp0)) false) = M1 at *
  have q3 : M.next < M1.next := by rw [hn1]; exact Nat.lt_succ_self _
  have q2 : M.next ≤ M1.next := Nat.le_of_lt q3
  have q5 := hp.look
  have hG' : ∀ pre M, J pre M → M.get bt = some (.cells [.ptr (some (tc, 0))] rt) ∧ M.get tc = some (.cells [.map (some bm)] rc) ∧ mapAt M bm = some (encM l) := fun pre M h => (hG pre M h).1
  clear hw0 hlk hpu hi
  simp -dsimp only [↓x_seq', ↓x_ops, ↓x_skip, ↓x_ret, ↓x_exit, ↓x_block', ↓x_cond', cond_true', cond_false', ↓i_nil, ↓i_plain, ↓i_guard, xs_val, xs_call, xs_yield, xg_true, xg_false, ↓n_normal, ↓n_ret, ↓n_exit, ↓b_normal, ↓b_ret, ↓b_exit, ↓xe_normal, ↓xe_ret, e_some, yieldOf, go_sem, ↓reduceIte, Nat.reduceEqDiff, Nat.reduceLT, Nat.reduceSub]
  refine ⟨path.length + 1, ?_⟩
  have key := fun Q hQ hQx => Up_loop b bt tc bm rt rc l path.length J Jx M path hG' hps hsp hY Q hQ hQx path [] (getS l n) M.next
  have key2 := fun Q hQ hQx fr => key Q hQ hQx fr M1 q5 rfl (Nat.le_refl _) hJ1 q2 (Nat.le_refl _) q3 hc1
  refine key2 _ ?_ ?_ _ ?_ ?_ ?_ ?_
  · intro fr M' h
    simp -dsimp only [↓x_seq', ↓x_ops, ↓x_skip, ↓x_ret, ↓x_exit, ↓x_block', ↓x_cond', cond_true', cond_false', ↓i_nil, ↓i_plain, ↓i_guard, xs_val, xs_call, xs_yield, xg_true, xg_false, ↓n_normal, ↓n_ret, ↓n_exit, ↓b_normal, ↓b_ret, ↓b_exit, ↓xe_normal, ↓xe_ret, e_some, yieldOf, go_sem, ↓reduceIte, Nat.reduceEqDiff, Nat.reduceLT, Nat.reduceSub]
    exact .inl ⟨path, rfl, h⟩
  · intro pre fr M' hpre h
    simp -dsimp only [↓x_seq', ↓x_ops, ↓x_skip, ↓x_ret, ↓x_exit, ↓x_block', ↓x_cond', cond_true', cond_false', ↓i_nil, ↓i_plain, ↓i_guard, xs_val, xs_call, xs_yield, xg_true, xg_false, ↓n_normal, ↓n_ret, ↓n_exit, ↓b_normal, ↓b_ret, ↓b_exit, ↓xe_normal, ↓xe_ret, e_some, yieldOf, go_sem, ↓reduceIte, Nat.reduceEqDiff, Nat.reduceLT, Nat.reduceSub]
    exact .inr ⟨pre, hpre, h⟩
  all_goals simp only [go_sem, ↓reduceIte, Nat.reduceEqDiff, Nat.reduceLT, Nat.reduceSub]
end Go.Am.Tryz


/- Small functions of the tree: none, node, up; Above. -/
namespace Go.Am.Tryz
open Go Go.Am Go.Proofs Go.Sort Go.Shelf
set_option maxRecDepth 100000
set_option linter.unusedSimpArgs false
set_option linter.unusedVariables false

theorem nil_ptr : vnil .ptr (.ptr none) (.ptr none) = some true := rfl
theorem nil_ptr' (x : Nat × Nat) : vnil .ptr (.ptr (some x)) (.ptr none) = some false := rfl
theorem nil_map : vnil .map (.map none) (.map none) = some true := rfl
theorem nil_map' (x : Nat) : vnil .map (.map (some x)) (.map none) = some false := rfl

theorem none_nil (D : Decls) (hp : D.prim F_tree_Tree_none = none) (hc : D.code.get F_tree_Tree_none = some A_tree_Tree_none) (M : Mem) : Runs D F_tree_Tree_none [.ptr none] M fun v M' => v = .bool true ∧ M' = M := by
  refine Runs.walk (F := A_tree_Tree_none) hp hc (by rfl) ?_
  unfold A_tree_Tree_none
  simp -dsimp only [↓w_seq, ↓w_ops, ↓w_skip, ↓w_ret, ↓w_exit, ↓w_scope, ↓w_block, ↓w_cond, cond_true', cond_false', ↓t_nil, ↓t_plain, ↓t_guard, ↓t_gagain, ↓t_again, t_val, t_call, g_true, g_false, ga_true, ga_false, a_val, a_call, ↓n_normal, ↓n_ret, ↓n_exit, ↓b_normal, ↓b_ret, ↓b_exit, ↓e_normal, ↓e_ret, e_some, go_sem, ↓reduceIte, Nat.reduceEqDiff, Nat.reduceLT, Nat.reduceSub, A_tree_Tree_none_0, A_tree_Tree_none_1, nil_ptr, nil_ptr', nil_map, nil_map', Option.map_some]
  exact ⟨trivial, trivial⟩
theorem none_empty (D : Decls) (hp : D.prim F_tree_Tree_none = none) (hc : D.code.get F_tree_Tree_none = some A_tree_Tree_none) (M : Mem) (tc : Nat) (rc : Bool) (h : M.get tc = some (.cells [.map none] rc)) : Runs D F_tree_Tree_none [.ptr (some (tc, 0))] M fun v M' => v = .bool true ∧ M' = M := by
  refine Runs.walk (F := A_tree_Tree_none) hp hc (by rfl) ?_
  unfold A_tree_Tree_none
  simp -dsimp only [↓w_seq, ↓w_ops, ↓w_skip, ↓w_ret, ↓w_exit, ↓w_scope, ↓w_block, ↓w_cond, cond_true', cond_false', ↓t_nil, ↓t_plain, ↓t_guard, ↓t_gagain, ↓t_again, t_val, t_call, g_true, g_false, ga_true, ga_false, a_val, a_call, ↓n_normal, ↓n_ret, ↓n_exit, ↓b_normal, ↓b_ret, ↓b_exit, ↓e_normal, ↓e_ret, e_some, go_sem, ↓reduceIte, Nat.reduceEqDiff, Nat.reduceLT, Nat.reduceSub, A_tree_Tree_none_0, A_tree_Tree_none_1, nil_ptr, nil_ptr', nil_map, nil_map', Option.map_some, vload, vptr, Mem.read, h, Nat.add_zero, List.getElem?_cons_zero]
  exact ⟨trivial, trivial⟩
theorem none_some (D : Decls) (hp : D.prim F_tree_Tree_none = none) (hc : D.code.get F_tree_Tree_none = some A_tree_Tree_none) (M : Mem) (tc bm : Nat) (rc : Bool) (h : M.get tc = some (.cells [.map (some bm)] rc)) : Runs D F_tree_Tree_none [.ptr (some (tc, 0))] M fun v M' => v = .bool false ∧ M' = M := by
  refine Runs.walk (F := A_tree_Tree_none) hp hc (by rfl) ?_
  unfold A_tree_Tree_none
  simp -dsimp only [↓w_seq, ↓w_ops, ↓w_skip, ↓w_ret, ↓w_exit, ↓w_scope, ↓w_block, ↓w_cond, cond_true', cond_false', ↓t_nil, ↓t_plain, ↓t_guard, ↓t_gagain, ↓t_again, t_val, t_call, g_true, g_false, ga_true, ga_false, a_val, a_call, ↓n_normal, ↓n_ret, ↓n_exit, ↓b_normal, ↓b_ret, ↓b_exit, ↓e_normal, ↓e_ret, e_some, go_sem, ↓reduceIte, Nat.reduceEqDiff, Nat.reduceLT, Nat.reduceSub, A_tree_Tree_none_0, A_tree_Tree_none_1, nil_ptr, nil_ptr', nil_map, nil_map', Option.map_some, vload, vptr, Mem.read, h, Nat.add_zero, List.getElem?_cons_zero]
  exact ⟨trivial, trivial⟩

theorem node_runs (D : Decls) (hp : D.prim F_tree_Tree_node = none) (hc : D.code.get F_tree_Tree_node = some A_tree_Tree_node) (M : Mem) (tc bm : Nat) (rc : Bool) (l : Tr) (n : St) (htc : tc < M.next) (hbm : bm < M.next) (h : M.get tc = some (.cells [.map (some bm)] rc)) (h2 : mapAt M bm = some (encM l)) :
    Runs D F_tree_Tree_node [.ptr (some (tc, 0)), .agg (stC n)] M fun v M' => v = .bool (getS l n).isSome ∧ Grew M M' := by
  refine Runs.walk (F := A_tree_Tree_node) hp hc (by rfl) ?_
  unfold A_tree_Tree_node
  have k1 : (M.push (.cells (stC n) false)).get tc = some (.cells [.map (some bm)] rc) := (Mem.get_push_ne _ _ (by omega)).trans h
  have k2 : mapAt (M.push (.cells (stC n) false)) bm = some (encM l) := by
    unfold mapAt at h2 ⊢
    rw [Mem.get_push_ne _ _ (by omega)]
    exact h2
  have k3 : (M.push (.cells (stC n) false)).get M.next = some (.cells (stC n) false) := Mem.get_push_same _ _
  have hn1 : (M.push (.cells (stC n) false)).next = M.next + 1 := rfl
  have hG1 : Grew M (M.push (.cells (stC n) false)) := Grew.push _ _
  simp -dsimp only [↓w_seq, ↓w_ops, ↓w_skip, ↓w_ret, ↓w_exit, ↓w_scope, ↓w_block, ↓w_cond, cond_true', cond_false', ↓t_nil, ↓t_plain, ↓t_guard, ↓t_gagain, ↓t_again, t_val, t_call, g_true, g_false, ga_true, ga_false, a_val, a_call, ↓n_normal, ↓n_ret, ↓n_exit, ↓b_normal, ↓b_ret, ↓b_exit, ↓e_normal, ↓e_ret, e_some, go_sem, ↓reduceIte, Nat.reduceEqDiff, Nat.reduceLT, Nat.reduceSub, A_tree_Tree_node_0, A_tree_Tree_node_1, A_tree_Tree_node_2, V.cells]
  generalize M.push (.cells (stC n) false) = M1 at *
  have hlk := look_is k2 n
  have hrd2 : rdCells (stC n) 0 2 = some (stC n) := rfl
  have hw0 := write_full (M := M1.push (.cells [.int .i64 0, .int .i64 0, .str []] false)) (b := M1.next) (vs := spC ((getS l n).getD sp0)) (Mem.get_push_same _ _) rfl rfl
  simp -dsimp only [↓w_seq, ↓w_ops, ↓w_skip, ↓w_ret, ↓w_exit, ↓w_scope, ↓w_block, ↓w_cond, cond_true', cond_false', ↓t_nil, ↓t_plain, ↓t_guard, ↓t_gagain, ↓t_again, t_val, t_call, g_true, g_false, ga_true, ga_false, a_val, a_call, ↓n_normal, ↓n_ret, ↓n_exit, ↓b_normal, ↓b_ret, ↓b_exit, ↓e_normal, ↓e_ret, e_some, go_sem, ↓reduceIte, Nat.reduceEqDiff, Nat.reduceLT, Nat.reduceSub, A_tree_Tree_node_0, A_tree_Tree_node_1, A_tree_Tree_node_2, vload, vptr, Mem.read, k1, k3, hrd2, Nat.add_zero, List.getElem?_cons_zero, List.getElem?_cons_succ, hlk, lookV_parts, vstore, V.cells, spC_len, hw0, Nat.reduceEqDiff]
  have hu := Upd.set (M1.push (.cells [.int .i64 0, .int .i64 0, .str []] false)) M1.next (.cells (spC ((getS l n).getD sp0)) false)
  exact ⟨trivial, (hG1.trans (Grew.push _ _)).upd (by omega) hu⟩

theorem up_runs (D : Decls) (hp : D.prim F_tree_Tree_up = none) (hc : D.code.get F_tree_Tree_up = some A_tree_Tree_up) (M : Mem) (t : V) (ht : t.one = true) (htc : t.cells = [t]) (n : St) :
    Runs D F_tree_Tree_up [t, .agg (stC n)] M fun v M' => v = .fn F_tree_Tree_up_c1 [] [.ptr (some (M.next, 0)), .ptr (some (M.next + 1, 0))] ∧ M' = (M.push (.cells [t] false)).push (.cells (stC n) false) := by
  refine Runs.walk (F := A_tree_Tree_up) hp hc (by rfl) ?_
  unfold A_tree_Tree_up
  have hcn : V.cells (.agg (stC n)) = stC n := rfl
  simp -dsimp only [↓w_seq, ↓w_ops, ↓w_skip, ↓w_ret, ↓w_exit, ↓w_scope, ↓w_block, ↓w_cond, cond_true', cond_false', ↓t_nil, ↓t_plain, ↓t_guard, ↓t_gagain, ↓t_again, t_val, t_call, g_true, g_false, ga_true, ga_false, a_val, a_call, ↓n_normal, ↓n_ret, ↓n_exit, ↓b_normal, ↓b_ret, ↓b_exit, ↓e_normal, ↓e_ret, e_some, go_sem, ↓reduceIte, Nat.reduceEqDiff, Nat.reduceLT, Nat.reduceSub, A_tree_Tree_up_0, A_tree_Tree_up_1, htc, hcn, Mem.next_push]
  exact ⟨trivial, trivial⟩
end Go.Am.Tryz


/- tree.Above. -/
namespace Go.Am.Tryz
open Go Go.Am Go.Proofs Go.Sort Go.Shelf
set_option maxRecDepth 100000
set_option linter.unusedSimpArgs false
set_option linter.unusedVariables false

theorem mapAt_keep {M M' : Mem} {b : Nat} {es : List (V × V)} (h : mapAt M b = some es) (hk : M'.get b = M.get b) : mapAt M' b = some es := by
  unfold mapAt at h ⊢
  rw [hk]
  exact h
set_option maxHeartbeats 1000000 in
theorem Above_runs (M : Mem) (tc bm : Nat) (rc : Bool) (l : Tr) (n : St) (path : List St) (htc : tc < M.next) (hbm : bm < M.next) (h : M.get tc = some (.cells [.map (some bm)] rc)) (h2 : mapAt M bm = some (encM l)) (hp : PathN l n path) (hN : (path.length + 1) * 16 ≤ maxRoom) :
    XP F_tree_Tree_Above [.ptr (some (tc, 0)), .agg (stC n)] M fun v M' => (∀ c, c < M.next → M'.get c = M.get c) ∧ Hold M.next M' 2 v path.length (elSt.all path) ∧ (path = [] → v = .slice none 0 (.exact 0)) := by
  refine XRuns.walk mixed Tryz.func65 b_tree_Tree_Above n_tree_Tree_Above r_tree_Tree_Above (by rfl) ?_
  unfold X_tree_Tree_Above
  have k1 : (M.push (.cells (stC n) false)).get tc = some (.cells [.map (some bm)] rc) := (Mem.get_push_ne _ _ (by omega)).trans h
  have k2 : mapAt (M.push (.cells (stC n) false)) bm = some (encM l) := mapAt_keep h2 (Mem.get_push_ne _ _ (by omega))
  have k3 : (M.push (.cells (stC n) false)).get M.next = some (.cells (stC n) false) := Mem.get_push_same _ _
  have hn1 : (M.push (.cells (stC n) false)).next = M.next + 1 := rfl
  have hG1 : Grew M (M.push (.cells (stC n) false)) := Grew.push _ _
  have hcn : V.cells (.agg (stC n)) = stC n := rfl
  have hrd2 : rdCells (stC n) 0 2 = some (stC n) := rfl
  simp -dsimp only [↓x_seq', ↓x_ops, ↓x_skip, ↓x_ret, ↓x_exit, ↓x_block', ↓x_cond', cond_true', cond_false', ↓i_nil, ↓i_plain, ↓i_guard, xs_val, xs_call, xs_yield, xg_true, xg_false, ↓n_normal, ↓n_ret, ↓n_exit, ↓b_normal, ↓b_ret, ↓b_exit, ↓xe_normal, ↓xe_ret, e_some, yieldOf, go_sem, ↓reduceIte, Nat.reduceEqDiff, Nat.reduceLT, Nat.reduceSub, X_tree_Tree_Above_0, X_tree_Tree_Above_1, X_tree_Tree_Above_2, X_tree_Tree_Above_3, hcn]
  generalize M.push (.cells (stC n) false) = M1 at *
  refine xcall_of (XRuns.of_runs dok0 (none_some D0 rfl (by rfl) M1 tc bm rc k1)) ?_
  intro v M2 hv
  rw [hv.1, hv.2]
  simp -dsimp only [↓x_seq', ↓x_ops, ↓x_skip, ↓x_ret, ↓x_exit, ↓x_block', ↓x_cond', cond_true', cond_false', ↓i_nil, ↓i_plain, ↓i_guard, xs_val, xs_call, xs_yield, xg_true, xg_false, ↓n_normal, ↓n_ret, ↓n_exit, ↓b_normal, ↓b_ret, ↓b_exit, ↓xe_normal, ↓xe_ret, e_some, yieldOf, go_sem, ↓reduceIte, Nat.reduceEqDiff, Nat.reduceLT, Nat.reduceSub, X_tree_Tree_Above_0, X_tree_Tree_Above_1, X_tree_Tree_Above_2, X_tree_Tree_Above_3, vload, Mem.read, k3, hrd2]
  refine xcall_of (XRuns.of_runs dok0 (up_runs D0 rfl (by rfl) M1 (.ptr (some (tc, 0))) rfl rfl n)) ?_
  intro v M2 hv
  rw [hv.1]
  have hG2 : Grew M1 M2 := by rw [hv.2]; exact (Grew.push _ _).trans (Grew.push _ _)
  have b1 : M2.get M1.next = some (.cells [.ptr (some (tc, 0))] false) := by rw [hv.2, Mem.get_push_ne _ _ (by simp), Mem.get_push_same]
  have b2 : M2.get (M1.next + 1) = some (.cells (stC n) false) := by rw [hv.2]; exact Mem.get_push_same (M1.push _) _
  have hn2 : M2.next = M1.next + 2 := by rw [hv.2]; rfl
  clear hv
  simp -dsimp only [↓x_seq', ↓x_ops, ↓x_skip, ↓x_ret, ↓x_exit, ↓x_block', ↓x_cond', cond_true', cond_false', ↓i_nil, ↓i_plain, ↓i_guard, xs_val, xs_call, xs_yield, xg_true, xg_false, ↓n_normal, ↓n_ret, ↓n_exit, ↓b_normal, ↓b_ret, ↓b_exit, ↓xe_normal, ↓xe_ret, e_some, yieldOf, go_sem, ↓reduceIte, Nat.reduceEqDiff, Nat.reduceLT, Nat.reduceSub, X_tree_Tree_Above_0, X_tree_Tree_Above_1, X_tree_Tree_Above_2, X_tree_Tree_Above_3]
  have c1 : M2.get tc = some (.cells [.map (some bm)] rc) := (hG2.old _ (by omega)).trans k1
  have c2 : mapAt M2 bm = some (encM l) := mapAt_keep k2 (hG2.old _ (by omega))
  refine xcall_of (Collect_runs (Up_seq M1.next (M1.next + 1) tc bm false false rc l n path hp) hN M2 ?_) ?_
  · intro M' hk _
    exact ⟨⟨(hk _ (by omega)).trans b1, (hk _ (by omega)).trans c1, mapAt_keep c2 (hk _ (by omega))⟩, (hk _ (by omega)).trans b2⟩
  · intro v M3 hv
    obtain ⟨xs, rfl, ho, hH, hnil⟩ := hv
    simp -dsimp only [↓x_seq', ↓x_ops, ↓x_skip, ↓x_ret, ↓x_exit, ↓x_block', ↓x_cond', cond_true', cond_false', ↓i_nil, ↓i_plain, ↓i_guard, xs_val, xs_call, xs_yield, xg_true, xg_false, ↓n_normal, ↓n_ret, ↓n_exit, ↓b_normal, ↓b_ret, ↓b_exit, ↓xe_normal, ↓xe_ret, e_some, yieldOf, go_sem, ↓reduceIte, Nat.reduceEqDiff, Nat.reduceLT, Nat.reduceSub, X_tree_Tree_Above_0, X_tree_Tree_Above_1, X_tree_Tree_Above_2, X_tree_Tree_Above_3]
    refine ⟨fun c hc => ?_, hH.lower (by omega), hnil⟩
    rw [ho c (by omega), hG2.old c (by omega)]
    exact hG1.old c hc
end Go.Am.Tryz


/- tree.Above as a part. -/
namespace Go.Am.Tryz
open Go Go.Am Go.Proofs Go.Sort Go.Shelf
set_option maxRecDepth 100000
set_option linter.unusedSimpArgs false
set_option linter.unusedVariables false

def decM : List (V × V) → Option Tr
  | [] => some []
  | (.agg [.int .i64 a, .int .i64 b], .agg [.int .i64 c, .int .i64 d, .str k]) :: r => (decM r).map (((a, b), ((c, d), k)) :: ·)
  | _ :: _ => none
theorem decM_is : ∀ {es : List (V × V)} {l : Tr}, decM es = some l → es = encM l
  | [], l, h => by cases h; rfl
  | x :: r, l, h => by
    unfold decM at h
    split at h
    · rename_i h'; cases h'
    · rename_i a b c d k r' he
      cases he
      simp only [Option.map_eq_some_iff] at h
      obtain ⟨l', h1, rfl⟩ := h
      rw [decM_is h1]
      rfl
    · cases h

theorem Above_nil (M : Mem) (n : St) : XP F_tree_Tree_Above [.ptr none, .agg (stC n)] M fun v M' => v = .slice none 0 (.exact 0) ∧ ∀ c, c < M.next → M'.get c = M.get c := by
  refine XRuns.walk mixed Tryz.func65 b_tree_Tree_Above n_tree_Tree_Above r_tree_Tree_Above (by rfl) ?_
  unfold X_tree_Tree_Above
  have hcn : V.cells (.agg (stC n)) = stC n := rfl
  simp -dsimp only [↓x_seq', ↓x_ops, ↓x_skip, ↓x_ret, ↓x_exit, ↓x_block', ↓x_cond', cond_true', cond_false', ↓i_nil, ↓i_plain, ↓i_guard, xs_val, xs_call, xs_yield, xg_true, xg_false, ↓n_normal, ↓n_ret, ↓n_exit, ↓b_normal, ↓b_ret, ↓b_exit, ↓xe_normal, ↓xe_ret, e_some, yieldOf, go_sem, ↓reduceIte, Nat.reduceEqDiff, Nat.reduceLT, Nat.reduceSub, X_tree_Tree_Above_0, X_tree_Tree_Above_1, X_tree_Tree_Above_2, X_tree_Tree_Above_3, hcn]
  refine xcall_of (XRuns.of_runs dok0 (none_nil D0 rfl (by rfl) _)) ?_
  intro v M2 hv
  rw [hv.1, hv.2]
  simp -dsimp only [↓x_seq', ↓x_ops, ↓x_skip, ↓x_ret, ↓x_exit, ↓x_block', ↓x_cond', cond_true', cond_false', ↓i_nil, ↓i_plain, ↓i_guard, xs_val, xs_call, xs_yield, xg_true, xg_false, ↓n_normal, ↓n_ret, ↓n_exit, ↓b_normal, ↓b_ret, ↓b_exit, ↓xe_normal, ↓xe_ret, e_some, yieldOf, go_sem, ↓reduceIte, Nat.reduceEqDiff, Nat.reduceLT, Nat.reduceSub, X_tree_Tree_Above_0, X_tree_Tree_Above_1, X_tree_Tree_Above_2, X_tree_Tree_Above_3]
  exact ⟨trivial, fun c hc => Mem.get_push_ne _ _ (by omega)⟩
theorem Above_empty (M : Mem) (n : St) (tc : Nat) (rc : Bool) (htc : tc < M.next) (h : M.get tc = some (.cells [.map none] rc)) : XP F_tree_Tree_Above [.ptr (some (tc, 0)), .agg (stC n)] M fun v M' => v = .slice none 0 (.exact 0) ∧ ∀ c, c < M.next → M'.get c = M.get c := by
  refine XRuns.walk mixed Tryz.func65 b_tree_Tree_Above n_tree_Tree_Above r_tree_Tree_Above (by rfl) ?_
  unfold X_tree_Tree_Above
  have hcn : V.cells (.agg (stC n)) = stC n := rfl
  have k1 : (M.push (.cells (stC n) false)).get tc = some (.cells [.map none] rc) := (Mem.get_push_ne _ _ (by omega)).trans h
  simp -dsimp only [↓x_seq', ↓x_ops, ↓x_skip, ↓x_ret, ↓x_exit, ↓x_block', ↓x_cond', cond_true', cond_false', ↓i_nil, ↓i_plain, ↓i_guard, xs_val, xs_call, xs_yield, xg_true, xg_false, ↓n_normal, ↓n_ret, ↓n_exit, ↓b_normal, ↓b_ret, ↓b_exit, ↓xe_normal, ↓xe_ret, e_some, yieldOf, go_sem, ↓reduceIte, Nat.reduceEqDiff, Nat.reduceLT, Nat.reduceSub, X_tree_Tree_Above_0, X_tree_Tree_Above_1, X_tree_Tree_Above_2, X_tree_Tree_Above_3, hcn]
  refine xcall_of (XRuns.of_runs dok0 (none_empty D0 rfl (by rfl) _ tc rc k1)) ?_
  intro v M2 hv
  rw [hv.1, hv.2]
  simp -dsimp only [↓x_seq', ↓x_ops, ↓x_skip, ↓x_ret, ↓x_exit, ↓x_block', ↓x_cond', cond_true', cond_false', ↓i_nil, ↓i_plain, ↓i_guard, xs_val, xs_call, xs_yield, xg_true, xg_false, ↓n_normal, ↓n_ret, ↓n_exit, ↓b_normal, ↓b_ret, ↓b_exit, ↓xe_normal, ↓xe_ret, e_some, yieldOf, go_sem, ↓reduceIte, Nat.reduceEqDiff, Nat.reduceLT, Nat.reduceSub, X_tree_Tree_Above_0, X_tree_Tree_Above_1, X_tree_Tree_Above_2, X_tree_Tree_Above_3]
  exact ⟨trivial, fun c hc => Mem.get_push_ne _ _ (by omega)⟩

/-- What stands above, read off memory. -/
def pAbove (args : List V) (M : Mem) : Option KeepR :=
  match args with
  | [.ptr none, .agg [.int .i64 a, .int .i64 b]] => some (.flat (.slice none 0 (.exact 0)))
  | [.ptr (some (tc, 0)), .agg [.int .i64 a, .int .i64 b]] => (match M.get tc with
    | some (.cells [.map none] _) => some (.flat (.slice none 0 (.exact 0)))
    | some (.cells [.map (some bm)] _) => (match M.get bm with
      | some (.map es) => (decM es).bind fun l => (upL l (l.length + 1) (a, b)).bind fun path => cond (Nat.ble ((path.length + 1) * 16) maxRoom) (some (match path with
        | [] => .flat (.slice none 0 (.exact 0))
        | x :: xs => .row (xs.length + 1) 2 (elSt.all (x :: xs)))) none
      | _ => none)
    | _ => none)
  | _ => none

theorem pAbove_ok : CallOK Tryz.prog gl0 fun f' args M => if f' = F_tree_Tree_Above then (pAbove args M).map fun r => r.res M else none := by
  refine callOK_keep ⟨_, Tryz.func65, (by kernel_rfl), (by kernel_rfl)⟩ ?_
  intro args M r h hwf
  refine ⟨[], fun _ _ _ _ _ b hb => absurd hb (by simp), fun Mz hz => ?_⟩
  have hMz : ∀ c, Mz.get c = M.get c := fun c => hz.other c (by simp)
  have hlt : ∀ c o, Mz.get c = some o → c < Mz.next := fun c o hc => by
    rcases Nat.lt_or_ge c Mz.next with h1 | h1
    · exact h1
    · rw [hMz, hwf c (by rw [← hz.next]; exact h1)] at hc; cases hc
  unfold pAbove at h
  split at h
  · rename_i a b
    cases h
    refine (Above_nil Mz (a, b)).mono ?_
    intro v M' hv
    exact ⟨fun c hc => hv.2 c (by rw [hz.next]; exact hc), rfl, hv.1⟩
  · rename_i tc a b
    split at h
    · rename_i rc htc
      cases h
      have htz : Mz.get tc = some (.cells [.map none] rc) := (hMz tc).trans htc
      refine (Above_empty Mz (a, b) tc rc (hlt _ _ htz) htz).mono ?_
      intro v M' hv
      exact ⟨fun c hc => hv.2 c (by rw [hz.next]; exact hc), rfl, hv.1⟩
    · rename_i bm rc htc
      split at h
      · rename_i es hbm
        simp only [Option.bind_eq_some_iff] at h
        obtain ⟨l, hl, path, hp, h⟩ := h
        obtain ⟨hN, h⟩ := cond_some h
        rw [ble_iff, decide_eq_true_eq] at hN
        have he := decM_is hl
        subst he
        have htz : Mz.get tc = some (.cells [.map (some bm)] rc) := (hMz tc).trans htc
        have hbz : Mz.get bm = some (.map (encM l)) := (hMz bm).trans hbm
        refine (Above_runs Mz tc bm rc l (a, b) path (hlt _ _ htz) (hlt _ _ hbz) htz (by unfold mapAt; rw [hbz]) ⟨_, hp⟩ hN).mono ?_
        rintro v M' ⟨h1, h2, h6⟩
        cases h
        refine ⟨fun c hc => h1 c (by rw [hz.next]; exact hc), ?_⟩
        cases hx : path with
        | nil => exact ⟨rfl, h6 hx⟩
        | cons x xs =>
          subst hx
          refine ⟨elSt.all_flat _, ?_⟩
          generalize hq : elSt.all (x :: xs) = cs at h2
          generalize hn : (x :: xs).length = n at h2
          cases h2 with
          | nil => simp at hn
          | row a b c d => exact ⟨_, by rw [← hz.next]; exact c, by rw [← hn]; rfl, a⟩
      · cases h
    · cases h
  · cases h
def D1u : Decls := D1t.addM F_tree_Tree_Above (fun args M => (pAbove args M).map fun r => r.res M)
theorem dok1u : DOK Tryz.prog gl0 D1u := dok1t.addM pAbove_ok
end Go.Am.Tryz


/- tree.Within. -/
namespace Go.Am.Tryz
open Go Go.Am Go.Proofs Go.Sort Go.Shelf
set_option maxRecDepth 100000
set_option linter.unusedSimpArgs false
set_option linter.unusedVariables false

structure WinJ (M5 : Mem) (lp : LoopState → Option Code → O) (p : St) (pre : List St) (M' : Mem) : Prop where
  old : ∀ c, c < M5.next → M'.get c = M5.get c
  loop : M'.get M5.next = some (lp .ready none)
  next : M5.next + 1 ≤ M'.next
  not_ : p ∉ pre

/-- The way up, looked through: whether one is met. -/
theorem Win_range (M5 : Mem) (p n : St) (b4 b5 b6 : Nat) (fv : V) (fr : Fr) (tc bm bt bn : Nat) (rc : Bool) (l : Tr) (path : List St) (hp : PathN l n path) (Q : XQ)
    (h4 : M5.get b4 = some (.cells (stC p) false)) (h5 : M5.get b5 = some (.cells (stC n) false)) (h6 : M5.get b6 = some (.cells [.bool false] false)) (l4 : b4 < M5.next) (l5 : b5 < M5.next) (l6 : b6 < M5.next)
    (g1 : M5.get bt = some (.cells [.ptr (some (tc, 0))] false)) (g2 : M5.get tc = some (.cells [.map (some bm)] rc)) (g3 : mapAt M5 bm = some (encM l)) (g4 : M5.get bn = some (.cells (stC n) false)) (q1 : bt < M5.next) (q2 : tc < M5.next) (q3 : bm < M5.next) (q4 : bn < M5.next)
    (f4 : fr.rd 4 = .ptr (some (b4, 0))) (f6 : fr.rd 6 = .ptr (some (b6, 0))) (f18 : fr.rd 18 = .fn F_tree_Tree_up_c1 [] [.ptr (some (bt, 0)), .ptr (some (bn, 0))])
    (hQ : ∀ M', p ∉ path → (∀ c, c < M5.next → M'.get c = M5.get c) → M5.next ≤ M'.next → Q .normal fr M') (hQr : ∀ M', p ∈ path → (∀ c, c < M5.next → c ≠ b6 → M'.get c = M5.get c) → M'.get b6 = some (.cells [.bool true] false) → Q .ret fr M') :
    xw Tryz.prog gl0 26 (.range (.tmp 18) [19] X_tree_Tree_Within_7 X_tree_Tree_Within_8) false fr M5 (Q := Q) ⟨⟩ := by
  refine x_range' _ _ _ _ _ (f := F_tree_Tree_up_c1) (first := []) (captured := [.ptr (some (bt, 0)), .ptr (some (bn, 0))]) f18 ?_
  intro lp hlp hY
  have hst : WinJ M5 lp p [] (M5.push (lp .ready none)) := ⟨fun c hc => Mem.get_push_ne _ _ (by omega), Mem.get_push_same _ _, by simp, by simp⟩
  refine (Up_seq bt bn tc bm false false rc l n path hp M5.next (WinJ M5 lp p) (fun pre M' => p ∈ pre ∧ (∀ c, c < M5.next → c ≠ b6 → M'.get c = M5.get c) ∧ M'.get b6 = some (.cells [.bool true] false) ∧ M'.get M5.next = some (lp .done (some .ret))) _ (fun pre M' h => ?_) (fun pre M' o h => ?_) (fun pre M' o o' h => ?_) (fun pre M' c b s k l h hcn hi => ?_) (fun pre M' c a b t h hcn hi => ?_) (fun pre x M' h hlen => ?_) hst).mono ?_
  · exact ⟨⟨(h.old _ q1).trans g1, (h.old _ q2).trans g2, mapAt_keep g3 (h.old _ q3)⟩, (h.old _ q4).trans g4⟩
  · have hn := h.next
    exact ⟨fun c hc => (Mem.get_push_ne _ _ (by omega)).trans (h.old c hc), (Mem.get_push_ne _ _ (by omega)).trans h.loop, by simp; omega, h.not_⟩
  · have hn := h.next
    have hk : ∀ c, c ≠ M'.next → ((M'.push o).set M'.next o').get c = M'.get c := fun c hc => by rw [Mem.get_set_ne _ _ hc, Mem.get_push_ne _ _ hc]
    exact ⟨fun c hc => (hk c (by omega)).trans (h.old c hc), (hk _ (by omega)).trans h.loop, by simp; omega, h.not_⟩
  · have hc : M5.next + 1 ≤ c := hcn
    exact ⟨fun c' hc' => (Mem.get_set_ne _ _ (by omega)).trans (h.old c' hc'), (Mem.get_set_ne _ _ (by omega)).trans h.loop, h.next, h.not_⟩
  · have hc : M5.next + 1 ≤ c := hcn
    exact ⟨fun c' hc' => (Mem.get_set_ne _ _ (by omega)).trans (h.old c' hc'), (Mem.get_set_ne _ _ (by omega)).trans h.loop, h.next, h.not_⟩
  · refine hY [.agg (stC x)] M' _ h.loop rfl ?_
    unfold X_tree_Tree_Within_7 X_tree_Tree_Within_8
    have hnx := h.next
    have hrx : rdCells (stC x) 0 2 = some (stC x) := rfl
    have hrp : rdCells (stC p) 0 2 = some (stC p) := rfl
    have hw0 := write_full (M := M'.push (.cells [.int .i64 0, .int .i64 0] false)) (b := M'.next) (vs := stC x) (Mem.get_push_same _ _) rfl rfl
    simp -dsimp only [↓x_seq', ↓x_ops, ↓x_skip, ↓x_ret, ↓x_exit, ↓x_block', ↓x_cond', cond_true', cond_false', ↓i_nil, ↓i_plain, ↓i_guard, xs_val, xs_call, xs_yield, xg_true, xg_false, ↓n_normal, ↓n_ret, ↓n_exit, ↓b_normal, ↓b_ret, ↓b_exit, ↓xe_normal, ↓xe_ret, e_some, yieldOf, go_sem, ↓reduceIte, Nat.reduceEqDiff, Nat.reduceLT, Nat.reduceSub, X_tree_Tree_Within_0, X_tree_Tree_Within_1, X_tree_Tree_Within_2, X_tree_Tree_Within_3, X_tree_Tree_Within_4, X_tree_Tree_Within_5, X_tree_Tree_Within_6, X_tree_Tree_Within_9, putAll', List.zip_cons_cons, List.zip_nil_right, List.foldl_cons, List.foldl_nil, vstore, V.cells, stC_len, hw0, Nat.reduceEqDiff]
    have k1 : ∀ c, c ≠ M'.next → ((M'.push (.cells [.int .i64 0, .int .i64 0] false)).set M'.next (.cells (stC x) false)).get c = M'.get c := fun c hc => by rw [Mem.get_set_ne _ _ hc, Mem.get_push_ne _ _ hc]
    have k2 : ((M'.push (.cells [.int .i64 0, .int .i64 0] false)).set M'.next (.cells (stC x) false)).get M'.next = some (.cells (stC x) false) := Mem.get_set_same _ _ _
    have k3 : ((M'.push (.cells [.int .i64 0, .int .i64 0] false)).set M'.next (.cells (stC x) false)).next = M'.next + 1 := rfl
    generalize (M'.push (.cells [.int .i64 0, .int .i64 0] false)).set M'.next (.cells (stC x) false) = M1 at *
    refine ⟨rfl, (k1 _ (by omega)).trans h.loop, ?_⟩
    have l1 : ∀ c, c ≠ M5.next → (M1.set M5.next (lp .busy none)).get c = M1.get c := fun c hc => Mem.get_set_ne _ _ hc
    have l2 : (M1.set M5.next (lp .busy none)).get M5.next = some (lp .busy none) := Mem.get_set_same _ _ _
    have l3 : (M1.set M5.next (lp .busy none)).next = M'.next + 1 := k3
    generalize M1.set M5.next (lp .busy none) = M2 at *
    have hx2 : M2.get M'.next = some (.cells (stC x) false) := by rw [l1 _ (by omega)]; exact k2
    have hkeep : ∀ c, c < M5.next → M2.get c = M5.get c := fun c hc => by rw [l1 _ (by omega), k1 _ (by omega)]; exact h.old c hc
    have h42 := (hkeep _ l4).trans h4
    have h62 := (hkeep _ l6).trans h6
    by_cases hxp : x = p
    · have hw6 := write_one (v := .bool true) h62 (show 0 < 1 by omega) rfl
      simp -dsimp only [↓x_seq', ↓x_ops, ↓x_skip, ↓x_ret, ↓x_exit, ↓x_block', ↓x_cond', cond_true', cond_false', ↓i_nil, ↓i_plain, ↓i_guard, xs_val, xs_call, xs_yield, xg_true, xg_false, ↓n_normal, ↓n_ret, ↓n_exit, ↓b_normal, ↓b_ret, ↓b_exit, ↓xe_normal, ↓xe_ret, e_some, yieldOf, go_sem, ↓reduceIte, Nat.reduceEqDiff, Nat.reduceLT, Nat.reduceSub, X_tree_Tree_Within_0, X_tree_Tree_Within_1, X_tree_Tree_Within_2, X_tree_Tree_Within_3, X_tree_Tree_Within_4, X_tree_Tree_Within_5, X_tree_Tree_Within_6, X_tree_Tree_Within_9, f4, f6, vload, Mem.read, hx2, h42, hrx, hrp, st_same, hxp, decide_true, vstore, V.cells, List.length_cons, List.length_nil, Nat.zero_add, hw6, List.set_cons_zero]
      have u := Upd.set M2 b6 (.cells [.bool true] false)
      generalize M2.set b6 (.cells [.bool true] false) = M6 at *
      refine ⟨(u.other _ (by omega)).trans l2, .inr ⟨rfl, by simp [hxp], fun c hc hne => ?_, ?_, Mem.get_set_same _ _ _⟩⟩
      · rw [Mem.get_set_ne _ _ (by omega), u.other _ hne]; exact hkeep c hc
      · rw [Mem.get_set_ne _ _ (by omega)]; exact u.at_
    · simp -dsimp only [↓x_seq', ↓x_ops, ↓x_skip, ↓x_ret, ↓x_exit, ↓x_block', ↓x_cond', cond_true', cond_false', ↓i_nil, ↓i_plain, ↓i_guard, xs_val, xs_call, xs_yield, xg_true, xg_false, ↓n_normal, ↓n_ret, ↓n_exit, ↓b_normal, ↓b_ret, ↓b_exit, ↓xe_normal, ↓xe_ret, e_some, yieldOf, go_sem, ↓reduceIte, Nat.reduceEqDiff, Nat.reduceLT, Nat.reduceSub, X_tree_Tree_Within_0, X_tree_Tree_Within_1, X_tree_Tree_Within_2, X_tree_Tree_Within_3, X_tree_Tree_Within_4, X_tree_Tree_Within_5, X_tree_Tree_Within_6, X_tree_Tree_Within_9, f4, f6, vload, Mem.read, hx2, h42, hrx, hrp, st_same, hxp, decide_false]
      have hq : ∀ c, c ≠ M5.next → c ≠ M'.next → (M2.set M5.next (lp .ready none)).get c = M'.get c := fun c h1 h2 => by rw [Mem.get_set_ne _ _ h1, l1 _ h1, k1 _ h2]
      refine ⟨l2, .inl ⟨rfl, ⟨fun c hc => (hq c (by omega) (by omega)).trans (h.old c hc), Mem.get_set_same _ _ _, by simp only [Mem.next_set]; omega, ?_⟩, by simp only [Mem.next_set]; omega, fun c hc hi => ?_, fun c hcl hc hi => ?_⟩⟩
      · intro hm
        rcases List.mem_append.mp hm with hm | hm
        · exact h.not_ hm
        · simp only [List.mem_singleton] at hm
          exact hxp hm.symm
      · refine hq c (fun e => ?_) (by omega)
        obtain ⟨b', s', k', l', hi⟩ := hi
        rw [e, h.loop] at hi
        exact hlp _ _ _ _ _ _ (Option.some.inj hi)
      · have hcl' : M5.next + 1 ≤ c := hcl
        exact hq c (by omega) (by omega)
  · intro v M' h
    rcases h with ⟨xs, rfl, hJ⟩ | ⟨pre, hpre, hin, ho, h6', hl'⟩
    · refine .inl ⟨hJ.loop, ?_⟩
      have hn := hJ.next
      exact hQ _ hJ.not_ (fun c hc => (Mem.get_set_ne _ _ (by omega)).trans (hJ.old c hc)) (by simp only [Mem.next_set]; omega)
    · refine .inr (.inl ⟨hl', ?_⟩)
      exact hQr _ (hpre.subset hin) (fun c hc hne => (Mem.get_set_ne _ _ (by omega)).trans (ho c hc hne)) ((Mem.get_set_ne _ _ (by omega)).trans h6')
end Go.Am.Tryz


/- tree.Within, whole. -/
namespace Go.Am.Tryz
open Go Go.Am Go.Proofs Go.Sort Go.Shelf
set_option maxRecDepth 100000
set_option linter.unusedSimpArgs false
set_option linter.unusedVariables false

theorem XR_opq {P : Program} {gl : Nat → Bool} {f : FuncId} {args : List V} {M : Mem} {R : V → Mem → Prop} (h : ∀ R' : V → Mem → Prop, (∀ v M', R v M' → R' v M') → XRuns P gl f args M R') : XRuns P gl f args M R := h R fun _ _ h => h
theorem R_opq {D : Decls} {f : FuncId} {args : List V} {M : Mem} {R : V → Mem → Prop} (h : ∀ R' : V → Mem → Prop, (∀ v M', R v M' → R' v M') → Runs D f args M R') : Runs D f args M R := h R fun _ _ h => h

set_option maxHeartbeats 1000000 in
theorem Within_runs (M : Mem) (tc bm : Nat) (rc : Bool) (l : Tr) (p n : St) (path : List St) (htc : tc < M.next) (hbm : bm < M.next) (h : M.get tc = some (.cells [.map (some bm)] rc)) (h2 : mapAt M bm = some (encM l)) (hp : PathN l n path) :
    XP F_tree_Tree_Within [.ptr (some (tc, 0)), .agg (stC p), .agg (stC n)] M fun v M' => (∀ c, c < M.next → M'.get c = M.get c) ∧ v = .bool ((getS l n).isSome && (decide (p ∈ path) || decide (p = n))) := by
  refine XR_opq fun R hR => ?_
  refine XRuns.walk mixed Tryz.func53 b_tree_Tree_Within n_tree_Tree_Within r_tree_Tree_Within (by rfl) ?_
  unfold X_tree_Tree_Within
  have hcn : ∀ x : St, V.cells (.agg (stC x)) = stC x := fun _ => rfl
  have hrn : rdCells (stC n) 0 2 = some (stC n) := rfl
  have hrp : rdCells (stC p) 0 2 = some (stC p) := rfl
  simp -dsimp only [↓x_seq', ↓x_ops, ↓x_skip, ↓x_ret, ↓x_exit, ↓x_block', ↓x_cond', cond_true', cond_false', ↓i_nil, ↓i_plain, ↓i_guard, xs_val, xs_call, xs_yield, xg_true, xg_false, ↓n_normal, ↓n_ret, ↓n_exit, ↓b_normal, ↓b_ret, ↓b_exit, ↓xe_normal, ↓xe_ret, e_some, yieldOf, go_sem, ↓reduceIte, Nat.reduceEqDiff, Nat.reduceLT, Nat.reduceSub, X_tree_Tree_Within_0, X_tree_Tree_Within_1, X_tree_Tree_Within_2, X_tree_Tree_Within_3, X_tree_Tree_Within_4, X_tree_Tree_Within_5, X_tree_Tree_Within_6, X_tree_Tree_Within_9, hcn, Mem.next_push]
  have g4 : (((M.push (.cells (stC p) false)).push (.cells (stC n) false)).push (.cells [.bool false] false)).get M.next = some (.cells (stC p) false) := by
    rw [Mem.get_push_ne _ _ (by simp; omega), Mem.get_push_ne _ _ (by simp), Mem.get_push_same]
  have g5 : (((M.push (.cells (stC p) false)).push (.cells (stC n) false)).push (.cells [.bool false] false)).get (M.next + 1) = some (.cells (stC n) false) := by
    rw [Mem.get_push_ne _ _ (by simp)]; exact Mem.get_push_same (M.push _) _
  have g6 : (((M.push (.cells (stC p) false)).push (.cells (stC n) false)).push (.cells [.bool false] false)).get (M.next + 1 + 1) = some (.cells [.bool false] false) := Mem.get_push_same ((M.push _).push _) _
  have gk : Grew M (((M.push (.cells (stC p) false)).push (.cells (stC n) false)).push (.cells [.bool false] false)) := ((Grew.push _ _).trans (Grew.push _ _)).trans (Grew.push _ _)
  have hn1 : (((M.push (.cells (stC p) false)).push (.cells (stC n) false)).push (.cells [.bool false] false)).next = M.next + 3 := rfl
  generalize ((M.push (.cells (stC p) false)).push (.cells (stC n) false)).push (.cells [.bool false] false) = M1 at *
  have k1 : M1.get tc = some (.cells [.map (some bm)] rc) := (gk.old _ htc).trans h
  have k2 : mapAt M1 bm = some (encM l) := mapAt_keep h2 (gk.old _ hbm)
  refine xcall_of (XRuns.of_runs dok0 (none_some D0 rfl (by rfl) M1 tc bm rc k1)) ?_
  intro v M2 hv
  rw [hv.1, hv.2]
  clear hv
  simp -dsimp only [↓x_seq', ↓x_ops, ↓x_skip, ↓x_ret, ↓x_exit, ↓x_block', ↓x_cond', cond_true', cond_false', ↓i_nil, ↓i_plain, ↓i_guard, xs_val, xs_call, xs_yield, xg_true, xg_false, ↓n_normal, ↓n_ret, ↓n_exit, ↓b_normal, ↓b_ret, ↓b_exit, ↓xe_normal, ↓xe_ret, e_some, yieldOf, go_sem, ↓reduceIte, Nat.reduceEqDiff, Nat.reduceLT, Nat.reduceSub, X_tree_Tree_Within_0, X_tree_Tree_Within_1, X_tree_Tree_Within_2, X_tree_Tree_Within_3, X_tree_Tree_Within_4, X_tree_Tree_Within_5, X_tree_Tree_Within_6, X_tree_Tree_Within_9, vload, Mem.read, g5, hrn]
  refine xcall_of (XRuns.of_runs dok0 (node_runs D0 rfl (by rfl) M1 tc bm rc l n (by omega) (by omega) k1 k2)) ?_
  intro v M2 hv
  rw [hv.1]
  have hG2 := hv.2
  clear hv
  have h42 : M2.get M.next = some (.cells (stC p) false) := (hG2.old _ (by omega)).trans g4
  have h52 : M2.get (M.next + 1) = some (.cells (stC n) false) := (hG2.old _ (by omega)).trans g5
  have h62 : M2.get (M.next + 1 + 1) = some (.cells [.bool false] false) := (hG2.old _ (by omega)).trans g6
  have m1 : M2.get tc = some (.cells [.map (some bm)] rc) := (hG2.old _ (by omega)).trans k1
  have m2 : mapAt M2 bm = some (encM l) := mapAt_keep k2 (hG2.old _ (by omega))
  have hold : ∀ c, c < M.next → M2.get c = M.get c := fun c hc => (hG2.old c (by omega)).trans (gk.old c hc)
  have hn2 := hG2.next
  rw [hn1] at hn2
  clear hG2 gk g4 g5 g6 k1 k2 h h2 hn1
  cases hs : (getS l n).isSome with
  | false =>
    have hw6 := write_one (v := .bool false) h62 (show 0 < 1 by omega) rfl
    simp -dsimp only [↓x_seq', ↓x_ops, ↓x_skip, ↓x_ret, ↓x_exit, ↓x_block', ↓x_cond', cond_true', cond_false', ↓i_nil, ↓i_plain, ↓i_guard, xs_val, xs_call, xs_yield, xg_true, xg_false, ↓n_normal, ↓n_ret, ↓n_exit, ↓b_normal, ↓b_ret, ↓b_exit, ↓xe_normal, ↓xe_ret, e_some, yieldOf, go_sem, ↓reduceIte, Nat.reduceEqDiff, Nat.reduceLT, Nat.reduceSub, X_tree_Tree_Within_0, X_tree_Tree_Within_1, X_tree_Tree_Within_2, X_tree_Tree_Within_3, X_tree_Tree_Within_4, X_tree_Tree_Within_5, X_tree_Tree_Within_6, X_tree_Tree_Within_9, vstore, V.cells, List.length_cons, List.length_nil, Nat.zero_add, hw6, List.set_cons_zero]
    have hs6 := Mem.get_set_same M2 (M.next + 1 + 1) (.cells [.bool false] false)
    have ho6 : ∀ c, c ≠ M.next + 1 + 1 → (M2.set (M.next + 1 + 1) (.cells [.bool false] false)).get c = M2.get c := fun c hc => Mem.get_set_ne _ _ hc
    generalize M2.set (M.next + 1 + 1) (.cells [.bool false] false) = M6 at *
    simp -dsimp only [↓x_seq', ↓x_ops, ↓x_skip, ↓x_ret, ↓x_exit, ↓x_block', ↓x_cond', cond_true', cond_false', ↓i_nil, ↓i_plain, ↓i_guard, xs_val, xs_call, xs_yield, xg_true, xg_false, ↓n_normal, ↓n_ret, ↓n_exit, ↓b_normal, ↓b_ret, ↓b_exit, ↓xe_normal, ↓xe_ret, e_some, yieldOf, go_sem, ↓reduceIte, Nat.reduceEqDiff, Nat.reduceLT, Nat.reduceSub, vload, vptr, Mem.read, hs6, List.getElem?_cons_zero, Option.bind_some, oneOf]
    exact hR _ _ ⟨fun c hc => (ho6 c (by omega)).trans (hold c hc), by rw [hs]; rfl⟩
  | true =>
    simp -dsimp only [↓x_seq', ↓x_ops, ↓x_skip, ↓x_ret, ↓x_exit, ↓x_block', ↓x_cond', cond_true', cond_false', ↓i_nil, ↓i_plain, ↓i_guard, xs_val, xs_call, xs_yield, xg_true, xg_false, ↓n_normal, ↓n_ret, ↓n_exit, ↓b_normal, ↓b_ret, ↓b_exit, ↓xe_normal, ↓xe_ret, e_some, yieldOf, go_sem, ↓reduceIte, Nat.reduceEqDiff, Nat.reduceLT, Nat.reduceSub, X_tree_Tree_Within_3, X_tree_Tree_Within_2, vload, Mem.read, h52, hrn]
    refine xcall_of (XRuns.of_runs dok0 (up_runs D0 rfl (by rfl) M2 (.ptr (some (tc, 0))) rfl rfl n)) ?_
    intro v M3 hv
    rw [hv.1]
    have hG3 : Grew M2 M3 := by rw [hv.2]; exact (Grew.push _ _).trans (Grew.push _ _)
    have b1 : M3.get M2.next = some (.cells [.ptr (some (tc, 0))] false) := by rw [hv.2, Mem.get_push_ne _ _ (by simp), Mem.get_push_same]
    have b2 : M3.get (M2.next + 1) = some (.cells (stC n) false) := by rw [hv.2]; exact Mem.get_push_same (M2.push _) _
    have hn3 : M3.next = M2.next + 2 := by rw [hv.2]; rfl
    clear hv
    simp -dsimp only [↓x_seq', ↓x_ops, ↓x_skip, ↓x_ret, ↓x_exit, ↓x_block', ↓x_cond', cond_true', cond_false', ↓i_nil, ↓i_plain, ↓i_guard, xs_val, xs_call, xs_yield, xg_true, xg_false, ↓n_normal, ↓n_ret, ↓n_exit, ↓b_normal, ↓b_ret, ↓b_exit, ↓xe_normal, ↓xe_ret, e_some, yieldOf, go_sem, ↓reduceIte, Nat.reduceEqDiff, Nat.reduceLT, Nat.reduceSub, X_tree_Tree_Within_3]
    have h43 := (hG3.old _ (by omega)).trans h42
    have h53 := (hG3.old _ (by omega)).trans h52
    have h63 := (hG3.old _ (by omega)).trans h62
    have n1 := (hG3.old tc (by omega)).trans m1
    have n2 := mapAt_keep m2 (hG3.old bm (by omega))
    have hold3 : ∀ c, c < M.next → M3.get c = M.get c := fun c hc => (hG3.old c (by omega)).trans (hold c hc)
    clear hG3
    refine Win_range M3 p n M.next (M.next + 1) (M.next + 1 + 1) .undef _ tc bm M2.next (M2.next + 1) rc l path hp _ h43 h53 h63 (by omega) (by omega) (by omega) b1 n1 n2 b2 (by omega) (by omega) (by omega) (by omega) (by simp only [go_sem, ↓reduceIte, Nat.reduceEqDiff, Nat.reduceLT, Nat.reduceSub]) (by simp only [go_sem, ↓reduceIte, Nat.reduceEqDiff, Nat.reduceLT, Nat.reduceSub]) (by simp only [go_sem, ↓reduceIte, Nat.reduceEqDiff, Nat.reduceLT, Nat.reduceSub]) ?_ ?_
    · intro M4 hnp ho4 hn4
      have h44 := (ho4 _ (by omega)).trans h43
      have h54 := (ho4 _ (by omega)).trans h53
      have h64 := (ho4 _ (by omega)).trans h63
      have hw6 := write_one (v := .bool (decide (p = n))) h64 (show 0 < 1 by omega) rfl
      simp -dsimp only [↓x_seq', ↓x_ops, ↓x_skip, ↓x_ret, ↓x_exit, ↓x_block', ↓x_cond', cond_true', cond_false', ↓i_nil, ↓i_plain, ↓i_guard, xs_val, xs_call, xs_yield, xg_true, xg_false, ↓n_normal, ↓n_ret, ↓n_exit, ↓b_normal, ↓b_ret, ↓b_exit, ↓xe_normal, ↓xe_ret, e_some, yieldOf, go_sem, ↓reduceIte, Nat.reduceEqDiff, Nat.reduceLT, Nat.reduceSub, X_tree_Tree_Within_0, X_tree_Tree_Within_1, X_tree_Tree_Within_2, X_tree_Tree_Within_3, X_tree_Tree_Within_4, X_tree_Tree_Within_5, X_tree_Tree_Within_6, X_tree_Tree_Within_9, vload, Mem.read, h44, h54, hrn, hrp, st_same, vstore, V.cells, List.length_cons, List.length_nil, Nat.zero_add, hw6, List.set_cons_zero]
      have hs6 := Mem.get_set_same M4 (M.next + 1 + 1) (.cells [.bool (decide (p = n))] false)
      have ho6 : ∀ c, c ≠ M.next + 1 + 1 → (M4.set (M.next + 1 + 1) (.cells [.bool (decide (p = n))] false)).get c = M4.get c := fun c hc => Mem.get_set_ne _ _ hc
      generalize M4.set (M.next + 1 + 1) (.cells [.bool (decide (p = n))] false) = M6 at *
      simp -dsimp only [↓x_seq', ↓x_ops, ↓x_skip, ↓x_ret, ↓x_exit, ↓x_block', ↓x_cond', cond_true', cond_false', ↓i_nil, ↓i_plain, ↓i_guard, xs_val, xs_call, xs_yield, xg_true, xg_false, ↓n_normal, ↓n_ret, ↓n_exit, ↓b_normal, ↓b_ret, ↓b_exit, ↓xe_normal, ↓xe_ret, e_some, yieldOf, go_sem, ↓reduceIte, Nat.reduceEqDiff, Nat.reduceLT, Nat.reduceSub, vload, vptr, Mem.read, hs6, List.getElem?_cons_zero, Option.bind_some, oneOf]
      exact hR _ _ ⟨fun c hc => (ho6 c (by omega)).trans ((ho4 c (by omega)).trans (hold3 c hc)), by rw [hs]; simp only [hnp, decide_false, Bool.false_or, Bool.true_and]⟩
    · intro M4 hin ho4 h64
      simp -dsimp only [↓x_seq', ↓x_ops, ↓x_skip, ↓x_ret, ↓x_exit, ↓x_block', ↓x_cond', cond_true', cond_false', ↓i_nil, ↓i_plain, ↓i_guard, xs_val, xs_call, xs_yield, xg_true, xg_false, ↓n_normal, ↓n_ret, ↓n_exit, ↓b_normal, ↓b_ret, ↓b_exit, ↓xe_normal, ↓xe_ret, e_some, yieldOf, go_sem, ↓reduceIte, Nat.reduceEqDiff, Nat.reduceLT, Nat.reduceSub, vload, vptr, Mem.read, h64, List.getElem?_cons_zero, Option.bind_some, oneOf]
      exact hR _ _ ⟨fun c hc => (ho4 c (by omega) (by omega)).trans (hold3 c hc), by rw [hs]; simp only [hin, decide_true, Bool.true_or, Bool.true_and]⟩
end Go.Am.Tryz


/- Trees, plainly: what adding, moving and dropping come to, and that each way up ends. -/
namespace Go.Am.Tryz
open Go Go.Am Go.Proofs Go.Sort Go.Shelf
set_option maxRecDepth 100000
set_option linter.unusedSimpArgs false
set_option linter.unusedVariables false

def putS : Tr → St → Spot → Tr
  | [], n, s => [(n, s)]
  | p :: r, n, s => if n = p.1 then (n, s) :: r else p :: putS r n s
def delS : Tr → St → Tr
  | [], _ => []
  | p :: r, n => if n = p.1 then r else p :: delS r n

theorem mapPut_is (n : St) (s : Spot) : ∀ l : Tr, mapPut (encM l) (.agg (stC n)) (.agg (spC s)) (idxS l n) = encM (putS l n s)
  | [] => rfl
  | p :: r => by
    have ih := mapPut_is n s r
    unfold idxS putS
    by_cases h : n = p.1
    · simp only [h, if_true]; rfl
    · simp only [h, if_false]
      cases hi : idxS r n with
      | none => rw [hi] at ih; simp only [Option.map_none]; simp only [mapPut, encM, List.map_cons, List.cons_append] at ih ⊢; rw [← ih]
      | some i => rw [hi] at ih; simp only [Option.map_some]; simp only [mapPut, encM, List.map_cons, List.set_cons_succ] at ih ⊢; rw [← ih]
theorem put_is {M : Mem} {b : Nat} {l : Tr} (h : M.get b = some (.map (encM l))) (n : St) (s : Spot) : vmapUpdate ⟨true, [.int .i64, .int .i64]⟩ M (.map (some b)) (.agg (stC n)) (.agg (spC s)) = some (M.set b (.map (encM (putS l n s)))) := by
  have hok : Sh.ok ⟨true, [.int .i64, .int .i64]⟩ (.agg (stC n)) = true := rfl
  simp only [vmapUpdate, mapOf, h, Option.bind_some, hok, cond_true, mapIdx_is, Option.map_some, mapPut_is]
def keysS (l : Tr) : List St := l.map (·.1)
theorem keysOf_enc : ∀ l : Tr, keysOf (encM l) = some (keysS l)
  | [] => rfl
  | p :: r => by
    show Option.map (fun x => (p.1.1, p.1.2) :: x) (keysOf (encM r)) = _
    rw [keysOf_enc r]
    rfl
theorem decM_enc : ∀ l : Tr, decM (encM l) = some l
  | [] => rfl
  | p :: r => by
    show Option.map (fun x => ((p.1.1, p.1.2), ((p.2.1.1, p.2.1.2), p.2.2)) :: x) (decM (encM r)) = _
    rw [decM_enc r]
    rfl
theorem enc_len (l : Tr) : (encM l).length = l.length := by simp [encM]

theorem get_put (n m : St) (s : Spot) : ∀ l : Tr, getS (putS l n s) m = if m = n then some s else getS l m
  | [] => by simp [putS, getS]
  | p :: r => by
    unfold putS
    by_cases h : n = p.1
    · simp only [h, if_true, getS]
      by_cases h2 : m = p.1 <;> simp [h2]
    · simp only [h, if_false, getS, get_put n m s r]
      by_cases h2 : m = p.1
      · have : m ≠ n := fun e => h (e.symm.trans h2)
        simp [h2, Ne.symm (h2 ▸ this)] 
        intro h3; exact absurd h3.symm h
      · simp [h2]
theorem get_mem {l : Tr} {n : St} : (getS l n).isSome = true ↔ n ∈ keysS l := by
  induction l with
  | nil => simp [getS, keysS]
  | cons p r ih =>
    unfold getS keysS
    by_cases h : n = p.1
    · simp [h]
    · simp only [h, if_false, List.map_cons, List.mem_cons, false_or]
      exact ih
theorem get_none {l : Tr} {n : St} : getS l n = none ↔ n ∉ keysS l := by
  rw [← get_mem]; cases getS l n <;> simp
theorem get_del (n m : St) : ∀ l : Tr, (keysS l).Nodup → getS (delS l n) m = if m = n then none else getS l m
  | [], _ => by simp [delS, getS]
  | p :: r, hn => by
    unfold keysS at hn
    rw [List.map_cons, List.nodup_cons] at hn
    unfold delS
    by_cases h : n = p.1
    · simp only [h, if_true, getS]
      by_cases h2 : m = p.1
      · simp only [h2, if_true]; exact get_none.mpr hn.1
      · simp [h2]
    · simp only [h, if_false, getS, get_del n m r hn.2]
      by_cases h2 : m = p.1
      · have : ¬ m = n := fun e => h (e.symm.trans h2)
        simp only [h2, if_true]
        rw [if_neg (fun e => h e.symm)]
      · simp [h2]
theorem keys_put (n : St) (s : Spot) : ∀ l : Tr, keysS (putS l n s) = if n ∈ keysS l then keysS l else keysS l ++ [n]
  | [] => by simp [putS, keysS]
  | p :: r => by
    have ih := keys_put n s r
    unfold putS
    unfold keysS at ih ⊢
    by_cases h : n = p.1
    · simp [h]
    · simp only [h, if_false, List.map_cons, ih, List.mem_cons, false_or]
      by_cases h2 : n ∈ r.map (·.1) <;> simp [h2]
theorem keys_del (n : St) : ∀ l : Tr, (keysS (delS l n)).Sublist (keysS l)
  | [] => by simp [delS, keysS]
  | p :: r => by
    unfold delS
    by_cases h : n = p.1
    · simp only [h, if_true, keysS, List.map_cons]; exact List.sublist_cons_self ..
    · simp only [h, if_false, keysS, List.map_cons]; exact (keys_del n r).cons_cons _
theorem keys_len (l : Tr) : (keysS l).length = l.length := by simp [keysS]

/-! ### ways up -/
theorem path_det {l : Tr} : ∀ {f f' : Nat} {n : St} {r r' : List St}, upL l f n = some r → upL l f' n = some r' → r = r'
  | 0, _, _, _, _, h, _ => by cases h
  | _ + 1, 0, _, _, _, _, h => by cases h
  | f + 1, f' + 1, n, r, r', h, h' => by
    unfold upL at h h'
    cases hg : getS l n with
    | none => rw [hg] at h h'; cases h; cases h'; rfl
    | some s =>
      rw [hg] at h h'
      simp only [Option.map_eq_some_iff] at h h'
      obtain ⟨a, h1, rfl⟩ := h
      obtain ⟨b, h2, rfl⟩ := h'
      rw [path_det h1 h2]
theorem PathN.det {l : Tr} {n : St} {r r' : List St} (h : PathN l n r) (h' : PathN l n r') : r = r' := by
  obtain ⟨_, h⟩ := h
  obtain ⟨_, h'⟩ := h'
  exact path_det h h'
theorem PathN.nil {l : Tr} {n : St} (h : getS l n = none) : PathN l n [] := ⟨1, by simp [upL, h]⟩
theorem PathN.cons {l : Tr} {n : St} {s : Spot} {r : List St} (h : getS l n = some s) (hr : PathN l s.1 r) : PathN l n (s.1 :: r) := by
  obtain ⟨f, hf⟩ := hr
  exact ⟨f + 1, by simp [upL, h, hf]⟩
theorem PathN.fuel {l : Tr} : ∀ {r : List St} {n : St}, PathN l n r → upL l (r.length + 1) n = some r
  | [], n, h => by
    have := h.look
    cases hg : getS l n with
    | none => simp [upL, hg]
    | some s => rw [hg] at this; obtain ⟨r, e, _⟩ := this; cases e
  | x :: r, n, h => by
    have h2 := h.look
    cases hg : getS l n with
    | none => rw [hg] at h2; cases h2
    | some s =>
      rw [hg] at h2
      obtain ⟨r', e, h3⟩ := h2
      cases e
      have := PathN.fuel h3
      show upL l (r.length + 1 + 1) n = _
      rw [upL, hg]
      simp only [this, Option.map_some]
/-- From what is met on the way, the way goes on as it does. -/
theorem PathN.suffix {l : Tr} : ∀ {r : List St} {n m : St}, PathN l n r → m ∈ r → ∃ r' p, PathN l m r' ∧ r = p ++ m :: r'
  | [], n, m, _, h => by cases h
  | x :: r, n, m, h, hm => by
    have h2 := h.look
    cases hg : getS l n with
    | none => rw [hg] at h2; cases h2
    | some s =>
      rw [hg] at h2
      obtain ⟨r', e, h3⟩ := h2
      cases e
      rcases List.mem_cons.mp hm with rfl | hm
      · exact ⟨r, [], h3, rfl⟩
      · obtain ⟨r2, p, h4, rfl⟩ := PathN.suffix h3 hm
        exact ⟨r2, s.1 :: p, h4, rfl⟩
theorem PathN.not_mem {l : Tr} {r : List St} {n : St} (h : PathN l n r) : n ∉ r := fun hm => by
  obtain ⟨r', p, h1, e⟩ := h.suffix hm
  have := h.det h1
  rw [this] at e
  have := congrArg List.length e
  simp at this
  omega
theorem PathN.nodup {l : Tr} : ∀ {r : List St} {n : St}, PathN l n r → (n :: r).Nodup
  | [], n, h => by simp
  | x :: r, n, h => by
    rw [List.nodup_cons]
    refine ⟨h.not_mem, ?_⟩
    have h2 := h.look
    cases hg : getS l n with
    | none => rw [hg] at h2; cases h2
    | some s =>
      rw [hg] at h2
      obtain ⟨r', e, h3⟩ := h2
      cases e
      exact PathN.nodup h3
theorem PathN.keys {l : Tr} : ∀ {r : List St} {n : St}, PathN l n r → ∀ x ∈ (n :: r).dropLast, x ∈ keysS l
  | [], n, h, x, hx => by simp at hx
  | y :: r, n, h, x, hx => by
    have h2 := h.look
    cases hg : getS l n with
    | none => rw [hg] at h2; cases h2
    | some s =>
      rw [hg] at h2
      obtain ⟨r', e, h3⟩ := h2
      cases e
      rw [List.dropLast_cons_cons] at hx
      rcases List.mem_cons.mp hx with rfl | hx
      · exact get_mem.mp (by rw [hg]; rfl)
      · exact PathN.keys h3 x hx
theorem nodup_len {l l' : List St} (h : l.Nodup) (hs : ∀ x ∈ l, x ∈ l') : l.length ≤ l'.length := by
  induction l generalizing l' with
  | nil => simp
  | cons a l ih =>
    rw [List.nodup_cons] at h
    have ha : a ∈ l' := hs a (List.mem_cons_self ..)
    have := ih (l' := l'.erase a) h.2 (fun x hx => by
      have hne : x ≠ a := fun e => h.1 (e ▸ hx)
      exact (List.mem_erase_of_ne hne).mpr (hs x (List.mem_cons_of_mem _ hx)))
    rw [List.length_erase_of_mem ha] at this
    have := List.length_pos_of_mem ha
    simp only [List.length_cons]
    omega
theorem PathN.len {l : Tr} {r : List St} {n : St} (h : PathN l n r) : r.length ≤ l.length := by
  have := nodup_len (l := (n :: r).dropLast) (l' := keysS l) (h.nodup.sublist (List.dropLast_sublist _)) h.keys
  simpa [keys_len] using this

def pathOf (l : Tr) (n : St) : List St := (upL l (l.length + 1) n).getD []
theorem up_more {l : Tr} : ∀ {f f' : Nat} {n : St} {r : List St}, upL l f n = some r → f ≤ f' → upL l f' n = some r
  | 0, _, _, _, h, _ => by cases h
  | f + 1, 0, _, _, _, h => by omega
  | f + 1, f' + 1, n, r, h, hf => by
    unfold upL at h ⊢
    cases hg : getS l n with
    | none => rw [hg] at h; exact h
    | some s =>
      rw [hg] at h
      simp only [Option.map_eq_some_iff] at h ⊢
      obtain ⟨a, h1, rfl⟩ := h
      exact ⟨a, up_more h1 (by omega), rfl⟩
theorem PathN.of {l : Tr} {r : List St} {n : St} (h : PathN l n r) : upL l (l.length + 1) n = some r :=
  up_more h.fuel (by have := h.len; omega)
theorem PathN.eq {l : Tr} {r : List St} {n : St} (h : PathN l n r) : r = pathOf l n := by
  unfold pathOf; rw [h.of]; rfl

def hasP (l : Tr) (p : St) : Prop := (getS l p).isSome = true ∨ p = (0, 0) ∨ p = (0, 1)
structure Inv (l : Tr) : Prop where
  nd : (keysS l).Nodup
  node : ∀ n s, getS l n = some s → 0 < n.1
  par : ∀ n s, getS l n = some s → hasP l s.1
  up : ∀ n, ∃ r, PathN l n r
theorem Inv.path {l : Tr} (h : Inv l) (n : St) : PathN l n (pathOf l n) := by
  obtain ⟨r, hr⟩ := h.up n
  rw [← hr.eq]; exact hr
theorem inv_nil : Inv [] := ⟨by simp [keysS], fun _ _ h => (by cases h), fun _ _ h => (by cases h), fun n => ⟨[], PathN.nil rfl⟩⟩

/-- A way that does not meet what is changed stays. -/
theorem path_same {l l' : Tr} {n : St} (hg : ∀ m, m ≠ n → getS l' m = getS l m) : ∀ {r : List St} {m : St}, PathN l m r → n ∉ m :: r → PathN l' m r
  | [], m, h, hn => by
    have h2 := h.look
    cases hm : getS l m with
    | none => exact PathN.nil (by rw [hg m (by rintro rfl; simp at hn), hm])
    | some s => rw [hm] at h2; obtain ⟨r, e, _⟩ := h2; cases e
  | x :: r, m, h, hn => by
    have h2 := h.look
    cases hm : getS l m with
    | none => rw [hm] at h2; cases h2
    | some s =>
      rw [hm] at h2
      obtain ⟨r', e, h3⟩ := h2
      cases e
      have : getS l' m = some s := by rw [hg m (by rintro rfl; simp at hn), hm]
      exact PathN.cons this (path_same hg h3 (fun hh => hn (List.mem_cons_of_mem _ hh)))
theorem up_change {l l' : Tr} {n : St} {s : Spot} (hg : ∀ m, m ≠ n → getS l' m = getS l m) (hn : getS l' n = some s) {r0 : List St} (h0 : PathN l s.1 r0) (hni : n ∉ s.1 :: r0) : ∀ {r : List St} {m : St}, PathN l m r → ∃ r', PathN l' m r' := by
  have hN : PathN l' n (s.1 :: r0) := PathN.cons hn (path_same hg h0 hni)
  intro r
  induction r with
  | nil =>
    intro m h
    by_cases e : m = n
    · subst e; exact ⟨_, hN⟩
    · have h2 := h.look
      cases hm : getS l m with
      | none => exact ⟨_, PathN.nil (by rw [hg m e, hm])⟩
      | some s => rw [hm] at h2; obtain ⟨r, e, _⟩ := h2; cases e
  | cons x r ih =>
    intro m h
    by_cases e : m = n
    · subst e; exact ⟨_, hN⟩
    · have h2 := h.look
      cases hm : getS l m with
      | none => rw [hm] at h2; cases h2
      | some s' =>
        rw [hm] at h2
        obtain ⟨r', e', h3⟩ := h2
        cases e'
        obtain ⟨r2, h4⟩ := ih h3
        exact ⟨_, PathN.cons (by rw [hg m e, hm]) h4⟩

theorem PathN.met {l : Tr} {n : St} : ∀ {r : List St} {m : St}, PathN l m r → n ∈ r → ∃ k s, getS l k = some s ∧ s.1 = n
  | [], _, _, h => by cases h
  | x :: r, m, hp, hin => by
    have h2 := hp.look
    cases hm : getS l m with
    | none => rw [hm] at h2; cases h2
    | some s =>
      rw [hm] at h2
      obtain ⟨r', e', h3⟩ := h2
      cases e'
      rcases List.mem_cons.mp hin with hh | hin
      · exact ⟨m, s, hm, hh.symm⟩
      · exact PathN.met h3 hin
theorem Inv.put {l : Tr} (h : Inv l) {n : St} {s : Spot} (h0 : 0 < n.1) (hp : hasP l s.1) (hni : n ∉ s.1 :: pathOf l s.1) : Inv (putS l n s) := by
  have hg : ∀ m, m ≠ n → getS (putS l n s) m = getS l m := fun m hm => by rw [get_put, if_neg hm]
  have hn : getS (putS l n s) n = some s := by rw [get_put, if_pos rfl]
  have hhas : ∀ p, hasP l p → hasP (putS l n s) p := fun p hp => by
    unfold hasP at hp ⊢
    rw [get_put]
    rcases hp with hp | hp
    · by_cases e : p = n <;> simp [e]
      exact .inl hp
    · exact .inr hp
  refine ⟨?_, fun m t hm => ?_, fun m t hm => ?_, fun m => ?_⟩
  · rw [keys_put]
    split
    · exact h.nd
    · rename_i hnk
      rw [List.nodup_append]
      refine ⟨h.nd, by simp, fun a ha b hb => ?_⟩
      simp only [List.mem_singleton] at hb
      subst hb
      exact fun e => hnk (e ▸ ha)
  · rw [get_put] at hm
    by_cases e : m = n
    · subst e; exact h0
    · rw [if_neg e] at hm; exact h.node m t hm
  · rw [get_put] at hm
    by_cases e : m = n
    · rw [if_pos e] at hm; cases hm; exact hhas _ hp
    · rw [if_neg e] at hm; exact hhas _ (h.par m t hm)
  · exact up_change hg hn (h.path _) hni (h.path m)
theorem Inv.del {l : Tr} (h : Inv l) {n : St} (hb : ∀ m s, getS l m = some s → s.1 ≠ n) : Inv (delS l n) := by
  have hg : ∀ m, getS (delS l n) m = if m = n then none else getS l m := fun m => get_del n m l h.nd
  refine ⟨h.nd.sublist (keys_del n l), fun m t hm => ?_, fun m t hm => ?_, fun m => ?_⟩
  · rw [hg] at hm
    split at hm
    · cases hm
    · exact h.node m t hm
  · rw [hg] at hm
    split at hm
    · cases hm
    · have := h.par m t hm
      unfold hasP at this ⊢
      rw [hg, if_neg (hb m t hm)]
      exact this
  · by_cases e : m = n
    · exact ⟨[], PathN.nil (by rw [hg, if_pos e])⟩
    · have hp := h.path m
      refine ⟨_, path_same (n := n) (fun m hm => by rw [hg, if_neg hm]) hp fun hin => ?_⟩
      rcases List.mem_cons.mp hin with hh | hin
      · exact e hh.symm
      · obtain ⟨k, s, hk⟩ := hp.met hin
        exact hb k s hk.1 hk.2
end Go.Am.Tryz


/- Laws that read package variables: some blocks stand at places of their own from the start, only read. -/
namespace Go.Am
open Go Go.RowKit

theorem V.flats_at : ∀ {cs : List V}, V.flats cs = true → ∀ {i : Nat} {v : V}, cs[i]? = some v → v.flat = true
  | [], _, i, v, h => by simp at h
  | c :: cs, hf, i, v, h => by
    simp only [V.flats, Bool.and_eq_true] at hf
    cases i with
    | zero => simp at h; subst h; exact hf.1
    | succ i => exact V.flats_at hf.2 (by simpa using h)

/-- A closed call, reckoned where nothing but the package variables is in memory, is a part wherever they stand. -/
theorem prim_env {P : Program} {gl : Nat → Bool} {D : Decls} (hD : DOK P gl D) {f : FuncId} {v0 : V} {M0 M' : Mem} {k : Nat} (hv : v0.flat = true) (hwf : ∀ b, M0.next ≤ b → M0.get b = none)
    (hM0 : ∀ x, gl x = true → ∃ cs, M0.get x = some (.cells cs true) ∧ V.flats cs = true) (hr : callN D k f [] M0 = some (v0, M')) {g : List V → Mem → Option (V × Mem)}
    (hg : ∀ args M r, g args M = some r → args = [] ∧ r = (v0, M) ∧ ∀ x, gl x = true → M.get x = M0.get x) : CallOK P gl fun f' args M => if f' = f then g args M else none := by
  intro f' args M v M1 he
  simp only at he
  split at he
  · rename_i e
    subst e
    obtain ⟨rfl, hr', hx⟩ := hg _ _ _ he
    cases hr'
    obtain ⟨hc, hs⟩ := callN_sound hD k f' [] M0 v0 M' hr
    refine ⟨hc, fun E w args' hR hG hA => ?_⟩
    have hin : ∀ b x, (if gl b then E b else none) = some x → gl b = true ∧ E b = some x := fun b x h => by
      by_cases hb : gl b = true
      · rw [if_pos hb] at h; exact ⟨hb, h⟩
      · rw [if_neg hb] at h; cases h
    have hro : ∀ b x, (if gl b then E b else none) = some x → isRo M0 b := fun b x h => by
      obtain ⟨cs, h1, _⟩ := hM0 b (hin b x h).1
      exact ⟨_, h1, rfl⟩
    have hR0 : Rel (fun b => if gl b then E b else none) M0 w := by
      refine ⟨fun b c d k hb => ?_, fun b c d k hb => hR.lt b c d k (hin b _ hb).2, fun b b' c d k d' k' hb _ ho _ => (own_not_ro ho (hro b _ hb)).elim, hwf⟩
      obtain ⟨hgb, hE⟩ := hin b _ hb
      obtain ⟨cs, h1, hf⟩ := hM0 b hgb
      obtain ⟨o, ho, arr⟩ := hR.at_ b c d k hE
      rw [hx b hgb, h1] at ho
      cases ho
      obtain ⟨arr, elem, fz, a1, a2, a3⟩ := arr
      refine ⟨_, h1, arr, elem, fz, a1, fun i v hi => ?_, a3⟩
      obtain ⟨u, hu, hvu⟩ := a2 i v hi
      exact ⟨u, hu, hvu.flat (V.flats_at hf hi)⟩
    refine (hs _ w args' hR0 (fun x hx' => by
      obtain ⟨k, hk⟩ := hG x hx'
      exact ⟨k, by rw [if_pos hx']; exact hk⟩) (VRs.flat hA rfl)).mono fun e w' ⟨E', v', he, hv', _, hX⟩ => ?_
    have hk : ∀ c, c < w.heap.size → w'.heap[c]? = w.heap[c]? := fun c hc => hX.keep c hc fun b d k hb => hro b _ hb
    refine ⟨E, v', he, VR.flat hv' hv, ⟨fun b c d k hb => ?_, fun b c d k hb => Nat.lt_of_lt_of_le (hR.lt b c d k hb) hX.size, hR.inj, hR.wf⟩, ⟨Emb.le_refl E, hX.os, hX.tape, hX.output, hX.size, Nat.le_refl _, fun c hc _ => hk c hc, fun b c d k h1 h2 => ?_, fun _ _ => rfl, hX.drawn⟩⟩
    · obtain ⟨o, ho, hr'⟩ := hR.at_ b c d k hb
      exact ⟨o, ho, by rw [hk c (hR.lt b c d k hb)]; exact hr'⟩
    · rw [h1] at h2; cases h2
  · cases he

/-- A function that tells something flat and leaves all as it was, as a part. -/
theorem prim_keep {P : Program} {gl : Nat → Bool} {f : FuncId} {g : List V → Mem → Option V} (hc : Callable P f)
    (h : ∀ args M v, g args M = some v → (∀ b, M.next ≤ b → M.get b = none) → v.flat = true ∧ XRuns P gl f args M fun v' M' => v' = v ∧ ∀ c, c < M.next → M'.get c = M.get c) : CallOK P gl fun f' args M => if f' = f then (g args M).map (·, M) else none := by
  intro f' args M v M' he
  simp only at he
  split at he
  · rename_i e
    subst e
    simp only [Option.map_eq_some_iff, Prod.mk.injEq] at he
    obtain ⟨v1, hv, rfl, rfl⟩ := he
    refine ⟨hc, fun E w args' hR hG hA => ?_⟩
    obtain ⟨hf, hrun⟩ := h args M v1 hv hR.wf
    refine (hrun.2 E w args' hR hG hA).mono ?_
    rintro e w' ⟨E', v2, v', M1, rfl, hv', hR', hX, rfl, hk⟩
    obtain ⟨a, b⟩ := hR.restrict (bs := []) (Mz := M) ⟨rfl, fun _ _ => rfl, fun _ h => by cases h⟩ hR' hX hk
    exact ⟨E, v', rfl, hv'.flat hf, a, b⟩
  · cases he
def Decls.addP (D : Decls) (f : FuncId) (g : List V → Mem → Option V) : Decls := D.addM f fun args M => (g args M).map (·, M)
theorem Runs.part {D : Decls} {f : FuncId} {g : List V → Mem → Option V} {args : List V} {M : Mem} {v : V} (hp : D.prim f = some fun args M => (g args M).map (·, M)) (hg : g args M = some v) : Runs D f args M fun v' M' => v' = v ∧ M' = M :=
  Runs.prim (v := v) (M' := M) hp (by simp only [hg, Option.map_some]) ⟨rfl, rfl⟩

/-- A law that is true, of arguments some of which are only read, where package variables stand at their places. -/
theorem law_glob {P : Program} {gl : Nat → Bool} {D : Decls} (hD : DOK P gl D) {f : FuncId} {args : List V} {args' : Array Value} {w : World} {l : Env} (hg : ∀ x, gl x = true → ∃ k, l.emb x = some (x, 0, k)) (hl : l.ok w) (hA : VRs l.emb args args'.toList) (h : Runs D f args l.mem fun v _ => v = .bool true) :
    Calls P f args' w fun e w' => e = .returned (.bool true) ∧ Below w.heap.size w w' := by
  obtain ⟨k, v, M', hr, rfl⟩ := h
  obtain ⟨_, hs⟩ := callN_sound hD k f args l.mem _ M' hr
  refine (hs l.emb w args' (Env.rel hl) hg hA).mono fun e w' ⟨E', v', he, hv', _, hX⟩ => ?_
  cases hv'
  refine ⟨he, hX.os, hX.tape, hX.output, hX.size, fun c hc => hX.keep c hc fun b d k hb => ?_⟩
  simp only [Env.emb, Option.map_eq_some_iff] at hb
  obtain ⟨x, hx, _⟩ := hb
  exact ⟨_, by rw [l.get_mem, hx]; rfl, rfl⟩
end Go.Am


/- Small functions as parts: none, node, Within; a stamp's and a key's looks. -/
namespace Go.Am.Tryz
open Go Go.Am Go.Proofs Go.Sort Go.Shelf
set_option maxRecDepth 100000
set_option linter.unusedSimpArgs false
set_option linter.unusedVariables false

def rightSt (x : St) : Bool := decide (0 ≤ x.1) && (decide (x.1 ≤ 1099511627776) && (decide (0 ≤ x.2) && decide (x.2 < 16)))

theorem sright_runs (D : Decls) (hp : D.prim F_stamp_Right = none) (hc : D.code.get F_stamp_Right = some A_stamp_Right) (M : Mem) (x : St) :
    Runs D F_stamp_Right [.agg (stC x)] M fun v M' => v = .bool (rightSt x) ∧ ∀ c, c < M.next → M'.get c = M.get c := by
  refine R_opq fun R hR => ?_
  refine Runs.walk (F := A_stamp_Right) hp hc (by rfl) ?_
  unfold A_stamp_Right
  have hcn : V.cells (.agg (stC x)) = stC x := rfl
  have g1 : (M.push (.cells (stC x) false)).get M.next = some (.cells (stC x) false) := Mem.get_push_same _ _
  have hG : ∀ c, c < M.next → (M.push (.cells (stC x) false)).get c = M.get c := (Grew.push _ _).old
  have e0 : (stC x)[0]? = some (.int .i64 x.1) := rfl
  have e1 : (stC x)[1]? = some (.int .i64 x.2) := rfl
  have fin : ∀ b, b = rightSt x → R (.bool b) (M.push (.cells (stC x) false)) := fun b hb => hR _ _ ⟨by rw [hb], hG⟩
  simp -dsimp only [↓w_seq, ↓w_ops, ↓w_skip, ↓w_ret, ↓w_exit, ↓w_scope, ↓w_block, ↓w_cond, cond_true', cond_false', ↓t_nil, ↓t_plain, ↓t_guard, ↓t_gagain, ↓t_again, t_val, t_call, g_true, g_false, ga_true, ga_false, a_val, a_call, ↓n_normal, ↓n_ret, ↓n_exit, ↓b_normal, ↓b_ret, ↓b_exit, ↓e_normal, ↓e_ret, e_some, go_sem, ↓reduceIte, Nat.reduceEqDiff, Nat.reduceLT, Nat.reduceSub, A_stamp_Right_0, A_stamp_Right_1, hcn]
  generalize M.push (.cells (stC x) false) = M1 at *
  simp -dsimp only [↓w_seq, ↓w_ops, ↓w_skip, ↓w_ret, ↓w_exit, ↓w_scope, ↓w_block, ↓w_cond, cond_true', cond_false', ↓t_nil, ↓t_plain, ↓t_guard, ↓t_gagain, ↓t_again, t_val, t_call, g_true, g_false, ga_true, ga_false, a_val, a_call, ↓n_normal, ↓n_ret, ↓n_exit, ↓b_normal, ↓b_ret, ↓b_exit, ↓e_normal, ↓e_ret, e_some, go_sem, ↓reduceIte, Nat.reduceEqDiff, Nat.reduceLT, Nat.reduceSub, vload, vptr, Mem.read, g1, Nat.add_zero, e0, e1]
  by_cases h1 : 0 ≤ x.1
  · simp -dsimp only [↓w_seq, ↓w_ops, ↓w_skip, ↓w_ret, ↓w_exit, ↓w_scope, ↓w_block, ↓w_cond, cond_true', cond_false', ↓t_nil, ↓t_plain, ↓t_guard, ↓t_gagain, ↓t_again, t_val, t_call, g_true, g_false, ga_true, ga_false, a_val, a_call, ↓n_normal, ↓n_ret, ↓n_exit, ↓b_normal, ↓b_ret, ↓b_exit, ↓e_normal, ↓e_ret, e_some, go_sem, ↓reduceIte, Nat.reduceEqDiff, Nat.reduceLT, Nat.reduceSub, h1, decide_true, vload, vptr, Mem.read, g1, Nat.add_zero, e0, e1]
    by_cases h2 : x.1 ≤ 1099511627776
    · simp -dsimp only [↓w_seq, ↓w_ops, ↓w_skip, ↓w_ret, ↓w_exit, ↓w_scope, ↓w_block, ↓w_cond, cond_true', cond_false', ↓t_nil, ↓t_plain, ↓t_guard, ↓t_gagain, ↓t_again, t_val, t_call, g_true, g_false, ga_true, ga_false, a_val, a_call, ↓n_normal, ↓n_ret, ↓n_exit, ↓b_normal, ↓b_ret, ↓b_exit, ↓e_normal, ↓e_ret, e_some, go_sem, ↓reduceIte, Nat.reduceEqDiff, Nat.reduceLT, Nat.reduceSub, h2, decide_true, vload, vptr, Mem.read, g1, Nat.add_zero, e0, e1]
      by_cases h3 : 0 ≤ x.2
      · simp -dsimp only [↓w_seq, ↓w_ops, ↓w_skip, ↓w_ret, ↓w_exit, ↓w_scope, ↓w_block, ↓w_cond, cond_true', cond_false', ↓t_nil, ↓t_plain, ↓t_guard, ↓t_gagain, ↓t_again, t_val, t_call, g_true, g_false, ga_true, ga_false, a_val, a_call, ↓n_normal, ↓n_ret, ↓n_exit, ↓b_normal, ↓b_ret, ↓b_exit, ↓e_normal, ↓e_ret, e_some, go_sem, ↓reduceIte, Nat.reduceEqDiff, Nat.reduceLT, Nat.reduceSub, h3, decide_true, vload, vptr, Mem.read, g1, Nat.add_zero, e0, e1]
        exact fin _ (by simp only [rightSt, h1, h2, h3, decide_true, Bool.true_and])
      · simp -dsimp only [↓w_seq, ↓w_ops, ↓w_skip, ↓w_ret, ↓w_exit, ↓w_scope, ↓w_block, ↓w_cond, cond_true', cond_false', ↓t_nil, ↓t_plain, ↓t_guard, ↓t_gagain, ↓t_again, t_val, t_call, g_true, g_false, ga_true, ga_false, a_val, a_call, ↓n_normal, ↓n_ret, ↓n_exit, ↓b_normal, ↓b_ret, ↓b_exit, ↓e_normal, ↓e_ret, e_some, go_sem, ↓reduceIte, Nat.reduceEqDiff, Nat.reduceLT, Nat.reduceSub, h3, decide_false, vload, vptr, Mem.read, g1, Nat.add_zero, e0, e1]
        exact fin _ (by simp only [rightSt, h1, h2, h3, decide_true, decide_false, Bool.true_and, Bool.false_and])
    · simp -dsimp only [↓w_seq, ↓w_ops, ↓w_skip, ↓w_ret, ↓w_exit, ↓w_scope, ↓w_block, ↓w_cond, cond_true', cond_false', ↓t_nil, ↓t_plain, ↓t_guard, ↓t_gagain, ↓t_again, t_val, t_call, g_true, g_false, ga_true, ga_false, a_val, a_call, ↓n_normal, ↓n_ret, ↓n_exit, ↓b_normal, ↓b_ret, ↓b_exit, ↓e_normal, ↓e_ret, e_some, go_sem, ↓reduceIte, Nat.reduceEqDiff, Nat.reduceLT, Nat.reduceSub, h2, decide_false, vload, vptr, Mem.read, g1, Nat.add_zero, e0, e1]
      exact fin _ (by simp only [rightSt, h1, h2, decide_true, decide_false, Bool.true_and, Bool.false_and])
  · simp -dsimp only [↓w_seq, ↓w_ops, ↓w_skip, ↓w_ret, ↓w_exit, ↓w_scope, ↓w_block, ↓w_cond, cond_true', cond_false', ↓t_nil, ↓t_plain, ↓t_guard, ↓t_gagain, ↓t_again, t_val, t_call, g_true, g_false, ga_true, ga_false, a_val, a_call, ↓n_normal, ↓n_ret, ↓n_exit, ↓b_normal, ↓b_ret, ↓b_exit, ↓e_normal, ↓e_ret, e_some, go_sem, ↓reduceIte, Nat.reduceEqDiff, Nat.reduceLT, Nat.reduceSub, h1, decide_false, vload, vptr, Mem.read, g1, Nat.add_zero, e0, e1]
    exact fin _ (by simp only [rightSt, h1, decide_false, Bool.false_and])

def digitL (k : List UInt8) (i : Nat) : Nat := (k.getD i 0).toNat
def rightK (k : List UInt8) : Bool := !decide (k = []) && (decide (k.length ≤ 24) && !decide (digitL k (k.length - 1) = 0))
theorem kright_runs (D : Decls) (hp : D.prim F_poskey_Right = none) (hc : D.code.get F_poskey_Right = some A_poskey_Right) (M : Mem) (k : List UInt8) :
    Runs D F_poskey_Right [.str k] M fun v M' => v = .bool (rightK k) ∧ M' = M := by
  refine R_opq fun R hR => ?_
  refine Runs.walk (F := A_poskey_Right) hp hc (by rfl) ?_
  unfold A_poskey_Right
  have fin : ∀ b, b = rightK k → R (.bool b) M := fun b hb => hR _ _ ⟨by rw [hb], rfl⟩
  simp -dsimp only [↓w_seq, ↓w_ops, ↓w_skip, ↓w_ret, ↓w_exit, ↓w_scope, ↓w_block, ↓w_cond, cond_true', cond_false', ↓t_nil, ↓t_plain, ↓t_guard, ↓t_gagain, ↓t_again, t_val, t_call, g_true, g_false, ga_true, ga_false, a_val, a_call, ↓n_normal, ↓n_ret, ↓n_exit, ↓b_normal, ↓b_ret, ↓b_exit, ↓e_normal, ↓e_ret, e_some, go_sem, ↓reduceIte, Nat.reduceEqDiff, Nat.reduceLT, Nat.reduceSub, A_poskey_Right_0, A_poskey_Right_1]
  by_cases h : k = []
  · simp -dsimp only [↓w_seq, ↓w_ops, ↓w_skip, ↓w_ret, ↓w_exit, ↓w_scope, ↓w_block, ↓w_cond, cond_true', cond_false', ↓t_nil, ↓t_plain, ↓t_guard, ↓t_gagain, ↓t_again, t_val, t_call, g_true, g_false, ga_true, ga_false, a_val, a_call, ↓n_normal, ↓n_ret, ↓n_exit, ↓b_normal, ↓b_ret, ↓b_exit, ↓e_normal, ↓e_ret, e_some, go_sem, ↓reduceIte, Nat.reduceEqDiff, Nat.reduceLT, Nat.reduceSub, h, decide_true, Bool.not_true, Bool.not_false]
    exact fin _ (by simp only [rightK, h, decide_true, Bool.not_true, Bool.false_and])
  · have hk : 0 < k.length := by cases k <;> simp at h ⊢
    simp -dsimp only [↓w_seq, ↓w_ops, ↓w_skip, ↓w_ret, ↓w_exit, ↓w_scope, ↓w_block, ↓w_cond, cond_true', cond_false', ↓t_nil, ↓t_plain, ↓t_guard, ↓t_gagain, ↓t_again, t_val, t_call, g_true, g_false, ga_true, ga_false, a_val, a_call, ↓n_normal, ↓n_ret, ↓n_exit, ↓b_normal, ↓b_ret, ↓b_exit, ↓e_normal, ↓e_ret, e_some, go_sem, ↓reduceIte, Nat.reduceEqDiff, Nat.reduceLT, Nat.reduceSub, h, decide_false, Bool.not_true, Bool.not_false]
    by_cases h2 : (k.length : Int) ≤ 24
    · have hl : k[k.length - 1]? = some k[k.length - 1] := List.getElem?_eq_getElem (by omega)
      have hd : digitL k (k.length - 1) = k[k.length - 1].toNat := by simp [digitL, List.getD_eq_getElem?_getD, hl]
      simp -dsimp only [↓w_seq, ↓w_ops, ↓w_skip, ↓w_ret, ↓w_exit, ↓w_scope, ↓w_block, ↓w_cond, cond_true', cond_false', ↓t_nil, ↓t_plain, ↓t_guard, ↓t_gagain, ↓t_again, t_val, t_call, g_true, g_false, ga_true, ga_false, a_val, a_call, ↓n_normal, ↓n_ret, ↓n_exit, ↓b_normal, ↓b_ret, ↓b_exit, ↓e_normal, ↓e_ret, e_some, go_sem, ↓reduceIte, Nat.reduceEqDiff, Nat.reduceLT, Nat.reduceSub, h2, decide_true]
      rw [IntWalk.i64_in _ (by omega), as_nat _ _ (by omega), show ((k.length : Int) - 1).toNat = k.length - 1 by omega]
      simp -dsimp only [↓w_seq, ↓w_ops, ↓w_skip, ↓w_ret, ↓w_exit, ↓w_scope, ↓w_block, ↓w_cond, cond_true', cond_false', ↓t_nil, ↓t_plain, ↓t_guard, ↓t_gagain, ↓t_again, t_val, t_call, g_true, g_false, ga_true, ga_false, a_val, a_call, ↓n_normal, ↓n_ret, ↓n_exit, ↓b_normal, ↓b_ret, ↓b_exit, ↓e_normal, ↓e_ret, e_some, go_sem, ↓reduceIte, Nat.reduceEqDiff, Nat.reduceLT, Nat.reduceSub, hl]
      exact fin _ (by simp only [rightK, h, hd, show k.length ≤ 24 by omega, Int.natCast_eq_zero, decide_true, decide_false, Bool.not_false, Bool.true_and])
    · simp -dsimp only [↓w_seq, ↓w_ops, ↓w_skip, ↓w_ret, ↓w_exit, ↓w_scope, ↓w_block, ↓w_cond, cond_true', cond_false', ↓t_nil, ↓t_plain, ↓t_guard, ↓t_gagain, ↓t_again, t_val, t_call, g_true, g_false, ga_true, ga_false, a_val, a_call, ↓n_normal, ↓n_ret, ↓n_exit, ↓b_normal, ↓b_ret, ↓b_exit, ↓e_normal, ↓e_ret, e_some, go_sem, ↓reduceIte, Nat.reduceEqDiff, Nat.reduceLT, Nat.reduceSub, h2, decide_false]
      exact fin _ (by simp only [rightK, h, show ¬ k.length ≤ 24 by omega, decide_true, decide_false, Bool.not_false, Bool.true_and, Bool.false_and])

/-! ### parts: none, node, Within -/
def treeOf (M : Mem) (tc : Nat) : Option (Option Tr) :=
  match M.get tc with
  | some (.cells [.map none] _) => some none
  | some (.cells [.map (some bm)] _) => (match M.get bm with
    | some (.map es) => (decM es).map some
    | _ => none)
  | _ => none
theorem treeOf_none {M : Mem} {tc : Nat} (h : treeOf M tc = some none) : ∃ rc, M.get tc = some (.cells [.map none] rc) := by
  unfold treeOf at h
  split at h
  · exact ⟨_, by assumption⟩
  · split at h
    · simp only [Option.map_eq_some_iff] at h
      obtain ⟨_, _, h⟩ := h
      cases h
    · cases h
  · cases h
theorem treeOf_some {M : Mem} {tc : Nat} {l : Tr} (h : treeOf M tc = some (some l)) : ∃ bm rc, M.get tc = some (.cells [.map (some bm)] rc) ∧ M.get bm = some (.map (encM l)) := by
  unfold treeOf at h
  split at h
  · cases h
  · rename_i bm rc htc
    split at h
    · rename_i es hes
      simp only [Option.map_eq_some_iff] at h
      obtain ⟨l', h1, h2⟩ := h
      cases h2
      exact ⟨bm, rc, htc, by rw [hes, decM_is h1]⟩
    · cases h
  · cases h
theorem treeOf_is {M : Mem} {tc bm : Nat} {rc : Bool} {l : Tr} (h : M.get tc = some (.cells [.map (some bm)] rc)) (h2 : M.get bm = some (.map (encM l))) : treeOf M tc = some (some l) := by
  simp only [treeOf, h, h2, decM_enc, Option.map_some]
theorem treeOf_is0 {M : Mem} {tc : Nat} {rc : Bool} (h : M.get tc = some (.cells [.map none] rc)) : treeOf M tc = some none := by
  simp only [treeOf, h]
theorem lt_of_get {M : Mem} (hwf : ∀ b, M.next ≤ b → M.get b = none) {c : Nat} {o : O} (h : M.get c = some o) : c < M.next := by
  rcases Nat.lt_or_ge c M.next with h1 | h1
  · exact h1
  · rw [hwf c h1] at h; cases h

def pNone (args : List V) (M : Mem) : Option V :=
  match args with
  | [.ptr none] => some (.bool true)
  | [.ptr (some (tc, 0))] => (treeOf M tc).map fun o => .bool o.isNone
  | _ => none
def pNode (args : List V) (M : Mem) : Option V :=
  match args with
  | [.ptr (some (tc, 0)), .agg [.int .i64 a, .int .i64 b]] => (treeOf M tc).bind fun o => o.map fun l => .bool (getS l (a, b)).isSome
  | _ => none
def withinB (l : Tr) (p n : St) (path : List St) : Bool := (getS l n).isSome && (decide (p ∈ path) || decide (p = n))
def pWithin (args : List V) (M : Mem) : Option V :=
  match args with
  | [.ptr none, .agg [.int .i64 a, .int .i64 b], .agg [.int .i64 c, .int .i64 d]] => some (.bool false)
  | [.ptr (some (tc, 0)), .agg [.int .i64 a, .int .i64 b], .agg [.int .i64 c, .int .i64 d]] => (treeOf M tc).bind fun o => match o with
    | none => some (.bool false)
    | some l => (upL l (l.length + 1) (c, d)).map fun path => .bool (withinB l (a, b) (c, d) path)
  | _ => none

theorem pNone_ok : CallOK Tryz.prog gl0 fun f' args M => if f' = F_tree_Tree_none then (pNone args M).map (·, M) else none := by
  refine prim_keep ⟨_, Tryz.func44, (by kernel_rfl), (by kernel_rfl)⟩ ?_
  intro args M v h hwf
  unfold pNone at h
  split at h
  · cases h
    exact ⟨rfl, XRuns.of_runs dok0 ((none_nil D0 rfl (by rfl) M).mono fun v M' h => ⟨h.1, fun c _ => by rw [h.2]⟩)⟩
  · rename_i tc
    simp only [Option.map_eq_some_iff] at h
    obtain ⟨o, h1, rfl⟩ := h
    cases o with
    | none =>
      obtain ⟨rc, h2⟩ := treeOf_none h1
      exact ⟨rfl, XRuns.of_runs dok0 ((none_empty D0 rfl (by rfl) M tc rc h2).mono fun v M' h => ⟨h.1, fun c _ => by rw [h.2]⟩)⟩
    | some l =>
      obtain ⟨bm, rc, h2, h3⟩ := treeOf_some h1
      exact ⟨rfl, XRuns.of_runs dok0 ((none_some D0 rfl (by rfl) M tc bm rc h2).mono fun v M' h => ⟨h.1, fun c _ => by rw [h.2]⟩)⟩
  · cases h
theorem pNode_ok : CallOK Tryz.prog gl0 fun f' args M => if f' = F_tree_Tree_node then (pNode args M).map (·, M) else none := by
  refine prim_keep ⟨_, Tryz.func47, (by kernel_rfl), (by kernel_rfl)⟩ ?_
  intro args M v h hwf
  unfold pNode at h
  split at h
  · rename_i tc a b
    simp only [Option.bind_eq_some_iff, Option.map_eq_some_iff] at h
    obtain ⟨o, h1, l, rfl, rfl⟩ := h
    obtain ⟨bm, rc, h2, h3⟩ := treeOf_some h1
    exact ⟨rfl, XRuns.of_runs dok0 ((node_runs D0 rfl (by rfl) M tc bm rc l (a, b) (lt_of_get hwf h2) (lt_of_get hwf h3) h2 (by unfold mapAt; rw [h3])).mono fun v M' h => ⟨h.1, h.2.old⟩)⟩
  · cases h
theorem Within_nil (M : Mem) (p n : St) : XP F_tree_Tree_Within [.ptr none, .agg (stC p), .agg (stC n)] M fun v M' => v = .bool false ∧ ∀ c, c < M.next → M'.get c = M.get c := by
  refine XR_opq fun R hR => ?_
  refine XRuns.walk mixed Tryz.func53 b_tree_Tree_Within n_tree_Tree_Within r_tree_Tree_Within (by rfl) ?_
  unfold X_tree_Tree_Within
  have hcn : ∀ x : St, V.cells (.agg (stC x)) = stC x := fun _ => rfl
  simp -dsimp only [↓x_seq', ↓x_ops, ↓x_skip, ↓x_ret, ↓x_exit, ↓x_block', ↓x_cond', cond_true', cond_false', ↓i_nil, ↓i_plain, ↓i_guard, xs_val, xs_call, xs_yield, xg_true, xg_false, ↓n_normal, ↓n_ret, ↓n_exit, ↓b_normal, ↓b_ret, ↓b_exit, ↓xe_normal, ↓xe_ret, e_some, yieldOf, go_sem, ↓reduceIte, Nat.reduceEqDiff, Nat.reduceLT, Nat.reduceSub, X_tree_Tree_Within_0, X_tree_Tree_Within_1, hcn, Mem.next_push]
  have gk : Grew M (((M.push (.cells (stC p) false)).push (.cells (stC n) false)).push (.cells [.bool false] false)) := ((Grew.push _ _).trans (Grew.push _ _)).trans (Grew.push _ _)
  have g6 : (((M.push (.cells (stC p) false)).push (.cells (stC n) false)).push (.cells [.bool false] false)).get (M.next + 1 + 1) = some (.cells [.bool false] false) := Mem.get_push_same ((M.push _).push _) _
  generalize ((M.push (.cells (stC p) false)).push (.cells (stC n) false)).push (.cells [.bool false] false) = M1 at *
  refine xcall_of (XRuns.of_runs dok0 (none_nil D0 rfl (by rfl) M1)) ?_
  intro v M2 hv
  rw [hv.1, hv.2]
  have hw6 := write_one (v := .bool false) g6 (show 0 < 1 by omega) rfl
  simp -dsimp only [↓x_seq', ↓x_ops, ↓x_skip, ↓x_ret, ↓x_exit, ↓x_block', ↓x_cond', cond_true', cond_false', ↓i_nil, ↓i_plain, ↓i_guard, xs_val, xs_call, xs_yield, xg_true, xg_false, ↓n_normal, ↓n_ret, ↓n_exit, ↓b_normal, ↓b_ret, ↓b_exit, ↓xe_normal, ↓xe_ret, e_some, yieldOf, go_sem, ↓reduceIte, Nat.reduceEqDiff, Nat.reduceLT, Nat.reduceSub, X_tree_Tree_Within_2, vstore, V.cells, List.length_cons, List.length_nil, Nat.zero_add, hw6, List.set_cons_zero]
  have hs6 := Mem.get_set_same M1 (M.next + 1 + 1) (.cells [.bool false] false)
  have ho6 : ∀ c, c ≠ M.next + 1 + 1 → (M1.set (M.next + 1 + 1) (.cells [.bool false] false)).get c = M1.get c := fun c hc => Mem.get_set_ne _ _ hc
  generalize M1.set (M.next + 1 + 1) (.cells [.bool false] false) = M6 at *
  simp -dsimp only [↓x_seq', ↓x_ops, ↓x_skip, ↓x_ret, ↓x_exit, ↓x_block', ↓x_cond', cond_true', cond_false', ↓i_nil, ↓i_plain, ↓i_guard, xs_val, xs_call, xs_yield, xg_true, xg_false, ↓n_normal, ↓n_ret, ↓n_exit, ↓b_normal, ↓b_ret, ↓b_exit, ↓xe_normal, ↓xe_ret, e_some, yieldOf, go_sem, ↓reduceIte, Nat.reduceEqDiff, Nat.reduceLT, Nat.reduceSub, vload, vptr, Mem.read, hs6, List.getElem?_cons_zero, Option.bind_some, oneOf]
  exact hR _ _ ⟨rfl, fun c hc => (ho6 c (by omega)).trans (gk.old c hc)⟩
theorem Within_empty (M : Mem) (p n : St) (tc : Nat) (rc : Bool) (htc : tc < M.next) (h : M.get tc = some (.cells [.map none] rc)) : XP F_tree_Tree_Within [.ptr (some (tc, 0)), .agg (stC p), .agg (stC n)] M fun v M' => v = .bool false ∧ ∀ c, c < M.next → M'.get c = M.get c := by
  refine XR_opq fun R hR => ?_
  refine XRuns.walk mixed Tryz.func53 b_tree_Tree_Within n_tree_Tree_Within r_tree_Tree_Within (by rfl) ?_
  unfold X_tree_Tree_Within
  have hcn : ∀ x : St, V.cells (.agg (stC x)) = stC x := fun _ => rfl
  simp -dsimp only [↓x_seq', ↓x_ops, ↓x_skip, ↓x_ret, ↓x_exit, ↓x_block', ↓x_cond', cond_true', cond_false', ↓i_nil, ↓i_plain, ↓i_guard, xs_val, xs_call, xs_yield, xg_true, xg_false, ↓n_normal, ↓n_ret, ↓n_exit, ↓b_normal, ↓b_ret, ↓b_exit, ↓xe_normal, ↓xe_ret, e_some, yieldOf, go_sem, ↓reduceIte, Nat.reduceEqDiff, Nat.reduceLT, Nat.reduceSub, X_tree_Tree_Within_0, X_tree_Tree_Within_1, hcn, Mem.next_push]
  have gk : Grew M (((M.push (.cells (stC p) false)).push (.cells (stC n) false)).push (.cells [.bool false] false)) := ((Grew.push _ _).trans (Grew.push _ _)).trans (Grew.push _ _)
  have g6 : (((M.push (.cells (stC p) false)).push (.cells (stC n) false)).push (.cells [.bool false] false)).get (M.next + 1 + 1) = some (.cells [.bool false] false) := Mem.get_push_same ((M.push _).push _) _
  generalize ((M.push (.cells (stC p) false)).push (.cells (stC n) false)).push (.cells [.bool false] false) = M1 at *
  refine xcall_of (XRuns.of_runs dok0 (none_empty D0 rfl (by rfl) M1 tc rc ((gk.old _ htc).trans h))) ?_
  intro v M2 hv
  rw [hv.1, hv.2]
  have hw6 := write_one (v := .bool false) g6 (show 0 < 1 by omega) rfl
  simp -dsimp only [↓x_seq', ↓x_ops, ↓x_skip, ↓x_ret, ↓x_exit, ↓x_block', ↓x_cond', cond_true', cond_false', ↓i_nil, ↓i_plain, ↓i_guard, xs_val, xs_call, xs_yield, xg_true, xg_false, ↓n_normal, ↓n_ret, ↓n_exit, ↓b_normal, ↓b_ret, ↓b_exit, ↓xe_normal, ↓xe_ret, e_some, yieldOf, go_sem, ↓reduceIte, Nat.reduceEqDiff, Nat.reduceLT, Nat.reduceSub, X_tree_Tree_Within_2, vstore, V.cells, List.length_cons, List.length_nil, Nat.zero_add, hw6, List.set_cons_zero]
  have hs6 := Mem.get_set_same M1 (M.next + 1 + 1) (.cells [.bool false] false)
  have ho6 : ∀ c, c ≠ M.next + 1 + 1 → (M1.set (M.next + 1 + 1) (.cells [.bool false] false)).get c = M1.get c := fun c hc => Mem.get_set_ne _ _ hc
  generalize M1.set (M.next + 1 + 1) (.cells [.bool false] false) = M6 at *
  simp -dsimp only [↓x_seq', ↓x_ops, ↓x_skip, ↓x_ret, ↓x_exit, ↓x_block', ↓x_cond', cond_true', cond_false', ↓i_nil, ↓i_plain, ↓i_guard, xs_val, xs_call, xs_yield, xg_true, xg_false, ↓n_normal, ↓n_ret, ↓n_exit, ↓b_normal, ↓b_ret, ↓b_exit, ↓xe_normal, ↓xe_ret, e_some, yieldOf, go_sem, ↓reduceIte, Nat.reduceEqDiff, Nat.reduceLT, Nat.reduceSub, vload, vptr, Mem.read, hs6, List.getElem?_cons_zero, Option.bind_some, oneOf]
  exact hR _ _ ⟨rfl, fun c hc => (ho6 c (by omega)).trans (gk.old c hc)⟩
theorem pWithin_ok : CallOK Tryz.prog gl0 fun f' args M => if f' = F_tree_Tree_Within then (pWithin args M).map (·, M) else none := by
  refine prim_keep ⟨_, Tryz.func53, (by kernel_rfl), (by kernel_rfl)⟩ ?_
  intro args M v h hwf
  unfold pWithin at h
  split at h
  · rename_i a b c d
    cases h
    exact ⟨rfl, Within_nil M (a, b) (c, d)⟩
  · rename_i tc a b c d
    simp only [Option.bind_eq_some_iff] at h
    obtain ⟨o, h1, h⟩ := h
    cases o with
    | none =>
      obtain ⟨rc, h2⟩ := treeOf_none h1
      cases h
      exact ⟨rfl, Within_empty M (a, b) (c, d) tc rc (lt_of_get hwf h2) h2⟩
    | some l =>
      obtain ⟨bm, rc, h2, h3⟩ := treeOf_some h1
      simp only [Option.map_eq_some_iff] at h
      obtain ⟨path, hp, rfl⟩ := h
      exact ⟨rfl, (Within_runs M tc bm rc l (a, b) (c, d) path (lt_of_get hwf h2) (lt_of_get hwf h3) h2 (by unfold mapAt; rw [h3]) ⟨_, hp⟩).mono fun v M' h => ⟨h.2, h.1⟩⟩
  · cases h

def pSRight (args : List V) (_ : Mem) : Option V :=
  match args with
  | [.agg [.int .i64 a, .int .i64 b]] => some (.bool (rightSt (a, b)))
  | _ => none
def pKRight (args : List V) (_ : Mem) : Option V :=
  match args with
  | [.str k] => some (.bool (rightK k))
  | _ => none
theorem pSRight_ok : CallOK Tryz.prog gl0 fun f' args M => if f' = F_stamp_Right then (pSRight args M).map (·, M) else none := by
  refine prim_keep ⟨_, Tryz.func91, (by kernel_rfl), (by kernel_rfl)⟩ ?_
  intro args M v h hwf
  unfold pSRight at h
  split at h
  · rename_i a b
    cases h
    exact ⟨rfl, XRuns.of_runs dok0 (sright_runs D0 rfl (by rfl) M (a, b))⟩
  · cases h
theorem pKRight_ok : CallOK Tryz.prog gl0 fun f' args M => if f' = F_poskey_Right then (pKRight args M).map (·, M) else none := by
  refine prim_keep ⟨_, Tryz.func93, (by kernel_rfl), (by kernel_rfl)⟩ ?_
  intro args M v h hwf
  unfold pKRight at h
  split at h
  · rename_i k
    cases h
    exact ⟨rfl, XRuns.of_runs dok0 ((kright_runs D0 rfl (by rfl) M k).mono fun v M' h => ⟨h.1, fun c _ => by rw [h.2]⟩)⟩
  · cases h
def D1v : Decls := ((((D1u.addP F_tree_Tree_none pNone).addP F_tree_Tree_node pNode).addP F_tree_Tree_Within pWithin).addP F_stamp_Right pSRight).addP F_poskey_Right pKRight
theorem dok1v : DOK Tryz.prog gl0 D1v := ((((dok1u.addM pNone_ok).addM pNode_ok).addM pWithin_ok).addM pSRight_ok).addM pKRight_ok
end Go.Am.Tryz


/- op.Node, op.Place, Spot.right, Has, Spot as parts. -/
namespace Go.Am.Tryz
open Go Go.Am Go.Proofs Go.Sort Go.Shelf
set_option maxRecDepth 100000
set_option linter.unusedSimpArgs false
set_option linter.unusedVariables false

def nodeSt (x : St) : Bool := rightSt x && decide (0 < x.1)
def placeSt (x : St) : Bool := nodeSt x || (decide (x = (0, 0)) || decide (x = (0, 1)))
def isG (M : Mem) : Bool :=
  match M.get 0, M.get 1 with
  | some (.cells [.int .i64 a, .int .i64 b] true), some (.cells [.int .i64 c, .int .i64 d] true) => (decide (a = 0) && decide (b = 0)) && (decide (c = 0) && decide (d = 1))
  | _, _ => false
theorem isG_is {M : Mem} (h : isG M = true) : M.get 0 = some (.cells (stC (0, 0)) true) ∧ M.get 1 = some (.cells (stC (0, 1)) true) := by
  unfold isG at h
  split at h
  · rename_i a b c d h0 h1
    simp only [Bool.and_eq_true, decide_eq_true_eq] at h
    obtain ⟨⟨rfl, rfl⟩, rfl, rfl⟩ := h
    exact ⟨h0, h1⟩
  · cases h
theorem isG_mk {M : Mem} (h0 : M.get 0 = some (.cells (stC (0, 0)) true)) (h1 : M.get 1 = some (.cells (stC (0, 1)) true)) : isG M = true := by
  simp only [isG, h0, h1, stC]
  rfl

theorem opNode_runs (M : Mem) (x : St) : Runs D1v F_op_Node [.agg (stC x)] M fun v M' => v = .bool (nodeSt x) ∧ ∀ c, c < M.next → M'.get c = M.get c := by
  refine R_opq fun R hR => ?_
  refine Runs.walk (F := A_op_Node) rfl (by rfl) (by rfl) ?_
  unfold A_op_Node
  have hcn : V.cells (.agg (stC x)) = stC x := rfl
  have hrd : rdCells (stC x) 0 2 = some (stC x) := rfl
  have g1 : (M.push (.cells (stC x) false)).get M.next = some (.cells (stC x) false) := Mem.get_push_same _ _
  have hG : ∀ c, c < M.next → (M.push (.cells (stC x) false)).get c = M.get c := (Grew.push _ _).old
  have e0 : (stC x)[0]? = some (.int .i64 x.1) := rfl
  have fin : ∀ b, b = nodeSt x → R (.bool b) (M.push (.cells (stC x) false)) := fun b hb => hR _ _ ⟨by rw [hb], hG⟩
  simp -dsimp only [↓w_seq, ↓w_ops, ↓w_skip, ↓w_ret, ↓w_exit, ↓w_scope, ↓w_block, ↓w_cond, cond_true', cond_false', ↓t_nil, ↓t_plain, ↓t_guard, ↓t_gagain, ↓t_again, t_val, t_call, g_true, g_false, ga_true, ga_false, a_val, a_call, ↓n_normal, ↓n_ret, ↓n_exit, ↓b_normal, ↓b_ret, ↓b_exit, ↓e_normal, ↓e_ret, e_some, go_sem, ↓reduceIte, Nat.reduceEqDiff, Nat.reduceLT, Nat.reduceSub, A_op_Node_0, A_op_Node_1, hcn]
  generalize M.push (.cells (stC x) false) = M1 at *
  simp -dsimp only [↓w_seq, ↓w_ops, ↓w_skip, ↓w_ret, ↓w_exit, ↓w_scope, ↓w_block, ↓w_cond, cond_true', cond_false', ↓t_nil, ↓t_plain, ↓t_guard, ↓t_gagain, ↓t_again, t_val, t_call, g_true, g_false, ga_true, ga_false, a_val, a_call, ↓n_normal, ↓n_ret, ↓n_exit, ↓b_normal, ↓b_ret, ↓b_exit, ↓e_normal, ↓e_ret, e_some, go_sem, ↓reduceIte, Nat.reduceEqDiff, Nat.reduceLT, Nat.reduceSub, vload, vptr, Mem.read, g1, Nat.add_zero, e0, hrd]
  refine call_eq (Runs.part (g := pSRight) rfl rfl) ?_
  cases hr : rightSt (x.1, x.2) with
  | true =>
    simp -dsimp only [↓w_seq, ↓w_ops, ↓w_skip, ↓w_ret, ↓w_exit, ↓w_scope, ↓w_block, ↓w_cond, cond_true', cond_false', ↓t_nil, ↓t_plain, ↓t_guard, ↓t_gagain, ↓t_again, t_val, t_call, g_true, g_false, ga_true, ga_false, a_val, a_call, ↓n_normal, ↓n_ret, ↓n_exit, ↓b_normal, ↓b_ret, ↓b_exit, ↓e_normal, ↓e_ret, e_some, go_sem, ↓reduceIte, Nat.reduceEqDiff, Nat.reduceLT, Nat.reduceSub, vload, vptr, Mem.read, g1, Nat.add_zero, e0, hrd]
    exact fin _ (by rw [nodeSt, show rightSt x = true from hr]; rfl)
  | false =>
    simp -dsimp only [↓w_seq, ↓w_ops, ↓w_skip, ↓w_ret, ↓w_exit, ↓w_scope, ↓w_block, ↓w_cond, cond_true', cond_false', ↓t_nil, ↓t_plain, ↓t_guard, ↓t_gagain, ↓t_again, t_val, t_call, g_true, g_false, ga_true, ga_false, a_val, a_call, ↓n_normal, ↓n_ret, ↓n_exit, ↓b_normal, ↓b_ret, ↓b_exit, ↓e_normal, ↓e_ret, e_some, go_sem, ↓reduceIte, Nat.reduceEqDiff, Nat.reduceLT, Nat.reduceSub, vload, vptr, Mem.read, g1, Nat.add_zero, e0, hrd]
    exact fin _ (by rw [nodeSt, show rightSt x = false from hr]; rfl)
def pOpNode (args : List V) (_ : Mem) : Option V :=
  match args with
  | [.agg [.int .i64 a, .int .i64 b]] => some (.bool (nodeSt (a, b)))
  | _ => none
theorem pOpNode_ok : CallOK Tryz.prog gl0 fun f' args M => if f' = F_op_Node then (pOpNode args M).map (·, M) else none := by
  refine prim_keep ⟨_, Tryz.func45, (by kernel_rfl), (by kernel_rfl)⟩ ?_
  intro args M v h hwf
  unfold pOpNode at h
  split at h
  · rename_i a b
    cases h
    exact ⟨rfl, XRuns.of_runs dok1v (opNode_runs M (a, b))⟩
  · cases h
def D1w1 : Decls := D1v.addP F_op_Node pOpNode
theorem dok1w1 : DOK Tryz.prog gl0 D1w1 := dok1v.addM pOpNode_ok

theorem opPlace_runs (M : Mem) (x : St) (hn : 2 ≤ M.next) (h0 : M.get 0 = some (.cells (stC (0, 0)) true)) (h1 : M.get 1 = some (.cells (stC (0, 1)) true)) :
    Runs D1w1 F_op_Place [.agg (stC x)] M fun v M' => v = .bool (placeSt x) ∧ ∀ c, c < M.next → M'.get c = M.get c := by
  refine R_opq fun R hR => ?_
  refine Runs.walk (F := A_op_Place) rfl (by rfl) (by rfl) ?_
  unfold A_op_Place
  have hcn : V.cells (.agg (stC x)) = stC x := rfl
  have hrd : ∀ x : St, rdCells (stC x) 0 2 = some (stC x) := fun _ => rfl
  have g1 : (M.push (.cells (stC x) false)).get M.next = some (.cells (stC x) false) := Mem.get_push_same _ _
  have hG : ∀ c, c < M.next → (M.push (.cells (stC x) false)).get c = M.get c := (Grew.push _ _).old
  have k0 := (hG 0 (by omega)).trans h0
  have k1 := (hG 1 (by omega)).trans h1
  have fin : ∀ b, b = placeSt x → R (.bool b) (M.push (.cells (stC x) false)) := fun b hb => hR _ _ ⟨by rw [hb], hG⟩
  simp -dsimp only [↓w_seq, ↓w_ops, ↓w_skip, ↓w_ret, ↓w_exit, ↓w_scope, ↓w_block, ↓w_cond, cond_true', cond_false', ↓t_nil, ↓t_plain, ↓t_guard, ↓t_gagain, ↓t_again, t_val, t_call, g_true, g_false, ga_true, ga_false, a_val, a_call, ↓n_normal, ↓n_ret, ↓n_exit, ↓b_normal, ↓b_ret, ↓b_exit, ↓e_normal, ↓e_ret, e_some, go_sem, ↓reduceIte, Nat.reduceEqDiff, Nat.reduceLT, Nat.reduceSub, A_op_Place_0, A_op_Place_1, hcn]
  generalize M.push (.cells (stC x) false) = M1 at *
  simp -dsimp only [↓w_seq, ↓w_ops, ↓w_skip, ↓w_ret, ↓w_exit, ↓w_scope, ↓w_block, ↓w_cond, cond_true', cond_false', ↓t_nil, ↓t_plain, ↓t_guard, ↓t_gagain, ↓t_again, t_val, t_call, g_true, g_false, ga_true, ga_false, a_val, a_call, ↓n_normal, ↓n_ret, ↓n_exit, ↓b_normal, ↓b_ret, ↓b_exit, ↓e_normal, ↓e_ret, e_some, go_sem, ↓reduceIte, Nat.reduceEqDiff, Nat.reduceLT, Nat.reduceSub, vload, vptr, Mem.read, g1, Nat.add_zero, hrd]
  refine call_eq (Runs.part (g := pOpNode) rfl rfl) ?_
  cases hr : nodeSt (x.1, x.2) with
  | true =>
    simp -dsimp only [↓w_seq, ↓w_ops, ↓w_skip, ↓w_ret, ↓w_exit, ↓w_scope, ↓w_block, ↓w_cond, cond_true', cond_false', ↓t_nil, ↓t_plain, ↓t_guard, ↓t_gagain, ↓t_again, t_val, t_call, g_true, g_false, ga_true, ga_false, a_val, a_call, ↓n_normal, ↓n_ret, ↓n_exit, ↓b_normal, ↓b_ret, ↓b_exit, ↓e_normal, ↓e_ret, e_some, go_sem, ↓reduceIte, Nat.reduceEqDiff, Nat.reduceLT, Nat.reduceSub, vload, vptr, Mem.read, g1, Nat.add_zero, hrd]
    exact fin _ (by rw [placeSt, show nodeSt x = true from hr]; rfl)
  | false =>
    simp -dsimp only [↓w_seq, ↓w_ops, ↓w_skip, ↓w_ret, ↓w_exit, ↓w_scope, ↓w_block, ↓w_cond, cond_true', cond_false', ↓t_nil, ↓t_plain, ↓t_guard, ↓t_gagain, ↓t_again, t_val, t_call, g_true, g_false, ga_true, ga_false, a_val, a_call, ↓n_normal, ↓n_ret, ↓n_exit, ↓b_normal, ↓b_ret, ↓b_exit, ↓e_normal, ↓e_ret, e_some, go_sem, ↓reduceIte, Nat.reduceEqDiff, Nat.reduceLT, Nat.reduceSub, vload, vptr, Mem.read, g1, k0, k1, Nat.add_zero, hrd, st_same]
    by_cases h2 : x = (0, 0)
    · simp -dsimp only [↓w_seq, ↓w_ops, ↓w_skip, ↓w_ret, ↓w_exit, ↓w_scope, ↓w_block, ↓w_cond, cond_true', cond_false', ↓t_nil, ↓t_plain, ↓t_guard, ↓t_gagain, ↓t_again, t_val, t_call, g_true, g_false, ga_true, ga_false, a_val, a_call, ↓n_normal, ↓n_ret, ↓n_exit, ↓b_normal, ↓b_ret, ↓b_exit, ↓e_normal, ↓e_ret, e_some, go_sem, ↓reduceIte, Nat.reduceEqDiff, Nat.reduceLT, Nat.reduceSub, h2, decide_true, vload, vptr, Mem.read, g1, k0, k1, Nat.add_zero, hrd, st_same]
      exact fin _ (by rw [placeSt, show nodeSt x = false from hr]; simp [h2])
    · simp -dsimp only [↓w_seq, ↓w_ops, ↓w_skip, ↓w_ret, ↓w_exit, ↓w_scope, ↓w_block, ↓w_cond, cond_true', cond_false', ↓t_nil, ↓t_plain, ↓t_guard, ↓t_gagain, ↓t_again, t_val, t_call, g_true, g_false, ga_true, ga_false, a_val, a_call, ↓n_normal, ↓n_ret, ↓n_exit, ↓b_normal, ↓b_ret, ↓b_exit, ↓e_normal, ↓e_ret, e_some, go_sem, ↓reduceIte, Nat.reduceEqDiff, Nat.reduceLT, Nat.reduceSub, h2, decide_false, vload, vptr, Mem.read, g1, k0, k1, Nat.add_zero, hrd, st_same]
      exact fin _ (by rw [placeSt, show nodeSt x = false from hr]; simp [h2])
def pOpPlace (args : List V) (M : Mem) : Option V :=
  match args with
  | [.agg [.int .i64 a, .int .i64 b]] => cond (isG M) (some (.bool (placeSt (a, b)))) none
  | _ => none
theorem isG_lt {M : Mem} (hwf : ∀ b, M.next ≤ b → M.get b = none) (h : isG M = true) : 2 ≤ M.next := lt_of_get hwf (isG_is h).2
theorem pOpPlace_ok : CallOK Tryz.prog gl0 fun f' args M => if f' = F_op_Place then (pOpPlace args M).map (·, M) else none := by
  refine prim_keep ⟨_, Tryz.func92, (by kernel_rfl), (by kernel_rfl)⟩ ?_
  intro args M v h hwf
  unfold pOpPlace at h
  split at h
  · rename_i a b
    obtain ⟨h1, h⟩ := cond_some h
    cases h
    exact ⟨rfl, XRuns.of_runs dok1w1 (opPlace_runs M (a, b) (isG_lt hwf h1) (isG_is h1).1 (isG_is h1).2)⟩
  · cases h
def D1w2 : Decls := D1w1.addP F_op_Place pOpPlace
theorem dok1w2 : DOK Tryz.prog gl0 D1w2 := dok1w1.addM pOpPlace_ok

def rightSp (s : Spot) : Bool := placeSt s.1 && rightK s.2
theorem spRight_runs (M : Mem) (s : Spot) (hg : isG M = true) (hn : 2 ≤ M.next) : Runs D1w2 F_tree_Spot_right [.agg (spC s)] M fun v M' => v = .bool (rightSp s) ∧ ∀ c, c < M.next → M'.get c = M.get c := by
  refine R_opq fun R hR => ?_
  refine Runs.walk (F := A_tree_Spot_right) rfl (by rfl) (by rfl) ?_
  unfold A_tree_Spot_right
  have hcn : V.cells (.agg (spC s)) = spC s := rfl
  have hrd : rdCells (spC s) 0 2 = some (stC s.1) := rfl
  have e2 : (spC s)[2]? = some (.str s.2) := rfl
  have g1 : (M.push (.cells (spC s) false)).get M.next = some (.cells (spC s) false) := Mem.get_push_same _ _
  have hG : ∀ c, c < M.next → (M.push (.cells (spC s) false)).get c = M.get c := (Grew.push _ _).old
  have hg1 : isG (M.push (.cells (spC s) false)) = true := isG_mk ((hG 0 (by omega)).trans (isG_is hg).1) ((hG 1 (by omega)).trans (isG_is hg).2)
  have fin : ∀ b, b = rightSp s → R (.bool b) (M.push (.cells (spC s) false)) := fun b hb => hR _ _ ⟨by rw [hb], hG⟩
  simp -dsimp only [↓w_seq, ↓w_ops, ↓w_skip, ↓w_ret, ↓w_exit, ↓w_scope, ↓w_block, ↓w_cond, cond_true', cond_false', ↓t_nil, ↓t_plain, ↓t_guard, ↓t_gagain, ↓t_again, t_val, t_call, g_true, g_false, ga_true, ga_false, a_val, a_call, ↓n_normal, ↓n_ret, ↓n_exit, ↓b_normal, ↓b_ret, ↓b_exit, ↓e_normal, ↓e_ret, e_some, go_sem, ↓reduceIte, Nat.reduceEqDiff, Nat.reduceLT, Nat.reduceSub, A_tree_Spot_right_0, A_tree_Spot_right_1, hcn]
  generalize M.push (.cells (spC s) false) = M1 at *
  simp -dsimp only [↓w_seq, ↓w_ops, ↓w_skip, ↓w_ret, ↓w_exit, ↓w_scope, ↓w_block, ↓w_cond, cond_true', cond_false', ↓t_nil, ↓t_plain, ↓t_guard, ↓t_gagain, ↓t_again, t_val, t_call, g_true, g_false, ga_true, ga_false, a_val, a_call, ↓n_normal, ↓n_ret, ↓n_exit, ↓b_normal, ↓b_ret, ↓b_exit, ↓e_normal, ↓e_ret, e_some, go_sem, ↓reduceIte, Nat.reduceEqDiff, Nat.reduceLT, Nat.reduceSub, vload, vptr, Mem.read, g1, Nat.add_zero, hrd, e2]
  refine call_eq (Runs.part (g := pOpPlace) (v := .bool (placeSt s.1)) rfl (by show cond (isG M1) _ none = _; rw [hg1]; rfl)) ?_
  cases hr : placeSt s.1 with
  | false =>
    simp -dsimp only [↓w_seq, ↓w_ops, ↓w_skip, ↓w_ret, ↓w_exit, ↓w_scope, ↓w_block, ↓w_cond, cond_true', cond_false', ↓t_nil, ↓t_plain, ↓t_guard, ↓t_gagain, ↓t_again, t_val, t_call, g_true, g_false, ga_true, ga_false, a_val, a_call, ↓n_normal, ↓n_ret, ↓n_exit, ↓b_normal, ↓b_ret, ↓b_exit, ↓e_normal, ↓e_ret, e_some, go_sem, ↓reduceIte, Nat.reduceEqDiff, Nat.reduceLT, Nat.reduceSub, vload, vptr, Mem.read, g1, Nat.add_zero, hrd, e2]
    exact fin _ (by rw [rightSp, hr]; rfl)
  | true =>
    simp -dsimp only [↓w_seq, ↓w_ops, ↓w_skip, ↓w_ret, ↓w_exit, ↓w_scope, ↓w_block, ↓w_cond, cond_true', cond_false', ↓t_nil, ↓t_plain, ↓t_guard, ↓t_gagain, ↓t_again, t_val, t_call, g_true, g_false, ga_true, ga_false, a_val, a_call, ↓n_normal, ↓n_ret, ↓n_exit, ↓b_normal, ↓b_ret, ↓b_exit, ↓e_normal, ↓e_ret, e_some, go_sem, ↓reduceIte, Nat.reduceEqDiff, Nat.reduceLT, Nat.reduceSub, vload, vptr, Mem.read, g1, Nat.zero_add, Nat.add_zero, hrd, e2]
    refine call_eq (Runs.part (g := pKRight) rfl rfl) ?_
    simp -dsimp only [↓w_seq, ↓w_ops, ↓w_skip, ↓w_ret, ↓w_exit, ↓w_scope, ↓w_block, ↓w_cond, cond_true', cond_false', ↓t_nil, ↓t_plain, ↓t_guard, ↓t_gagain, ↓t_again, t_val, t_call, g_true, g_false, ga_true, ga_false, a_val, a_call, ↓n_normal, ↓n_ret, ↓n_exit, ↓b_normal, ↓b_ret, ↓b_exit, ↓e_normal, ↓e_ret, e_some, go_sem, ↓reduceIte, Nat.reduceEqDiff, Nat.reduceLT, Nat.reduceSub, vload, vptr, Mem.read, g1, Nat.add_zero, hrd, e2]
    exact fin _ (by rw [rightSp, hr]; rfl)
def pSpRight (args : List V) (M : Mem) : Option V :=
  match args with
  | [.agg [.int .i64 a, .int .i64 b, .str k]] => cond (isG M) (some (.bool (rightSp ((a, b), k)))) none
  | _ => none
theorem pSpRight_ok : CallOK Tryz.prog gl0 fun f' args M => if f' = F_tree_Spot_right then (pSpRight args M).map (·, M) else none := by
  refine prim_keep ⟨_, Tryz.func46, (by kernel_rfl), (by kernel_rfl)⟩ ?_
  intro args M v h hwf
  unfold pSpRight at h
  split at h
  · rename_i a b k
    obtain ⟨h1, h⟩ := cond_some h
    cases h
    exact ⟨rfl, XRuns.of_runs dok1w2 (spRight_runs M ((a, b), k) h1 (isG_lt hwf h1))⟩
  · cases h

def hasB (l : Tr) (p : St) : Bool := (getS l p).isSome || (placeSt p && !nodeSt p)
theorem none_p {D : Decls} (hp : D.prim F_tree_Tree_none = some fun args M => (pNone args M).map (·, M)) {M : Mem} {tc : Nat} {l : Tr} (h : treeOf M tc = some (some l)) : Runs D F_tree_Tree_none [.ptr (some (tc, 0))] M fun v M' => v = .bool false ∧ M' = M :=
  Runs.part (g := pNone) hp (by simp only [pNone, h, Option.map_some, Option.isNone_some])
theorem none_p0 {D : Decls} (hp : D.prim F_tree_Tree_none = some fun args M => (pNone args M).map (·, M)) {M : Mem} {tc : Nat} (h : treeOf M tc = some none) : Runs D F_tree_Tree_none [.ptr (some (tc, 0))] M fun v M' => v = .bool true ∧ M' = M :=
  Runs.part (g := pNone) hp (by simp only [pNone, h, Option.map_some, Option.isNone_none])
theorem none_pn {D : Decls} (hp : D.prim F_tree_Tree_none = some fun args M => (pNone args M).map (·, M)) {M : Mem} : Runs D F_tree_Tree_none [.ptr none] M fun v M' => v = .bool true ∧ M' = M :=
  Runs.part (g := pNone) hp rfl
theorem place_p {D : Decls} (hp : D.prim F_op_Place = some fun args M => (pOpPlace args M).map (·, M)) {M : Mem} (x : St) (h : isG M = true) : Runs D F_op_Place [.agg (stC x)] M fun v M' => v = .bool (placeSt x) ∧ M' = M :=
  Runs.part (g := pOpPlace) hp (by show cond (isG M) _ none = _; rw [h]; rfl)
theorem opnode_p {D : Decls} (hp : D.prim F_op_Node = some fun args M => (pOpNode args M).map (·, M)) {M : Mem} (x : St) : Runs D F_op_Node [.agg (stC x)] M fun v M' => v = .bool (nodeSt x) ∧ M' = M :=
  Runs.part (g := pOpNode) hp rfl
theorem spright_p {D : Decls} (hp : D.prim F_tree_Spot_right = some fun args M => (pSpRight args M).map (·, M)) {M : Mem} (s : Spot) (h : isG M = true) : Runs D F_tree_Spot_right [.agg (spC s)] M fun v M' => v = .bool (rightSp s) ∧ M' = M :=
  Runs.part (g := pSpRight) hp (by show cond (isG M) _ none = _; rw [h]; rfl)
theorem node_p {D : Decls} (hp : D.prim F_tree_Tree_node = some fun args M => (pNode args M).map (·, M)) {M : Mem} {tc : Nat} {l : Tr} (h : treeOf M tc = some (some l)) (n : St) : Runs D F_tree_Tree_node [.ptr (some (tc, 0)), .agg (stC n)] M fun v M' => v = .bool (getS l n).isSome ∧ M' = M :=
  Runs.part (g := pNode) hp (by show (treeOf M tc).bind _ = _; rw [h]; rfl)
theorem within_p {D : Decls} (hp : D.prim F_tree_Tree_Within = some fun args M => (pWithin args M).map (·, M)) {M : Mem} {tc : Nat} {l : Tr} (h : treeOf M tc = some (some l)) (p n : St) {path : List St} (hpath : PathN l n path) : Runs D F_tree_Tree_Within [.ptr (some (tc, 0)), .agg (stC p), .agg (stC n)] M fun v M' => v = .bool (withinB l p n path) ∧ M' = M :=
  Runs.part (g := pWithin) hp (by
    show (treeOf M tc).bind _ = _
    rw [h]
    show (upL l (l.length + 1) n).map _ = _
    rw [hpath.of]
    rfl)

theorem tree_keep {M M' : Mem} {tc : Nat} {o : Option Tr} (h : treeOf M tc = some o) (hwf : ∀ b, M.next ≤ b → M.get b = none) (hk : ∀ c, c < M.next → M'.get c = M.get c) : treeOf M' tc = some o := by
  cases o with
  | none =>
    obtain ⟨rc, h1⟩ := treeOf_none h
    exact treeOf_is0 ((hk _ (lt_of_get hwf h1)).trans h1)
  | some l =>
    obtain ⟨bm, rc, h1, h2⟩ := treeOf_some h
    exact treeOf_is ((hk _ (lt_of_get hwf h1)).trans h1) ((hk _ (lt_of_get hwf h2)).trans h2)
theorem has_none (M : Mem) (t : V) (p : St) (h : ∀ M', Grew M M' → Runs D1w2 F_tree_Tree_none [t] M' fun v M'' => v = .bool true ∧ M'' = M') : Runs D1w2 F_tree_Tree_Has [t, .agg (stC p)] M fun v M' => v = .bool false ∧ ∀ c, c < M.next → M'.get c = M.get c := by
  refine R_opq fun R hR => ?_
  refine Runs.walk (F := A_tree_Tree_Has) rfl (by rfl) (by rfl) ?_
  unfold A_tree_Tree_Has
  have hcn : V.cells (.agg (stC p)) = stC p := rfl
  have hG := Grew.push M (.cells (stC p) false)
  simp -dsimp only [↓w_seq, ↓w_ops, ↓w_skip, ↓w_ret, ↓w_exit, ↓w_scope, ↓w_block, ↓w_cond, cond_true', cond_false', ↓t_nil, ↓t_plain, ↓t_guard, ↓t_gagain, ↓t_again, t_val, t_call, g_true, g_false, ga_true, ga_false, a_val, a_call, ↓n_normal, ↓n_ret, ↓n_exit, ↓b_normal, ↓b_ret, ↓b_exit, ↓e_normal, ↓e_ret, e_some, go_sem, ↓reduceIte, Nat.reduceEqDiff, Nat.reduceLT, Nat.reduceSub, A_tree_Tree_Has_0, A_tree_Tree_Has_1, A_tree_Tree_Has_2, hcn]
  generalize M.push (.cells (stC p) false) = M1 at *
  refine call_eq (h _ hG) ?_
  simp -dsimp only [↓w_seq, ↓w_ops, ↓w_skip, ↓w_ret, ↓w_exit, ↓w_scope, ↓w_block, ↓w_cond, cond_true', cond_false', ↓t_nil, ↓t_plain, ↓t_guard, ↓t_gagain, ↓t_again, t_val, t_call, g_true, g_false, ga_true, ga_false, a_val, a_call, ↓n_normal, ↓n_ret, ↓n_exit, ↓b_normal, ↓b_ret, ↓b_exit, ↓e_normal, ↓e_ret, e_some, go_sem, ↓reduceIte, Nat.reduceEqDiff, Nat.reduceLT, Nat.reduceSub, A_tree_Tree_Has_0, A_tree_Tree_Has_1, A_tree_Tree_Has_2, hcn]
  exact hR _ _ ⟨rfl, hG.old⟩
theorem has_runs (M : Mem) (tc bm : Nat) (rc : Bool) (l : Tr) (p : St) (hg : isG M = true) (hn : 2 ≤ M.next) (htc : tc < M.next) (hbm : bm < M.next) (h : M.get tc = some (.cells [.map (some bm)] rc)) (h2 : M.get bm = some (.map (encM l))) :
    Runs D1w2 F_tree_Tree_Has [.ptr (some (tc, 0)), .agg (stC p)] M fun v M' => v = .bool (hasB l p) ∧ ∀ c, c < M.next → M'.get c = M.get c := by
  refine R_opq fun R hR => ?_
  refine Runs.walk (F := A_tree_Tree_Has) rfl (by rfl) (by rfl) ?_
  unfold A_tree_Tree_Has
  have hcn : V.cells (.agg (stC p)) = stC p := rfl
  have hG := Grew.push M (.cells (stC p) false)
  have g1 : (M.push (.cells (stC p) false)).get M.next = some (.cells (stC p) false) := Mem.get_push_same _ _
  have hn1 : (M.push (.cells (stC p) false)).next = M.next + 1 := rfl
  simp -dsimp only [↓w_seq, ↓w_ops, ↓w_skip, ↓w_ret, ↓w_exit, ↓w_scope, ↓w_block, ↓w_cond, cond_true', cond_false', ↓t_nil, ↓t_plain, ↓t_guard, ↓t_gagain, ↓t_again, t_val, t_call, g_true, g_false, ga_true, ga_false, a_val, a_call, ↓n_normal, ↓n_ret, ↓n_exit, ↓b_normal, ↓b_ret, ↓b_exit, ↓e_normal, ↓e_ret, e_some, go_sem, ↓reduceIte, Nat.reduceEqDiff, Nat.reduceLT, Nat.reduceSub, A_tree_Tree_Has_0, A_tree_Tree_Has_1, hcn]
  generalize M.push (.cells (stC p) false) = M1 at *
  have k1 := (hG.old _ htc).trans h
  have k2 := (hG.old _ hbm).trans h2
  refine call_eq (none_p rfl (treeOf_is k1 k2)) ?_
  have hlk := look_is (by unfold mapAt; rw [k2] : mapAt M1 bm = some (encM l)) p
  have hrd2 : rdCells (stC p) 0 2 = some (stC p) := rfl
  have hw0 := write_full (M := M1.push (.cells [.int .i64 0, .int .i64 0, .str []] false)) (b := M1.next) (vs := spC ((getS l p).getD sp0)) (Mem.get_push_same _ _) rfl rfl
  simp -dsimp only [↓w_seq, ↓w_ops, ↓w_skip, ↓w_ret, ↓w_exit, ↓w_scope, ↓w_block, ↓w_cond, cond_true', cond_false', ↓t_nil, ↓t_plain, ↓t_guard, ↓t_gagain, ↓t_again, t_val, t_call, g_true, g_false, ga_true, ga_false, a_val, a_call, ↓n_normal, ↓n_ret, ↓n_exit, ↓b_normal, ↓b_ret, ↓b_exit, ↓e_normal, ↓e_ret, e_some, go_sem, ↓reduceIte, Nat.reduceEqDiff, Nat.reduceLT, Nat.reduceSub, A_tree_Tree_Has_3, vload, vptr, Mem.read, k1, g1, hrd2, Nat.add_zero, List.getElem?_cons_zero, List.getElem?_cons_succ, hlk, lookV_parts, vstore, V.cells, spC_len, hw0, Nat.reduceEqDiff]
  have hG2 : Grew M ((M1.push (.cells [.int .i64 0, .int .i64 0, .str []] false)).set M1.next (.cells (spC ((getS l p).getD sp0)) false)) := (hG.trans (Grew.push _ _)).upd (by omega) (Upd.set _ _ _)
  have g2 : ((M1.push (.cells [.int .i64 0, .int .i64 0, .str []] false)).set M1.next (.cells (spC ((getS l p).getD sp0)) false)).get M.next = some (.cells (stC p) false) := by rw [Mem.get_set_ne _ _ (by omega), Mem.get_push_ne _ _ (by omega)]; exact g1
  have hg2 : isG ((M1.push (.cells [.int .i64 0, .int .i64 0, .str []] false)).set M1.next (.cells (spC ((getS l p).getD sp0)) false)) = true := isG_mk ((hG2.old 0 (by omega)).trans (isG_is hg).1) ((hG2.old 1 (by omega)).trans (isG_is hg).2)
  clear hlk hw0
  generalize (M1.push (.cells [.int .i64 0, .int .i64 0, .str []] false)).set M1.next (.cells (spC ((getS l p).getD sp0)) false) = M2 at *
  cases hs : (getS l p).isSome with
  | true =>
    simp -dsimp only [↓w_seq, ↓w_ops, ↓w_skip, ↓w_ret, ↓w_exit, ↓w_scope, ↓w_block, ↓w_cond, cond_true', cond_false', ↓t_nil, ↓t_plain, ↓t_guard, ↓t_gagain, ↓t_again, t_val, t_call, g_true, g_false, ga_true, ga_false, a_val, a_call, ↓n_normal, ↓n_ret, ↓n_exit, ↓b_normal, ↓b_ret, ↓b_exit, ↓e_normal, ↓e_ret, e_some, go_sem, ↓reduceIte, Nat.reduceEqDiff, Nat.reduceLT, Nat.reduceSub, A_tree_Tree_Has_4]
    exact hR _ _ ⟨by rw [hasB, hs]; rfl, hG2.old⟩
  | false =>
    simp -dsimp only [↓w_seq, ↓w_ops, ↓w_skip, ↓w_ret, ↓w_exit, ↓w_scope, ↓w_block, ↓w_cond, cond_true', cond_false', ↓t_nil, ↓t_plain, ↓t_guard, ↓t_gagain, ↓t_again, t_val, t_call, g_true, g_false, ga_true, ga_false, a_val, a_call, ↓n_normal, ↓n_ret, ↓n_exit, ↓b_normal, ↓b_ret, ↓b_exit, ↓e_normal, ↓e_ret, e_some, go_sem, ↓reduceIte, Nat.reduceEqDiff, Nat.reduceLT, Nat.reduceSub, A_tree_Tree_Has_4, vload, vptr, Mem.read, g2, hrd2]
    refine call_eq (place_p rfl p hg2) ?_
    cases hpl : placeSt p with
    | false =>
      simp -dsimp only [↓w_seq, ↓w_ops, ↓w_skip, ↓w_ret, ↓w_exit, ↓w_scope, ↓w_block, ↓w_cond, cond_true', cond_false', ↓t_nil, ↓t_plain, ↓t_guard, ↓t_gagain, ↓t_again, t_val, t_call, g_true, g_false, ga_true, ga_false, a_val, a_call, ↓n_normal, ↓n_ret, ↓n_exit, ↓b_normal, ↓b_ret, ↓b_exit, ↓e_normal, ↓e_ret, e_some, go_sem, ↓reduceIte, Nat.reduceEqDiff, Nat.reduceLT, Nat.reduceSub]
      exact hR _ _ ⟨by rw [hasB, hs, hpl]; rfl, hG2.old⟩
    | true =>
      simp -dsimp only [↓w_seq, ↓w_ops, ↓w_skip, ↓w_ret, ↓w_exit, ↓w_scope, ↓w_block, ↓w_cond, cond_true', cond_false', ↓t_nil, ↓t_plain, ↓t_guard, ↓t_gagain, ↓t_again, t_val, t_call, g_true, g_false, ga_true, ga_false, a_val, a_call, ↓n_normal, ↓n_ret, ↓n_exit, ↓b_normal, ↓b_ret, ↓b_exit, ↓e_normal, ↓e_ret, e_some, go_sem, ↓reduceIte, Nat.reduceEqDiff, Nat.reduceLT, Nat.reduceSub, vload, vptr, Mem.read, g2, hrd2]
      refine call_eq (opnode_p rfl p) ?_
      simp -dsimp only [↓w_seq, ↓w_ops, ↓w_skip, ↓w_ret, ↓w_exit, ↓w_scope, ↓w_block, ↓w_cond, cond_true', cond_false', ↓t_nil, ↓t_plain, ↓t_guard, ↓t_gagain, ↓t_again, t_val, t_call, g_true, g_false, ga_true, ga_false, a_val, a_call, ↓n_normal, ↓n_ret, ↓n_exit, ↓b_normal, ↓b_ret, ↓b_exit, ↓e_normal, ↓e_ret, e_some, go_sem, ↓reduceIte, Nat.reduceEqDiff, Nat.reduceLT, Nat.reduceSub]
      exact hR _ _ ⟨by rw [hasB, hs, hpl]; rfl, hG2.old⟩
def pHas (args : List V) (M : Mem) : Option V :=
  match args with
  | [.ptr none, .agg [.int .i64 a, .int .i64 b]] => some (.bool false)
  | [.ptr (some (tc, 0)), .agg [.int .i64 a, .int .i64 b]] => (treeOf M tc).bind fun o => match o with
    | none => some (.bool false)
    | some l => cond (isG M) (some (.bool (hasB l (a, b)))) none
  | _ => none
theorem pHas_ok : CallOK Tryz.prog gl0 fun f' args M => if f' = F_tree_Tree_Has then (pHas args M).map (·, M) else none := by
  refine prim_keep ⟨_, Tryz.func48, (by kernel_rfl), (by kernel_rfl)⟩ ?_
  intro args M v h hwf
  unfold pHas at h
  split at h
  · rename_i a b
    cases h
    exact ⟨rfl, XRuns.of_runs dok1w2 (has_none M _ (a, b) fun M' _ => none_pn rfl)⟩
  · rename_i tc a b
    simp only [Option.bind_eq_some_iff] at h
    obtain ⟨o, h1, h⟩ := h
    cases o with
    | none =>
      cases h
      exact ⟨rfl, XRuns.of_runs dok1w2 (has_none M _ (a, b) fun M' hG => none_p0 rfl (tree_keep h1 hwf hG.old))⟩
    | some l =>
      obtain ⟨bm, rc, h2, h3⟩ := treeOf_some h1
      obtain ⟨hg, h⟩ := cond_some h
      cases h
      exact ⟨rfl, XRuns.of_runs dok1w2 (has_runs M tc bm rc l (a, b) hg (isG_lt hwf hg) (lt_of_get hwf h2) (lt_of_get hwf h3) h2 h3)⟩
  · cases h

theorem spot_none (M : Mem) (t : V) (p : St) (h : ∀ M', Grew M M' → Runs D1w2 F_tree_Tree_none [t] M' fun v M'' => v = .bool true ∧ M'' = M') : Runs D1w2 F_tree_Tree_Spot [t, .agg (stC p)] M fun v M' => v = .tup [.agg (spC sp0), .bool false] ∧ ∀ c, c < M.next → M'.get c = M.get c := by
  refine R_opq fun R hR => ?_
  refine Runs.walk (F := A_tree_Tree_Spot) rfl (by rfl) (by rfl) ?_
  unfold A_tree_Tree_Spot
  have hcn : V.cells (.agg (stC p)) = stC p := rfl
  have hG := (Grew.push M (.cells (stC p) false)).trans (Grew.push _ (.cells [.int .i64 0, .int .i64 0, .str []] false))
  have g1 : ((M.push (.cells (stC p) false)).push (.cells [.int .i64 0, .int .i64 0, .str []] false)).get (M.next + 1) = some (.cells (spC sp0) false) := Mem.get_push_same (M.push _) _
  simp -dsimp only [↓w_seq, ↓w_ops, ↓w_skip, ↓w_ret, ↓w_exit, ↓w_scope, ↓w_block, ↓w_cond, cond_true', cond_false', ↓t_nil, ↓t_plain, ↓t_guard, ↓t_gagain, ↓t_again, t_val, t_call, g_true, g_false, ga_true, ga_false, a_val, a_call, ↓n_normal, ↓n_ret, ↓n_exit, ↓b_normal, ↓b_ret, ↓b_exit, ↓e_normal, ↓e_ret, e_some, go_sem, ↓reduceIte, Nat.reduceEqDiff, Nat.reduceLT, Nat.reduceSub, A_tree_Tree_Spot_0, A_tree_Tree_Spot_1, hcn, Mem.next_push]
  generalize (M.push (.cells (stC p) false)).push (.cells [.int .i64 0, .int .i64 0, .str []] false) = M1 at *
  refine call_eq (h _ hG) ?_
  have hw0 := write_full (vs := spC sp0) g1 rfl rfl
  have hs := Mem.get_set_same M1 (M.next + 1) (.cells (spC sp0) false)
  have hG2 := hG.upd (b := M.next + 1) (by omega) (Upd.set M1 (M.next + 1) (.cells (spC sp0) false))
  have hb : fillCells [.int .i64 0, .int .i64 0, .str []] [] = some (spC sp0) := rfl
  have hrd : rdCells (spC sp0) 0 3 = some (spC sp0) := rfl
  simp -dsimp only [↓w_seq, ↓w_ops, ↓w_skip, ↓w_ret, ↓w_exit, ↓w_scope, ↓w_block, ↓w_cond, cond_true', cond_false', ↓t_nil, ↓t_plain, ↓t_guard, ↓t_gagain, ↓t_again, t_val, t_call, g_true, g_false, ga_true, ga_false, a_val, a_call, ↓n_normal, ↓n_ret, ↓n_exit, ↓b_normal, ↓b_ret, ↓b_exit, ↓e_normal, ↓e_ret, e_some, go_sem, ↓reduceIte, Nat.reduceEqDiff, Nat.reduceLT, Nat.reduceSub, A_tree_Tree_Spot_2, hb, vof, Option.map_some, vstore, V.cells, spC_len, hw0, Nat.reduceEqDiff]
  generalize M1.set (M.next + 1) (.cells (spC sp0) false) = M2 at *
  simp -dsimp only [↓w_seq, ↓w_ops, ↓w_skip, ↓w_ret, ↓w_exit, ↓w_scope, ↓w_block, ↓w_cond, cond_true', cond_false', ↓t_nil, ↓t_plain, ↓t_guard, ↓t_gagain, ↓t_again, t_val, t_call, g_true, g_false, ga_true, ga_false, a_val, a_call, ↓n_normal, ↓n_ret, ↓n_exit, ↓b_normal, ↓b_ret, ↓b_exit, ↓e_normal, ↓e_ret, e_some, go_sem, ↓reduceIte, Nat.reduceEqDiff, Nat.reduceLT, Nat.reduceSub, vload, vptr, Mem.read, hs, hrd, Nat.add_zero, Option.bind_some, oneOf]
  exact hR _ _ ⟨rfl, hG2.old⟩
theorem spot_runs (M : Mem) (tc bm : Nat) (rc : Bool) (l : Tr) (p : St) (htc : tc < M.next) (hbm : bm < M.next) (h : M.get tc = some (.cells [.map (some bm)] rc)) (h2 : M.get bm = some (.map (encM l))) :
    Runs D1w2 F_tree_Tree_Spot [.ptr (some (tc, 0)), .agg (stC p)] M fun v M' => v = .tup [.agg (spC ((getS l p).getD sp0)), .bool (getS l p).isSome] ∧ ∀ c, c < M.next → M'.get c = M.get c := by
  refine R_opq fun R hR => ?_
  refine Runs.walk (F := A_tree_Tree_Spot) rfl (by rfl) (by rfl) ?_
  unfold A_tree_Tree_Spot
  have hcn : V.cells (.agg (stC p)) = stC p := rfl
  have hG := (Grew.push M (.cells (stC p) false)).trans (Grew.push _ (.cells [.int .i64 0, .int .i64 0, .str []] false))
  have g0 : ((M.push (.cells (stC p) false)).push (.cells [.int .i64 0, .int .i64 0, .str []] false)).get M.next = some (.cells (stC p) false) := by rw [Mem.get_push_ne _ _ (by simp), Mem.get_push_same]
  have g1 : ((M.push (.cells (stC p) false)).push (.cells [.int .i64 0, .int .i64 0, .str []] false)).get (M.next + 1) = some (.cells (spC sp0) false) := Mem.get_push_same (M.push _) _
  have hn1 : ((M.push (.cells (stC p) false)).push (.cells [.int .i64 0, .int .i64 0, .str []] false)).next = M.next + 2 := rfl
  simp -dsimp only [↓w_seq, ↓w_ops, ↓w_skip, ↓w_ret, ↓w_exit, ↓w_scope, ↓w_block, ↓w_cond, cond_true', cond_false', ↓t_nil, ↓t_plain, ↓t_guard, ↓t_gagain, ↓t_again, t_val, t_call, g_true, g_false, ga_true, ga_false, a_val, a_call, ↓n_normal, ↓n_ret, ↓n_exit, ↓b_normal, ↓b_ret, ↓b_exit, ↓e_normal, ↓e_ret, e_some, go_sem, ↓reduceIte, Nat.reduceEqDiff, Nat.reduceLT, Nat.reduceSub, A_tree_Tree_Spot_0, A_tree_Tree_Spot_1, hcn, Mem.next_push]
  generalize (M.push (.cells (stC p) false)).push (.cells [.int .i64 0, .int .i64 0, .str []] false) = M1 at *
  have k1 := (hG.old _ htc).trans h
  have k2 := (hG.old _ hbm).trans h2
  refine call_eq (none_p rfl (treeOf_is k1 k2)) ?_
  have hlk := look_is (by unfold mapAt; rw [k2] : mapAt M1 bm = some (encM l)) p
  have hrd2 : rdCells (stC p) 0 2 = some (stC p) := rfl
  have hrd3 : ∀ s, rdCells (spC s) 0 3 = some (spC s) := fun _ => rfl
  have hw0 := write_full (M := M1.push (.cells [.int .i64 0, .int .i64 0, .str []] false)) (b := M1.next) (vs := spC ((getS l p).getD sp0)) (Mem.get_push_same _ _) rfl rfl
  simp -dsimp only [↓w_seq, ↓w_ops, ↓w_skip, ↓w_ret, ↓w_exit, ↓w_scope, ↓w_block, ↓w_cond, cond_true', cond_false', ↓t_nil, ↓t_plain, ↓t_guard, ↓t_gagain, ↓t_again, t_val, t_call, g_true, g_false, ga_true, ga_false, a_val, a_call, ↓n_normal, ↓n_ret, ↓n_exit, ↓b_normal, ↓b_ret, ↓b_exit, ↓e_normal, ↓e_ret, e_some, go_sem, ↓reduceIte, Nat.reduceEqDiff, Nat.reduceLT, Nat.reduceSub, A_tree_Tree_Spot_3, vload, vptr, Mem.read, k1, g0, hrd2, Nat.add_zero, List.getElem?_cons_zero, List.getElem?_cons_succ, hlk, lookV_parts, vstore, V.cells, spC_len, hw0, Nat.reduceEqDiff]
  have hG2 : Grew M ((M1.push (.cells [.int .i64 0, .int .i64 0, .str []] false)).set M1.next (.cells (spC ((getS l p).getD sp0)) false)) := (hG.trans (Grew.push _ _)).upd (by omega) (Upd.set _ _ _)
  have g2 : ((M1.push (.cells [.int .i64 0, .int .i64 0, .str []] false)).set M1.next (.cells (spC ((getS l p).getD sp0)) false)).get (M.next + 1) = some (.cells (spC sp0) false) := by rw [Mem.get_set_ne _ _ (by omega), Mem.get_push_ne _ _ (by omega)]; exact g1
  have g3 : ((M1.push (.cells [.int .i64 0, .int .i64 0, .str []] false)).set M1.next (.cells (spC ((getS l p).getD sp0)) false)).get M1.next = some (.cells (spC ((getS l p).getD sp0)) false) := Mem.get_set_same _ _ _
  clear hlk hw0
  generalize (M1.push (.cells [.int .i64 0, .int .i64 0, .str []] false)).set M1.next (.cells (spC ((getS l p).getD sp0)) false) = M2 at *
  have hw1 := write_full (vs := spC ((getS l p).getD sp0)) g2 rfl rfl
  have hs := Mem.get_set_same M2 (M.next + 1) (.cells (spC ((getS l p).getD sp0)) false)
  have hG3 := hG2.upd (b := M.next + 1) (by omega) (Upd.set M2 (M.next + 1) (.cells (spC ((getS l p).getD sp0)) false))
  simp -dsimp only [↓w_seq, ↓w_ops, ↓w_skip, ↓w_ret, ↓w_exit, ↓w_scope, ↓w_block, ↓w_cond, cond_true', cond_false', ↓t_nil, ↓t_plain, ↓t_guard, ↓t_gagain, ↓t_again, t_val, t_call, g_true, g_false, ga_true, ga_false, a_val, a_call, ↓n_normal, ↓n_ret, ↓n_exit, ↓b_normal, ↓b_ret, ↓b_exit, ↓e_normal, ↓e_ret, e_some, go_sem, ↓reduceIte, Nat.reduceEqDiff, Nat.reduceLT, Nat.reduceSub, A_tree_Tree_Spot_4, vload, vptr, Mem.read, g3, hrd3, Nat.add_zero, vstore, V.cells, spC_len, hw1, Nat.reduceEqDiff]
  generalize M2.set (M.next + 1) (.cells (spC ((getS l p).getD sp0)) false) = M3 at *
  simp -dsimp only [↓w_seq, ↓w_ops, ↓w_skip, ↓w_ret, ↓w_exit, ↓w_scope, ↓w_block, ↓w_cond, cond_true', cond_false', ↓t_nil, ↓t_plain, ↓t_guard, ↓t_gagain, ↓t_again, t_val, t_call, g_true, g_false, ga_true, ga_false, a_val, a_call, ↓n_normal, ↓n_ret, ↓n_exit, ↓b_normal, ↓b_ret, ↓b_exit, ↓e_normal, ↓e_ret, e_some, go_sem, ↓reduceIte, Nat.reduceEqDiff, Nat.reduceLT, Nat.reduceSub, vload, vptr, Mem.read, hs, hrd3, Nat.add_zero, Option.bind_some, oneOf]
  exact hR _ _ ⟨rfl, hG3.old⟩
def pSpotT (args : List V) (M : Mem) : Option V :=
  match args with
  | [.ptr none, .agg [.int .i64 a, .int .i64 b]] => some (.tup [.agg (spC sp0), .bool false])
  | [.ptr (some (tc, 0)), .agg [.int .i64 a, .int .i64 b]] => (treeOf M tc).map fun o => match o with
    | none => .tup [.agg (spC sp0), .bool false]
    | some l => .tup [.agg (spC ((getS l (a, b)).getD sp0)), .bool (getS l (a, b)).isSome]
  | _ => none
theorem pSpotT_ok : CallOK Tryz.prog gl0 fun f' args M => if f' = F_tree_Tree_Spot then (pSpotT args M).map (·, M) else none := by
  refine prim_keep ⟨_, Tryz.func56, (by kernel_rfl), (by kernel_rfl)⟩ ?_
  intro args M v h hwf
  unfold pSpotT at h
  split at h
  · rename_i a b
    cases h
    exact ⟨rfl, XRuns.of_runs dok1w2 (spot_none M _ (a, b) fun M' _ => none_pn rfl)⟩
  · rename_i tc a b
    simp only [Option.map_eq_some_iff] at h
    obtain ⟨o, h1, h⟩ := h
    cases o with
    | none =>
      cases h
      exact ⟨rfl, XRuns.of_runs dok1w2 (spot_none M _ (a, b) fun M' hG => none_p0 rfl (tree_keep h1 hwf hG.old))⟩
    | some l =>
      obtain ⟨bm, rc, h2, h3⟩ := treeOf_some h1
      cases h
      exact ⟨rfl, XRuns.of_runs dok1w2 (spot_runs M tc bm rc l (a, b) (lt_of_get hwf h2) (lt_of_get hwf h3) h2 h3)⟩
  · cases h
def D1w : Decls := ((D1w2.addP F_tree_Spot_right pSpRight).addP F_tree_Tree_Has pHas).addP F_tree_Tree_Spot pSpotT
theorem dok1w : DOK Tryz.prog gl0 D1w := ((dok1w2.addM pSpRight_ok).addM pHas_ok).addM pSpotT_ok

theorem has_p {D : Decls} (hp : D.prim F_tree_Tree_Has = some fun args M => (pHas args M).map (·, M)) {M : Mem} {tc : Nat} {l : Tr} (h : treeOf M tc = some (some l)) (hg : isG M = true) (p : St) : Runs D F_tree_Tree_Has [.ptr (some (tc, 0)), .agg (stC p)] M fun v M' => v = .bool (hasB l p) ∧ M' = M :=
  Runs.part (g := pHas) hp (by
    show (treeOf M tc).bind _ = _
    rw [h]
    show cond (isG M) _ none = _
    rw [hg]
    rfl)
theorem spot_p {D : Decls} (hp : D.prim F_tree_Tree_Spot = some fun args M => (pSpotT args M).map (·, M)) {M : Mem} {tc : Nat} {l : Tr} (h : treeOf M tc = some (some l)) (n : St) : Runs D F_tree_Tree_Spot [.ptr (some (tc, 0)), .agg (stC n)] M fun v M' => v = .tup [.agg (spC ((getS l n).getD sp0)), .bool (getS l n).isSome] ∧ M' = M :=
  Runs.part (g := pSpotT) hp (by show (treeOf M tc).map _ = _; rw [h]; rfl)
end Go.Am.Tryz


/- The reference's small functions, as parts. -/
namespace Go.Am.Tryz
open Go Go.Am Go.Proofs Go.Sort Go.Shelf
set_option maxRecDepth 100000
set_option linter.unusedSimpArgs false
set_option linter.unusedVariables false

theorem rright_runs (D : Decls) (hp : D.prim F_ref02_Right = none) (hc : D.code.get F_ref02_Right = some A_ref02_Right) (M : Mem) (x : St) :
    Runs D F_ref02_Right [.agg (stC x)] M fun v M' => v = .bool (rightSt x) ∧ ∀ c, c < M.next → M'.get c = M.get c := by
  refine R_opq fun R hR => ?_
  refine Runs.walk (F := A_ref02_Right) hp hc (by rfl) ?_
  unfold A_ref02_Right
  have hcn : V.cells (.agg (stC x)) = stC x := rfl
  have g1 : (M.push (.cells (stC x) false)).get M.next = some (.cells (stC x) false) := Mem.get_push_same _ _
  have hG : ∀ c, c < M.next → (M.push (.cells (stC x) false)).get c = M.get c := (Grew.push _ _).old
  have e0 : (stC x)[0]? = some (.int .i64 x.1) := rfl
  have e1 : (stC x)[1]? = some (.int .i64 x.2) := rfl
  have fin : ∀ b, b = rightSt x → R (.bool b) (M.push (.cells (stC x) false)) := fun b hb => hR _ _ ⟨by rw [hb], hG⟩
  simp -dsimp only [↓w_seq, ↓w_ops, ↓w_skip, ↓w_ret, ↓w_exit, ↓w_scope, ↓w_block, ↓w_cond, cond_true', cond_false', ↓t_nil, ↓t_plain, ↓t_guard, ↓t_gagain, ↓t_again, t_val, t_call, g_true, g_false, ga_true, ga_false, a_val, a_call, ↓n_normal, ↓n_ret, ↓n_exit, ↓b_normal, ↓b_ret, ↓b_exit, ↓e_normal, ↓e_ret, e_some, go_sem, ↓reduceIte, Nat.reduceEqDiff, Nat.reduceLT, Nat.reduceSub, A_ref02_Right_0, A_ref02_Right_1, hcn]
  generalize M.push (.cells (stC x) false) = M1 at *
  simp -dsimp only [↓w_seq, ↓w_ops, ↓w_skip, ↓w_ret, ↓w_exit, ↓w_scope, ↓w_block, ↓w_cond, cond_true', cond_false', ↓t_nil, ↓t_plain, ↓t_guard, ↓t_gagain, ↓t_again, t_val, t_call, g_true, g_false, ga_true, ga_false, a_val, a_call, ↓n_normal, ↓n_ret, ↓n_exit, ↓b_normal, ↓b_ret, ↓b_exit, ↓e_normal, ↓e_ret, e_some, go_sem, ↓reduceIte, Nat.reduceEqDiff, Nat.reduceLT, Nat.reduceSub, vload, vptr, Mem.read, g1, Nat.add_zero, e0, e1]
  by_cases h1 : 0 ≤ x.1
  · simp -dsimp only [↓w_seq, ↓w_ops, ↓w_skip, ↓w_ret, ↓w_exit, ↓w_scope, ↓w_block, ↓w_cond, cond_true', cond_false', ↓t_nil, ↓t_plain, ↓t_guard, ↓t_gagain, ↓t_again, t_val, t_call, g_true, g_false, ga_true, ga_false, a_val, a_call, ↓n_normal, ↓n_ret, ↓n_exit, ↓b_normal, ↓b_ret, ↓b_exit, ↓e_normal, ↓e_ret, e_some, go_sem, ↓reduceIte, Nat.reduceEqDiff, Nat.reduceLT, Nat.reduceSub, h1, decide_true, vload, vptr, Mem.read, g1, Nat.add_zero, e0, e1]
    by_cases h2 : x.1 ≤ 1099511627776
    · simp -dsimp only [↓w_seq, ↓w_ops, ↓w_skip, ↓w_ret, ↓w_exit, ↓w_scope, ↓w_block, ↓w_cond, cond_true', cond_false', ↓t_nil, ↓t_plain, ↓t_guard, ↓t_gagain, ↓t_again, t_val, t_call, g_true, g_false, ga_true, ga_false, a_val, a_call, ↓n_normal, ↓n_ret, ↓n_exit, ↓b_normal, ↓b_ret, ↓b_exit, ↓e_normal, ↓e_ret, e_some, go_sem, ↓reduceIte, Nat.reduceEqDiff, Nat.reduceLT, Nat.reduceSub, h2, decide_true, vload, vptr, Mem.read, g1, Nat.add_zero, e0, e1]
      by_cases h3 : 0 ≤ x.2
      · simp -dsimp only [↓w_seq, ↓w_ops, ↓w_skip, ↓w_ret, ↓w_exit, ↓w_scope, ↓w_block, ↓w_cond, cond_true', cond_false', ↓t_nil, ↓t_plain, ↓t_guard, ↓t_gagain, ↓t_again, t_val, t_call, g_true, g_false, ga_true, ga_false, a_val, a_call, ↓n_normal, ↓n_ret, ↓n_exit, ↓b_normal, ↓b_ret, ↓b_exit, ↓e_normal, ↓e_ret, e_some, go_sem, ↓reduceIte, Nat.reduceEqDiff, Nat.reduceLT, Nat.reduceSub, h3, decide_true, vload, vptr, Mem.read, g1, Nat.add_zero, e0, e1]
        exact fin _ (by simp only [rightSt, h1, h2, h3, decide_true, Bool.true_and])
      · simp -dsimp only [↓w_seq, ↓w_ops, ↓w_skip, ↓w_ret, ↓w_exit, ↓w_scope, ↓w_block, ↓w_cond, cond_true', cond_false', ↓t_nil, ↓t_plain, ↓t_guard, ↓t_gagain, ↓t_again, t_val, t_call, g_true, g_false, ga_true, ga_false, a_val, a_call, ↓n_normal, ↓n_ret, ↓n_exit, ↓b_normal, ↓b_ret, ↓b_exit, ↓e_normal, ↓e_ret, e_some, go_sem, ↓reduceIte, Nat.reduceEqDiff, Nat.reduceLT, Nat.reduceSub, h3, decide_false, vload, vptr, Mem.read, g1, Nat.add_zero, e0, e1]
        exact fin _ (by simp only [rightSt, h1, h2, h3, decide_true, decide_false, Bool.true_and, Bool.false_and])
    · simp -dsimp only [↓w_seq, ↓w_ops, ↓w_skip, ↓w_ret, ↓w_exit, ↓w_scope, ↓w_block, ↓w_cond, cond_true', cond_false', ↓t_nil, ↓t_plain, ↓t_guard, ↓t_gagain, ↓t_again, t_val, t_call, g_true, g_false, ga_true, ga_false, a_val, a_call, ↓n_normal, ↓n_ret, ↓n_exit, ↓b_normal, ↓b_ret, ↓b_exit, ↓e_normal, ↓e_ret, e_some, go_sem, ↓reduceIte, Nat.reduceEqDiff, Nat.reduceLT, Nat.reduceSub, h2, decide_false, vload, vptr, Mem.read, g1, Nat.add_zero, e0, e1]
      exact fin _ (by simp only [rightSt, h1, h2, decide_true, decide_false, Bool.true_and, Bool.false_and])
  · simp -dsimp only [↓w_seq, ↓w_ops, ↓w_skip, ↓w_ret, ↓w_exit, ↓w_scope, ↓w_block, ↓w_cond, cond_true', cond_false', ↓t_nil, ↓t_plain, ↓t_guard, ↓t_gagain, ↓t_again, t_val, t_call, g_true, g_false, ga_true, ga_false, a_val, a_call, ↓n_normal, ↓n_ret, ↓n_exit, ↓b_normal, ↓b_ret, ↓b_exit, ↓e_normal, ↓e_ret, e_some, go_sem, ↓reduceIte, Nat.reduceEqDiff, Nat.reduceLT, Nat.reduceSub, h1, decide_false, vload, vptr, Mem.read, g1, Nat.add_zero, e0, e1]
    exact fin _ (by simp only [rightSt, h1, decide_false, Bool.false_and])


theorem rcmp_runs (D : Decls) (hp : D.prim F_ref02_Compare = none) (hc : D.code.get F_ref02_Compare = some A_ref02_Compare) (M : Mem) (a b : St) :
    Runs D F_ref02_Compare [.agg (stC a), .agg (stC b)] M fun v M' => v = .int .i64 (cmpSt a b) ∧ ∀ c, c < M.next → M'.get c = M.get c := by
  refine R_opq fun R hR => ?_
  refine Runs.walk (F := A_ref02_Compare) hp hc (by rfl) ?_
  unfold A_ref02_Compare
  have hcn : ∀ x : St, V.cells (.agg (stC x)) = stC x := fun _ => rfl
  have e0 : ∀ x : St, (stC x)[0]? = some (.int .i64 x.1) := fun _ => rfl
  have e1 : ∀ x : St, (stC x)[1]? = some (.int .i64 x.2) := fun _ => rfl
  have hG := (Grew.push M (.cells (stC a) false)).trans (Grew.push _ (.cells (stC b) false))
  have g2 : ((M.push (.cells (stC a) false)).push (.cells (stC b) false)).get M.next = some (.cells (stC a) false) := by rw [Mem.get_push_ne _ _ (by simp), Mem.get_push_same]
  have g3 : ((M.push (.cells (stC a) false)).push (.cells (stC b) false)).get (M.next + 1) = some (.cells (stC b) false) := Mem.get_push_same (M.push _) _
  simp -dsimp only [↓w_seq, ↓w_ops, ↓w_skip, ↓w_ret, ↓w_exit, ↓w_scope, ↓w_block, ↓w_cond, cond_true', cond_false', ↓t_nil, ↓t_plain, ↓t_guard, ↓t_gagain, ↓t_again, t_val, t_call, g_true, g_false, ga_true, ga_false, a_val, a_call, ↓n_normal, ↓n_ret, ↓n_exit, ↓b_normal, ↓b_ret, ↓b_exit, ↓e_normal, ↓e_ret, e_some, go_sem, ↓reduceIte, Nat.reduceEqDiff, Nat.reduceLT, Nat.reduceSub, A_ref02_Compare_0, hcn, Mem.next_push]
  generalize (M.push (.cells (stC a) false)).push (.cells (stC b) false) = M1 at *
  have fin : ∀ n, n = cmpSt a b → R (.int .i64 n) M1 := fun n hn => hR _ _ ⟨by rw [hn], hG.old⟩
  by_cases h0 : a.1 = b.1
  · simp -dsimp only [↓w_seq, ↓w_ops, ↓w_skip, ↓w_ret, ↓w_exit, ↓w_scope, ↓w_block, ↓w_cond, cond_true', cond_false', ↓t_nil, ↓t_plain, ↓t_guard, ↓t_gagain, ↓t_again, t_val, t_call, g_true, g_false, ga_true, ga_false, a_val, a_call, ↓n_normal, ↓n_ret, ↓n_exit, ↓b_normal, ↓b_ret, ↓b_exit, ↓e_normal, ↓e_ret, e_some, go_sem, ↓reduceIte, Nat.reduceEqDiff, Nat.reduceLT, Nat.reduceSub, A_ref02_Compare_1, A_ref02_Compare_2, A_ref02_Compare_3, A_ref02_Compare_4, A_ref02_Compare_5, vload, vptr, Mem.read, g2, g3, e0, e1, Nat.add_zero, h0, decide_true]
    by_cases h1 : a.2 < b.2
    · simp -dsimp only [↓w_seq, ↓w_ops, ↓w_skip, ↓w_ret, ↓w_exit, ↓w_scope, ↓w_block, ↓w_cond, cond_true', cond_false', ↓t_nil, ↓t_plain, ↓t_guard, ↓t_gagain, ↓t_again, t_val, t_call, g_true, g_false, ga_true, ga_false, a_val, a_call, ↓n_normal, ↓n_ret, ↓n_exit, ↓b_normal, ↓b_ret, ↓b_exit, ↓e_normal, ↓e_ret, e_some, go_sem, ↓reduceIte, Nat.reduceEqDiff, Nat.reduceLT, Nat.reduceSub, A_ref02_Compare_6, A_ref02_Compare_7, h1, decide_true]
      refine fin _ ?_
      unfold cmpSt
      rw [if_neg (fun e => by rw [e] at h1; omega), if_pos (.inr ⟨h0, h1⟩)]
    · by_cases h2 : b.2 < a.2
      · simp -dsimp only [↓w_seq, ↓w_ops, ↓w_skip, ↓w_ret, ↓w_exit, ↓w_scope, ↓w_block, ↓w_cond, cond_true', cond_false', ↓t_nil, ↓t_plain, ↓t_guard, ↓t_gagain, ↓t_again, t_val, t_call, g_true, g_false, ga_true, ga_false, a_val, a_call, ↓n_normal, ↓n_ret, ↓n_exit, ↓b_normal, ↓b_ret, ↓b_exit, ↓e_normal, ↓e_ret, e_some, go_sem, ↓reduceIte, Nat.reduceEqDiff, Nat.reduceLT, Nat.reduceSub, A_ref02_Compare_6, A_ref02_Compare_8, A_ref02_Compare_9, h1, h2, decide_true, decide_false]
        refine fin _ ?_
        unfold cmpSt
        rw [if_neg (fun e => by rw [e] at h2; omega), if_neg (by omega)]
      · simp -dsimp only [↓w_seq, ↓w_ops, ↓w_skip, ↓w_ret, ↓w_exit, ↓w_scope, ↓w_block, ↓w_cond, cond_true', cond_false', ↓t_nil, ↓t_plain, ↓t_guard, ↓t_gagain, ↓t_again, t_val, t_call, g_true, g_false, ga_true, ga_false, a_val, a_call, ↓n_normal, ↓n_ret, ↓n_exit, ↓b_normal, ↓b_ret, ↓b_exit, ↓e_normal, ↓e_ret, e_some, go_sem, ↓reduceIte, Nat.reduceEqDiff, Nat.reduceLT, Nat.reduceSub, A_ref02_Compare_6, A_ref02_Compare_8, A_ref02_Compare_10, h1, h2, decide_false]
        refine fin _ ?_
        unfold cmpSt
        rw [if_pos (Prod.ext h0 (by omega))]
  · simp -dsimp only [↓w_seq, ↓w_ops, ↓w_skip, ↓w_ret, ↓w_exit, ↓w_scope, ↓w_block, ↓w_cond, cond_true', cond_false', ↓t_nil, ↓t_plain, ↓t_guard, ↓t_gagain, ↓t_again, t_val, t_call, g_true, g_false, ga_true, ga_false, a_val, a_call, ↓n_normal, ↓n_ret, ↓n_exit, ↓b_normal, ↓b_ret, ↓b_exit, ↓e_normal, ↓e_ret, e_some, go_sem, ↓reduceIte, Nat.reduceEqDiff, Nat.reduceLT, Nat.reduceSub, A_ref02_Compare_1, A_ref02_Compare_2, A_ref02_Compare_3, vload, vptr, Mem.read, g2, g3, e0, e1, Nat.add_zero, h0, decide_false]
    by_cases h1 : a.1 < b.1
    · simp -dsimp only [↓w_seq, ↓w_ops, ↓w_skip, ↓w_ret, ↓w_exit, ↓w_scope, ↓w_block, ↓w_cond, cond_true', cond_false', ↓t_nil, ↓t_plain, ↓t_guard, ↓t_gagain, ↓t_again, t_val, t_call, g_true, g_false, ga_true, ga_false, a_val, a_call, ↓n_normal, ↓n_ret, ↓n_exit, ↓b_normal, ↓b_ret, ↓b_exit, ↓e_normal, ↓e_ret, e_some, go_sem, ↓reduceIte, Nat.reduceEqDiff, Nat.reduceLT, Nat.reduceSub, A_ref02_Compare_6, A_ref02_Compare_7, h1, decide_true]
      refine fin _ ?_
      unfold cmpSt
      rw [if_neg (fun e => h0 (by rw [e])), if_pos (.inl h1)]
    · have h2 : b.1 < a.1 := by omega
      simp -dsimp only [↓w_seq, ↓w_ops, ↓w_skip, ↓w_ret, ↓w_exit, ↓w_scope, ↓w_block, ↓w_cond, cond_true', cond_false', ↓t_nil, ↓t_plain, ↓t_guard, ↓t_gagain, ↓t_again, t_val, t_call, g_true, g_false, ga_true, ga_false, a_val, a_call, ↓n_normal, ↓n_ret, ↓n_exit, ↓b_normal, ↓b_ret, ↓b_exit, ↓e_normal, ↓e_ret, e_some, go_sem, ↓reduceIte, Nat.reduceEqDiff, Nat.reduceLT, Nat.reduceSub, A_ref02_Compare_6, A_ref02_Compare_8, A_ref02_Compare_9, h1, h2, decide_true, decide_false]
      refine fin _ ?_
      unfold cmpSt
      rw [if_neg (fun e => h0 (by rw [e])), if_neg (by omega)]
theorem rroot_runs (D : Decls) (hp : D.prim F_ref07_Root = none) (hc : D.code.get F_ref07_Root = some A_ref07_Root) (M : Mem) : Runs D F_ref07_Root [] M fun v M' => v = .agg (stC (0, 0)) ∧ ∀ c, c < M.next → M'.get c = M.get c := by
  refine R_opq fun R hR => ?_
  refine Runs.walk (F := A_ref07_Root) hp hc (by rfl) ?_
  unfold A_ref07_Root
  have f0 : fillCells [.int .i64 0, .int .i64 0] [] = some (stC (0, 0)) := rfl
  have hcn : ∀ x : St, V.cells (.agg (stC x)) = stC x := fun _ => rfl
  have hw := write_full (M := M.push (.cells [.int .i64 0, .int .i64 0] false)) (b := M.next) (vs := stC (0, 0)) (Mem.get_push_same _ _) rfl rfl
  have hs := Mem.get_set_same (M.push (.cells [.int .i64 0, .int .i64 0] false)) M.next (.cells (stC (0, 0)) false)
  have hG := (Grew.push M (.cells [.int .i64 0, .int .i64 0] false)).upd (Nat.le_refl _) (Upd.set _ M.next (.cells (stC (0, 0)) false))
  have hrd : rdCells (stC (0, 0)) 0 2 = some (stC (0, 0)) := rfl
  simp -dsimp only [↓w_seq, ↓w_ops, ↓w_skip, ↓w_ret, ↓w_exit, ↓w_scope, ↓w_block, ↓w_cond, cond_true', cond_false', ↓t_nil, ↓t_plain, ↓t_guard, ↓t_gagain, ↓t_again, t_val, t_call, g_true, g_false, ga_true, ga_false, a_val, a_call, ↓n_normal, ↓n_ret, ↓n_exit, ↓b_normal, ↓b_ret, ↓b_exit, ↓e_normal, ↓e_ret, e_some, go_sem, ↓reduceIte, Nat.reduceEqDiff, Nat.reduceLT, Nat.reduceSub, A_ref07_Root_0, A_ref07_Root_1, f0, vof, Option.map_some, vstore, hcn, stC_len, hw, Nat.reduceEqDiff]
  generalize (M.push (.cells [.int .i64 0, .int .i64 0] false)).set M.next (.cells (stC (0, 0)) false) = M2 at *
  simp -dsimp only [↓w_seq, ↓w_ops, ↓w_skip, ↓w_ret, ↓w_exit, ↓w_scope, ↓w_block, ↓w_cond, cond_true', cond_false', ↓t_nil, ↓t_plain, ↓t_guard, ↓t_gagain, ↓t_again, t_val, t_call, g_true, g_false, ga_true, ga_false, a_val, a_call, ↓n_normal, ↓n_ret, ↓n_exit, ↓b_normal, ↓b_ret, ↓b_exit, ↓e_normal, ↓e_ret, e_some, go_sem, ↓reduceIte, Nat.reduceEqDiff, Nat.reduceLT, Nat.reduceSub, vload, vptr, Mem.read, hs, hrd, Nat.add_zero, Option.bind_some, oneOf]
  exact hR _ _ ⟨rfl, hG.old⟩
theorem rtrash_runs (D : Decls) (hp : D.prim F_ref07_Trash = none) (hc : D.code.get F_ref07_Trash = some A_ref07_Trash) (M : Mem) : Runs D F_ref07_Trash [] M fun v M' => v = .agg (stC (0, 1)) ∧ ∀ c, c < M.next → M'.get c = M.get c := by
  refine R_opq fun R hR => ?_
  refine Runs.walk (F := A_ref07_Trash) hp hc (by rfl) ?_
  unfold A_ref07_Trash
  have f0 : fillCells [.int .i64 0, .int .i64 0] [(1, 1, .int .i64 1)] = some (stC (0, 1)) := rfl
  have hcn : ∀ x : St, V.cells (.agg (stC x)) = stC x := fun _ => rfl
  have hw := write_full (M := M.push (.cells [.int .i64 0, .int .i64 0] false)) (b := M.next) (vs := stC (0, 1)) (Mem.get_push_same _ _) rfl rfl
  have hs := Mem.get_set_same (M.push (.cells [.int .i64 0, .int .i64 0] false)) M.next (.cells (stC (0, 1)) false)
  have hG := (Grew.push M (.cells [.int .i64 0, .int .i64 0] false)).upd (Nat.le_refl _) (Upd.set _ M.next (.cells (stC (0, 1)) false))
  have hrd : rdCells (stC (0, 1)) 0 2 = some (stC (0, 1)) := rfl
  simp -dsimp only [↓w_seq, ↓w_ops, ↓w_skip, ↓w_ret, ↓w_exit, ↓w_scope, ↓w_block, ↓w_cond, cond_true', cond_false', ↓t_nil, ↓t_plain, ↓t_guard, ↓t_gagain, ↓t_again, t_val, t_call, g_true, g_false, ga_true, ga_false, a_val, a_call, ↓n_normal, ↓n_ret, ↓n_exit, ↓b_normal, ↓b_ret, ↓b_exit, ↓e_normal, ↓e_ret, e_some, go_sem, ↓reduceIte, Nat.reduceEqDiff, Nat.reduceLT, Nat.reduceSub, A_ref07_Trash_0, A_ref07_Trash_1, f0, vof, Option.map_some, vstore, hcn, stC_len, hw, Nat.reduceEqDiff]
  generalize (M.push (.cells [.int .i64 0, .int .i64 0] false)).set M.next (.cells (stC (0, 1)) false) = M2 at *
  simp -dsimp only [↓w_seq, ↓w_ops, ↓w_skip, ↓w_ret, ↓w_exit, ↓w_scope, ↓w_block, ↓w_cond, cond_true', cond_false', ↓t_nil, ↓t_plain, ↓t_guard, ↓t_gagain, ↓t_again, t_val, t_call, g_true, g_false, ga_true, ga_false, a_val, a_call, ↓n_normal, ↓n_ret, ↓n_exit, ↓b_normal, ↓b_ret, ↓b_exit, ↓e_normal, ↓e_ret, e_some, go_sem, ↓reduceIte, Nat.reduceEqDiff, Nat.reduceLT, Nat.reduceSub, vload, vptr, Mem.read, hs, hrd, Nat.add_zero, Option.bind_some, oneOf]
  exact hR _ _ ⟨rfl, hG.old⟩
theorem r04_runs (D : Decls) (hp : D.prim F_ref04_Right = none) (hc : D.code.get F_ref04_Right = some A_ref04_Right) (M : Mem) (k : List UInt8) :
    Runs D F_ref04_Right [.str k] M fun v M' => v = .bool (rightK k) ∧ M' = M := by
  refine R_opq fun R hR => ?_
  refine Runs.walk (F := A_ref04_Right) hp hc (by rfl) ?_
  unfold A_ref04_Right
  have fin : ∀ b, b = rightK k → R (.bool b) M := fun b hb => hR _ _ ⟨by rw [hb], rfl⟩
  simp -dsimp only [↓w_seq, ↓w_ops, ↓w_skip, ↓w_ret, ↓w_exit, ↓w_scope, ↓w_block, ↓w_cond, cond_true', cond_false', ↓t_nil, ↓t_plain, ↓t_guard, ↓t_gagain, ↓t_again, t_val, t_call, g_true, g_false, ga_true, ga_false, a_val, a_call, ↓n_normal, ↓n_ret, ↓n_exit, ↓b_normal, ↓b_ret, ↓b_exit, ↓e_normal, ↓e_ret, e_some, go_sem, ↓reduceIte, Nat.reduceEqDiff, Nat.reduceLT, Nat.reduceSub, A_ref04_Right_0, A_ref04_Right_1]
  by_cases h : (1 : Int) ≤ k.length
  · have hne : k ≠ [] := fun e => by rw [e] at h; simp at h
    simp -dsimp only [↓w_seq, ↓w_ops, ↓w_skip, ↓w_ret, ↓w_exit, ↓w_scope, ↓w_block, ↓w_cond, cond_true', cond_false', ↓t_nil, ↓t_plain, ↓t_guard, ↓t_gagain, ↓t_again, t_val, t_call, g_true, g_false, ga_true, ga_false, a_val, a_call, ↓n_normal, ↓n_ret, ↓n_exit, ↓b_normal, ↓b_ret, ↓b_exit, ↓e_normal, ↓e_ret, e_some, go_sem, ↓reduceIte, Nat.reduceEqDiff, Nat.reduceLT, Nat.reduceSub, h, decide_true]
    by_cases h2 : (k.length : Int) ≤ 24
    · have hl : k[k.length - 1]? = some k[k.length - 1] := List.getElem?_eq_getElem (by omega)
      have hd : digitL k (k.length - 1) = k[k.length - 1].toNat := by simp [digitL, List.getD_eq_getElem?_getD, hl]
      simp -dsimp only [↓w_seq, ↓w_ops, ↓w_skip, ↓w_ret, ↓w_exit, ↓w_scope, ↓w_block, ↓w_cond, cond_true', cond_false', ↓t_nil, ↓t_plain, ↓t_guard, ↓t_gagain, ↓t_again, t_val, t_call, g_true, g_false, ga_true, ga_false, a_val, a_call, ↓n_normal, ↓n_ret, ↓n_exit, ↓b_normal, ↓b_ret, ↓b_exit, ↓e_normal, ↓e_ret, e_some, go_sem, ↓reduceIte, Nat.reduceEqDiff, Nat.reduceLT, Nat.reduceSub, h2, decide_true]
      rw [IntWalk.i64_in _ (by omega), as_nat _ _ (by omega), show ((k.length : Int) - 1).toNat = k.length - 1 by omega]
      simp -dsimp only [↓w_seq, ↓w_ops, ↓w_skip, ↓w_ret, ↓w_exit, ↓w_scope, ↓w_block, ↓w_cond, cond_true', cond_false', ↓t_nil, ↓t_plain, ↓t_guard, ↓t_gagain, ↓t_again, t_val, t_call, g_true, g_false, ga_true, ga_false, a_val, a_call, ↓n_normal, ↓n_ret, ↓n_exit, ↓b_normal, ↓b_ret, ↓b_exit, ↓e_normal, ↓e_ret, e_some, go_sem, ↓reduceIte, Nat.reduceEqDiff, Nat.reduceLT, Nat.reduceSub, hl]
      exact fin _ (by simp only [rightK, hne, hd, show k.length ≤ 24 by omega, Int.natCast_eq_zero, decide_true, decide_false, Bool.not_false, Bool.true_and])
    · simp -dsimp only [↓w_seq, ↓w_ops, ↓w_skip, ↓w_ret, ↓w_exit, ↓w_scope, ↓w_block, ↓w_cond, cond_true', cond_false', ↓t_nil, ↓t_plain, ↓t_guard, ↓t_gagain, ↓t_again, t_val, t_call, g_true, g_false, ga_true, ga_false, a_val, a_call, ↓n_normal, ↓n_ret, ↓n_exit, ↓b_normal, ↓b_ret, ↓b_exit, ↓e_normal, ↓e_ret, e_some, go_sem, ↓reduceIte, Nat.reduceEqDiff, Nat.reduceLT, Nat.reduceSub, h2, decide_false]
      exact fin _ (by simp only [rightK, hne, show ¬ k.length ≤ 24 by omega, decide_true, decide_false, Bool.not_false, Bool.true_and, Bool.false_and])
  · have he : k = [] := by cases k with
      | nil => rfl
      | cons a l => exfalso; apply h; simp only [List.length_cons]; omega
    simp -dsimp only [↓w_seq, ↓w_ops, ↓w_skip, ↓w_ret, ↓w_exit, ↓w_scope, ↓w_block, ↓w_cond, cond_true', cond_false', ↓t_nil, ↓t_plain, ↓t_guard, ↓t_gagain, ↓t_again, t_val, t_call, g_true, g_false, ga_true, ga_false, a_val, a_call, ↓n_normal, ↓n_ret, ↓n_exit, ↓b_normal, ↓b_ret, ↓b_exit, ↓e_normal, ↓e_ret, e_some, go_sem, ↓reduceIte, Nat.reduceEqDiff, Nat.reduceLT, Nat.reduceSub, h, decide_false]
    exact fin _ (by simp only [rightK, he, decide_true, Bool.not_true, Bool.false_and])

def pRCmp (args : List V) (_ : Mem) : Option V :=
  match args with
  | [.agg [.int .i64 a, .int .i64 b], .agg [.int .i64 c, .int .i64 d]] => some (.int .i64 (cmpSt (a, b) (c, d)))
  | _ => none
def pRRoot (args : List V) (_ : Mem) : Option V :=
  match args with
  | [] => some (.agg (stC (0, 0)))
  | _ => none
def pRTrash (args : List V) (_ : Mem) : Option V :=
  match args with
  | [] => some (.agg (stC (0, 1)))
  | _ => none
theorem pRCmp_ok : CallOK Tryz.prog gl0 fun f' args M => if f' = F_ref02_Compare then (pRCmp args M).map (·, M) else none := by
  refine prim_keep ⟨_, Tryz.func71, (by kernel_rfl), (by kernel_rfl)⟩ ?_
  intro args M v h hwf
  unfold pRCmp at h
  split at h
  · cases h
    exact ⟨rfl, XRuns.of_runs dok0 (rcmp_runs D0 rfl (by rfl) M (_, _) (_, _))⟩
  · cases h
theorem pRRight_ok : CallOK Tryz.prog gl0 fun f' args M => if f' = F_ref02_Right then (pSRight args M).map (·, M) else none := by
  refine prim_keep ⟨_, Tryz.func94, (by kernel_rfl), (by kernel_rfl)⟩ ?_
  intro args M v h hwf
  unfold pSRight at h
  split at h
  · cases h
    exact ⟨rfl, XRuns.of_runs dok0 (rright_runs D0 rfl (by rfl) M (_, _))⟩
  · cases h
theorem pRRoot_ok : CallOK Tryz.prog gl0 fun f' args M => if f' = F_ref07_Root then (pRRoot args M).map (·, M) else none := by
  refine prim_keep ⟨_, Tryz.func97, (by kernel_rfl), (by kernel_rfl)⟩ ?_
  intro args M v h hwf
  unfold pRRoot at h
  split at h
  · cases h
    exact ⟨rfl, XRuns.of_runs dok0 (rroot_runs D0 rfl (by rfl) M)⟩
  · cases h
theorem pRTrash_ok : CallOK Tryz.prog gl0 fun f' args M => if f' = F_ref07_Trash then (pRTrash args M).map (·, M) else none := by
  refine prim_keep ⟨_, Tryz.func74, (by kernel_rfl), (by kernel_rfl)⟩ ?_
  intro args M v h hwf
  unfold pRTrash at h
  split at h
  · cases h
    exact ⟨rfl, XRuns.of_runs dok0 (rtrash_runs D0 rfl (by rfl) M)⟩
  · cases h
theorem pR04_ok : CallOK Tryz.prog gl0 fun f' args M => if f' = F_ref04_Right then (pKRight args M).map (·, M) else none := by
  refine prim_keep ⟨_, Tryz.func96, (by kernel_rfl), (by kernel_rfl)⟩ ?_
  intro args M v h hwf
  unfold pKRight at h
  split at h
  · cases h
    exact ⟨rfl, XRuns.of_runs dok0 ((r04_runs D0 rfl (by rfl) M _).mono fun v M' h => ⟨h.1, fun c _ => by rw [h.2]⟩)⟩
  · cases h
def Dr1 : Decls := ((((D1w.addP F_ref02_Compare pRCmp).addP F_ref02_Right pSRight).addP F_ref07_Root pRRoot).addP F_ref07_Trash pRTrash).addP F_ref04_Right pKRight
theorem dokr1 : DOK Tryz.prog gl0 Dr1 := ((((dok1w.addM pRCmp_ok).addM pRRight_ok).addM pRRoot_ok).addM pRTrash_ok).addM pR04_ok

theorem rnode_runs (M : Mem) (x : St) : Runs Dr1 F_ref07_Node [.agg (stC x)] M fun v M' => v = .bool (nodeSt x) ∧ ∀ c, c < M.next → M'.get c = M.get c := by
  refine R_opq fun R hR => ?_
  refine Runs.walk (F := A_ref07_Node) rfl (by rfl) (by rfl) ?_
  unfold A_ref07_Node
  have hcn : V.cells (.agg (stC x)) = stC x := rfl
  have hrd : rdCells (stC x) 0 2 = some (stC x) := rfl
  have g1 : (M.push (.cells (stC x) false)).get M.next = some (.cells (stC x) false) := Mem.get_push_same _ _
  have hG : ∀ c, c < M.next → (M.push (.cells (stC x) false)).get c = M.get c := (Grew.push _ _).old
  have e0 : (stC x)[0]? = some (.int .i64 x.1) := rfl
  have fin : ∀ b, b = nodeSt x → R (.bool b) (M.push (.cells (stC x) false)) := fun b hb => hR _ _ ⟨by rw [hb], hG⟩
  simp -dsimp only [↓w_seq, ↓w_ops, ↓w_skip, ↓w_ret, ↓w_exit, ↓w_scope, ↓w_block, ↓w_cond, cond_true', cond_false', ↓t_nil, ↓t_plain, ↓t_guard, ↓t_gagain, ↓t_again, t_val, t_call, g_true, g_false, ga_true, ga_false, a_val, a_call, ↓n_normal, ↓n_ret, ↓n_exit, ↓b_normal, ↓b_ret, ↓b_exit, ↓e_normal, ↓e_ret, e_some, go_sem, ↓reduceIte, Nat.reduceEqDiff, Nat.reduceLT, Nat.reduceSub, A_ref07_Node_0, A_ref07_Node_1, hcn]
  generalize M.push (.cells (stC x) false) = M1 at *
  simp -dsimp only [↓w_seq, ↓w_ops, ↓w_skip, ↓w_ret, ↓w_exit, ↓w_scope, ↓w_block, ↓w_cond, cond_true', cond_false', ↓t_nil, ↓t_plain, ↓t_guard, ↓t_gagain, ↓t_again, t_val, t_call, g_true, g_false, ga_true, ga_false, a_val, a_call, ↓n_normal, ↓n_ret, ↓n_exit, ↓b_normal, ↓b_ret, ↓b_exit, ↓e_normal, ↓e_ret, e_some, go_sem, ↓reduceIte, Nat.reduceEqDiff, Nat.reduceLT, Nat.reduceSub, vload, vptr, Mem.read, g1, Nat.add_zero, e0, hrd]
  refine call_eq (Runs.part (g := pSRight) rfl rfl) ?_
  cases hr : rightSt (x.1, x.2) with
  | true =>
    simp -dsimp only [↓w_seq, ↓w_ops, ↓w_skip, ↓w_ret, ↓w_exit, ↓w_scope, ↓w_block, ↓w_cond, cond_true', cond_false', ↓t_nil, ↓t_plain, ↓t_guard, ↓t_gagain, ↓t_again, t_val, t_call, g_true, g_false, ga_true, ga_false, a_val, a_call, ↓n_normal, ↓n_ret, ↓n_exit, ↓b_normal, ↓b_ret, ↓b_exit, ↓e_normal, ↓e_ret, e_some, go_sem, ↓reduceIte, Nat.reduceEqDiff, Nat.reduceLT, Nat.reduceSub, vload, vptr, Mem.read, g1, Nat.add_zero, e0, hrd]
    exact fin _ (by rw [nodeSt, show rightSt x = true from hr, Bool.true_and]; exact decide_eq_decide.mpr (by omega))
  | false =>
    simp -dsimp only [↓w_seq, ↓w_ops, ↓w_skip, ↓w_ret, ↓w_exit, ↓w_scope, ↓w_block, ↓w_cond, cond_true', cond_false', ↓t_nil, ↓t_plain, ↓t_guard, ↓t_gagain, ↓t_again, t_val, t_call, g_true, g_false, ga_true, ga_false, a_val, a_call, ↓n_normal, ↓n_ret, ↓n_exit, ↓b_normal, ↓b_ret, ↓b_exit, ↓e_normal, ↓e_ret, e_some, go_sem, ↓reduceIte, Nat.reduceEqDiff, Nat.reduceLT, Nat.reduceSub, vload, vptr, Mem.read, g1, Nat.add_zero, e0, hrd]
    exact fin _ (by rw [nodeSt, show rightSt x = false from hr]; rfl)
theorem pRNode_ok : CallOK Tryz.prog gl0 fun f' args M => if f' = F_ref07_Node then (pOpNode args M).map (·, M) else none := by
  refine prim_keep ⟨_, Tryz.func50, (by kernel_rfl), (by kernel_rfl)⟩ ?_
  intro args M v h hwf
  unfold pOpNode at h
  split at h
  · cases h
    exact ⟨rfl, XRuns.of_runs dokr1 (rnode_runs M (_, _))⟩
  · cases h
def Dr2 : Decls := Dr1.addP F_ref07_Node pOpNode
theorem dokr2 : DOK Tryz.prog gl0 Dr2 := dokr1.addM pRNode_ok

theorem rplace_runs (M : Mem) (x : St) : Runs Dr2 F_ref07_Place [.agg (stC x)] M fun v M' => v = .bool (placeSt x) ∧ ∀ c, c < M.next → M'.get c = M.get c := by
  refine R_opq fun R hR => ?_
  refine Runs.walk (F := A_ref07_Place) rfl (by rfl) (by rfl) ?_
  unfold A_ref07_Place
  have hcn : V.cells (.agg (stC x)) = stC x := rfl
  have hrd : ∀ x : St, rdCells (stC x) 0 2 = some (stC x) := fun _ => rfl
  have g1 : (M.push (.cells (stC x) false)).get M.next = some (.cells (stC x) false) := Mem.get_push_same _ _
  have hG : ∀ c, c < M.next → (M.push (.cells (stC x) false)).get c = M.get c := (Grew.push _ _).old
  have fin : ∀ b, b = placeSt x → R (.bool b) (M.push (.cells (stC x) false)) := fun b hb => hR _ _ ⟨by rw [hb], hG⟩
  simp -dsimp only [↓w_seq, ↓w_ops, ↓w_skip, ↓w_ret, ↓w_exit, ↓w_scope, ↓w_block, ↓w_cond, cond_true', cond_false', ↓t_nil, ↓t_plain, ↓t_guard, ↓t_gagain, ↓t_again, t_val, t_call, g_true, g_false, ga_true, ga_false, a_val, a_call, ↓n_normal, ↓n_ret, ↓n_exit, ↓b_normal, ↓b_ret, ↓b_exit, ↓e_normal, ↓e_ret, e_some, go_sem, ↓reduceIte, Nat.reduceEqDiff, Nat.reduceLT, Nat.reduceSub, A_ref07_Place_0, A_ref07_Place_1, hcn]
  generalize M.push (.cells (stC x) false) = M1 at *
  simp -dsimp only [↓w_seq, ↓w_ops, ↓w_skip, ↓w_ret, ↓w_exit, ↓w_scope, ↓w_block, ↓w_cond, cond_true', cond_false', ↓t_nil, ↓t_plain, ↓t_guard, ↓t_gagain, ↓t_again, t_val, t_call, g_true, g_false, ga_true, ga_false, a_val, a_call, ↓n_normal, ↓n_ret, ↓n_exit, ↓b_normal, ↓b_ret, ↓b_exit, ↓e_normal, ↓e_ret, e_some, go_sem, ↓reduceIte, Nat.reduceEqDiff, Nat.reduceLT, Nat.reduceSub, vload, vptr, Mem.read, g1, Nat.add_zero, hrd]
  refine call_eq (Runs.part (g := pOpNode) rfl rfl) ?_
  cases hr : nodeSt (x.1, x.2) with
  | true =>
    simp -dsimp only [↓w_seq, ↓w_ops, ↓w_skip, ↓w_ret, ↓w_exit, ↓w_scope, ↓w_block, ↓w_cond, cond_true', cond_false', ↓t_nil, ↓t_plain, ↓t_guard, ↓t_gagain, ↓t_again, t_val, t_call, g_true, g_false, ga_true, ga_false, a_val, a_call, ↓n_normal, ↓n_ret, ↓n_exit, ↓b_normal, ↓b_ret, ↓b_exit, ↓e_normal, ↓e_ret, e_some, go_sem, ↓reduceIte, Nat.reduceEqDiff, Nat.reduceLT, Nat.reduceSub, vload, vptr, Mem.read, g1, Nat.add_zero, hrd]
    exact fin _ (by rw [placeSt, show nodeSt x = true from hr]; rfl)
  | false =>
    simp -dsimp only [↓w_seq, ↓w_ops, ↓w_skip, ↓w_ret, ↓w_exit, ↓w_scope, ↓w_block, ↓w_cond, cond_true', cond_false', ↓t_nil, ↓t_plain, ↓t_guard, ↓t_gagain, ↓t_again, t_val, t_call, g_true, g_false, ga_true, ga_false, a_val, a_call, ↓n_normal, ↓n_ret, ↓n_exit, ↓b_normal, ↓b_ret, ↓b_exit, ↓e_normal, ↓e_ret, e_some, go_sem, ↓reduceIte, Nat.reduceEqDiff, Nat.reduceLT, Nat.reduceSub, vload, vptr, Mem.read, g1, Nat.add_zero, hrd, st_same]
    refine callA_by (k := ⟨⟩) (l' := ⟨⟩) (g' := ⟨⟩) (Runs.part (g := pRRoot) rfl rfl) ?_
    intro v M2 hv
    rw [hv.1, hv.2]
    clear hv
    refine ⟨?_, ?_⟩
    · simp only [List.all_cons, List.all_nil, Bool.and_true, againOk, wantedA, cond_true, go_sem, ↓reduceIte, Nat.reduceEqDiff, Nat.reduceLT, Nat.reduceSub, vload, vptr, Mem.read, g1, hrd, Nat.zero_add, V.beq, V.beq_self, V.beqs_self, Bool.and_self, Nat.reduceAdd, Nat.reduceLeDiff, decide_true, cond_true, Bool.not_false]
    by_cases h2 : x = (0, 0)
    · simp -dsimp only [↓w_seq, ↓w_ops, ↓w_skip, ↓w_ret, ↓w_exit, ↓w_scope, ↓w_block, ↓w_cond, cond_true', cond_false', ↓t_nil, ↓t_plain, ↓t_guard, ↓t_gagain, ↓t_again, t_val, t_call, g_true, g_false, ga_true, ga_false, a_val, a_call, ↓n_normal, ↓n_ret, ↓n_exit, ↓b_normal, ↓b_ret, ↓b_exit, ↓e_normal, ↓e_ret, e_some, go_sem, ↓reduceIte, Nat.reduceEqDiff, Nat.reduceLT, Nat.reduceSub, st_same, h2, decide_true]
      exact fin _ (by rw [placeSt, show nodeSt x = false from hr]; simp [h2])
    · simp -dsimp only [↓w_seq, ↓w_ops, ↓w_skip, ↓w_ret, ↓w_exit, ↓w_scope, ↓w_block, ↓w_cond, cond_true', cond_false', ↓t_nil, ↓t_plain, ↓t_guard, ↓t_gagain, ↓t_again, t_val, t_call, g_true, g_false, ga_true, ga_false, a_val, a_call, ↓n_normal, ↓n_ret, ↓n_exit, ↓b_normal, ↓b_ret, ↓b_exit, ↓e_normal, ↓e_ret, e_some, go_sem, ↓reduceIte, Nat.reduceEqDiff, Nat.reduceLT, Nat.reduceSub, st_same, h2, decide_false, vload, vptr, Mem.read, g1, hrd]
      refine callA_by (k := ⟨⟩) (l' := ⟨⟩) (g' := ⟨⟩) (Runs.part (g := pRTrash) rfl rfl) ?_
      intro v M2 hv
      rw [hv.1, hv.2]
      clear hv
      refine ⟨?_, ?_⟩
      · simp only [List.all_cons, List.all_nil, Bool.and_true, againOk, wantedA, cond_true, go_sem, ↓reduceIte, Nat.reduceEqDiff, Nat.reduceLT, Nat.reduceSub, vload, vptr, Mem.read, g1, hrd, Nat.zero_add, V.beq, V.beq_self, V.beqs_self, Bool.and_self, Nat.reduceAdd, Nat.reduceLeDiff, decide_true, cond_true, Bool.not_false]
      simp -dsimp only [↓w_seq, ↓w_ops, ↓w_skip, ↓w_ret, ↓w_exit, ↓w_scope, ↓w_block, ↓w_cond, cond_true', cond_false', ↓t_nil, ↓t_plain, ↓t_guard, ↓t_gagain, ↓t_again, t_val, t_call, g_true, g_false, ga_true, ga_false, a_val, a_call, ↓n_normal, ↓n_ret, ↓n_exit, ↓b_normal, ↓b_ret, ↓b_exit, ↓e_normal, ↓e_ret, e_some, go_sem, ↓reduceIte, Nat.reduceEqDiff, Nat.reduceLT, Nat.reduceSub, st_same]
      exact fin _ (by rw [placeSt, show nodeSt x = false from hr]; simp [h2])
def pRPlace (args : List V) (_ : Mem) : Option V :=
  match args with
  | [.agg [.int .i64 a, .int .i64 b]] => some (.bool (placeSt (a, b)))
  | _ => none
theorem pRPlace_ok : CallOK Tryz.prog gl0 fun f' args M => if f' = F_ref07_Place then (pRPlace args M).map (·, M) else none := by
  refine prim_keep ⟨_, Tryz.func95, (by kernel_rfl), (by kernel_rfl)⟩ ?_
  intro args M v h hwf
  unfold pRPlace at h
  split at h
  · cases h
    exact ⟨rfl, XRuns.of_runs dokr2 (rplace_runs M (_, _))⟩
  · cases h
def Dr3 : Decls := Dr2.addP F_ref07_Place pRPlace
theorem dokr3 : DOK Tryz.prog gl0 Dr3 := dokr2.addM pRPlace_ok
theorem rspRight_runs (M : Mem) (s : Spot) : Runs Dr3 F_ref10_Right [.agg (spC s)] M fun v M' => v = .bool (rightSp s) ∧ ∀ c, c < M.next → M'.get c = M.get c := by
  refine R_opq fun R hR => ?_
  refine Runs.walk (F := A_ref10_Right) rfl (by rfl) (by rfl) ?_
  unfold A_ref10_Right
  have hcn : V.cells (.agg (spC s)) = spC s := rfl
  have hrd : rdCells (spC s) 0 2 = some (stC s.1) := rfl
  have e2 : (spC s)[2]? = some (.str s.2) := rfl
  have g1 : (M.push (.cells (spC s) false)).get M.next = some (.cells (spC s) false) := Mem.get_push_same _ _
  have hG : ∀ c, c < M.next → (M.push (.cells (spC s) false)).get c = M.get c := (Grew.push _ _).old
  have fin : ∀ b, b = rightSp s → R (.bool b) (M.push (.cells (spC s) false)) := fun b hb => hR _ _ ⟨by rw [hb], hG⟩
  simp -dsimp only [↓w_seq, ↓w_ops, ↓w_skip, ↓w_ret, ↓w_exit, ↓w_scope, ↓w_block, ↓w_cond, cond_true', cond_false', ↓t_nil, ↓t_plain, ↓t_guard, ↓t_gagain, ↓t_again, t_val, t_call, g_true, g_false, ga_true, ga_false, a_val, a_call, ↓n_normal, ↓n_ret, ↓n_exit, ↓b_normal, ↓b_ret, ↓b_exit, ↓e_normal, ↓e_ret, e_some, go_sem, ↓reduceIte, Nat.reduceEqDiff, Nat.reduceLT, Nat.reduceSub, A_ref10_Right_0, A_ref10_Right_1, hcn]
  generalize M.push (.cells (spC s) false) = M1 at *
  simp -dsimp only [↓w_seq, ↓w_ops, ↓w_skip, ↓w_ret, ↓w_exit, ↓w_scope, ↓w_block, ↓w_cond, cond_true', cond_false', ↓t_nil, ↓t_plain, ↓t_guard, ↓t_gagain, ↓t_again, t_val, t_call, g_true, g_false, ga_true, ga_false, a_val, a_call, ↓n_normal, ↓n_ret, ↓n_exit, ↓b_normal, ↓b_ret, ↓b_exit, ↓e_normal, ↓e_ret, e_some, go_sem, ↓reduceIte, Nat.reduceEqDiff, Nat.reduceLT, Nat.reduceSub, vload, vptr, Mem.read, g1, Nat.add_zero, hrd, e2]
  refine call_eq (Runs.part (g := pRPlace) rfl rfl) ?_
  cases hr : placeSt (s.1.1, s.1.2) with
  | false =>
    simp -dsimp only [↓w_seq, ↓w_ops, ↓w_skip, ↓w_ret, ↓w_exit, ↓w_scope, ↓w_block, ↓w_cond, cond_true', cond_false', ↓t_nil, ↓t_plain, ↓t_guard, ↓t_gagain, ↓t_again, t_val, t_call, g_true, g_false, ga_true, ga_false, a_val, a_call, ↓n_normal, ↓n_ret, ↓n_exit, ↓b_normal, ↓b_ret, ↓b_exit, ↓e_normal, ↓e_ret, e_some, go_sem, ↓reduceIte, Nat.reduceEqDiff, Nat.reduceLT, Nat.reduceSub, vload, vptr, Mem.read, g1, Nat.add_zero, hrd, e2]
    exact fin _ (by rw [rightSp, show placeSt s.1 = false from hr]; rfl)
  | true =>
    simp -dsimp only [↓w_seq, ↓w_ops, ↓w_skip, ↓w_ret, ↓w_exit, ↓w_scope, ↓w_block, ↓w_cond, cond_true', cond_false', ↓t_nil, ↓t_plain, ↓t_guard, ↓t_gagain, ↓t_again, t_val, t_call, g_true, g_false, ga_true, ga_false, a_val, a_call, ↓n_normal, ↓n_ret, ↓n_exit, ↓b_normal, ↓b_ret, ↓b_exit, ↓e_normal, ↓e_ret, e_some, go_sem, ↓reduceIte, Nat.reduceEqDiff, Nat.reduceLT, Nat.reduceSub, vload, vptr, Mem.read, g1, Nat.zero_add, Nat.add_zero, hrd, e2]
    refine call_eq (Runs.part (g := pKRight) rfl rfl) ?_
    simp -dsimp only [↓w_seq, ↓w_ops, ↓w_skip, ↓w_ret, ↓w_exit, ↓w_scope, ↓w_block, ↓w_cond, cond_true', cond_false', ↓t_nil, ↓t_plain, ↓t_guard, ↓t_gagain, ↓t_again, t_val, t_call, g_true, g_false, ga_true, ga_false, a_val, a_call, ↓n_normal, ↓n_ret, ↓n_exit, ↓b_normal, ↓b_ret, ↓b_exit, ↓e_normal, ↓e_ret, e_some, go_sem, ↓reduceIte, Nat.reduceEqDiff, Nat.reduceLT, Nat.reduceSub, vload, vptr, Mem.read, g1, Nat.add_zero, hrd, e2]
    exact fin _ (by rw [rightSp, show placeSt s.1 = true from hr]; rfl)
def pRSpRight (args : List V) (_ : Mem) : Option V :=
  match args with
  | [.agg [.int .i64 a, .int .i64 b, .str k]] => some (.bool (rightSp ((a, b), k)))
  | _ => none
theorem pRSpRight_ok : CallOK Tryz.prog gl0 fun f' args M => if f' = F_ref10_Right then (pRSpRight args M).map (·, M) else none := by
  refine prim_keep ⟨_, Tryz.func51, (by kernel_rfl), (by kernel_rfl)⟩ ?_
  intro args M v h hwf
  unfold pRSpRight at h
  split at h
  · cases h
    exact ⟨rfl, XRuns.of_runs dokr3 (rspRight_runs M ((_, _), _))⟩
  · cases h
def Dr4 : Decls := Dr3.addP F_ref10_Right pRSpRight
theorem dokr4 : DOK Tryz.prog gl0 Dr4 := dokr3.addM pRSpRight_ok
end Go.Am.Tryz


/- The reference's tree: a list of rows; find, Has, Spot, as parts. -/
namespace Go.Am.Tryz
open Go Go.Am Go.Proofs Go.Sort Go.Shelf
set_option maxRecDepth 100000
set_option linter.unusedSimpArgs false
set_option linter.unusedVariables false

def rowC (p : St × Spot) : List V := stC p.1 ++ spC p.2
def decRow : List V → Option (St × Spot)
  | [.int .i64 a, .int .i64 b, .int .i64 c, .int .i64 d, .str s] => some ((a, b), ((c, d), s))
  | _ => none
def elRow : Elem (St × Spot) where
  k := 5
  cv := rowC
  enc x := [.int .i64 x.1.1, .int .i64 x.1.2, .int .i64 x.2.1.1, .int .i64 x.2.1.2, .string ⟨x.2.2.toArray⟩]
  dec := decRow
  k_pos := by omega
  len _ := rfl
  elen _ := rfl
  dec_some cs x h := by unfold decRow at h; split at h <;> cases h; rfl
  dec_cv _ := rfl
  rel E x := .cons (.int _ _) (.cons (.int _ _) (.cons (.int _ _) (.cons (.int _ _) (.cons (by have := VR.str (E := E) ⟨x.2.2.toArray⟩; simpa using this) .nil))))
  rel_eq E x us h := by
    cases h with
    | cons h2 t => cases t with
      | cons h3 t => cases t with
        | cons h4 t => cases t with
          | cons h5 t => cases t with
            | cons h6 t =>
              cases t; cases h2; cases h3; cases h4; cases h5
              generalize hs : V.str x.2.2 = v at h6
              cases h6 <;> first | (cases hs; done) | skip
              rename_i s
              have hx := V.str.inj hs
              rw [hx]
  one x v hv := by simp at hv; rcases hv with rfl | rfl | rfl | rfl | rfl <;> rfl
  one' _ := rfl
  flat _ := rfl

theorem row_at {M : Mem} {s : V} {L : Tr} (h : SlR elRow M s L) {i : Nat} (hi : i < L.length) : ∃ b o cs ro cap, s = .slice (some (b, o)) L.length cap ∧ M.get b = some (.cells cs ro) ∧ rdCells cs (o + i * 5) 5 = some (rowC L[i]) ∧ rdCells cs (o + i * 5) 2 = some (stC L[i].1) ∧ rdCells cs (o + i * 5 + 2) 3 = some (spC L[i].2) ∧ rdCells cs (o + i * 5 + 2) 2 = some (stC L[i].2.1) := by
  obtain ⟨a, cap, rfl, h⟩ := h
  rcases h with h | ⟨b, o, cs, ro, rfl, h1, h2⟩
  · subst h; simp at hi
  · have h3 : rdCells cs (o + i * 5) 5 = some (rowC L[i]) := h2 i hi
    exact ⟨b, o, cs, ro, cap, rfl, h1, h3, rd_part h3 0 2 (by decide), rd_part h3 2 3 (by decide), rd_part h3 2 2 (by decide)⟩

def rowsOf (M : Mem) (rc : Nat) : Option Tr :=
  match M.get rc with
  | some (.cells [.slice a n _] _) => cond (Nat.ble n 100000) (cond (Nat.beq n 0) (some []) (match a with
    | some (b, o) => (match M.get b with
      | some (.cells cs _) => (rdCells cs o (n * 5)).bind (elRow.decs n)
      | _ => none)
    | none => none)) none
  | _ => none
theorem rowsOf_some {M : Mem} {rc : Nat} {L : Tr} (h : rowsOf M rc = some L) : ∃ s ro, M.get rc = some (.cells [s] ro) ∧ SlR elRow M s L ∧ L.length ≤ 100000 ∧ ∀ b, s.blk = some b → L ≠ [] → ∃ o, M.get b = some o := by
  unfold rowsOf at h
  split at h
  · rename_i a n cap ro hrc
    obtain ⟨h1, h⟩ := cond_some h
    have hn := Nat.le_of_ble_eq_true h1
    cases hz : Nat.beq n 0 with
    | true =>
      rw [hz] at h
      cases h
      have hn0 : n = 0 := Nat.eq_of_beq_eq_true hz
      subst hn0
      exact ⟨_, ro, hrc, ⟨a, cap, rfl, .inl rfl⟩, by simp, fun b _ hne => absurd rfl hne⟩
    | false =>
      rw [hz] at h
      simp only [cond_false] at h
      cases a with
      | none => cases h
      | some bo =>
        obtain ⟨b, o⟩ := bo
        simp only at h
        split at h
        · rename_i cs ro' hb
          simp only [Option.bind_eq_some_iff] at h
          obtain ⟨ds, h2, h3⟩ := h
          obtain ⟨h4, h5⟩ := elRow.decs_some h3
          subst h5
          refine ⟨_, ro, hrc, ⟨some (b, o), cap, by rw [h4], .inr ⟨b, o, cs, ro', rfl, hb, fun i hi => ?_⟩⟩, by omega, fun b' hb' _ => ?_⟩
          · have hle : i * 5 + 5 ≤ n * 5 := by omega
            have h6 := rd_part h2 (i * 5) 5 hle
            have h7 := elRow.rd L i hi
            have h8 : rdCells (elRow.all L) (i * 5) 5 = some (rowC L[i]) := h7
            have h9 : (elRow.all L).length = L.length * 5 := elRow.all_len L
            simp only [rdCells, ble_iff, h9, decide_eq_true (show i * 5 + 5 ≤ L.length * 5 by omega), cond_true, Option.some.injEq] at h8
            rw [h8] at h6
            exact h6
          · simp only [V.blk, Option.some.injEq] at hb'
            subst hb'
            exact ⟨_, hb⟩
        · cases h
  · cases h

/-- A row of its own: nothing, or a block of just these rows. -/
def HE (M : Mem) (s : V) (L : Tr) : Prop := (L = [] ∧ ∃ a cap, s = .slice a 0 cap ∧ (a = none → cap = .exact 0) ∧ ∀ b o, a = some (b, o) → b < M.next) ∨ (L ≠ [] ∧ ∃ b, s = .slice (some (b, 0)) L.length (.upto 5) ∧ M.get b = some (.cells (elRow.all L) false) ∧ b < M.next)
theorem HE.sl {M : Mem} {s : V} {L : Tr} (h : HE M s L) : SlR elRow M s L := by
  rcases h with ⟨rfl, a, cap, rfl, _⟩ | ⟨_, b, rfl, h1, _⟩
  · exact ⟨a, cap, rfl, .inl rfl⟩
  · exact ⟨_, _, rfl, .inr ⟨b, 0, _, false, rfl, h1, fun i hi => by rw [Nat.zero_add]; exact elRow.rd L i hi⟩⟩
theorem rowsOf_is {M : Mem} {rc : Nat} {s : V} {ro : Bool} {L : Tr} (hc : M.get rc = some (.cells [s] ro)) (h : HE M s L) (hl : L.length ≤ 100000) : rowsOf M rc = some L := by
  rcases h with ⟨rfl, a, cap, rfl, _⟩ | ⟨hne, b, rfl, h1, _⟩
  · simp only [rowsOf, hc]
    rfl
  · have hz : Nat.beq L.length 0 = false := by cases L with
      | nil => exact absurd rfl hne
      | cons => rfl
    have hr : rdCells (elRow.all L) 0 (L.length * 5) = some (elRow.all L) := by
      have hlen : (elRow.all L).length = L.length * 5 := elRow.all_len L
      simp only [rdCells, ble_iff, Nat.zero_add, hlen, decide_eq_true (Nat.le_refl (L.length * 5)), cond_true, List.drop_zero]
      rw [← hlen, List.take_length]
    simp only [rowsOf, hc, hz, cond_false, h1, hr, Option.bind_some, elRow.decs_all]
    rw [show Nat.ble L.length 100000 = true from Nat.ble_eq_true_of_le hl]
    rfl

def findL : Tr → St → Nat × Bool
  | [], _ => (0, false)
  | p :: r, n => if 0 ≤ cmpSt p.1 n then (0, decide (p.1 = n)) else ((findL r n).1 + 1, (findL r n).2)
theorem findL_cons (p : St × Spot) (r : Tr) (n : St) : findL (p :: r) n = if 0 ≤ cmpSt p.1 n then (0, decide (p.1 = n)) else ((findL r n).1 + 1, (findL r n).2) := rfl
theorem findL_le (n : St) : ∀ L : Tr, (findL L n).1 ≤ L.length
  | [] => by simp [findL]
  | p :: r => by
    have := findL_le n r
    unfold findL
    split
    · simp
    · simp only [List.length_cons]; omega

theorem rcmp_p {D : Decls} (hp : D.prim F_ref02_Compare = some fun args M => (pRCmp args M).map (·, M)) {M : Mem} (a b : St) : Runs D F_ref02_Compare [.agg (stC a), .agg (stC b)] M fun v M' => v = .int .i64 (cmpSt a b) ∧ M' = M := Runs.part (g := pRCmp) hp rfl
theorem find_loop (rc b3 : Nat) (s : V) (ro : Bool) (L : Tr) (n : St) (M : Mem) (hc : M.get rc = some (.cells [s] ro)) (hs : SlR elRow M s L) (hl : L.length ≤ 100000) (h3 : M.get b3 = some (.cells (stC n) false)) {Q : AExit → Fr → Mem → Prop}
    (hE : ∀ fr, findL L n = (L.length, false) → fr.rd 0 = .ptr (some (rc, 0)) → Q (.exit 0) fr M) (hR : ∀ fr, fr.rd 4 = .int .i64 ((findL L n).1 : Int) → fr.rd 5 = .bool (findL L n).2 → Q .ret fr M) :
    ∀ (f i : Nat) (fr : Fr), i + f = L.length → findL L n = ((findL (L.drop i) n).1 + i, (findL (L.drop i) n).2) → fr.rd 0 = .ptr (some (rc, 0)) → fr.rd 3 = .ptr (some (b3, 0)) → fr.rd 6 = .int .i64 (i : Int) → WC Dr4 43 (.loop A_ref10_Tree_find_6) fr M Q := by
  intro f
  induction f with
  | zero =>
    intro i fr hi hf h0 h3' h6
    refine WC.loop (W_of ?_)
    unfold A_ref10_Tree_find_6
    obtain ⟨a, cap, rfl, _⟩ := hs
    have : ¬ (i : Int) < L.length := by omega
    simp -dsimp only [↓w_seq, ↓w_ops, ↓w_skip, ↓w_ret, ↓w_exit, ↓w_scope, ↓w_block, ↓w_cond, cond_true', cond_false', ↓t_nil, ↓t_plain, ↓t_guard, ↓t_gagain, ↓t_again, t_val, t_call, g_true, g_false, ga_true, ga_false, a_val, a_call, ↓n_normal, ↓n_ret, ↓n_exit, ↓b_normal, ↓b_ret, ↓b_exit, ↓e_normal, ↓e_ret, e_some, go_sem, ↓reduceIte, Nat.reduceEqDiff, Nat.reduceLT, Nat.reduceSub, A_ref10_Tree_find_2, h0, h6, vload, vptr, Mem.read, hc, Nat.add_zero, List.getElem?_cons_zero, this, decide_false]
    refine hE _ ?_ ?_
    · have : i = L.length := by omega
      subst this
      rw [hf, List.drop_length]
      simp [findL]
    · simp only [go_sem, ↓reduceIte, Nat.reduceEqDiff, Nat.reduceLT, Nat.reduceSub, h0]
  | succ f ih =>
    intro i fr hi hf h0 h3' h6
    refine WC.loop (W_of ?_)
    unfold A_ref10_Tree_find_6
    have hil : i < L.length := by omega
    obtain ⟨b, o, cs, rb, cap, rfl, hM, hr5, hr2, _, _⟩ := row_at hs hil
    have e1 : (i : Int) < L.length := by omega
    have e2 : i + 1 ≤ L.length := by omega
    have h5' : (i : Int) + 1 = ((i + 1 : Nat) : Int) := by omega
    have hrd : ∀ x : St, rdCells (stC x) 0 2 = some (stC x) := fun _ => rfl
    have hdr : L.drop i = L[i] :: L.drop (i + 1) := List.drop_eq_getElem_cons hil
    rw [hdr, findL_cons] at hf
    generalize L[i] = p at hr2 hf
    simp -dsimp only [↓w_seq, ↓w_ops, ↓w_skip, ↓w_ret, ↓w_exit, ↓w_scope, ↓w_block, ↓w_cond, cond_true', cond_false', ↓t_nil, ↓t_plain, ↓t_guard, ↓t_gagain, ↓t_again, t_val, t_call, g_true, g_false, ga_true, ga_false, a_val, a_call, ↓n_normal, ↓n_ret, ↓n_exit, ↓b_normal, ↓b_ret, ↓b_exit, ↓e_normal, ↓e_ret, e_some, go_sem, ↓reduceIte, Nat.reduceEqDiff, Nat.reduceLT, Nat.reduceSub, A_ref10_Tree_find_2, A_ref10_Tree_find_3, h0, h3', h6, vload, vptr, Mem.read, hc, hM, h3, hr2, hrd, Nat.add_zero, List.getElem?_cons_zero, e1, e2, decide_true]
    by_cases hcm : 0 ≤ cmpSt p.1 n
    · refine call_eq (rcmp_p rfl p.1 n) ?_
      rw [if_pos hcm] at hf
      simp -dsimp only [↓w_seq, ↓w_ops, ↓w_skip, ↓w_ret, ↓w_exit, ↓w_scope, ↓w_block, ↓w_cond, cond_true', cond_false', ↓t_nil, ↓t_plain, ↓t_guard, ↓t_gagain, ↓t_again, t_val, t_call, g_true, g_false, ga_true, ga_false, a_val, a_call, ↓n_normal, ↓n_ret, ↓n_exit, ↓b_normal, ↓b_ret, ↓b_exit, ↓e_normal, ↓e_ret, e_some, go_sem, ↓reduceIte, Nat.reduceEqDiff, Nat.reduceLT, Nat.reduceSub, A_ref10_Tree_find_4, hcm, h0, h3', h6, vload, vptr, Mem.read, hc, hM, h3, hr2, hrd, Nat.add_zero, List.getElem?_cons_zero, e1, e2, decide_true, st_same]
      refine hR _ ?_ ?_
      · rw [hf]; simp only [go_sem, ↓reduceIte, Nat.reduceEqDiff, Nat.reduceLT, Nat.reduceSub, Nat.zero_add]
      · rw [hf]; simp only [go_sem, ↓reduceIte, Nat.reduceEqDiff, Nat.reduceLT, Nat.reduceSub]
    · refine call_eq (rcmp_p rfl p.1 n) ?_
      rw [if_neg hcm] at hf
      simp -dsimp only [↓w_seq, ↓w_ops, ↓w_skip, ↓w_ret, ↓w_exit, ↓w_scope, ↓w_block, ↓w_cond, cond_true', cond_false', ↓t_nil, ↓t_plain, ↓t_guard, ↓t_gagain, ↓t_again, t_val, t_call, g_true, g_false, ga_true, ga_false, a_val, a_call, ↓n_normal, ↓n_ret, ↓n_exit, ↓b_normal, ↓b_ret, ↓b_exit, ↓e_normal, ↓e_ret, e_some, go_sem, ↓reduceIte, Nat.reduceEqDiff, Nat.reduceLT, Nat.reduceSub, A_ref10_Tree_find_5, hcm, h6, decide_false, h5', IntWalk.i64_in ((i + 1 : Nat) : Int) (by omega)]
      refine ih (i + 1) _ (by omega) ?_ ?_ ?_ ?_
      · rw [hf]
        simp only [Prod.mk.injEq, and_true]
        omega
      all_goals simp only [go_sem, ↓reduceIte, Nat.reduceEqDiff, Nat.reduceLT, Nat.reduceSub, h0, h3']
theorem find_runs (rc : Nat) (s : V) (ro : Bool) (L : Tr) (n : St) (M : Mem) (hc : M.get rc = some (.cells [s] ro)) (hs : SlR elRow M s L) (hl : L.length ≤ 100000) (hlt : ∀ b, s.blk = some b → L ≠ [] → b < M.next) (hrc : rc < M.next) :
    Runs Dr4 F_ref10_Tree_find [.ptr (some (rc, 0)), .agg (stC n)] M fun v M' => v = .tup [.int .i64 ((findL L n).1 : Int), .bool (findL L n).2] ∧ ∀ c, c < M.next → M'.get c = M.get c := by
  refine R_opq fun R hR => ?_
  refine Runs.walk (F := A_ref10_Tree_find) rfl (by rfl) (by rfl) ?_
  unfold A_ref10_Tree_find
  have hcn : V.cells (.agg (stC n)) = stC n := rfl
  have hG := Grew.push M (.cells (stC n) false)
  have g3 : (M.push (.cells (stC n) false)).get M.next = some (.cells (stC n) false) := Mem.get_push_same _ _
  simp -dsimp only [↓w_seq, ↓w_ops, ↓w_skip, ↓w_ret, ↓w_exit, ↓w_scope, ↓w_block, ↓w_cond, cond_true', cond_false', ↓t_nil, ↓t_plain, ↓t_guard, ↓t_gagain, ↓t_again, t_val, t_call, g_true, g_false, ga_true, ga_false, a_val, a_call, ↓n_normal, ↓n_ret, ↓n_exit, ↓b_normal, ↓b_ret, ↓b_exit, ↓e_normal, ↓e_ret, e_some, go_sem, ↓reduceIte, Nat.reduceEqDiff, Nat.reduceLT, Nat.reduceSub, A_ref10_Tree_find_0, A_ref10_Tree_find_1, hcn]
  generalize M.push (.cells (stC n) false) = M1 at *
  have k1 := (hG.old _ hrc).trans hc
  have k2 : SlR elRow M1 s L := by
    by_cases hne : L = []
    · subst hne
      obtain ⟨x, cap, e, _⟩ := hs
      exact ⟨x, cap, e, .inl rfl⟩
    · exact hs.keep fun b hb => hG.old b (hlt b hb hne)
  refine find_loop rc M.next s ro L n M1 k1 k2 hl g3 ?_ ?_ L.length 0 _ (by omega) (by simp) ?_ ?_ ?_
  · intro fr hf h0
    obtain ⟨a, cap, rfl, _⟩ := k2
    simp -dsimp only [↓w_seq, ↓w_ops, ↓w_skip, ↓w_ret, ↓w_exit, ↓w_scope, ↓w_block, ↓w_cond, cond_true', cond_false', ↓t_nil, ↓t_plain, ↓t_guard, ↓t_gagain, ↓t_again, t_val, t_call, g_true, g_false, ga_true, ga_false, a_val, a_call, ↓n_normal, ↓n_ret, ↓n_exit, ↓b_normal, ↓b_ret, ↓b_exit, ↓e_normal, ↓e_ret, e_some, go_sem, ↓reduceIte, Nat.reduceEqDiff, Nat.reduceLT, Nat.reduceSub, A_ref10_Tree_find_7, h0, vload, vptr, Mem.read, k1, Nat.add_zero, List.getElem?_cons_zero]
    exact hR _ _ ⟨by rw [hf], hG.old⟩
  · intro fr h4 h5
    simp -dsimp only [↓w_seq, ↓w_ops, ↓w_skip, ↓w_ret, ↓w_exit, ↓w_scope, ↓w_block, ↓w_cond, cond_true', cond_false', ↓t_nil, ↓t_plain, ↓t_guard, ↓t_gagain, ↓t_again, t_val, t_call, g_true, g_false, ga_true, ga_false, a_val, a_call, ↓n_normal, ↓n_ret, ↓n_exit, ↓b_normal, ↓b_ret, ↓b_exit, ↓e_normal, ↓e_ret, e_some, go_sem, ↓reduceIte, Nat.reduceEqDiff, Nat.reduceLT, Nat.reduceSub, h4, h5]
    exact hR _ _ ⟨rfl, hG.old⟩
  all_goals simp only [go_sem, ↓reduceIte, Nat.reduceEqDiff, Nat.reduceLT, Nat.reduceSub]
  rfl
def pFind (args : List V) (M : Mem) : Option V :=
  match args with
  | [.ptr (some (rc, 0)), .agg [.int .i64 a, .int .i64 b]] => (rowsOf M rc).map fun L => .tup [.int .i64 ((findL L (a, b)).1 : Int), .bool (findL L (a, b)).2]
  | _ => none
theorem pFind_ok : CallOK Tryz.prog gl0 fun f' args M => if f' = F_ref10_Tree_find then (pFind args M).map (·, M) else none := by
  refine prim_keep ⟨_, Tryz.func49, (by kernel_rfl), (by kernel_rfl)⟩ ?_
  intro args M v h hwf
  unfold pFind at h
  split at h
  · rename_i rc a b
    simp only [Option.map_eq_some_iff] at h
    obtain ⟨L, h1, rfl⟩ := h
    obtain ⟨s, ro, h2, h3, h4, h5⟩ := rowsOf_some h1
    exact ⟨rfl, XRuns.of_runs dokr4 (find_runs rc s ro L (a, b) M h2 h3 h4 (fun b hb hne => by obtain ⟨o, ho⟩ := h5 b hb hne; exact lt_of_get hwf ho) (lt_of_get hwf h2))⟩
  · cases h
def Dr5 : Decls := Dr4.addP F_ref10_Tree_find pFind
theorem dokr5 : DOK Tryz.prog gl0 Dr5 := dokr4.addM pFind_ok
theorem find_p {D : Decls} (hp : D.prim F_ref10_Tree_find = some fun args M => (pFind args M).map (·, M)) {M : Mem} {rc : Nat} {L : Tr} (h : rowsOf M rc = some L) (n : St) : Runs D F_ref10_Tree_find [.ptr (some (rc, 0)), .agg (stC n)] M fun v M' => v = .tup [.int .i64 ((findL L n).1 : Int), .bool (findL L n).2] ∧ M' = M :=
  Runs.part (g := pFind) hp (by show (rowsOf M rc).map _ = _; rw [h]; rfl)
theorem rroot_p {D : Decls} (hp : D.prim F_ref07_Root = some fun args M => (pRRoot args M).map (·, M)) {M : Mem} : Runs D F_ref07_Root [] M fun v M' => v = .agg (stC (0, 0)) ∧ M' = M := Runs.part (g := pRRoot) hp rfl
theorem rtrash_p {D : Decls} (hp : D.prim F_ref07_Trash = some fun args M => (pRTrash args M).map (·, M)) {M : Mem} : Runs D F_ref07_Trash [] M fun v M' => v = .agg (stC (0, 1)) ∧ M' = M := Runs.part (g := pRTrash) hp rfl

theorem rows_keep {M M' : Mem} {rc : Nat} {L : Tr} (h : rowsOf M rc = some L) (hk : ∀ c o, M.get c = some o → M'.get c = some o) : rowsOf M' rc = some L := by
  unfold rowsOf at h ⊢
  split at h
  · rename_i a n cap ro hrc
    rw [hk _ _ hrc]
    simp only at h ⊢
    obtain ⟨h1, h⟩ := cond_some h
    rw [h1, cond_true]
    cases hz : Nat.beq n 0 with
    | true => rw [hz] at h; exact h
    | false =>
      rw [hz] at h
      simp only [cond_false] at h ⊢
      cases a with
      | none => cases h
      | some bo =>
        obtain ⟨b, o⟩ := bo
        simp only at h ⊢
        split at h
        · rename_i cs ro' hb
          rw [hk _ _ hb]
          exact h
        · cases h
  · cases h
theorem keep_of {M M' : Mem} (hwf : ∀ b, M.next ≤ b → M.get b = none) (hG : Grew M M') : ∀ c o, M.get c = some o → M'.get c = some o := fun c o h => (hG.old c (lt_of_get hwf h)).trans h
def hasRB (L : Tr) (p : St) : Bool := (findL L p).2 || (decide (p = (0, 0)) || decide (p = (0, 1)))
theorem rhas_runs (rc : Nat) (L : Tr) (p : St) (M : Mem) (hwf : ∀ b, M.next ≤ b → M.get b = none) (h : rowsOf M rc = some L) :
    Runs Dr5 F_ref10_Tree_Has [.ptr (some (rc, 0)), .agg (stC p)] M fun v M' => v = .bool (hasRB L p) ∧ ∀ c, c < M.next → M'.get c = M.get c := by
  refine R_opq fun R hR => ?_
  refine Runs.walk (F := A_ref10_Tree_Has) rfl (by rfl) (by rfl) ?_
  unfold A_ref10_Tree_Has
  have hcn : V.cells (.agg (stC p)) = stC p := rfl
  have hrd : rdCells (stC p) 0 2 = some (stC p) := rfl
  have hG := Grew.push M (.cells (stC p) false)
  have g3 : (M.push (.cells (stC p) false)).get M.next = some (.cells (stC p) false) := Mem.get_push_same _ _
  simp -dsimp only [↓w_seq, ↓w_ops, ↓w_skip, ↓w_ret, ↓w_exit, ↓w_scope, ↓w_block, ↓w_cond, cond_true', cond_false', ↓t_nil, ↓t_plain, ↓t_guard, ↓t_gagain, ↓t_again, t_val, t_call, g_true, g_false, ga_true, ga_false, a_val, a_call, ↓n_normal, ↓n_ret, ↓n_exit, ↓b_normal, ↓b_ret, ↓b_exit, ↓e_normal, ↓e_ret, e_some, go_sem, ↓reduceIte, Nat.reduceEqDiff, Nat.reduceLT, Nat.reduceSub, A_ref10_Tree_Has_0, A_ref10_Tree_Has_1, hcn]
  have k := rows_keep h (keep_of hwf hG)
  generalize M.push (.cells (stC p) false) = M1 at *
  have fin : ∀ b, b = hasRB L p → R (.bool b) M1 := fun b hb => hR _ _ ⟨by rw [hb], hG.old⟩
  simp -dsimp only [↓w_seq, ↓w_ops, ↓w_skip, ↓w_ret, ↓w_exit, ↓w_scope, ↓w_block, ↓w_cond, cond_true', cond_false', ↓t_nil, ↓t_plain, ↓t_guard, ↓t_gagain, ↓t_again, t_val, t_call, g_true, g_false, ga_true, ga_false, a_val, a_call, ↓n_normal, ↓n_ret, ↓n_exit, ↓b_normal, ↓b_ret, ↓b_exit, ↓e_normal, ↓e_ret, e_some, go_sem, ↓reduceIte, Nat.reduceEqDiff, Nat.reduceLT, Nat.reduceSub, vload, vptr, Mem.read, g3, hrd]
  refine call_eq (find_p rfl k p) ?_
  cases hf : (findL L p).2 with
  | true =>
    simp -dsimp only [↓w_seq, ↓w_ops, ↓w_skip, ↓w_ret, ↓w_exit, ↓w_scope, ↓w_block, ↓w_cond, cond_true', cond_false', ↓t_nil, ↓t_plain, ↓t_guard, ↓t_gagain, ↓t_again, t_val, t_call, g_true, g_false, ga_true, ga_false, a_val, a_call, ↓n_normal, ↓n_ret, ↓n_exit, ↓b_normal, ↓b_ret, ↓b_exit, ↓e_normal, ↓e_ret, e_some, go_sem, ↓reduceIte, Nat.reduceEqDiff, Nat.reduceLT, Nat.reduceSub, A_ref10_Tree_Has_2, List.getElem?_cons_zero, List.getElem?_cons_succ]
    exact fin _ (by rw [hasRB, hf]; rfl)
  | false =>
    simp -dsimp only [↓w_seq, ↓w_ops, ↓w_skip, ↓w_ret, ↓w_exit, ↓w_scope, ↓w_block, ↓w_cond, cond_true', cond_false', ↓t_nil, ↓t_plain, ↓t_guard, ↓t_gagain, ↓t_again, t_val, t_call, g_true, g_false, ga_true, ga_false, a_val, a_call, ↓n_normal, ↓n_ret, ↓n_exit, ↓b_normal, ↓b_ret, ↓b_exit, ↓e_normal, ↓e_ret, e_some, go_sem, ↓reduceIte, Nat.reduceEqDiff, Nat.reduceLT, Nat.reduceSub, A_ref10_Tree_Has_2, List.getElem?_cons_zero, List.getElem?_cons_succ, vload, vptr, Mem.read, g3, hrd]
    refine callA_by (k := ⟨⟩) (l' := ⟨⟩) (g' := ⟨⟩) (rroot_p rfl) ?_
    intro v M2 hv
    rw [hv.1, hv.2]
    clear hv
    refine ⟨?_, ?_⟩
    · simp only [List.all_cons, List.all_nil, Bool.and_true, againOk, wantedA, cond_true, go_sem, ↓reduceIte, Nat.reduceEqDiff, Nat.reduceLT, Nat.reduceSub, vload, vptr, Mem.read, g3, hrd, Nat.zero_add, V.beq, V.beq_self, V.beqs_self, Bool.and_self, Nat.reduceAdd, Nat.reduceLeDiff, decide_true, cond_true, Bool.not_false]
    by_cases h2 : p = (0, 0)
    · simp -dsimp only [↓w_seq, ↓w_ops, ↓w_skip, ↓w_ret, ↓w_exit, ↓w_scope, ↓w_block, ↓w_cond, cond_true', cond_false', ↓t_nil, ↓t_plain, ↓t_guard, ↓t_gagain, ↓t_again, t_val, t_call, g_true, g_false, ga_true, ga_false, a_val, a_call, ↓n_normal, ↓n_ret, ↓n_exit, ↓b_normal, ↓b_ret, ↓b_exit, ↓e_normal, ↓e_ret, e_some, go_sem, ↓reduceIte, Nat.reduceEqDiff, Nat.reduceLT, Nat.reduceSub, st_same, h2, decide_true]
      exact fin _ (by rw [hasRB, hf]; simp [h2])
    · simp -dsimp only [↓w_seq, ↓w_ops, ↓w_skip, ↓w_ret, ↓w_exit, ↓w_scope, ↓w_block, ↓w_cond, cond_true', cond_false', ↓t_nil, ↓t_plain, ↓t_guard, ↓t_gagain, ↓t_again, t_val, t_call, g_true, g_false, ga_true, ga_false, a_val, a_call, ↓n_normal, ↓n_ret, ↓n_exit, ↓b_normal, ↓b_ret, ↓b_exit, ↓e_normal, ↓e_ret, e_some, go_sem, ↓reduceIte, Nat.reduceEqDiff, Nat.reduceLT, Nat.reduceSub, st_same, h2, decide_false, vload, vptr, Mem.read, g3, hrd]
      refine callA_by (k := ⟨⟩) (l' := ⟨⟩) (g' := ⟨⟩) (rtrash_p rfl) ?_
      intro v M2 hv
      rw [hv.1, hv.2]
      clear hv
      refine ⟨?_, ?_⟩
      · simp only [List.all_cons, List.all_nil, Bool.and_true, againOk, wantedA, cond_true, go_sem, ↓reduceIte, Nat.reduceEqDiff, Nat.reduceLT, Nat.reduceSub, vload, vptr, Mem.read, g3, hrd, Nat.zero_add, V.beq, V.beq_self, V.beqs_self, Bool.and_self, Nat.reduceAdd, Nat.reduceLeDiff, decide_true, cond_true, Bool.not_false]
      simp -dsimp only [↓w_seq, ↓w_ops, ↓w_skip, ↓w_ret, ↓w_exit, ↓w_scope, ↓w_block, ↓w_cond, cond_true', cond_false', ↓t_nil, ↓t_plain, ↓t_guard, ↓t_gagain, ↓t_again, t_val, t_call, g_true, g_false, ga_true, ga_false, a_val, a_call, ↓n_normal, ↓n_ret, ↓n_exit, ↓b_normal, ↓b_ret, ↓b_exit, ↓e_normal, ↓e_ret, e_some, go_sem, ↓reduceIte, Nat.reduceEqDiff, Nat.reduceLT, Nat.reduceSub, st_same]
      exact fin _ (by rw [hasRB, hf]; simp [h2])
def pRHas (args : List V) (M : Mem) : Option V :=
  match args with
  | [.ptr (some (rc, 0)), .agg [.int .i64 a, .int .i64 b]] => (rowsOf M rc).map fun L => .bool (hasRB L (a, b))
  | _ => none
theorem pRHas_ok : CallOK Tryz.prog gl0 fun f' args M => if f' = F_ref10_Tree_Has then (pRHas args M).map (·, M) else none := by
  refine prim_keep ⟨_, Tryz.func52, (by kernel_rfl), (by kernel_rfl)⟩ ?_
  intro args M v h hwf
  unfold pRHas at h
  split at h
  · rename_i rc a b
    simp only [Option.map_eq_some_iff] at h
    obtain ⟨L, h1, rfl⟩ := h
    exact ⟨rfl, XRuns.of_runs dokr5 (rhas_runs rc L (a, b) M hwf h1)⟩
  · cases h

def rowL (L : Tr) (i : Nat) : Spot := (L.getD i ((0, 0), sp0)).2
theorem findL_lt {n : St} : ∀ {L : Tr}, (findL L n).2 = true → (findL L n).1 < L.length
  | [], h => by simp [findL] at h
  | p :: r, h => by
    unfold findL at h ⊢
    split
    · simp
    · rename_i hc
      rw [if_neg hc] at h
      have := findL_lt (L := r) h
      simp only [List.length_cons]; omega
theorem rspot_runs (rc : Nat) (L : Tr) (p : St) (M : Mem) (hwf : ∀ b, M.next ≤ b → M.get b = none) (h : rowsOf M rc = some L) :
    Runs Dr5 F_ref10_Tree_Spot [.ptr (some (rc, 0)), .agg (stC p)] M fun v M' => v = .tup [.agg (spC (if (findL L p).2 = true then rowL L (findL L p).1 else sp0)), .bool (findL L p).2] ∧ ∀ c, c < M.next → M'.get c = M.get c := by
  refine R_opq fun R hR => ?_
  refine Runs.walk (F := A_ref10_Tree_Spot) rfl (by rfl) (by rfl) ?_
  unfold A_ref10_Tree_Spot
  have hcn : V.cells (.agg (stC p)) = stC p := rfl
  have hcs : ∀ s, V.cells (.agg (spC s)) = spC s := fun _ => rfl
  have hrd : rdCells (stC p) 0 2 = some (stC p) := rfl
  have hrs : ∀ s, rdCells (spC s) 0 3 = some (spC s) := fun _ => rfl
  have hG := (Grew.push M (.cells (stC p) false)).trans (Grew.push _ (.cells [.int .i64 0, .int .i64 0, .str []] false))
  have g3 : ((M.push (.cells (stC p) false)).push (.cells [.int .i64 0, .int .i64 0, .str []] false)).get M.next = some (.cells (stC p) false) := by rw [Mem.get_push_ne _ _ (by simp), Mem.get_push_same]
  have g4 : ((M.push (.cells (stC p) false)).push (.cells [.int .i64 0, .int .i64 0, .str []] false)).get (M.next + 1) = some (.cells (spC sp0) false) := Mem.get_push_same (M.push _) _
  simp -dsimp only [↓w_seq, ↓w_ops, ↓w_skip, ↓w_ret, ↓w_exit, ↓w_scope, ↓w_block, ↓w_cond, cond_true', cond_false', ↓t_nil, ↓t_plain, ↓t_guard, ↓t_gagain, ↓t_again, t_val, t_call, g_true, g_false, ga_true, ga_false, a_val, a_call, ↓n_normal, ↓n_ret, ↓n_exit, ↓b_normal, ↓b_ret, ↓b_exit, ↓e_normal, ↓e_ret, e_some, go_sem, ↓reduceIte, Nat.reduceEqDiff, Nat.reduceLT, Nat.reduceSub, A_ref10_Tree_Spot_0, A_ref10_Tree_Spot_1, hcn, Mem.next_push]
  have k := rows_keep h (keep_of hwf hG)
  generalize (M.push (.cells (stC p) false)).push (.cells [.int .i64 0, .int .i64 0, .str []] false) = M1 at *
  simp -dsimp only [↓w_seq, ↓w_ops, ↓w_skip, ↓w_ret, ↓w_exit, ↓w_scope, ↓w_block, ↓w_cond, cond_true', cond_false', ↓t_nil, ↓t_plain, ↓t_guard, ↓t_gagain, ↓t_again, t_val, t_call, g_true, g_false, ga_true, ga_false, a_val, a_call, ↓n_normal, ↓n_ret, ↓n_exit, ↓b_normal, ↓b_ret, ↓b_exit, ↓e_normal, ↓e_ret, e_some, go_sem, ↓reduceIte, Nat.reduceEqDiff, Nat.reduceLT, Nat.reduceSub, vload, vptr, Mem.read, g3, hrd]
  refine call_eq (find_p rfl k p) ?_
  cases hf : (findL L p).2 with
  | false =>
    have hw := write_full (vs := spC sp0) g4 rfl rfl
    have hs := Mem.get_set_same M1 (M.next + 1) (.cells (spC sp0) false)
    have hG2 := hG.upd (b := M.next + 1) (by omega) (Upd.set M1 (M.next + 1) (.cells (spC sp0) false))
    have hb : fillCells [.int .i64 0, .int .i64 0, .str []] [] = some (spC sp0) := rfl
    simp -dsimp only [↓w_seq, ↓w_ops, ↓w_skip, ↓w_ret, ↓w_exit, ↓w_scope, ↓w_block, ↓w_cond, cond_true', cond_false', ↓t_nil, ↓t_plain, ↓t_guard, ↓t_gagain, ↓t_again, t_val, t_call, g_true, g_false, ga_true, ga_false, a_val, a_call, ↓n_normal, ↓n_ret, ↓n_exit, ↓b_normal, ↓b_ret, ↓b_exit, ↓e_normal, ↓e_ret, e_some, go_sem, ↓reduceIte, Nat.reduceEqDiff, Nat.reduceLT, Nat.reduceSub, A_ref10_Tree_Spot_2, A_ref10_Tree_Spot_3, List.getElem?_cons_zero, List.getElem?_cons_succ, Bool.not_false, hb, vof, Option.map_some, vstore, hcs, spC_len, hw, Nat.reduceEqDiff]
    generalize M1.set (M.next + 1) (.cells (spC sp0) false) = M2 at *
    simp -dsimp only [↓w_seq, ↓w_ops, ↓w_skip, ↓w_ret, ↓w_exit, ↓w_scope, ↓w_block, ↓w_cond, cond_true', cond_false', ↓t_nil, ↓t_plain, ↓t_guard, ↓t_gagain, ↓t_again, t_val, t_call, g_true, g_false, ga_true, ga_false, a_val, a_call, ↓n_normal, ↓n_ret, ↓n_exit, ↓b_normal, ↓b_ret, ↓b_exit, ↓e_normal, ↓e_ret, e_some, go_sem, ↓reduceIte, Nat.reduceEqDiff, Nat.reduceLT, Nat.reduceSub, vload, vptr, Mem.read, hs, hrs, Nat.add_zero, Option.bind_some, oneOf]
    exact hR _ _ ⟨by rw [hf]; rfl, hG2.old⟩
  | true =>
    have hlt := findL_lt hf
    obtain ⟨s, ro, k1, k2, k3, _⟩ := rowsOf_some k
    obtain ⟨b, o, cs, rb, cap, rfl, hM, hr5, hr2, hr3, _⟩ := row_at k2 hlt
    have hrl : L[(findL L p).1] = (L[(findL L p).1].1, rowL L (findL L p).1) := by simp [rowL, List.getD_eq_getElem?_getD, List.getElem?_eq_getElem hlt]
    rw [hrl] at hr3
    have e2 : (findL L p).1 + 1 ≤ L.length := hlt
    have hw := write_full (vs := spC (rowL L (findL L p).1)) g4 rfl rfl
    have hs := Mem.get_set_same M1 (M.next + 1) (.cells (spC (rowL L (findL L p).1)) false)
    have hG2 := hG.upd (b := M.next + 1) (by omega) (Upd.set M1 (M.next + 1) (.cells (spC (rowL L (findL L p).1)) false))
    simp -dsimp only [↓w_seq, ↓w_ops, ↓w_skip, ↓w_ret, ↓w_exit, ↓w_scope, ↓w_block, ↓w_cond, cond_true', cond_false', ↓t_nil, ↓t_plain, ↓t_guard, ↓t_gagain, ↓t_again, t_val, t_call, g_true, g_false, ga_true, ga_false, a_val, a_call, ↓n_normal, ↓n_ret, ↓n_exit, ↓b_normal, ↓b_ret, ↓b_exit, ↓e_normal, ↓e_ret, e_some, go_sem, ↓reduceIte, Nat.reduceEqDiff, Nat.reduceLT, Nat.reduceSub, A_ref10_Tree_Spot_2, A_ref10_Tree_Spot_4, List.getElem?_cons_zero, List.getElem?_cons_succ, Bool.not_true, vload, vptr, Mem.read, k1, hM, hr3, e2, decide_true, Nat.add_zero, vstore, hcs, spC_len, hw, Nat.reduceEqDiff]
    generalize M1.set (M.next + 1) (.cells (spC (rowL L (findL L p).1)) false) = M2 at *
    simp -dsimp only [↓w_seq, ↓w_ops, ↓w_skip, ↓w_ret, ↓w_exit, ↓w_scope, ↓w_block, ↓w_cond, cond_true', cond_false', ↓t_nil, ↓t_plain, ↓t_guard, ↓t_gagain, ↓t_again, t_val, t_call, g_true, g_false, ga_true, ga_false, a_val, a_call, ↓n_normal, ↓n_ret, ↓n_exit, ↓b_normal, ↓b_ret, ↓b_exit, ↓e_normal, ↓e_ret, e_some, go_sem, ↓reduceIte, Nat.reduceEqDiff, Nat.reduceLT, Nat.reduceSub, vload, vptr, Mem.read, hs, hrs, Nat.add_zero, Option.bind_some, oneOf]
    exact hR _ _ ⟨by rw [hf]; rfl, hG2.old⟩
def spotR (L : Tr) (p : St) : Spot := if (findL L p).2 = true then rowL L (findL L p).1 else sp0
def pRSpot (args : List V) (M : Mem) : Option V :=
  match args with
  | [.ptr (some (rc, 0)), .agg [.int .i64 a, .int .i64 b]] => (rowsOf M rc).map fun L => .tup [.agg (spC (spotR L (a, b))), .bool (findL L (a, b)).2]
  | _ => none
theorem pRSpot_ok : CallOK Tryz.prog gl0 fun f' args M => if f' = F_ref10_Tree_Spot then (pRSpot args M).map (·, M) else none := by
  refine prim_keep ⟨_, Tryz.func77, (by kernel_rfl), (by kernel_rfl)⟩ ?_
  intro args M v h hwf
  unfold pRSpot at h
  split at h
  · rename_i rc a b
    simp only [Option.map_eq_some_iff] at h
    obtain ⟨L, h1, rfl⟩ := h
    exact ⟨rfl, XRuns.of_runs dokr5 (rspot_runs rc L (a, b) M hwf h1)⟩
  · cases h
def Dr6 : Decls := (Dr5.addP F_ref10_Tree_Has pRHas).addP F_ref10_Tree_Spot pRSpot
theorem dokr6 : DOK Tryz.prog gl0 Dr6 := (dokr5.addM pRHas_ok).addM pRSpot_ok
theorem rhas_p {D : Decls} (hp : D.prim F_ref10_Tree_Has = some fun args M => (pRHas args M).map (·, M)) {M : Mem} {rc : Nat} {L : Tr} (h : rowsOf M rc = some L) (n : St) : Runs D F_ref10_Tree_Has [.ptr (some (rc, 0)), .agg (stC n)] M fun v M' => v = .bool (hasRB L n) ∧ M' = M :=
  Runs.part (g := pRHas) hp (by show (rowsOf M rc).map _ = _; rw [h]; rfl)
end Go.Am.Tryz


/- New, Own, Nodes, Below. -/
namespace Go.Am.Tryz
open Go Go.Am Go.Proofs Go.Sort Go.Shelf
set_option maxRecDepth 100000
set_option linter.unusedSimpArgs false
set_option linter.unusedVariables false

/-- A tree in memory. -/
structure TreeIn (M : Mem) (tc bm : Nat) (l : Tr) : Prop where
  c : M.get tc = some (.cells [.map (some bm)] false)
  m : M.get bm = some (.map (encM l))
  tl : tc < M.next
  bl : bm < M.next
theorem TreeIn.keep {M M' : Mem} {tc bm : Nat} {l : Tr} (h : TreeIn M tc bm l) (hk : ∀ c, c < M.next → M'.get c = M.get c) (hn : M.next ≤ M'.next) : TreeIn M' tc bm l :=
  ⟨(hk _ h.tl).trans h.c, (hk _ h.bl).trans h.m, Nat.lt_of_lt_of_le h.tl hn, Nat.lt_of_lt_of_le h.bl hn⟩
theorem TreeIn.grew {M M' : Mem} {tc bm : Nat} {l : Tr} (h : TreeIn M tc bm l) (hG : Grew M M') : TreeIn M' tc bm l := h.keep hG.old hG.next
theorem TreeIn.of {M : Mem} {tc bm : Nat} {l : Tr} (h : TreeIn M tc bm l) : treeOf M tc = some (some l) := treeOf_is h.c h.m
theorem TreeIn.at_ {M : Mem} {tc bm : Nat} {l : Tr} (h : TreeIn M tc bm l) : mapAt M bm = some (encM l) := by unfold mapAt; rw [h.m]
theorem isG_keep {M M' : Mem} (h : isG M = true) (hn : 2 ≤ M.next) (hk : ∀ c, c < M.next → M'.get c = M.get c) : isG M' = true :=
  isG_mk ((hk 0 (by omega)).trans (isG_is h).1) ((hk 1 (by omega)).trans (isG_is h).2)

theorem New_runs (D : Decls) (hp : D.prim F_tree_New = none) (hc : D.code.get F_tree_New = some A_tree_New) (M : Mem) : Runs D F_tree_New [] M fun v M' => v = .ptr (some (M.next + 1, 0)) ∧ Grew M M' ∧ TreeIn M' (M.next + 1) M.next [] := by
  refine R_opq fun R hR => ?_
  refine Runs.walk (F := A_tree_New) hp hc (by rfl) ?_
  unfold A_tree_New
  have hf : fillCells [.map none] [(0, 1, .map (some M.next))] = some [.map (some M.next)] := rfl
  simp -dsimp only [↓w_seq, ↓w_ops, ↓w_skip, ↓w_ret, ↓w_exit, ↓w_scope, ↓w_block, ↓w_cond, cond_true', cond_false', ↓t_nil, ↓t_plain, ↓t_guard, ↓t_gagain, ↓t_again, t_val, t_call, g_true, g_false, ga_true, ga_false, a_val, a_call, ↓n_normal, ↓n_ret, ↓n_exit, ↓b_normal, ↓b_ret, ↓b_exit, ↓e_normal, ↓e_ret, e_some, go_sem, ↓reduceIte, Nat.reduceEqDiff, Nat.reduceLT, Nat.reduceSub, A_tree_New_0, A_tree_New_1, hf, vof, Option.map_some, V.cells, Mem.next_push]
  have hG := (Grew.push M (.map [])).trans (Grew.push _ (.cells [.map (some M.next)] false))
  exact hR _ _ ⟨rfl, hG, Mem.get_push_same (M.push _) _, by rw [Mem.get_push_ne _ _ (by simp), Mem.get_push_same]; rfl, by simp only [Mem.next_push]; omega, by simp only [Mem.next_push]; omega⟩

theorem Own_runs (M : Mem) (s : Spot) : Runs D1w F_law10_Own [.agg (spC s)] M fun v M' => v = .agg (spC s) ∧ ∀ c, c < M.next → M'.get c = M.get c := by
  refine R_opq fun R hR => ?_
  refine Runs.walk (F := A_law10_Own) rfl (by rfl) (by rfl) ?_
  unfold A_law10_Own
  have hcn : V.cells (.agg (spC s)) = spC s := rfl
  have hrd : rdCells (spC s) 0 2 = some (stC s.1) := rfl
  have hrd3 : rdCells (spC s) 0 3 = some (spC s) := rfl
  have e2 : (spC s)[2]? = some (.str s.2) := rfl
  have hf : fillCells [.int .i64 0, .int .i64 0, .str []] [(0, 2, .agg (stC s.1)), (2, 1, .str s.2)] = some (spC s) := rfl
  have hG := (Grew.push M (.cells (spC s) false)).trans (Grew.push _ (.cells [.int .i64 0, .int .i64 0, .str []] false))
  have g0 : ((M.push (.cells (spC s) false)).push (.cells [.int .i64 0, .int .i64 0, .str []] false)).get M.next = some (.cells (spC s) false) := by rw [Mem.get_push_ne _ _ (by simp), Mem.get_push_same]
  have g1 : ((M.push (.cells (spC s) false)).push (.cells [.int .i64 0, .int .i64 0, .str []] false)).get (M.next + 1) = some (.cells (spC sp0) false) := Mem.get_push_same (M.push _) _
  simp -dsimp only [↓w_seq, ↓w_ops, ↓w_skip, ↓w_ret, ↓w_exit, ↓w_scope, ↓w_block, ↓w_cond, cond_true', cond_false', ↓t_nil, ↓t_plain, ↓t_guard, ↓t_gagain, ↓t_again, t_val, t_call, g_true, g_false, ga_true, ga_false, a_val, a_call, ↓n_normal, ↓n_ret, ↓n_exit, ↓b_normal, ↓b_ret, ↓b_exit, ↓e_normal, ↓e_ret, e_some, go_sem, ↓reduceIte, Nat.reduceEqDiff, Nat.reduceLT, Nat.reduceSub, A_law10_Own_0, hcn, Mem.next_push]
  generalize (M.push (.cells (spC s) false)).push (.cells [.int .i64 0, .int .i64 0, .str []] false) = M1 at *
  have hw := write_full (vs := spC s) g1 rfl rfl
  have hs := Mem.get_set_same M1 (M.next + 1) (.cells (spC s) false)
  have hG2 := hG.upd (b := M.next + 1) (by omega) (Upd.set M1 (M.next + 1) (.cells (spC s) false))
  simp -dsimp only [↓w_seq, ↓w_ops, ↓w_skip, ↓w_ret, ↓w_exit, ↓w_scope, ↓w_block, ↓w_cond, cond_true', cond_false', ↓t_nil, ↓t_plain, ↓t_guard, ↓t_gagain, ↓t_again, t_val, t_call, g_true, g_false, ga_true, ga_false, a_val, a_call, ↓n_normal, ↓n_ret, ↓n_exit, ↓b_normal, ↓b_ret, ↓b_exit, ↓e_normal, ↓e_ret, e_some, go_sem, ↓reduceIte, Nat.reduceEqDiff, Nat.reduceLT, Nat.reduceSub, A_law10_Own_1, vload, vptr, Mem.read, g0, hrd, e2, Nat.add_zero, Nat.zero_add, hf, vof, Option.map_some, vstore, hcn, spC_len, hw, Nat.reduceEqDiff]
  generalize M1.set (M.next + 1) (.cells (spC s) false) = M2 at *
  simp -dsimp only [↓w_seq, ↓w_ops, ↓w_skip, ↓w_ret, ↓w_exit, ↓w_scope, ↓w_block, ↓w_cond, cond_true', cond_false', ↓t_nil, ↓t_plain, ↓t_guard, ↓t_gagain, ↓t_again, t_val, t_call, g_true, g_false, ga_true, ga_false, a_val, a_call, ↓n_normal, ↓n_ret, ↓n_exit, ↓b_normal, ↓b_ret, ↓b_exit, ↓e_normal, ↓e_ret, e_some, go_sem, ↓reduceIte, Nat.reduceEqDiff, Nat.reduceLT, Nat.reduceSub, vload, vptr, Mem.read, hs, hrd3, Nat.add_zero, Option.bind_some, oneOf]
  exact hR _ _ ⟨rfl, hG2.old⟩
def pOwn (args : List V) (_ : Mem) : Option V :=
  match args with
  | [.agg [.int .i64 a, .int .i64 b, .str k]] => some (.agg (spC ((a, b), k)))
  | _ => none
theorem pOwn_ok : CallOK Tryz.prog gl0 fun f' args M => if f' = F_law10_Own then (pOwn args M).map (·, M) else none := by
  refine prim_keep ⟨_, Tryz.func11, (by kernel_rfl), (by kernel_rfl)⟩ ?_
  intro args M v h hwf
  unfold pOwn at h
  split at h
  · rename_i a b k
    cases h
    exact ⟨rfl, XRuns.of_runs dok1w (Own_runs M ((a, b), k))⟩
  · cases h
theorem own_p {D : Decls} (hp : D.prim F_law10_Own = some fun args M => (pOwn args M).map (·, M)) {M : Mem} (s : Spot) : Runs D F_law10_Own [.agg (spC s)] M fun v M' => v = .agg (spC s) ∧ M' = M :=
  Runs.part (g := pOwn) hp rfl

def D1x : Decls := Dr6.addP F_law10_Own pOwn
theorem dok1x : DOK Tryz.prog gl0 D1x := dokr6.addM pOwn_ok

theorem gl_two {x : Nat} (h : gl0 x = true) : x = 0 ∨ x = 1 := by
  have := Nat.le_of_ble_eq_true h
  omega
def D2 : Decls := D1x
theorem dok2 : DOK Tryz.prog gl0 D2 := dok1x

/-- Nodes by rising stamps; those below a place. -/
def nodesL (l : Tr) : List St := isort ltSt (keysS l)
def belF (l : Tr) (p : St) (n : St) : Bool := decide (((getS l n).getD sp0).1 = p)
def belowL (l : Tr) (p : St) : List St := (nodesL l).filter (belF l p)
theorem nodes_len (l : Tr) : (nodesL l).length = l.length := by simp [nodesL, isort_len, keysS]

theorem Keys_runs (D : Decls) (hp : D.prim F_maps_Keys_Stamp_Spot = none) (hc : D.code.get F_maps_Keys_Stamp_Spot = some A_maps_Keys_Stamp_Spot) (M : Mem) (bm : Nat) : Runs D F_maps_Keys_Stamp_Spot [.map (some bm)] M fun v M' => v = .fn F_maps_Keys_Stamp_Spot_c1 [] [.ptr (some (M.next, 0))] ∧ M' = M.push (.cells [.map (some bm)] false) := by
  refine R_opq fun R hR => ?_
  refine Runs.walk (F := A_maps_Keys_Stamp_Spot) hp hc (by rfl) ?_
  unfold A_maps_Keys_Stamp_Spot
  simp -dsimp only [↓w_seq, ↓w_ops, ↓w_skip, ↓w_ret, ↓w_exit, ↓w_scope, ↓w_block, ↓w_cond, cond_true', cond_false', ↓t_nil, ↓t_plain, ↓t_guard, ↓t_gagain, ↓t_again, t_val, t_call, g_true, g_false, ga_true, ga_false, a_val, a_call, ↓n_normal, ↓n_ret, ↓n_exit, ↓b_normal, ↓b_ret, ↓b_exit, ↓e_normal, ↓e_ret, e_some, go_sem, ↓reduceIte, Nat.reduceEqDiff, Nat.reduceLT, Nat.reduceSub, A_maps_Keys_Stamp_Spot_0, A_maps_Keys_Stamp_Spot_1, V.cells]
  exact hR _ _ ⟨rfl, rfl⟩
theorem Nodes_none (D : Decls) (hp : D.prim F_tree_Tree_Nodes = none) (hc : D.code.get F_tree_Tree_Nodes = some A_tree_Tree_Nodes) (M : Mem) (t : V) (h : Runs D F_tree_Tree_none [t] M fun v M' => v = .bool true ∧ M' = M) : Runs D F_tree_Tree_Nodes [t] M fun v M' => v = .slice none 0 (.exact 0) ∧ M' = M := by
  refine R_opq fun R hR => ?_
  refine Runs.walk (F := A_tree_Tree_Nodes) hp hc (by rfl) ?_
  unfold A_tree_Tree_Nodes
  simp -dsimp only [↓w_seq, ↓w_ops, ↓w_skip, ↓w_ret, ↓w_exit, ↓w_scope, ↓w_block, ↓w_cond, cond_true', cond_false', ↓t_nil, ↓t_plain, ↓t_guard, ↓t_gagain, ↓t_again, t_val, t_call, g_true, g_false, ga_true, ga_false, a_val, a_call, ↓n_normal, ↓n_ret, ↓n_exit, ↓b_normal, ↓b_ret, ↓b_exit, ↓e_normal, ↓e_ret, e_some, go_sem, ↓reduceIte, Nat.reduceEqDiff, Nat.reduceLT, Nat.reduceSub, A_tree_Tree_Nodes_0, A_tree_Tree_Nodes_1]
  refine call_eq h ?_
  simp -dsimp only [↓w_seq, ↓w_ops, ↓w_skip, ↓w_ret, ↓w_exit, ↓w_scope, ↓w_block, ↓w_cond, cond_true', cond_false', ↓t_nil, ↓t_plain, ↓t_guard, ↓t_gagain, ↓t_again, t_val, t_call, g_true, g_false, ga_true, ga_false, a_val, a_call, ↓n_normal, ↓n_ret, ↓n_exit, ↓b_normal, ↓b_ret, ↓b_exit, ↓e_normal, ↓e_ret, e_some, go_sem, ↓reduceIte, Nat.reduceEqDiff, Nat.reduceLT, Nat.reduceSub, A_tree_Tree_Nodes_2]
  exact hR _ _ ⟨rfl, rfl⟩
theorem Nodes_runs (M : Mem) (tc bm : Nat) (l : Tr) (T : TreeIn M tc bm l) (hN : (l.length + 1) * 16 ≤ maxRoom) : Runs D2 F_tree_Tree_Nodes [.ptr (some (tc, 0))] M fun v M' => Grew M M' ∧ Hold M.next M' 2 v (nodesL l).length (elSt.all (nodesL l)) := by
  refine R_opq fun R hR => ?_
  refine Runs.walk (F := A_tree_Tree_Nodes) rfl (by rfl) (by rfl) ?_
  unfold A_tree_Tree_Nodes
  simp -dsimp only [↓w_seq, ↓w_ops, ↓w_skip, ↓w_ret, ↓w_exit, ↓w_scope, ↓w_block, ↓w_cond, cond_true', cond_false', ↓t_nil, ↓t_plain, ↓t_guard, ↓t_gagain, ↓t_again, t_val, t_call, g_true, g_false, ga_true, ga_false, a_val, a_call, ↓n_normal, ↓n_ret, ↓n_exit, ↓b_normal, ↓b_ret, ↓b_exit, ↓e_normal, ↓e_ret, e_some, go_sem, ↓reduceIte, Nat.reduceEqDiff, Nat.reduceLT, Nat.reduceSub, A_tree_Tree_Nodes_0, A_tree_Tree_Nodes_1]
  refine call_eq (none_p rfl T.of) ?_
  simp -dsimp only [↓w_seq, ↓w_ops, ↓w_skip, ↓w_ret, ↓w_exit, ↓w_scope, ↓w_block, ↓w_cond, cond_true', cond_false', ↓t_nil, ↓t_plain, ↓t_guard, ↓t_gagain, ↓t_again, t_val, t_call, g_true, g_false, ga_true, ga_false, a_val, a_call, ↓n_normal, ↓n_ret, ↓n_exit, ↓b_normal, ↓b_ret, ↓b_exit, ↓e_normal, ↓e_ret, e_some, go_sem, ↓reduceIte, Nat.reduceEqDiff, Nat.reduceLT, Nat.reduceSub, A_tree_Tree_Nodes_3, vload, vptr, Mem.read, T.c, Nat.add_zero, List.getElem?_cons_zero]
  refine call_of (Keys_runs D2 rfl (by rfl) M bm) ?_
  intro v M1 hv
  rw [hv.1]
  have hG : Grew M M1 := by rw [hv.2]; exact Grew.push _ _
  have g1 : M1.get M.next = some (.cells [.map (some bm)] false) := by rw [hv.2]; exact Mem.get_push_same _ _
  clear hv
  have T1 := T.grew hG
  simp -dsimp only [↓w_seq, ↓w_ops, ↓w_skip, ↓w_ret, ↓w_exit, ↓w_scope, ↓w_block, ↓w_cond, cond_true', cond_false', ↓t_nil, ↓t_plain, ↓t_guard, ↓t_gagain, ↓t_again, t_val, t_call, g_true, g_false, ga_true, ga_false, a_val, a_call, ↓n_normal, ↓n_ret, ↓n_exit, ↓b_normal, ↓b_ret, ↓b_exit, ↓e_normal, ↓e_ret, e_some, go_sem, ↓reduceIte, Nat.reduceEqDiff, Nat.reduceLT, Nat.reduceSub]
  have hkl : (keysS l).length = l.length := keys_len l
  cases hk : keysS l with
  | nil =>
    refine call_of (S := fun v M2 => v = .slice none 0 (.exact 0) ∧ M2 = M1) (Runs.prim (v := .slice none 0 (.exact 0)) (M' := M1) rfl (by
      simp only [pSortedK, Nat.beq_refl, cond_true, g1, T1.m, keysOf_enc, Option.bind_some, hkl, ble_iff, decide_eq_true hN]
      rw [hk]
      rfl) ⟨rfl, rfl⟩) ?_
    intro v M2 hv
    rw [hv.1, hv.2]
    simp -dsimp only [↓w_seq, ↓w_ops, ↓w_skip, ↓w_ret, ↓w_exit, ↓w_scope, ↓w_block, ↓w_cond, cond_true', cond_false', ↓t_nil, ↓t_plain, ↓t_guard, ↓t_gagain, ↓t_again, t_val, t_call, g_true, g_false, ga_true, ga_false, a_val, a_call, ↓n_normal, ↓n_ret, ↓n_exit, ↓b_normal, ↓b_ret, ↓b_exit, ↓e_normal, ↓e_ret, e_some, go_sem, ↓reduceIte, Nat.reduceEqDiff, Nat.reduceLT, Nat.reduceSub]
    have hn : nodesL l = [] := by rw [nodesL, hk]; rfl
    exact hR _ _ ⟨hG, by rw [hn]; exact .nil⟩
  | cons x xs =>
    refine call_of (S := fun v M2 => v = .slice (some (M1.next, 0)) (xs.length + 1) (.upto 2) ∧ M2 = M1.push (.cells (elSt.all (isort ltSt (x :: xs))) false)) (Runs.prim rfl (by
      simp only [pSortedK, Nat.beq_refl, cond_true, g1, T1.m, keysOf_enc, Option.bind_some, hkl, ble_iff, decide_eq_true hN]
      rw [hk]
      rfl) ⟨rfl, rfl⟩) ?_
    intro v M2 hv
    rw [hv.1, hv.2]
    simp -dsimp only [↓w_seq, ↓w_ops, ↓w_skip, ↓w_ret, ↓w_exit, ↓w_scope, ↓w_block, ↓w_cond, cond_true', cond_false', ↓t_nil, ↓t_plain, ↓t_guard, ↓t_gagain, ↓t_again, t_val, t_call, g_true, g_false, ga_true, ga_false, a_val, a_call, ↓n_normal, ↓n_ret, ↓n_exit, ↓b_normal, ↓b_ret, ↓b_exit, ↓e_normal, ↓e_ret, e_some, go_sem, ↓reduceIte, Nat.reduceEqDiff, Nat.reduceLT, Nat.reduceSub]
    have hn : nodesL l = isort ltSt (x :: xs) := by rw [nodesL, hk]
    have hlen : (nodesL l).length = xs.length + 1 := by rw [nodes_len, ← hkl, hk]; rfl
    refine hR _ _ ⟨hG.trans (Grew.push _ _), ?_⟩
    rw [hlen, hn]
    refine .row (Mem.get_push_same _ _) ?_ hG.next (by simp)
    rw [← hn, elSt.all_len, hlen]
    rfl

theorem st_at {M : Mem} {s : V} {xs : List St} (h : SlR elSt M s xs) {i : Nat} (hi : i < xs.length) : ∃ b o cs ro cap, s = .slice (some (b, o)) xs.length cap ∧ M.get b = some (.cells cs ro) ∧ rdCells cs (o + i * 2) 2 = some (stC xs[i]) := by
  obtain ⟨a, cap, rfl, h⟩ := h
  rcases h with h | ⟨b, o, cs, ro, rfl, h1, h2⟩
  · subst h; simp at hi
  · exact ⟨b, o, cs, ro, cap, rfl, h1, h2 i hi⟩
theorem Hold.slR {lo : Nat} {M : Mem} {s : V} {xs : List St} (h : Hold lo M 2 s xs.length (elSt.all xs)) : SlR elSt M s xs := by
  generalize hn : xs.length = n at h
  generalize hc : elSt.all xs = cs at h
  cases h with
  | nil => exact ⟨none, .exact 0, by rw [hn], .inl (List.eq_nil_of_length_eq_zero hn)⟩
  | row h1 h2 h3 h4 =>
    refine ⟨_, _, by rw [hn], .inr ⟨_, 0, _, false, rfl, h1, fun i hi => ?_⟩⟩
    rw [← hc, Nat.zero_add]
    exact elSt.rd xs i hi

theorem look1 {M : Mem} {b : Nat} {l : Tr} (h : mapAt M b = some (encM l)) (k : St) : vlookup ⟨true, [.int .i64, .int .i64]⟩ (.agg [.int .i64 0, .int .i64 0, .str []]) false M (.map (some b)) (.agg (stC k)) = some (.agg (spC ((getS l k).getD sp0))) := by
  have hok : Sh.ok ⟨true, [.int .i64, .int .i64]⟩ (.agg (stC k)) = true := rfl
  simp only [vlookup, h, Option.bind_some, hok, cond_true, mapIdx_is, Option.map_some, idx_get]
  cases getS l k <;> rfl
theorem Below_loop (tc bm b3 : Nat) (l : Tr) (p : St) (ns : List St) (sn : V) (M0 : Mem) (T : TreeIn M0 tc bm l) (h3 : M0.get b3 = some (.cells (stC p) false)) (l3 : b3 < M0.next) (hns : SlR elSt M0 sn ns) (hlt : ∀ b, sn.blk = some b → b < M0.next) (hN : (ns.length + 1) * 16 ≤ maxRoom) {Q : AExit → Fr → Mem → Prop}
    (hE : ∀ fr M s, Grew M0 M → Hold M0.next M 2 s (ns.filter (belF l p)).length (elSt.all (ns.filter (belF l p))) → fr.rd 5 = s → Q (.exit 0) fr M) :
    ∀ (f i : Nat) (s : V) (fr : Fr) (M : Mem), i + f = ns.length → Grew M0 M → Hold M0.next M 2 s ((ns.take i).filter (belF l p)).length (elSt.all ((ns.take i).filter (belF l p))) → fr.rd 0 = .ptr (some (tc, 0)) → fr.rd 3 = .ptr (some (b3, 0)) → fr.rd 5 = s → fr.rd 9 = sn → fr.rd 10 = .int .i64 (ns.length : Int) → fr.rd 11 = .int .i64 (i : Int) → WC D2 30 (.loop A_tree_Tree_Below_8) fr M Q := by
  have hmx : maxRoom = 17592186044416 := rfl
  intro f
  induction f with
  | zero =>
    intro i s fr M hi hG hH h0 hf3 h5 h9 h10 h11
    refine WC.loop (W_of ?_)
    unfold A_tree_Tree_Below_8
    have : ¬ (i : Int) < ns.length := by omega
    simp -dsimp only [↓w_seq, ↓w_ops, ↓w_skip, ↓w_ret, ↓w_exit, ↓w_scope, ↓w_block, ↓w_cond, cond_true', cond_false', ↓t_nil, ↓t_plain, ↓t_guard, ↓t_gagain, ↓t_again, t_val, t_call, g_true, g_false, ga_true, ga_false, a_val, a_call, ↓n_normal, ↓n_ret, ↓n_exit, ↓b_normal, ↓b_ret, ↓b_exit, ↓e_normal, ↓e_ret, e_some, go_sem, ↓reduceIte, Nat.reduceEqDiff, Nat.reduceLT, Nat.reduceSub, A_tree_Tree_Below_3, h10, h11, this, decide_false]
    have : i = ns.length := by omega
    subst this
    rw [List.take_length] at hH
    exact hE _ _ s hG hH (by simp only [go_sem, ↓reduceIte, Nat.reduceEqDiff, Nat.reduceLT, Nat.reduceSub, h5])
  | succ f ih =>
    intro i s fr M hi hG hH h0 hf3 h5 h9 h10 h11
    refine WC.loop (W_of ?_)
    unfold A_tree_Tree_Below_8
    have hil : i < ns.length := by omega
    have hsM : SlR elSt M sn ns := hns.keep fun b hb => hG.old b (hlt b hb)
    obtain ⟨b, o, cs, ro, cap, rfl, hM, hr⟩ := st_at hsM hil
    have hb : b < M.next := Nat.lt_of_lt_of_le (hlt b rfl) hG.next
    have h1 : (i : Int) < ns.length := by omega
    have h2 : i + 1 ≤ ns.length := by omega
    have h5' : (i : Int) + 1 = ((i + 1 : Nat) : Int) := by omega
    have hw := write_full (M := M.push (.cells [.int .i64 0, .int .i64 0] false)) (b := M.next) (vs := stC ns[i]) (Mem.get_push_same _ _) rfl rfl
    have hrd : ∀ x : St, rdCells (stC x) 0 2 = some (stC x) := fun _ => rfl
    have hn0 := hG.next
    simp -dsimp only [↓w_seq, ↓w_ops, ↓w_skip, ↓w_ret, ↓w_exit, ↓w_scope, ↓w_block, ↓w_cond, cond_true', cond_false', ↓t_nil, ↓t_plain, ↓t_guard, ↓t_gagain, ↓t_again, t_val, t_call, g_true, g_false, ga_true, ga_false, a_val, a_call, ↓n_normal, ↓n_ret, ↓n_exit, ↓b_normal, ↓b_ret, ↓b_exit, ↓e_normal, ↓e_ret, e_some, go_sem, ↓reduceIte, Nat.reduceEqDiff, Nat.reduceLT, Nat.reduceSub, A_tree_Tree_Below_3, A_tree_Tree_Below_4, h9, h10, h11, h1, h2, decide_true, vload, vptr, hM, Mem.read, hr, Nat.add_zero, vstore, V.cells, stC_len, hw, Nat.reduceEqDiff]
    have hG1 : Grew M ((M.push (.cells [.int .i64 0, .int .i64 0] false)).set M.next (.cells (stC ns[i]) false)) := (Grew.push M _).upd (Nat.le_refl _) (Upd.set _ _ _)
    have g7 : ((M.push (.cells [.int .i64 0, .int .i64 0] false)).set M.next (.cells (stC ns[i]) false)).get M.next = some (.cells (stC ns[i]) false) := Mem.get_set_same _ _ _
    have hn1 : ((M.push (.cells [.int .i64 0, .int .i64 0] false)).set M.next (.cells (stC ns[i]) false)).next = M.next + 1 := rfl
    clear hw
    generalize (M.push (.cells [.int .i64 0, .int .i64 0] false)).set M.next (.cells (stC ns[i]) false) = M1 at *
    have T1 := (T.grew hG).grew hG1
    have k3 := ((hG.trans hG1).old _ l3).trans h3
    have hH1 : Hold M0.next M1 2 s ((ns.take i).filter (belF l p)).length (elSt.all ((ns.take i).filter (belF l p))) := hH.keep (fun c hc => hG1.old c (hH.blk_le hc).2.1) hG1.next
    have hlk : vlookup ⟨true, [.int .i64, .int .i64]⟩ (.agg [.int .i64 0, .int .i64 0, .str []]) false M1 (.map (some bm)) (.agg (stC ns[i])) = some (.agg (spC ((getS l ns[i]).getD sp0))) := look1 T1.at_ _
    have hfd : partOf (spC ((getS l ns[i]).getD sp0)) 0 (some 2) = some (.agg (stC ((getS l ns[i]).getD sp0).1)) := rfl
    have htk : (ns.take (i + 1)).filter (belF l p) = (ns.take i).filter (belF l p) ++ (if belF l p ns[i] then [ns[i]] else []) := by
      rw [List.take_add_one, List.getElem?_eq_getElem hil, List.filter_append]
      cases hbl : belF l p ns[i] <;> simp [hbl]
    simp -dsimp only [↓w_seq, ↓w_ops, ↓w_skip, ↓w_ret, ↓w_exit, ↓w_scope, ↓w_block, ↓w_cond, cond_true', cond_false', ↓t_nil, ↓t_plain, ↓t_guard, ↓t_gagain, ↓t_again, t_val, t_call, g_true, g_false, ga_true, ga_false, a_val, a_call, ↓n_normal, ↓n_ret, ↓n_exit, ↓b_normal, ↓b_ret, ↓b_exit, ↓e_normal, ↓e_ret, e_some, go_sem, ↓reduceIte, Nat.reduceEqDiff, Nat.reduceLT, Nat.reduceSub, A_tree_Tree_Below_5, h0, hf3, vload, vptr, T1.c, Mem.read, g7, k3, hrd, Nat.add_zero, List.getElem?_cons_zero, hlk, hfd, vof, st_same]
    have hbl : belF l p ns[i] = decide (((getS l ns[i]).getD sp0).1 = p) := rfl
    rw [← hbl]
    have hnl : ((ns.take i).filter (belF l p)).length ≤ i := Nat.le_trans (List.length_filter_le _ _) (by rw [List.length_take]; omega)
    cases hb2 : belF l p ns[i] with
    | false =>
      rw [hb2, if_neg (by simp), List.append_nil] at htk
      simp -dsimp only [↓w_seq, ↓w_ops, ↓w_skip, ↓w_ret, ↓w_exit, ↓w_scope, ↓w_block, ↓w_cond, cond_true', cond_false', ↓t_nil, ↓t_plain, ↓t_guard, ↓t_gagain, ↓t_again, t_val, t_call, g_true, g_false, ga_true, ga_false, a_val, a_call, ↓n_normal, ↓n_ret, ↓n_exit, ↓b_normal, ↓b_ret, ↓b_exit, ↓e_normal, ↓e_ret, e_some, go_sem, ↓reduceIte, Nat.reduceEqDiff, Nat.reduceLT, Nat.reduceSub, A_tree_Tree_Below_7, h11, h5', IntWalk.i64_in ((i + 1 : Nat) : Int) (by omega)]
      refine ih (i + 1) s _ M1 (by omega) (hG.trans hG1) (by rw [htk]; exact hH1) ?_ ?_ ?_ ?_ ?_ ?_
      all_goals simp only [go_sem, ↓reduceIte, Nat.reduceEqDiff, Nat.reduceLT, Nat.reduceSub, h0, hf3, h5, h9, h10]
    | true =>
      rw [hb2, if_pos rfl] at htk
      have hH3 : Hold M0.next (M1.push (.cells (stC ns[i]) false)) 2 s ((ns.take i).filter (belF l p)).length (elSt.all ((ns.take i).filter (belF l p))) := hH1.keep (fun c hc => Mem.get_push_ne _ _ (by have := hH1.blk_le hc; omega)) (by simp)
      obtain ⟨M4, hap, hH4, hn4, ho4⟩ := hH3.append (bytes := 16) (m := 1) (x := .slice (some (M1.next, 0)) 1 (.exact 1)) (new := stC ns[i]) (by simp; omega) rfl
        (by
          have := read_all (Mem.get_push_same M1 (.cells (stC ns[i]) false))
          simp only [srcCells, beq_dec, Nat.one_mul, Nat.reduceEqDiff, decide_false, cond_false]
          exact this) (by omega) rfl (Nat.le_trans (Nat.mul_le_mul_right 16 (by omega)) hN) rfl
      have hf : fillCells [.int .i64 0, .int .i64 0] [(0, 2, .agg (stC ns[i]))] = some (stC ns[i]) := rfl
      simp -dsimp only [↓w_seq, ↓w_ops, ↓w_skip, ↓w_ret, ↓w_exit, ↓w_scope, ↓w_block, ↓w_cond, cond_true', cond_false', ↓t_nil, ↓t_plain, ↓t_guard, ↓t_gagain, ↓t_again, t_val, t_call, g_true, g_false, ga_true, ga_false, a_val, a_call, ↓n_normal, ↓n_ret, ↓n_exit, ↓b_normal, ↓b_ret, ↓b_exit, ↓e_normal, ↓e_ret, e_some, go_sem, ↓reduceIte, Nat.reduceEqDiff, Nat.reduceLT, Nat.reduceSub, A_tree_Tree_Below_6, A_tree_Tree_Below_7, h5, h11, h5', vload, vptr, Mem.read, g7, hrd, repl, List.append_nil, hf, hap, IntWalk.i64_in ((i + 1 : Nat) : Int) (by omega)]
      simp only [Mem.next_push] at hH4 hn4 ho4
      have hn1' := hG1.next
      refine ih (i + 1) (.slice (some (M1.next + 1, 0)) (((ns.take i).filter (belF l p)).length + 1) (.upto 2)) _ M4 (by omega) ⟨by omega, fun c hc => ?_⟩ ?_ ?_ ?_ ?_ ?_ ?_ ?_
      · rw [ho4 c (by omega) (fun e => by have := (hH1.blk_le e).1; omega), Mem.get_push_ne _ _ (by omega), hG1.old c (by omega)]
        exact hG.old c hc
      · have e1 : (((ns.take i).filter (belF l p)) ++ [ns[i]]).length = ((ns.take i).filter (belF l p)).length + 1 := by simp
        have e2 : elSt.all (((ns.take i).filter (belF l p)) ++ [ns[i]]) = elSt.all ((ns.take i).filter (belF l p)) ++ stC ns[i] := by simp [Elem.all, elSt]
        rw [htk, e1, e2]
        exact hH4
      all_goals simp only [go_sem, ↓reduceIte, Nat.reduceEqDiff, Nat.reduceLT, Nat.reduceSub, h0, hf3, h9, h10, Mem.next_push]

theorem Below_none (D : Decls) (hp : D.prim F_tree_Tree_Below = none) (hc : D.code.get F_tree_Tree_Below = some A_tree_Tree_Below) (hp2 : D.prim F_tree_Tree_Nodes = none) (hc2 : D.code.get F_tree_Tree_Nodes = some A_tree_Tree_Nodes) (M : Mem) (t : V) (p : St) (h : ∀ M', Grew M M' → Runs D F_tree_Tree_none [t] M' fun v M'' => v = .bool true ∧ M'' = M') : Runs D F_tree_Tree_Below [t, .agg (stC p)] M fun v M' => v = .slice none 0 (.exact 0) ∧ Grew M M' := by
  refine R_opq fun R hR => ?_
  refine Runs.walk (F := A_tree_Tree_Below) hp hc (by rfl) ?_
  unfold A_tree_Tree_Below
  have hcn : V.cells (.agg (stC p)) = stC p := rfl
  have hG := Grew.push M (.cells (stC p) false)
  simp -dsimp only [↓w_seq, ↓w_ops, ↓w_skip, ↓w_ret, ↓w_exit, ↓w_scope, ↓w_block, ↓w_cond, cond_true', cond_false', ↓t_nil, ↓t_plain, ↓t_guard, ↓t_gagain, ↓t_again, t_val, t_call, g_true, g_false, ga_true, ga_false, a_val, a_call, ↓n_normal, ↓n_ret, ↓n_exit, ↓b_normal, ↓b_ret, ↓b_exit, ↓e_normal, ↓e_ret, e_some, go_sem, ↓reduceIte, Nat.reduceEqDiff, Nat.reduceLT, Nat.reduceSub, A_tree_Tree_Below_0, A_tree_Tree_Below_1, A_tree_Tree_Below_2, hcn]
  generalize M.push (.cells (stC p) false) = M1 at *
  refine call_eq (Nodes_none D hp2 hc2 M1 t (h M1 hG)) ?_
  simp -dsimp only [↓w_seq, ↓w_ops, ↓w_skip, ↓w_ret, ↓w_exit, ↓w_scope, ↓w_block, ↓w_cond, cond_true', cond_false', ↓t_nil, ↓t_plain, ↓t_guard, ↓t_gagain, ↓t_again, t_val, t_call, g_true, g_false, ga_true, ga_false, a_val, a_call, ↓n_normal, ↓n_ret, ↓n_exit, ↓b_normal, ↓b_ret, ↓b_exit, ↓e_normal, ↓e_ret, e_some, go_sem, ↓reduceIte, Nat.reduceEqDiff, Nat.reduceLT, Nat.reduceSub]
  refine WC.loop (W_of ?_)
  unfold A_tree_Tree_Below_8
  simp -dsimp only [↓w_seq, ↓w_ops, ↓w_skip, ↓w_ret, ↓w_exit, ↓w_scope, ↓w_block, ↓w_cond, cond_true', cond_false', ↓t_nil, ↓t_plain, ↓t_guard, ↓t_gagain, ↓t_again, t_val, t_call, g_true, g_false, ga_true, ga_false, a_val, a_call, ↓n_normal, ↓n_ret, ↓n_exit, ↓b_normal, ↓b_ret, ↓b_exit, ↓e_normal, ↓e_ret, e_some, go_sem, ↓reduceIte, Nat.reduceEqDiff, Nat.reduceLT, Nat.reduceSub, A_tree_Tree_Below_3, Int.lt_irrefl, decide_false, Int.natCast_zero, A_tree_Tree_Below_9, Int.ofNat_zero]
  exact hR _ _ ⟨rfl, hG⟩
theorem Below_runs (M : Mem) (tc bm : Nat) (l : Tr) (p : St) (T : TreeIn M tc bm l) (hN : (l.length + 1) * 16 ≤ maxRoom) : Runs D2 F_tree_Tree_Below [.ptr (some (tc, 0)), .agg (stC p)] M fun v M' => Grew M M' ∧ Hold M.next M' 2 v (belowL l p).length (elSt.all (belowL l p)) := by
  refine R_opq fun R hR => ?_
  refine Runs.walk (F := A_tree_Tree_Below) rfl (by rfl) (by rfl) ?_
  unfold A_tree_Tree_Below
  have hcn : V.cells (.agg (stC p)) = stC p := rfl
  have hG := Grew.push M (.cells (stC p) false)
  have g3 : (M.push (.cells (stC p) false)).get M.next = some (.cells (stC p) false) := Mem.get_push_same _ _
  have hn1 : (M.push (.cells (stC p) false)).next = M.next + 1 := rfl
  simp -dsimp only [↓w_seq, ↓w_ops, ↓w_skip, ↓w_ret, ↓w_exit, ↓w_scope, ↓w_block, ↓w_cond, cond_true', cond_false', ↓t_nil, ↓t_plain, ↓t_guard, ↓t_gagain, ↓t_again, t_val, t_call, g_true, g_false, ga_true, ga_false, a_val, a_call, ↓n_normal, ↓n_ret, ↓n_exit, ↓b_normal, ↓b_ret, ↓b_exit, ↓e_normal, ↓e_ret, e_some, go_sem, ↓reduceIte, Nat.reduceEqDiff, Nat.reduceLT, Nat.reduceSub, A_tree_Tree_Below_0, A_tree_Tree_Below_1, A_tree_Tree_Below_2, hcn]
  generalize M.push (.cells (stC p) false) = M1 at *
  refine call_of (Nodes_runs M1 tc bm l (T.grew hG) hN) ?_
  intro v M2 hv
  obtain ⟨hG2, hH⟩ := hv
  have hsl := Hold.slR hH
  obtain ⟨a, cap, rfl⟩ := hH.shape
  simp -dsimp only [↓w_seq, ↓w_ops, ↓w_skip, ↓w_ret, ↓w_exit, ↓w_scope, ↓w_block, ↓w_cond, cond_true', cond_false', ↓t_nil, ↓t_plain, ↓t_guard, ↓t_gagain, ↓t_again, t_val, t_call, g_true, g_false, ga_true, ga_false, a_val, a_call, ↓n_normal, ↓n_ret, ↓n_exit, ↓b_normal, ↓b_ret, ↓b_exit, ↓e_normal, ↓e_ret, e_some, go_sem, ↓reduceIte, Nat.reduceEqDiff, Nat.reduceLT, Nat.reduceSub]
  have hln := nodes_len l
  refine Below_loop tc bm M.next l p (nodesL l) _ M2 ((T.grew hG).grew hG2) ((hG2.old _ (by omega)).trans g3) (by have := hG2.next; omega) hsl (fun b hb => (hH.blk_le hb).2.1) (by rw [hln]; exact hN) ?_ (nodesL l).length 0 (.slice none 0 (.exact 0)) _ M2 (by omega) (Grew.refl _) ?_ ?_ ?_ ?_ ?_ ?_ ?_
  · intro fr M' s hG3 hH3 h5
    simp -dsimp only [↓w_seq, ↓w_ops, ↓w_skip, ↓w_ret, ↓w_exit, ↓w_scope, ↓w_block, ↓w_cond, cond_true', cond_false', ↓t_nil, ↓t_plain, ↓t_guard, ↓t_gagain, ↓t_again, t_val, t_call, g_true, g_false, ga_true, ga_false, a_val, a_call, ↓n_normal, ↓n_ret, ↓n_exit, ↓b_normal, ↓b_ret, ↓b_exit, ↓e_normal, ↓e_ret, e_some, go_sem, ↓reduceIte, Nat.reduceEqDiff, Nat.reduceLT, Nat.reduceSub, A_tree_Tree_Below_9, h5]
    have := hG2.next
    exact hR _ _ ⟨(hG.trans hG2).trans hG3, hH3.lower (by omega)⟩
  · rw [List.take_zero]; exact .nil
  all_goals simp only [go_sem, ↓reduceIte, Nat.reduceEqDiff, Nat.reduceLT, Nat.reduceSub]
  rfl
end Go.Am.Tryz

