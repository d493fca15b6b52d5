/- The machine and what is proved of its runs, part 6: what each part says stands at its head. -/
import Derived.Test.YtefigbdkennhaaaDoorJ5
import Derived.Shelf.SlMaps.Clone
set_option linter.unusedSimpArgs false
set_option linter.unusedVariables false
set_option linter.unusedSectionVars false
/- Add, Move, Drop. -/
namespace Go.Am.Tryd
open Go Go.Am Go.Proofs Go.Sort Go.Shelf
set_option maxRecDepth 100000
set_option linter.unusedSimpArgs false
set_option linter.unusedVariables false

/-- All but one block is as it was. -/
structure Chg (M : Mem) (b : Nat) (M' : Mem) : Prop where
  next : M.next ≤ M'.next
  old : ∀ c, c < M.next → c ≠ b → M'.get c = M.get c
theorem Chg.of {M M' : Mem} {b : Nat} (h : Grew M M') : Chg M b M' := ⟨h.next, fun c hc _ => h.old c hc⟩
theorem Chg.trans {M M' M'' : Mem} {b : Nat} (h : Chg M b M') (h' : Chg M' b M'') : Chg M b M'' := ⟨Nat.le_trans h.next h'.next, fun c hc hb => (h'.old c (Nat.lt_of_lt_of_le hc h.next) hb).trans (h.old c hc hb)⟩
theorem Chg.set {M M' : Mem} {b : Nat} {o : O} (h : Grew M M') : Chg M b (M'.set b o) := ⟨h.next, fun c hc hb => (Mem.get_set_ne _ _ hb).trans (h.old c hc)⟩
theorem TreeIn.ne {M : Mem} {tc bm : Nat} {l : Tr} (h : TreeIn M tc bm l) : tc ≠ bm := fun e => by have := h.c; rw [e, h.m] at this; cases this
theorem TreeIn.set {M M' : Mem} {tc bm : Nat} {l l' : Tr} (h : TreeIn M tc bm l) (hG : Grew M M') : TreeIn (M'.set bm (.map (encM l'))) tc bm l' :=
  ⟨by rw [Mem.get_set_ne _ _ h.ne]; exact (h.grew hG).c, Mem.get_set_same _ _ _, (h.grew hG).tl, (h.grew hG).bl⟩

theorem Chg.set_new {M M' : Mem} {b b' : Nat} {o : O} (h : Chg M b M') (hb : M.next ≤ b') : Chg M b (M'.set b' o) := ⟨h.next, fun c hc hne => (Mem.get_set_ne _ _ (by omega)).trans (h.old c hc hne)⟩
theorem TreeIn.set_new {M M' : Mem} {tc bm b' : Nat} {l l' : Tr} {o : O} (T : TreeIn M tc bm l) (h : TreeIn M' tc bm l') (hb : M.next ≤ b') : TreeIn (M'.set b' o) tc bm l' := by
  have h1 := T.tl
  have h2 := T.bl
  exact ⟨(Mem.get_set_ne _ _ (by omega)).trans h.c, (Mem.get_set_ne _ _ (by omega)).trans h.m, h.tl, h.bl⟩

def addE (l : Tr) (n : St) (s : Spot) : Nat := if (nodeSt n && rightSp s) = false then 1 else if (getS l n).isSome = true then 4 else if hasB l s.1 = false then 3 else if 65536 ≤ l.length then 7 else 0
def addT (l : Tr) (n : St) (s : Spot) : Tr := if addE l n s = 0 then putS l n s else l

theorem enc_lenI {M : Mem} {bm : Nat} {l : Tr} (h : mapAt M bm = some (encM l)) : vlenMap M (.map (some bm)) = some (.int .i64 (l.length : Int)) := by
  simp only [vlenMap, h, Option.map_some, enc_len]

theorem Add_runs (M : Mem) (tc bm : Nat) (l : Tr) (n : St) (s : Spot) (T : TreeIn M tc bm l) (hg : isG M = true) (hn : 2 ≤ M.next) :
    Runs D2 F_tree_Tree_Add [.ptr (some (tc, 0)), .agg (stC n), .agg (spC s)] M fun v M' => v = .int .i64 (addE l n s : Int) ∧ Chg M bm M' ∧ TreeIn M' tc bm (addT l n s) := by
  refine R_opq fun R hR => ?_
  refine Runs.walk (F := A_tree_Tree_Add) rfl (by rfl) (by rfl) ?_
  unfold A_tree_Tree_Add
  have hcn : V.cells (.agg (stC n)) = stC n := rfl
  have hcs : V.cells (.agg (spC s)) = spC s := rfl
  have hrn : rdCells (stC n) 0 2 = some (stC n) := rfl
  have hrs : rdCells (spC s) 0 3 = some (spC s) := rfl
  have hrp : rdCells (spC s) 0 2 = some (stC s.1) := rfl
  have hG := (Grew.push M (.cells (stC n) false)).trans (Grew.push _ (.cells (spC s) false))
  have g4 : ((M.push (.cells (stC n) false)).push (.cells (spC s) false)).get M.next = some (.cells (stC n) false) := by rw [Mem.get_push_ne _ _ (by simp), Mem.get_push_same]
  have g5 : ((M.push (.cells (stC n) false)).push (.cells (spC s) false)).get (M.next + 1) = some (.cells (spC s) false) := Mem.get_push_same (M.push _) _
  simp -dsimp only [↓w_seq, ↓w_ops, ↓w_skip, ↓w_ret, ↓w_exit, ↓w_scope, ↓w_block, ↓w_cond, cond_true', cond_false', ↓t_nil, ↓t_plain, ↓t_guard, ↓t_gagain, ↓t_again, t_val, t_call, g_true, g_false, ga_true, ga_false, a_val, a_call, ↓n_normal, ↓n_ret, ↓n_exit, ↓b_normal, ↓b_ret, ↓b_exit, ↓e_normal, ↓e_ret, e_some, go_sem, ↓reduceIte, Nat.reduceEqDiff, Nat.reduceLT, Nat.reduceSub, A_tree_Tree_Add_0, A_tree_Tree_Add_1, hcn, hcs, Mem.next_push]
  have T1 := T.grew hG
  have hg1 := isG_keep hg hn hG.old
  generalize (M.push (.cells (stC n) false)).push (.cells (spC s) false) = M1 at *
  have bad : ∀ e : Nat, addE l n s = e → e ≠ 0 → R (.int .i64 (e : Int)) M1 := fun e h1 h2 => hR _ _ ⟨by rw [h1], Chg.of hG, by rw [addT, if_neg (by omega)]; exact T1⟩
  refine call_eq (none_p rfl T1.of) ?_
  simp -dsimp only [↓w_seq, ↓w_ops, ↓w_skip, ↓w_ret, ↓w_exit, ↓w_scope, ↓w_block, ↓w_cond, cond_true', cond_false', ↓t_nil, ↓t_plain, ↓t_guard, ↓t_gagain, ↓t_again, t_val, t_call, g_true, g_false, ga_true, ga_false, a_val, a_call, ↓n_normal, ↓n_ret, ↓n_exit, ↓b_normal, ↓b_ret, ↓b_exit, ↓e_normal, ↓e_ret, e_some, go_sem, ↓reduceIte, Nat.reduceEqDiff, Nat.reduceLT, Nat.reduceSub, vload, vptr, Mem.read, g4, hrn]
  refine call_eq (opnode_p rfl n) ?_
  cases h1 : nodeSt n with
  | false =>
    simp -dsimp only [↓w_seq, ↓w_ops, ↓w_skip, ↓w_ret, ↓w_exit, ↓w_scope, ↓w_block, ↓w_cond, cond_true', cond_false', ↓t_nil, ↓t_plain, ↓t_guard, ↓t_gagain, ↓t_again, t_val, t_call, g_true, g_false, ga_true, ga_false, a_val, a_call, ↓n_normal, ↓n_ret, ↓n_exit, ↓b_normal, ↓b_ret, ↓b_exit, ↓e_normal, ↓e_ret, e_some, go_sem, ↓reduceIte, Nat.reduceEqDiff, Nat.reduceLT, Nat.reduceSub, A_tree_Tree_Add_2, Bool.not_false]
    exact bad 1 (by rw [addE, h1]; rfl) (by decide)
  | true =>
    simp -dsimp only [↓w_seq, ↓w_ops, ↓w_skip, ↓w_ret, ↓w_exit, ↓w_scope, ↓w_block, ↓w_cond, cond_true', cond_false', ↓t_nil, ↓t_plain, ↓t_guard, ↓t_gagain, ↓t_again, t_val, t_call, g_true, g_false, ga_true, ga_false, a_val, a_call, ↓n_normal, ↓n_ret, ↓n_exit, ↓b_normal, ↓b_ret, ↓b_exit, ↓e_normal, ↓e_ret, e_some, go_sem, ↓reduceIte, Nat.reduceEqDiff, Nat.reduceLT, Nat.reduceSub, Bool.not_true, vload, vptr, Mem.read, g5, hrs]
    refine call_eq (spright_p rfl s hg1) ?_
    cases h2 : rightSp s with
    | false =>
      simp -dsimp only [↓w_seq, ↓w_ops, ↓w_skip, ↓w_ret, ↓w_exit, ↓w_scope, ↓w_block, ↓w_cond, cond_true', cond_false', ↓t_nil, ↓t_plain, ↓t_guard, ↓t_gagain, ↓t_again, t_val, t_call, g_true, g_false, ga_true, ga_false, a_val, a_call, ↓n_normal, ↓n_ret, ↓n_exit, ↓b_normal, ↓b_ret, ↓b_exit, ↓e_normal, ↓e_ret, e_some, go_sem, ↓reduceIte, Nat.reduceEqDiff, Nat.reduceLT, Nat.reduceSub, A_tree_Tree_Add_2, Bool.not_false]
      exact bad 1 (by rw [addE, h1, h2]; rfl) (by decide)
    | true =>
      have hb : (nodeSt n && rightSp s) = true := by rw [h1, h2]; rfl
      simp -dsimp only [↓w_seq, ↓w_ops, ↓w_skip, ↓w_ret, ↓w_exit, ↓w_scope, ↓w_block, ↓w_cond, cond_true', cond_false', ↓t_nil, ↓t_plain, ↓t_guard, ↓t_gagain, ↓t_again, t_val, t_call, g_true, g_false, ga_true, ga_false, a_val, a_call, ↓n_normal, ↓n_ret, ↓n_exit, ↓b_normal, ↓b_ret, ↓b_exit, ↓e_normal, ↓e_ret, e_some, go_sem, ↓reduceIte, Nat.reduceEqDiff, Nat.reduceLT, Nat.reduceSub, Bool.not_true, A_tree_Tree_Add_3, vload, vptr, Mem.read, g4, hrn]
      refine call_eq (node_p rfl T1.of n) ?_
      cases h3 : (getS l n).isSome with
      | true =>
        simp -dsimp only [↓w_seq, ↓w_ops, ↓w_skip, ↓w_ret, ↓w_exit, ↓w_scope, ↓w_block, ↓w_cond, cond_true', cond_false', ↓t_nil, ↓t_plain, ↓t_guard, ↓t_gagain, ↓t_again, t_val, t_call, g_true, g_false, ga_true, ga_false, a_val, a_call, ↓n_normal, ↓n_ret, ↓n_exit, ↓b_normal, ↓b_ret, ↓b_exit, ↓e_normal, ↓e_ret, e_some, go_sem, ↓reduceIte, Nat.reduceEqDiff, Nat.reduceLT, Nat.reduceSub, A_tree_Tree_Add_4]
        exact bad 4 (by rw [addE, hb, h3]; rfl) (by decide)
      | false =>
        simp -dsimp only [↓w_seq, ↓w_ops, ↓w_skip, ↓w_ret, ↓w_exit, ↓w_scope, ↓w_block, ↓w_cond, cond_true', cond_false', ↓t_nil, ↓t_plain, ↓t_guard, ↓t_gagain, ↓t_again, t_val, t_call, g_true, g_false, ga_true, ga_false, a_val, a_call, ↓n_normal, ↓n_ret, ↓n_exit, ↓b_normal, ↓b_ret, ↓b_exit, ↓e_normal, ↓e_ret, e_some, go_sem, ↓reduceIte, Nat.reduceEqDiff, Nat.reduceLT, Nat.reduceSub, A_tree_Tree_Add_5, vload, vptr, Mem.read, g5, hrp, Nat.add_zero]
        refine call_eq (has_p rfl T1.of hg1 s.1) ?_
        cases h4 : hasB l s.1 with
        | false =>
          simp -dsimp only [↓w_seq, ↓w_ops, ↓w_skip, ↓w_ret, ↓w_exit, ↓w_scope, ↓w_block, ↓w_cond, cond_true', cond_false', ↓t_nil, ↓t_plain, ↓t_guard, ↓t_gagain, ↓t_again, t_val, t_call, g_true, g_false, ga_true, ga_false, a_val, a_call, ↓n_normal, ↓n_ret, ↓n_exit, ↓b_normal, ↓b_ret, ↓b_exit, ↓e_normal, ↓e_ret, e_some, go_sem, ↓reduceIte, Nat.reduceEqDiff, Nat.reduceLT, Nat.reduceSub, A_tree_Tree_Add_6, Bool.not_false]
          exact bad 3 (by rw [addE, hb, h3, h4]; rfl) (by decide)
        | true =>
          simp -dsimp only [↓w_seq, ↓w_ops, ↓w_skip, ↓w_ret, ↓w_exit, ↓w_scope, ↓w_block, ↓w_cond, cond_true', cond_false', ↓t_nil, ↓t_plain, ↓t_guard, ↓t_gagain, ↓t_again, t_val, t_call, g_true, g_false, ga_true, ga_false, a_val, a_call, ↓n_normal, ↓n_ret, ↓n_exit, ↓b_normal, ↓b_ret, ↓b_exit, ↓e_normal, ↓e_ret, e_some, go_sem, ↓reduceIte, Nat.reduceEqDiff, Nat.reduceLT, Nat.reduceSub, A_tree_Tree_Add_7, Bool.not_true, vload, vptr, Mem.read, T1.c, Nat.add_zero, List.getElem?_cons_zero, enc_lenI T1.at_]
          by_cases h5 : 65536 ≤ l.length
          · have h5' : (65536 : Int) ≤ (l.length : Int) := by omega
            simp -dsimp only [↓w_seq, ↓w_ops, ↓w_skip, ↓w_ret, ↓w_exit, ↓w_scope, ↓w_block, ↓w_cond, cond_true', cond_false', ↓t_nil, ↓t_plain, ↓t_guard, ↓t_gagain, ↓t_again, t_val, t_call, g_true, g_false, ga_true, ga_false, a_val, a_call, ↓n_normal, ↓n_ret, ↓n_exit, ↓b_normal, ↓b_ret, ↓b_exit, ↓e_normal, ↓e_ret, e_some, go_sem, ↓reduceIte, Nat.reduceEqDiff, Nat.reduceLT, Nat.reduceSub, h5', decide_true, A_tree_Tree_Add_8]
            exact bad 7 (by rw [addE, hb, h3, h4, if_pos h5]; rfl) (by decide)
          · have h5' : ¬ (65536 : Int) ≤ (l.length : Int) := by omega
            simp -dsimp only [↓w_seq, ↓w_ops, ↓w_skip, ↓w_ret, ↓w_exit, ↓w_scope, ↓w_block, ↓w_cond, cond_true', cond_false', ↓t_nil, ↓t_plain, ↓t_guard, ↓t_gagain, ↓t_again, t_val, t_call, g_true, g_false, ga_true, ga_false, a_val, a_call, ↓n_normal, ↓n_ret, ↓n_exit, ↓b_normal, ↓b_ret, ↓b_exit, ↓e_normal, ↓e_ret, e_some, go_sem, ↓reduceIte, Nat.reduceEqDiff, Nat.reduceLT, Nat.reduceSub, h5', decide_false, A_tree_Tree_Add_9, A_tree_Tree_Add_10, vload, vptr, Mem.read, T1.c, g4, g5, hrn, hrs, Nat.add_zero, List.getElem?_cons_zero, put_is T1.m n s, Option.map_some]
            have h0 : addE l n s = 0 := by rw [addE, hb, h3, h4, if_neg h5]; rfl
            refine hR _ _ ⟨by rw [h0]; rfl, Chg.set hG, ?_⟩
            rw [addT, if_pos h0]
            exact T.set hG

def moveE (l : Tr) (n : St) (s : Spot) : Nat := if (nodeSt n && rightSp s) = false then 1 else if ((getS l n).isSome && hasB l s.1) = false then 3 else if withinB l n s.1 (pathOf l s.1) = true then 41 else 0
def moveT (l : Tr) (n : St) (s : Spot) : Tr := if moveE l n s = 0 then putS l n s else l
def moveW (l : Tr) (n : St) (s : Spot) : Spot := if moveE l n s = 0 then (getS l n).getD sp0 else sp0

theorem Move_runs (M : Mem) (tc bm : Nat) (l : Tr) (n : St) (s : Spot) (T : TreeIn M tc bm l) (hg : isG M = true) (hn : 2 ≤ M.next) (hI : Inv l) :
    Runs D2 F_tree_Tree_Move [.ptr (some (tc, 0)), .agg (stC n), .agg (spC s)] M fun v M' => v = .tup [.agg (spC (moveW l n s)), .int .i64 (moveE l n s : Int)] ∧ Chg M bm M' ∧ TreeIn M' tc bm (moveT l n s) := by
  refine R_opq fun R hR => ?_
  refine Runs.walk (F := A_tree_Tree_Move) rfl (by rfl) (by rfl) ?_
  unfold A_tree_Tree_Move
  have hcn : V.cells (.agg (stC n)) = stC n := rfl
  have hcs : ∀ s, V.cells (.agg (spC s)) = spC s := fun _ => rfl
  have hrn : rdCells (stC n) 0 2 = some (stC n) := rfl
  have hrs : ∀ s, rdCells (spC s) 0 3 = some (spC s) := fun _ => rfl
  have hrp : rdCells (spC s) 0 2 = some (stC s.1) := rfl
  have hG := ((Grew.push M (.cells (stC n) false)).trans (Grew.push _ (.cells (spC s) false))).trans (Grew.push _ (.cells [.int .i64 0, .int .i64 0, .str []] false))
  have g4 : (((M.push (.cells (stC n) false)).push (.cells (spC s) false)).push (.cells [.int .i64 0, .int .i64 0, .str []] false)).get M.next = some (.cells (stC n) false) := by rw [Mem.get_push_ne _ _ (by simp; omega), Mem.get_push_ne _ _ (by simp), Mem.get_push_same]
  have g5 : (((M.push (.cells (stC n) false)).push (.cells (spC s) false)).push (.cells [.int .i64 0, .int .i64 0, .str []] false)).get (M.next + 1) = some (.cells (spC s) false) := by rw [Mem.get_push_ne _ _ (by simp)]; exact Mem.get_push_same (M.push _) _
  have g6 : (((M.push (.cells (stC n) false)).push (.cells (spC s) false)).push (.cells [.int .i64 0, .int .i64 0, .str []] false)).get (M.next + 1 + 1) = some (.cells (spC sp0) false) := Mem.get_push_same ((M.push _).push _) _
  simp -dsimp only [↓w_seq, ↓w_ops, ↓w_skip, ↓w_ret, ↓w_exit, ↓w_scope, ↓w_block, ↓w_cond, cond_true', cond_false', ↓t_nil, ↓t_plain, ↓t_guard, ↓t_gagain, ↓t_again, t_val, t_call, g_true, g_false, ga_true, ga_false, a_val, a_call, ↓n_normal, ↓n_ret, ↓n_exit, ↓b_normal, ↓b_ret, ↓b_exit, ↓e_normal, ↓e_ret, e_some, go_sem, ↓reduceIte, Nat.reduceEqDiff, Nat.reduceLT, Nat.reduceSub, A_tree_Tree_Move_0, A_tree_Tree_Move_1, hcn, hcs, Mem.next_push]
  have T1 := T.grew hG
  have hg1 := isG_keep hg hn hG.old
  generalize ((M.push (.cells (stC n) false)).push (.cells (spC s) false)).push (.cells [.int .i64 0, .int .i64 0, .str []] false) = M1 at *
  have hw0 := write_full (vs := spC sp0) g6 rfl rfl
  have hs0 := Mem.get_set_same M1 (M.next + 1 + 1) (.cells (spC sp0) false)
  have hG0 := hG.upd (b := M.next + 1 + 1) (by omega) (Upd.set M1 (M.next + 1 + 1) (.cells (spC sp0) false))
  have bad : ∀ e : Nat, moveE l n s = e → e ≠ 0 → R (.tup [.agg (spC sp0), .int .i64 (e : Int)]) (M1.set (M.next + 1 + 1) (.cells (spC sp0) false)) := fun e h1 h2 => hR _ _ ⟨by rw [moveW, if_neg (by omega), h1], Chg.of hG0, by rw [moveT, if_neg (by omega)]; exact T.grew hG0⟩
  refine call_eq (none_p rfl T1.of) ?_
  simp -dsimp only [↓w_seq, ↓w_ops, ↓w_skip, ↓w_ret, ↓w_exit, ↓w_scope, ↓w_block, ↓w_cond, cond_true', cond_false', ↓t_nil, ↓t_plain, ↓t_guard, ↓t_gagain, ↓t_again, t_val, t_call, g_true, g_false, ga_true, ga_false, a_val, a_call, ↓n_normal, ↓n_ret, ↓n_exit, ↓b_normal, ↓b_ret, ↓b_exit, ↓e_normal, ↓e_ret, e_some, go_sem, ↓reduceIte, Nat.reduceEqDiff, Nat.reduceLT, Nat.reduceSub, vload, vptr, Mem.read, g4, hrn]
  refine call_eq (opnode_p rfl n) ?_
  cases h1 : nodeSt n with
  | false =>
    simp -dsimp only [↓w_seq, ↓w_ops, ↓w_skip, ↓w_ret, ↓w_exit, ↓w_scope, ↓w_block, ↓w_cond, cond_true', cond_false', ↓t_nil, ↓t_plain, ↓t_guard, ↓t_gagain, ↓t_again, t_val, t_call, g_true, g_false, ga_true, ga_false, a_val, a_call, ↓n_normal, ↓n_ret, ↓n_exit, ↓b_normal, ↓b_ret, ↓b_exit, ↓e_normal, ↓e_ret, e_some, go_sem, ↓reduceIte, Nat.reduceEqDiff, Nat.reduceLT, Nat.reduceSub, A_tree_Tree_Move_2, Bool.not_false, vload, vptr, Mem.read, g6, hrs, Nat.add_zero, vstore, hcs, spC_len, hw0, hs0, Option.bind_some, oneOf, Nat.reduceEqDiff]
    exact bad 1 (by rw [moveE, h1]; rfl) (by decide)
  | true =>
    simp -dsimp only [↓w_seq, ↓w_ops, ↓w_skip, ↓w_ret, ↓w_exit, ↓w_scope, ↓w_block, ↓w_cond, cond_true', cond_false', ↓t_nil, ↓t_plain, ↓t_guard, ↓t_gagain, ↓t_again, t_val, t_call, g_true, g_false, ga_true, ga_false, a_val, a_call, ↓n_normal, ↓n_ret, ↓n_exit, ↓b_normal, ↓b_ret, ↓b_exit, ↓e_normal, ↓e_ret, e_some, go_sem, ↓reduceIte, Nat.reduceEqDiff, Nat.reduceLT, Nat.reduceSub, Bool.not_true, vload, vptr, Mem.read, g5, hrs]
    refine call_eq (spright_p rfl s hg1) ?_
    cases h2 : rightSp s with
    | false =>
      simp -dsimp only [↓w_seq, ↓w_ops, ↓w_skip, ↓w_ret, ↓w_exit, ↓w_scope, ↓w_block, ↓w_cond, cond_true', cond_false', ↓t_nil, ↓t_plain, ↓t_guard, ↓t_gagain, ↓t_again, t_val, t_call, g_true, g_false, ga_true, ga_false, a_val, a_call, ↓n_normal, ↓n_ret, ↓n_exit, ↓b_normal, ↓b_ret, ↓b_exit, ↓e_normal, ↓e_ret, e_some, go_sem, ↓reduceIte, Nat.reduceEqDiff, Nat.reduceLT, Nat.reduceSub, A_tree_Tree_Move_2, Bool.not_false, vload, vptr, Mem.read, g6, hrs, Nat.add_zero, vstore, hcs, spC_len, hw0, hs0, Option.bind_some, oneOf, Nat.reduceEqDiff]
      exact bad 1 (by rw [moveE, h1, h2]; rfl) (by decide)
    | true =>
      have hb : (nodeSt n && rightSp s) = true := by rw [h1, h2]; rfl
      simp -dsimp only [↓w_seq, ↓w_ops, ↓w_skip, ↓w_ret, ↓w_exit, ↓w_scope, ↓w_block, ↓w_cond, cond_true', cond_false', ↓t_nil, ↓t_plain, ↓t_guard, ↓t_gagain, ↓t_again, t_val, t_call, g_true, g_false, ga_true, ga_false, a_val, a_call, ↓n_normal, ↓n_ret, ↓n_exit, ↓b_normal, ↓b_ret, ↓b_exit, ↓e_normal, ↓e_ret, e_some, go_sem, ↓reduceIte, Nat.reduceEqDiff, Nat.reduceLT, Nat.reduceSub, Bool.not_true, A_tree_Tree_Move_3, vload, vptr, Mem.read, g4, hrn]
      refine call_eq (node_p rfl T1.of n) ?_
      cases h3 : (getS l n).isSome with
      | false =>
        simp -dsimp only [↓w_seq, ↓w_ops, ↓w_skip, ↓w_ret, ↓w_exit, ↓w_scope, ↓w_block, ↓w_cond, cond_true', cond_false', ↓t_nil, ↓t_plain, ↓t_guard, ↓t_gagain, ↓t_again, t_val, t_call, g_true, g_false, ga_true, ga_false, a_val, a_call, ↓n_normal, ↓n_ret, ↓n_exit, ↓b_normal, ↓b_ret, ↓b_exit, ↓e_normal, ↓e_ret, e_some, go_sem, ↓reduceIte, Nat.reduceEqDiff, Nat.reduceLT, Nat.reduceSub, A_tree_Tree_Move_4, Bool.not_false, vload, vptr, Mem.read, g6, hrs, Nat.add_zero, vstore, hcs, spC_len, hw0, hs0, Option.bind_some, oneOf, Nat.reduceEqDiff]
        exact bad 3 (by rw [moveE, hb, h3]; rfl) (by decide)
      | true =>
        simp -dsimp only [↓w_seq, ↓w_ops, ↓w_skip, ↓w_ret, ↓w_exit, ↓w_scope, ↓w_block, ↓w_cond, cond_true', cond_false', ↓t_nil, ↓t_plain, ↓t_guard, ↓t_gagain, ↓t_again, t_val, t_call, g_true, g_false, ga_true, ga_false, a_val, a_call, ↓n_normal, ↓n_ret, ↓n_exit, ↓b_normal, ↓b_ret, ↓b_exit, ↓e_normal, ↓e_ret, e_some, go_sem, ↓reduceIte, Nat.reduceEqDiff, Nat.reduceLT, Nat.reduceSub, Bool.not_true, vload, vptr, Mem.read, g5, hrp, Nat.add_zero]
        refine call_eq (has_p rfl T1.of hg1 s.1) ?_
        cases h4 : hasB l s.1 with
        | false =>
          simp -dsimp only [↓w_seq, ↓w_ops, ↓w_skip, ↓w_ret, ↓w_exit, ↓w_scope, ↓w_block, ↓w_cond, cond_true', cond_false', ↓t_nil, ↓t_plain, ↓t_guard, ↓t_gagain, ↓t_again, t_val, t_call, g_true, g_false, ga_true, ga_false, a_val, a_call, ↓n_normal, ↓n_ret, ↓n_exit, ↓b_normal, ↓b_ret, ↓b_exit, ↓e_normal, ↓e_ret, e_some, go_sem, ↓reduceIte, Nat.reduceEqDiff, Nat.reduceLT, Nat.reduceSub, A_tree_Tree_Move_4, Bool.not_false, vload, vptr, Mem.read, g6, hrs, Nat.add_zero, vstore, hcs, spC_len, hw0, hs0, Option.bind_some, oneOf, Nat.reduceEqDiff]
          exact bad 3 (by rw [moveE, hb, h3, h4]; rfl) (by decide)
        | true =>
          simp -dsimp only [↓w_seq, ↓w_ops, ↓w_skip, ↓w_ret, ↓w_exit, ↓w_scope, ↓w_block, ↓w_cond, cond_true', cond_false', ↓t_nil, ↓t_plain, ↓t_guard, ↓t_gagain, ↓t_again, t_val, t_call, g_true, g_false, ga_true, ga_false, a_val, a_call, ↓n_normal, ↓n_ret, ↓n_exit, ↓b_normal, ↓b_ret, ↓b_exit, ↓e_normal, ↓e_ret, e_some, go_sem, ↓reduceIte, Nat.reduceEqDiff, Nat.reduceLT, Nat.reduceSub, A_tree_Tree_Move_5, Bool.not_true, vload, vptr, Mem.read, g4, g5, hrn, hrp, Nat.add_zero]
          refine call_eq (within_p rfl T1.of n s.1 (hI.path s.1)) ?_
          cases h5 : withinB l n s.1 (pathOf l s.1) with
          | true =>
            simp -dsimp only [↓w_seq, ↓w_ops, ↓w_skip, ↓w_ret, ↓w_exit, ↓w_scope, ↓w_block, ↓w_cond, cond_true', cond_false', ↓t_nil, ↓t_plain, ↓t_guard, ↓t_gagain, ↓t_again, t_val, t_call, g_true, g_false, ga_true, ga_false, a_val, a_call, ↓n_normal, ↓n_ret, ↓n_exit, ↓b_normal, ↓b_ret, ↓b_exit, ↓e_normal, ↓e_ret, e_some, go_sem, ↓reduceIte, Nat.reduceEqDiff, Nat.reduceLT, Nat.reduceSub, A_tree_Tree_Move_6, vload, vptr, Mem.read, g6, hrs, Nat.add_zero, vstore, hcs, spC_len, hw0, hs0, Option.bind_some, oneOf, Nat.reduceEqDiff]
            exact bad 41 (by rw [moveE, hb, h3, h4, h5]; rfl) (by decide)
          | false =>
            have h0 : moveE l n s = 0 := by rw [moveE, hb, h3, h4, h5]; rfl
            have hw1 := write_full (vs := spC ((getS l n).getD sp0)) g6 rfl rfl
            simp -dsimp only [↓w_seq, ↓w_ops, ↓w_skip, ↓w_ret, ↓w_exit, ↓w_scope, ↓w_block, ↓w_cond, cond_true', cond_false', ↓t_nil, ↓t_plain, ↓t_guard, ↓t_gagain, ↓t_again, t_val, t_call, g_true, g_false, ga_true, ga_false, a_val, a_call, ↓n_normal, ↓n_ret, ↓n_exit, ↓b_normal, ↓b_ret, ↓b_exit, ↓e_normal, ↓e_ret, e_some, go_sem, ↓reduceIte, Nat.reduceEqDiff, Nat.reduceLT, Nat.reduceSub, A_tree_Tree_Move_7, vload, vptr, Mem.read, T1.c, g4, hrn, Nat.add_zero, List.getElem?_cons_zero, look1 T1.at_ n, vof, vstore, hcs, spC_len, hw1, Nat.reduceEqDiff]
            have hG2 := hG.upd (b := M.next + 1 + 1) (by omega) (Upd.set M1 (M.next + 1 + 1) (.cells (spC ((getS l n).getD sp0)) false))
            have hs2 := Mem.get_set_same M1 (M.next + 1 + 1) (.cells (spC ((getS l n).getD sp0)) false)
            have k4 : (M1.set (M.next + 1 + 1) (.cells (spC ((getS l n).getD sp0)) false)).get M.next = some (.cells (stC n) false) := (Mem.get_set_ne _ _ (by omega)).trans g4
            have k5 : (M1.set (M.next + 1 + 1) (.cells (spC ((getS l n).getD sp0)) false)).get (M.next + 1) = some (.cells (spC s) false) := (Mem.get_set_ne _ _ (by omega)).trans g5
            have T2 := T.grew hG2
            generalize M1.set (M.next + 1 + 1) (.cells (spC ((getS l n).getD sp0)) false) = M2 at *
            have T3 := T.set (l' := putS l n s) hG2
            have hlt := T.bl
            have hC := Chg.set (b := bm) (o := .map (encM (putS l n s))) hG2
            have hs3 : (M2.set bm (.map (encM (putS l n s)))).get (M.next + 1 + 1) = some (.cells (spC ((getS l n).getD sp0)) false) := (Mem.get_set_ne _ _ (by omega)).trans hs2
            simp -dsimp only [↓w_seq, ↓w_ops, ↓w_skip, ↓w_ret, ↓w_exit, ↓w_scope, ↓w_block, ↓w_cond, cond_true', cond_false', ↓t_nil, ↓t_plain, ↓t_guard, ↓t_gagain, ↓t_again, t_val, t_call, g_true, g_false, ga_true, ga_false, a_val, a_call, ↓n_normal, ↓n_ret, ↓n_exit, ↓b_normal, ↓b_ret, ↓b_exit, ↓e_normal, ↓e_ret, e_some, go_sem, ↓reduceIte, Nat.reduceEqDiff, Nat.reduceLT, Nat.reduceSub, A_tree_Tree_Move_8, vload, vptr, Mem.read, T2.c, k4, k5, hrn, hrs, Nat.add_zero, List.getElem?_cons_zero, put_is T2.m n s, Option.map_some]
            generalize M2.set bm (.map (encM (putS l n s))) = M3 at *
            have hw3 := write_full (vs := spC ((getS l n).getD sp0)) hs3 rfl rfl
            simp -dsimp only [↓w_seq, ↓w_ops, ↓w_skip, ↓w_ret, ↓w_exit, ↓w_scope, ↓w_block, ↓w_cond, cond_true', cond_false', ↓t_nil, ↓t_plain, ↓t_guard, ↓t_gagain, ↓t_again, t_val, t_call, g_true, g_false, ga_true, ga_false, a_val, a_call, ↓n_normal, ↓n_ret, ↓n_exit, ↓b_normal, ↓b_ret, ↓b_exit, ↓e_normal, ↓e_ret, e_some, go_sem, ↓reduceIte, Nat.reduceEqDiff, Nat.reduceLT, Nat.reduceSub, A_tree_Tree_Move_9, vload, vptr, Mem.read, hs3, hrs, Nat.add_zero, vstore, hcs, spC_len, hw3, Option.bind_some, oneOf, Nat.reduceEqDiff]
            have hs4 := Mem.get_set_same M3 (M.next + 1 + 1) (.cells (spC ((getS l n).getD sp0)) false)
            have T4 := TreeIn.set_new (o := .cells (spC ((getS l n).getD sp0)) false) T T3 (show M.next ≤ M.next + 1 + 1 by omega)
            have hC4 := hC.set_new (o := .cells (spC ((getS l n).getD sp0)) false) (show M.next ≤ M.next + 1 + 1 by omega)
            generalize M3.set (M.next + 1 + 1) (.cells (spC ((getS l n).getD sp0)) false) = M4 at *
            simp only [hs4, hrs, Option.map_some, Option.bind_some, e_some, oneOf]
            exact hR _ _ ⟨by rw [moveW, if_pos h0, h0]; rfl, hC4, by rw [moveT, if_pos h0]; exact T4⟩

def dropE (l : Tr) (n : St) : Nat := if (getS l n).isSome = false then 3 else if 0 < (belowL l n).length then 4 else 0
def dropT (l : Tr) (n : St) : Tr := if dropE l n = 0 then delS l n else l
def dropW (l : Tr) (n : St) : Spot := if dropE l n = 0 then (getS l n).getD sp0 else sp0

theorem Drop_runs (M : Mem) (tc bm : Nat) (l : Tr) (n : St) (T : TreeIn M tc bm l) (hN : (l.length + 1) * 16 ≤ maxRoom) :
    Runs D2 F_tree_Tree_Drop [.ptr (some (tc, 0)), .agg (stC n)] M fun v M' => v = .tup [.agg (spC (dropW l n)), .int .i64 (dropE l n : Int)] ∧ Chg M bm M' ∧ TreeIn M' tc bm (dropT l n) := by
  refine R_opq fun R hR => ?_
  refine Runs.walk (F := A_tree_Tree_Drop) rfl (by rfl) (by rfl) ?_
  unfold A_tree_Tree_Drop
  have hcn : V.cells (.agg (stC n)) = stC n := rfl
  have hcs : ∀ s, V.cells (.agg (spC s)) = spC s := fun _ => rfl
  have hrn : rdCells (stC n) 0 2 = some (stC n) := rfl
  have hrs : ∀ s, rdCells (spC s) 0 3 = some (spC s) := fun _ => rfl
  have hG := (Grew.push M (.cells (stC n) false)).trans (Grew.push _ (.cells [.int .i64 0, .int .i64 0, .str []] false))
  have g3 : ((M.push (.cells (stC n) false)).push (.cells [.int .i64 0, .int .i64 0, .str []] false)).get M.next = some (.cells (stC n) false) := by rw [Mem.get_push_ne _ _ (by simp), Mem.get_push_same]
  have g4 : ((M.push (.cells (stC n) false)).push (.cells [.int .i64 0, .int .i64 0, .str []] false)).get (M.next + 1) = some (.cells (spC sp0) false) := Mem.get_push_same (M.push _) _
  have hn1 : ((M.push (.cells (stC n) false)).push (.cells [.int .i64 0, .int .i64 0, .str []] false)).next = M.next + 2 := rfl
  simp -dsimp only [↓w_seq, ↓w_ops, ↓w_skip, ↓w_ret, ↓w_exit, ↓w_scope, ↓w_block, ↓w_cond, cond_true', cond_false', ↓t_nil, ↓t_plain, ↓t_guard, ↓t_gagain, ↓t_again, t_val, t_call, g_true, g_false, ga_true, ga_false, a_val, a_call, ↓n_normal, ↓n_ret, ↓n_exit, ↓b_normal, ↓b_ret, ↓b_exit, ↓e_normal, ↓e_ret, e_some, go_sem, ↓reduceIte, Nat.reduceEqDiff, Nat.reduceLT, Nat.reduceSub, A_tree_Tree_Drop_0, A_tree_Tree_Drop_1, hcn, hcs, Mem.next_push]
  have T1 := T.grew hG
  generalize (M.push (.cells (stC n) false)).push (.cells [.int .i64 0, .int .i64 0, .str []] false) = M1 at *
  have bad : ∀ (M1 : Mem) (e : Nat), Grew M M1 → dropE l n = e → e ≠ 0 → R (.tup [.agg (spC sp0), .int .i64 (e : Int)]) (M1.set (M.next + 1) (.cells (spC sp0) false)) := fun M1 e hG h1 h2 => by
    have hG0 := hG.upd (b := M.next + 1) (by omega) (Upd.set M1 (M.next + 1) (.cells (spC sp0) false))
    exact hR _ _ ⟨by rw [dropW, if_neg (by omega), h1], Chg.of hG0, by rw [dropT, if_neg (by omega)]; exact T.grew hG0⟩
  refine call_eq (none_p rfl T1.of) ?_
  simp -dsimp only [↓w_seq, ↓w_ops, ↓w_skip, ↓w_ret, ↓w_exit, ↓w_scope, ↓w_block, ↓w_cond, cond_true', cond_false', ↓t_nil, ↓t_plain, ↓t_guard, ↓t_gagain, ↓t_again, t_val, t_call, g_true, g_false, ga_true, ga_false, a_val, a_call, ↓n_normal, ↓n_ret, ↓n_exit, ↓b_normal, ↓b_ret, ↓b_exit, ↓e_normal, ↓e_ret, e_some, go_sem, ↓reduceIte, Nat.reduceEqDiff, Nat.reduceLT, Nat.reduceSub, A_tree_Tree_Drop_3, vload, vptr, Mem.read, g3, hrn]
  refine call_eq (node_p rfl T1.of n) ?_
  cases h3 : (getS l n).isSome with
  | false =>
    have hw0 := write_full (vs := spC sp0) g4 rfl rfl
    have hs0 := Mem.get_set_same M1 (M.next + 1) (.cells (spC sp0) false)
    simp -dsimp only [↓w_seq, ↓w_ops, ↓w_skip, ↓w_ret, ↓w_exit, ↓w_scope, ↓w_block, ↓w_cond, cond_true', cond_false', ↓t_nil, ↓t_plain, ↓t_guard, ↓t_gagain, ↓t_again, t_val, t_call, g_true, g_false, ga_true, ga_false, a_val, a_call, ↓n_normal, ↓n_ret, ↓n_exit, ↓b_normal, ↓b_ret, ↓b_exit, ↓e_normal, ↓e_ret, e_some, go_sem, ↓reduceIte, Nat.reduceEqDiff, Nat.reduceLT, Nat.reduceSub, A_tree_Tree_Drop_4, Bool.not_false, vload, vptr, Mem.read, g4, hrs, Nat.add_zero, vstore, hcs, spC_len, hw0, hs0, Option.bind_some, oneOf, Nat.reduceEqDiff]
    exact bad M1 3 hG (by rw [dropE, h3]; rfl) (by decide)
  | true =>
    simp -dsimp only [↓w_seq, ↓w_ops, ↓w_skip, ↓w_ret, ↓w_exit, ↓w_scope, ↓w_block, ↓w_cond, cond_true', cond_false', ↓t_nil, ↓t_plain, ↓t_guard, ↓t_gagain, ↓t_again, t_val, t_call, g_true, g_false, ga_true, ga_false, a_val, a_call, ↓n_normal, ↓n_ret, ↓n_exit, ↓b_normal, ↓b_ret, ↓b_exit, ↓e_normal, ↓e_ret, e_some, go_sem, ↓reduceIte, Nat.reduceEqDiff, Nat.reduceLT, Nat.reduceSub, A_tree_Tree_Drop_5, Bool.not_true, vload, vptr, Mem.read, g3, hrn]
    refine call_of (Below_runs M1 tc bm l n T1 hN) ?_
    intro v M2 hv
    obtain ⟨hG2, hH⟩ := hv
    obtain ⟨a, cap, rfl⟩ := hH.shape
    have k4 := (hG2.old _ (by omega)).trans g4
    have k3 := (hG2.old _ (by omega)).trans g3
    have T2 := T1.grew hG2
    have hGG := hG.trans hG2
    by_cases h4 : 0 < (belowL l n).length
    · have h4' : (0 : Int) < ((belowL l n).length : Int) := by omega
      have hw0 := write_full (vs := spC sp0) k4 rfl rfl
      have hs0 := Mem.get_set_same M2 (M.next + 1) (.cells (spC sp0) false)
      simp -dsimp only [↓w_seq, ↓w_ops, ↓w_skip, ↓w_ret, ↓w_exit, ↓w_scope, ↓w_block, ↓w_cond, cond_true', cond_false', ↓t_nil, ↓t_plain, ↓t_guard, ↓t_gagain, ↓t_again, t_val, t_call, g_true, g_false, ga_true, ga_false, a_val, a_call, ↓n_normal, ↓n_ret, ↓n_exit, ↓b_normal, ↓b_ret, ↓b_exit, ↓e_normal, ↓e_ret, e_some, go_sem, ↓reduceIte, Nat.reduceEqDiff, Nat.reduceLT, Nat.reduceSub, h4', decide_true, A_tree_Tree_Drop_6, vload, vptr, Mem.read, k4, hrs, Nat.add_zero, vstore, hcs, spC_len, hw0, hs0, Option.bind_some, oneOf, Nat.reduceEqDiff]
      exact bad M2 4 hGG (by rw [dropE, h3, if_pos h4]; rfl) (by decide)
    · have h4' : ¬ (0 : Int) < ((belowL l n).length : Int) := by omega
      have h0 : dropE l n = 0 := by rw [dropE, h3, if_neg h4]; rfl
      have hw1 := write_full (vs := spC ((getS l n).getD sp0)) k4 rfl rfl
      simp -dsimp only [↓w_seq, ↓w_ops, ↓w_skip, ↓w_ret, ↓w_exit, ↓w_scope, ↓w_block, ↓w_cond, cond_true', cond_false', ↓t_nil, ↓t_plain, ↓t_guard, ↓t_gagain, ↓t_again, t_val, t_call, g_true, g_false, ga_true, ga_false, a_val, a_call, ↓n_normal, ↓n_ret, ↓n_exit, ↓b_normal, ↓b_ret, ↓b_exit, ↓e_normal, ↓e_ret, e_some, go_sem, ↓reduceIte, Nat.reduceEqDiff, Nat.reduceLT, Nat.reduceSub, h4', decide_false, A_tree_Tree_Drop_7, vload, vptr, Mem.read, T2.c, k3, hrn, Nat.add_zero, List.getElem?_cons_zero, look1 T2.at_ n, vof, vstore, hcs, spC_len, hw1, Nat.reduceEqDiff]
      have hG3 := hGG.upd (b := M.next + 1) (by omega) (Upd.set M2 (M.next + 1) (.cells (spC ((getS l n).getD sp0)) false))
      have hs2 := Mem.get_set_same M2 (M.next + 1) (.cells (spC ((getS l n).getD sp0)) false)
      have j3 : (M2.set (M.next + 1) (.cells (spC ((getS l n).getD sp0)) false)).get M.next = some (.cells (stC n) false) := (Mem.get_set_ne _ _ (by omega)).trans k3
      have T3 := T.grew hG3
      generalize M2.set (M.next + 1) (.cells (spC ((getS l n).getD sp0)) false) = M3 at *
      have T4 := T.set (l' := delS l n) hG3
      have hlt := T.bl
      have hC := Chg.set (b := bm) (o := .map (encM (delS l n))) hG3
      have hs3 : (M3.set bm (.map (encM (delS l n)))).get (M.next + 1) = some (.cells (spC ((getS l n).getD sp0)) false) := (Mem.get_set_ne _ _ (by omega)).trans hs2
      simp -dsimp only [↓w_seq, ↓w_ops, ↓w_skip, ↓w_ret, ↓w_exit, ↓w_scope, ↓w_block, ↓w_cond, cond_true', cond_false', ↓t_nil, ↓t_plain, ↓t_guard, ↓t_gagain, ↓t_again, t_val, t_call, g_true, g_false, ga_true, ga_false, a_val, a_call, ↓n_normal, ↓n_ret, ↓n_exit, ↓b_normal, ↓b_ret, ↓b_exit, ↓e_normal, ↓e_ret, e_some, go_sem, ↓reduceIte, Nat.reduceEqDiff, Nat.reduceLT, Nat.reduceSub, A_tree_Tree_Drop_8, vload, vptr, Mem.read, T3.c, j3, hrn, Nat.add_zero, List.getElem?_cons_zero, del_is T3.m n, Option.map_some]
      generalize M3.set bm (.map (encM (delS l n))) = M4 at *
      have hw3 := write_full (vs := spC ((getS l n).getD sp0)) hs3 rfl rfl
      simp -dsimp only [↓w_seq, ↓w_ops, ↓w_skip, ↓w_ret, ↓w_exit, ↓w_scope, ↓w_block, ↓w_cond, cond_true', cond_false', ↓t_nil, ↓t_plain, ↓t_guard, ↓t_gagain, ↓t_again, t_val, t_call, g_true, g_false, ga_true, ga_false, a_val, a_call, ↓n_normal, ↓n_ret, ↓n_exit, ↓b_normal, ↓b_ret, ↓b_exit, ↓e_normal, ↓e_ret, e_some, go_sem, ↓reduceIte, Nat.reduceEqDiff, Nat.reduceLT, Nat.reduceSub, A_tree_Tree_Drop_9, vload, vptr, Mem.read, hs3, hrs, Nat.add_zero, vstore, hcs, spC_len, hw3, Option.bind_some, oneOf, Nat.reduceEqDiff]
      have hs4 := Mem.get_set_same M4 (M.next + 1) (.cells (spC ((getS l n).getD sp0)) false)
      have T5 := TreeIn.set_new (o := .cells (spC ((getS l n).getD sp0)) false) T T4 (show M.next ≤ M.next + 1 by omega)
      have hC5 := hC.set_new (o := .cells (spC ((getS l n).getD sp0)) false) (show M.next ≤ M.next + 1 by omega)
      generalize M4.set (M.next + 1) (.cells (spC ((getS l n).getD sp0)) false) = M5 at *
      simp only [hs4, hrs, Option.map_some, Option.bind_some, e_some, oneOf]
      exact hR _ _ ⟨by rw [dropW, if_pos h0, h0]; rfl, hC5, by rw [dropT, if_pos h0]; exact T5⟩

/-! ### acts -/
abbrev Act := Int × St × Spot
def actC (a : Act) : List V := .int .i64 a.1 :: stC a.2.1 ++ spC a.2.2
def doT (l : Tr) (a : Act) : Tr := if a.1 = 0 then addT l a.2.1 a.2.2 else if a.1 = 1 then moveT l a.2.1 a.2.2 else if a.1 = 2 then dropT l a.2.1 else l

end Go.Am.Tryd


/- Trees, plainly: acts keep the tree a tree. -/
namespace Go.Am.Tryd
open Go Go.Am Go.Proofs Go.Sort Go.Shelf
set_option maxRecDepth 100000
set_option linter.unusedSimpArgs false
set_option linter.unusedVariables false

theorem node_pos {n : St} (h : nodeSt n = true) : 0 < n.1 := by
  simp only [nodeSt, Bool.and_eq_true, decide_eq_true_eq] at h
  exact h.2
theorem hasB_P {l : Tr} {p : St} (h : hasB l p = true) : hasP l p := by
  simp only [hasB, Bool.or_eq_true, Bool.and_eq_true, Bool.not_eq_true'] at h
  rcases h with h | ⟨h1, h2⟩
  · exact .inl h
  · simp only [placeSt, h2, Bool.false_or, Bool.or_eq_true, decide_eq_true_eq] at h1
    exact .inr h1
theorem Inv.no_up {l : Tr} (h : Inv l) {n : St} (h0 : 0 < n.1) (hn : getS l n = none) {p : St} (hp : hasP l p) : n ∉ p :: pathOf l p := by
  have key : ∀ q, hasP l q → q ≠ n := fun q hq e => by
    subst e
    rcases hq with h1 | h1 | h1
    · rw [hn] at h1; cases h1
    · rw [h1] at h0; exact absurd h0 (by decide)
    · rw [h1] at h0; exact absurd h0 (by decide)
  intro hm
  rcases List.mem_cons.mp hm with e | hm
  · exact key p hp e.symm
  · obtain ⟨k, s, h1, h2⟩ := (h.path p).met hm
    exact key _ (h.par k s h1) h2

theorem addE_0 {l : Tr} {n : St} {s : Spot} (h : addE l n s = 0) : nodeSt n = true ∧ rightSp s = true ∧ getS l n = none ∧ hasB l s.1 = true ∧ l.length < 65536 := by
  unfold addE at h
  split at h
  · cases h
  · rename_i h1
    split at h
    · cases h
    · rename_i h2
      split at h
      · cases h
      · rename_i h3
        split at h
        · cases h
        · rename_i h4
          simp only [Bool.not_eq_false, Bool.and_eq_true] at h1 h3
          refine ⟨h1.1, h1.2, ?_, h3, by omega⟩
          cases hg : getS l n with
          | none => rfl
          | some t => rw [hg] at h2; exact absurd rfl h2
theorem moveE_0 {l : Tr} {n : St} {s : Spot} (h : moveE l n s = 0) : nodeSt n = true ∧ rightSp s = true ∧ (getS l n).isSome = true ∧ hasB l s.1 = true ∧ withinB l n s.1 (pathOf l s.1) = false := by
  unfold moveE at h
  split at h
  · cases h
  · rename_i h1
    split at h
    · cases h
    · rename_i h2
      split at h
      · cases h
      · rename_i h3
        simp only [Bool.not_eq_false, Bool.and_eq_true] at h1 h2
        exact ⟨h1.1, h1.2, h2.1, h2.2, by simpa using h3⟩
theorem dropE_0 {l : Tr} {n : St} (h : dropE l n = 0) : (getS l n).isSome = true ∧ belowL l n = [] := by
  unfold dropE at h
  split at h
  · cases h
  · rename_i h1
    split at h
    · cases h
    · rename_i h2
      exact ⟨by rwa [Bool.not_eq_false] at h1, List.eq_nil_of_length_eq_zero (by omega)⟩
theorem mem_nodes {l : Tr} {n : St} : n ∈ nodesL l ↔ n ∈ keysS l := (isort_perm ltSt (keysS l)).mem_iff
theorem mem_below {l : Tr} {n p : St} : n ∈ belowL l p ↔ ∃ s, getS l n = some s ∧ s.1 = p := by
  unfold belowL belF
  rw [List.mem_filter, mem_nodes, ← get_mem, decide_eq_true_eq]
  constructor
  · rintro ⟨h1, h2⟩
    cases hg : getS l n with
    | none => rw [hg] at h1; cases h1
    | some s => rw [hg] at h2; exact ⟨s, rfl, h2⟩
  · rintro ⟨s, h1, h2⟩
    rw [h1]
    exact ⟨rfl, h2⟩
theorem Inv.add {l : Tr} (h : Inv l) (n : St) (s : Spot) : Inv (addT l n s) := by
  unfold addT
  split
  · rename_i h0
    obtain ⟨h1, _, h3, h4, _⟩ := addE_0 h0
    exact h.put (node_pos h1) (hasB_P h4) (h.no_up (node_pos h1) h3 (hasB_P h4))
  · exact h
theorem Inv.move {l : Tr} (h : Inv l) (n : St) (s : Spot) : Inv (moveT l n s) := by
  unfold moveT
  split
  · rename_i h0
    obtain ⟨h1, _, h3, h4, h5⟩ := moveE_0 h0
    refine h.put (node_pos h1) (hasB_P h4) fun hm => ?_
    simp only [withinB] at h5
    cases hs : getS l s.1 with
    | some t =>
      rw [hs] at h5
      simp only [Option.isSome_some, Bool.true_and, Bool.or_eq_false_iff, decide_eq_false_iff_not] at h5
      rcases List.mem_cons.mp hm with e | hm
      · exact h5.2 e
      · exact h5.1 hm
    | none =>
      have := (PathN.nil hs).eq
      rw [← this] at hm
      simp only [List.mem_singleton] at hm
      rw [hm, hs] at h3
      cases h3
  · exact h
theorem Inv.drop {l : Tr} (h : Inv l) (n : St) : Inv (dropT l n) := by
  unfold dropT
  split
  · rename_i h0
    obtain ⟨h1, h2⟩ := dropE_0 h0
    refine h.del fun m s hm e => ?_
    have : m ∈ belowL l n := mem_below.mpr ⟨s, hm, e⟩
    rw [h2] at this
    cases this
  · exact h
theorem Inv.act {l : Tr} (h : Inv l) (a : Act) : Inv (doT l a) := by
  unfold doT
  split
  · exact h.add _ _
  · split
    · exact h.move _ _
    · split
      · exact h.drop _
      · exact h
theorem put_len (n : St) (s : Spot) : ∀ l : Tr, (putS l n s).length ≤ l.length + 1
  | [] => by simp [putS]
  | p :: r => by
    unfold putS
    split
    · simp
    · have := put_len n s r
      simp only [List.length_cons]
      omega
theorem del_len (n : St) : ∀ l : Tr, (delS l n).length ≤ l.length
  | [] => by simp [delS]
  | p :: r => by
    unfold delS
    split
    · simp
    · have := del_len n r
      simp only [List.length_cons]
      omega
theorem act_len (l : Tr) (a : Act) : (doT l a).length ≤ l.length + 1 := by
  unfold doT addT moveT dropT
  split
  · split
    · exact put_len _ _ _
    · omega
  · split
    · split
      · exact put_len _ _ _
      · omega
    · split
      · split
        · have := del_len a.2.1 l; omega
        · omega
      · omega
/-- The tree that acts come to. -/
def actsT (acts : List Act) : Tr := acts.foldl doT []
theorem acts_snoc (acts : List Act) (a : Act) : actsT (acts ++ [a]) = doT (actsT acts) a := by simp [actsT]
theorem inv_acts (acts : List Act) : Inv (actsT acts) := by
  unfold actsT
  have : ∀ (acts : List Act) (l : Tr), Inv l → Inv (acts.foldl doT l) := by
    intro acts
    induction acts with
    | nil => exact fun l h => h
    | cons a acts ih => exact fun l h => ih _ (h.act a)
  exact this acts [] inv_nil
theorem len_acts (acts : List Act) : (actsT acts).length ≤ acts.length := by
  unfold actsT
  have : ∀ (acts : List Act) (l : Tr), (acts.foldl doT l).length ≤ l.length + acts.length := by
    intro acts
    induction acts with
    | nil => exact fun l => by simp
    | cons a acts ih =>
      intro l
      have h1 := ih (doT l a)
      have h2 := act_len l a
      simp only [List.foldl_cons, List.length_cons]
      omega
  simpa using this acts []
theorem room_small {n : Nat} (h : n ≤ 1000) : (n + 1) * 16 ≤ maxRoom := by
  have hmx : maxRoom = 17592186044416 := rfl
  omega
end Go.Am.Tryd


/- The law TreeReaches on the machine. -/
namespace Go.Am.Tryd
open Go Go.Am Go.Proofs Go.Sort Go.Shelf
set_option maxRecDepth 100000
set_option linter.unusedSimpArgs false
set_option linter.unusedVariables false

def decAct : List V → Option Act
  | [.int .i64 k, .int .i64 a, .int .i64 b, .int .i64 c, .int .i64 d, .str s] => some (k, (a, b), ((c, d), s))
  | _ => none
def elAct : Elem Act where
  k := 6
  cv := actC
  enc x := [.int .i64 x.1, .int .i64 x.2.1.1, .int .i64 x.2.1.2, .int .i64 x.2.2.1.1, .int .i64 x.2.2.1.2, .string ⟨x.2.2.2.toArray⟩]
  dec := decAct
  k_pos := by omega
  len _ := rfl
  elen _ := rfl
  dec_some cs x h := by unfold decAct at h; split at h <;> cases h; rfl
  dec_cv _ := rfl
  rel E x := .cons (.int _ _) (.cons (.int _ _) (.cons (.int _ _) (.cons (.int _ _) (.cons (.int _ _) (.cons (by have := VR.str (E := E) ⟨x.2.2.2.toArray⟩; simpa using this) .nil)))))
  rel_eq E x us h := by
    cases h with
    | cons h1 t => cases t with
      | cons h2 t => cases t with
        | cons h3 t => cases t with
          | cons h4 t => cases t with
            | cons h5 t => cases t with
              | cons h6 t =>
                cases t; cases h1; cases h2; cases h3; cases h4; cases h5
                generalize hs : V.str x.2.2.2 = v at h6
                cases h6 <;> first | (cases hs; done) | skip
                rename_i s
                have hx := V.str.inj hs
                rw [hx]
  one x v hv := by simp at hv; rcases hv with rfl | rfl | rfl | rfl | rfl | rfl <;> rfl
  one' _ := rfl
  flat _ := rfl

theorem act_at {M : Mem} {s : V} {xs : List Act} (h : SlR elAct M s xs) {i : Nat} (hi : i < xs.length) : ∃ b o cs ro cap, s = .slice (some (b, o)) xs.length cap ∧ M.get b = some (.cells cs ro) ∧ rdCells cs (o + i * 6) 6 = some (actC xs[i]) ∧ cs[o + i * 6 + 5]? = some (.str xs[i].2.2.2) := by
  obtain ⟨a, cap, rfl, h⟩ := h
  rcases h with h | ⟨b, o, cs, ro, rfl, h1, h2⟩
  · subst h; simp at hi
  · exact ⟨b, o, cs, ro, cap, rfl, h1, h2 i hi, rd_cell (h2 i hi) 5 (by decide)⟩

theorem Long_loop (s : V) (acts : List Act) (M : Mem) (hs : SlR elAct M s acts) (hk : ∀ x ∈ acts, x.2.2.2.length < 2 ^ 63) {Q : AExit → Fr → Mem → Prop}
    (hE : ∀ fr, fr.rd 0 = s → Q (.exit 0) fr M) (hR : ∀ fr, fr.rd 2 = .bool true → Q .ret fr M) :
    ∀ (f i : Nat) (fr : Fr), i + f = 300 → fr.rd 0 = s → fr.rd 3 = .int .i64 (i : Int) → WC D2 25 (.loop A_law10_Long_6) fr M Q := by
  intro f
  induction f with
  | zero =>
    intro i fr hi h0 h3
    refine WC.loop (W_of ?_)
    unfold A_law10_Long_6
    obtain ⟨a, cap, rfl, _⟩ := id hs
    have h2 : ¬ (i : Int) < 300 := by omega
    by_cases hil : (i : Int) < acts.length
    · simp -dsimp only [↓w_seq, ↓w_ops, ↓w_skip, ↓w_ret, ↓w_exit, ↓w_scope, ↓w_block, ↓w_cond, cond_true', cond_false', ↓t_nil, ↓t_plain, ↓t_guard, ↓t_gagain, ↓t_again, t_val, t_call, g_true, g_false, ga_true, ga_false, a_val, a_call, ↓n_normal, ↓n_ret, ↓n_exit, ↓b_normal, ↓b_ret, ↓b_exit, ↓e_normal, ↓e_ret, e_some, go_sem, ↓reduceIte, Nat.reduceEqDiff, Nat.reduceLT, Nat.reduceSub, A_law10_Long_2, h0, h3, hil, h2, decide_true, decide_false]
      exact hE _ (by simp only [go_sem, ↓reduceIte, Nat.reduceEqDiff, Nat.reduceLT, Nat.reduceSub, h0])
    · simp -dsimp only [↓w_seq, ↓w_ops, ↓w_skip, ↓w_ret, ↓w_exit, ↓w_scope, ↓w_block, ↓w_cond, cond_true', cond_false', ↓t_nil, ↓t_plain, ↓t_guard, ↓t_gagain, ↓t_again, t_val, t_call, g_true, g_false, ga_true, ga_false, a_val, a_call, ↓n_normal, ↓n_ret, ↓n_exit, ↓b_normal, ↓b_ret, ↓b_exit, ↓e_normal, ↓e_ret, e_some, go_sem, ↓reduceIte, Nat.reduceEqDiff, Nat.reduceLT, Nat.reduceSub, A_law10_Long_2, h0, h3, hil, h2, decide_true, decide_false]
      exact hE _ (by simp only [go_sem, ↓reduceIte, Nat.reduceEqDiff, Nat.reduceLT, Nat.reduceSub, h0])
  | succ f ih =>
    intro i fr hi h0 h3
    refine WC.loop (W_of ?_)
    unfold A_law10_Long_6
    have h2 : (i : Int) < 300 := by omega
    have h5' : (i : Int) + 1 = ((i + 1 : Nat) : Int) := by omega
    by_cases hil : i < acts.length
    · obtain ⟨b, o, cs, ro, cap, rfl, hM, hr, hk5⟩ := act_at hs hil
      rw [Nat.add_assoc] at hk5
      have e1 : (i : Int) < acts.length := by omega
      have e2 : i + 1 ≤ acts.length := by omega
      have hkl := hk _ (List.getElem_mem hil)
      by_cases h500 : (500 : Int) < acts[i].2.2.2.length
      · simp -dsimp only [↓w_seq, ↓w_ops, ↓w_skip, ↓w_ret, ↓w_exit, ↓w_scope, ↓w_block, ↓w_cond, cond_true', cond_false', ↓t_nil, ↓t_plain, ↓t_guard, ↓t_gagain, ↓t_again, t_val, t_call, g_true, g_false, ga_true, ga_false, a_val, a_call, ↓n_normal, ↓n_ret, ↓n_exit, ↓b_normal, ↓b_ret, ↓b_exit, ↓e_normal, ↓e_ret, e_some, go_sem, ↓reduceIte, Nat.reduceEqDiff, Nat.reduceLT, Nat.reduceSub, A_law10_Long_2, A_law10_Long_3, A_law10_Long_4, h0, h3, e1, h2, e2, decide_true, decide_false, vload, vptr, Mem.read, hM, Nat.add_assoc, Nat.reduceAdd, hk5, vof, h500]
        exact hR _ (by simp only [go_sem, ↓reduceIte, Nat.reduceEqDiff, Nat.reduceLT, Nat.reduceSub])
      · simp -dsimp only [↓w_seq, ↓w_ops, ↓w_skip, ↓w_ret, ↓w_exit, ↓w_scope, ↓w_block, ↓w_cond, cond_true', cond_false', ↓t_nil, ↓t_plain, ↓t_guard, ↓t_gagain, ↓t_again, t_val, t_call, g_true, g_false, ga_true, ga_false, a_val, a_call, ↓n_normal, ↓n_ret, ↓n_exit, ↓b_normal, ↓b_ret, ↓b_exit, ↓e_normal, ↓e_ret, e_some, go_sem, ↓reduceIte, Nat.reduceEqDiff, Nat.reduceLT, Nat.reduceSub, A_law10_Long_2, A_law10_Long_3, A_law10_Long_5, h0, h3, e1, h2, e2, decide_true, decide_false, vload, vptr, Mem.read, hM, Nat.add_assoc, Nat.reduceAdd, hk5, vof, h500, h5', IntWalk.i64_in ((i + 1 : Nat) : Int) (by omega)]
        refine ih (i + 1) _ (by omega) ?_ ?_
        all_goals simp only [go_sem, ↓reduceIte, Nat.reduceEqDiff, Nat.reduceLT, Nat.reduceSub, h0]
    · obtain ⟨a, cap, rfl, _⟩ := id hs
      have e1 : ¬ (i : Int) < acts.length := by omega
      simp -dsimp only [↓w_seq, ↓w_ops, ↓w_skip, ↓w_ret, ↓w_exit, ↓w_scope, ↓w_block, ↓w_cond, cond_true', cond_false', ↓t_nil, ↓t_plain, ↓t_guard, ↓t_gagain, ↓t_again, t_val, t_call, g_true, g_false, ga_true, ga_false, a_val, a_call, ↓n_normal, ↓n_ret, ↓n_exit, ↓b_normal, ↓b_ret, ↓b_exit, ↓e_normal, ↓e_ret, e_some, go_sem, ↓reduceIte, Nat.reduceEqDiff, Nat.reduceLT, Nat.reduceSub, A_law10_Long_2, h0, h3, e1, h2, decide_true, decide_false]
      exact hE _ (by simp only [go_sem, ↓reduceIte, Nat.reduceEqDiff, Nat.reduceLT, Nat.reduceSub, h0])
theorem Long_runs (s : V) (acts : List Act) (M : Mem) (hs : SlR elAct M s acts) (hk : ∀ x ∈ acts, x.2.2.2.length < 2 ^ 63) : Runs D2 F_law10_Long [s] M fun v M' => (∃ b, v = .bool b ∧ (b = false → acts.length ≤ 150)) ∧ M' = M := by
  refine R_opq fun R hR => ?_
  refine Runs.walk (F := A_law10_Long) rfl (by rfl) (by rfl) ?_
  unfold A_law10_Long
  simp -dsimp only [↓w_seq, ↓w_ops, ↓w_skip, ↓w_ret, ↓w_exit, ↓w_scope, ↓w_block, ↓w_cond, cond_true', cond_false', ↓t_nil, ↓t_plain, ↓t_guard, ↓t_gagain, ↓t_again, t_val, t_call, g_true, g_false, ga_true, ga_false, a_val, a_call, ↓n_normal, ↓n_ret, ↓n_exit, ↓b_normal, ↓b_ret, ↓b_exit, ↓e_normal, ↓e_ret, e_some, go_sem, ↓reduceIte, Nat.reduceEqDiff, Nat.reduceLT, Nat.reduceSub, A_law10_Long_0, A_law10_Long_1]
  refine Long_loop s acts M hs hk ?_ ?_ 300 0 _ (by omega) ?_ ?_
  · intro fr h0
    obtain ⟨a, cap, rfl, _⟩ := hs
    simp -dsimp only [↓w_seq, ↓w_ops, ↓w_skip, ↓w_ret, ↓w_exit, ↓w_scope, ↓w_block, ↓w_cond, cond_true', cond_false', ↓t_nil, ↓t_plain, ↓t_guard, ↓t_gagain, ↓t_again, t_val, t_call, g_true, g_false, ga_true, ga_false, a_val, a_call, ↓n_normal, ↓n_ret, ↓n_exit, ↓b_normal, ↓b_ret, ↓b_exit, ↓e_normal, ↓e_ret, e_some, go_sem, ↓reduceIte, Nat.reduceEqDiff, Nat.reduceLT, Nat.reduceSub, A_law10_Long_7, h0]
    exact hR _ _ ⟨⟨_, rfl, fun h => by have := of_decide_eq_false h; omega⟩, rfl⟩
  · intro fr h2
    simp -dsimp only [↓w_seq, ↓w_ops, ↓w_skip, ↓w_ret, ↓w_exit, ↓w_scope, ↓w_block, ↓w_cond, cond_true', cond_false', ↓t_nil, ↓t_plain, ↓t_guard, ↓t_gagain, ↓t_again, t_val, t_call, g_true, g_false, ga_true, ga_false, a_val, a_call, ↓n_normal, ↓n_ret, ↓n_exit, ↓b_normal, ↓b_ret, ↓b_exit, ↓e_normal, ↓e_ret, e_some, go_sem, ↓reduceIte, Nat.reduceEqDiff, Nat.reduceLT, Nat.reduceSub, h2]
    exact hR _ _ ⟨⟨true, rfl, fun h => by cases h⟩, rfl⟩
  all_goals simp only [go_sem, ↓reduceIte, Nat.reduceEqDiff, Nat.reduceLT, Nat.reduceSub]
  rfl

/-- Where a law stands: what it was given is as it was; a tree of its own. -/
structure LS (M0 M : Mem) (tc bm : Nat) (l : Tr) : Prop where
  old : ∀ c, c < M0.next → M.get c = M0.get c
  next : M0.next ≤ M.next
  T : TreeIn M tc bm l
  tb : M0.next ≤ bm
theorem LS.grew {M0 M M' : Mem} {tc bm : Nat} {l : Tr} (h : LS M0 M tc bm l) (hG : Grew M M') : LS M0 M' tc bm l :=
  ⟨fun c hc => (hG.old c (Nat.lt_of_lt_of_le hc h.next)).trans (h.old c hc), Nat.le_trans h.next hG.next, h.T.grew hG, h.tb⟩
theorem LS.g {M0 M : Mem} {tc bm : Nat} {l : Tr} (h : LS M0 M tc bm l) (hg : isG M0 = true) (hn : 2 ≤ M0.next) : isG M = true := isG_keep hg hn h.old

theorem take_snoc {α : Type} (xs : List α) {i : Nat} (h : i < xs.length) : xs.take (i + 1) = xs.take i ++ [xs[i]] := by
  rw [List.take_add_one, List.getElem?_eq_getElem h]; rfl

/-! ### the stamps met -/
theorem above_p (M : Mem) (tc bm : Nat) (l : Tr) (T : TreeIn M tc bm l) (n : St) {path : List St} (hp : PathN l n path) (hne : path ≠ []) (hN : (path.length + 1) * 16 ≤ maxRoom) :
    Runs D2 F_tree_Tree_Above [.ptr (some (tc, 0)), .agg (stC n)] M fun v M' => v = .slice (some (M.next, 0)) path.length (.upto 2) ∧ M' = M.push (.cells (elSt.all path) false) := by
  cases path with
  | nil => exact absurd rfl hne
  | cons x xs =>
    refine Runs.prim rfl ?_ ⟨rfl, rfl⟩
    have e : pAbove [.ptr (some (tc, 0)), .agg (stC n)] M = some (.row (xs.length + 1) 2 (elSt.all (x :: xs))) := by
      show (match M.get tc with
        | some (.cells [.map none] _) => some (KeepR.flat (.slice none 0 (.exact 0)))
        | some (.cells [.map (some bm)] _) => (match M.get bm with
          | some (.map es) => (decM es).bind fun l => (upL l (l.length + 1) n).bind fun path => cond (Nat.ble ((path.length + 1) * 16) maxRoom) (some (match path with
            | [] => KeepR.flat (.slice none 0 (.exact 0))
            | x :: xs => KeepR.row (xs.length + 1) 2 (elSt.all (x :: xs)))) none
          | _ => none)
        | _ => none) = _
      simp only [T.c, T.m, decM_enc, Option.bind_some, hp.of, ble_iff, decide_eq_true hN, cond_true]
    show ((pAbove [.ptr (some (tc, 0)), .agg (stC n)] M).map fun r => r.res M) = _
    rw [e]
    rfl
end Go.Am.Tryd


/- The law TreeReaches answers true. -/
namespace Go.Am.Tryd
open Go Go.Am Go.Proofs Go.Sort Go.Shelf
set_option maxRecDepth 100000
set_option linter.unusedSimpArgs false
set_option linter.unusedVariables false

end Go.Am.Tryd


/- The law TreeBelow answers true. -/
namespace Go.Am.Tryd
open Go Go.Am Go.Proofs Go.Sort Go.Shelf
set_option maxRecDepth 100000
set_option linter.unusedSimpArgs false
set_option linter.unusedVariables false

/-! ### how many stand below -/
end Go.Am.Tryd


/- No tree: what each function tells of it. -/
namespace Go.Am.Tryd
open Go Go.Am Go.Proofs Go.Sort Go.Shelf
set_option maxRecDepth 100000
set_option linter.unusedSimpArgs false
set_option linter.unusedVariables false

/-- A pointer to no tree, or to one that nobody made. -/
def NoTree (M : Mem) (t : V) : Prop := t = .ptr none ∨ ∃ tc rc, t = .ptr (some (tc, 0)) ∧ tc < M.next ∧ M.get tc = some (.cells [.map none] rc)
theorem NoTree.grew {M M' : Mem} {t : V} (h : NoTree M t) (hG : Grew M M') : NoTree M' t := by
  rcases h with rfl | ⟨tc, rc, rfl, h1, h2⟩
  · exact .inl rfl
  · exact .inr ⟨tc, rc, rfl, Nat.lt_of_lt_of_le h1 hG.next, (hG.old _ h1).trans h2⟩
theorem NoTree.none_ {M : Mem} {t : V} (h : NoTree M t) : Runs D2 F_tree_Tree_none [t] M fun v M' => v = .bool true ∧ M' = M := by
  rcases h with rfl | ⟨tc, rc, rfl, h1, h2⟩
  · exact none_pn rfl
  · exact none_p0 rfl (treeOf_is0 h2)
theorem NoTree.has {M : Mem} {t : V} (h : NoTree M t) (p : St) : Runs D2 F_tree_Tree_Has [t, .agg (stC p)] M fun v M' => v = .bool false ∧ M' = M := by
  rcases h with rfl | ⟨tc, rc, rfl, h1, h2⟩
  · exact Runs.part (g := pHas) rfl rfl
  · exact Runs.part (g := pHas) rfl (by show (treeOf M tc).bind _ = _; rw [treeOf_is0 h2]; rfl)
theorem NoTree.spot {M : Mem} {t : V} (h : NoTree M t) (p : St) : Runs D2 F_tree_Tree_Spot [t, .agg (stC p)] M fun v M' => v = .tup [.agg (spC sp0), .bool false] ∧ M' = M := by
  rcases h with rfl | ⟨tc, rc, rfl, h1, h2⟩
  · exact Runs.part (g := pSpotT) rfl rfl
  · exact Runs.part (g := pSpotT) rfl (by show (treeOf M tc).map _ = _; rw [treeOf_is0 h2]; rfl)
theorem NoTree.within {M : Mem} {t : V} (h : NoTree M t) (p n : St) : Runs D2 F_tree_Tree_Within [t, .agg (stC p), .agg (stC n)] M fun v M' => v = .bool false ∧ M' = M := by
  rcases h with rfl | ⟨tc, rc, rfl, h1, h2⟩
  · exact Runs.part (g := pWithin) rfl rfl
  · exact Runs.part (g := pWithin) rfl (by show (treeOf M tc).bind _ = _; rw [treeOf_is0 h2]; rfl)
theorem NoTree.above {M : Mem} {t : V} (h : NoTree M t) (n : St) : Runs D2 F_tree_Tree_Above [t, .agg (stC n)] M fun v M' => v = .slice none 0 (.exact 0) ∧ M' = M := by
  rcases h with rfl | ⟨tc, rc, rfl, h1, h2⟩
  · exact Runs.prim (v := .slice none 0 (.exact 0)) (M' := M) rfl rfl ⟨rfl, rfl⟩
  · refine Runs.prim (v := .slice none 0 (.exact 0)) (M' := M) rfl ?_ ⟨rfl, rfl⟩
    have e : pAbove [.ptr (some (tc, 0)), .agg (stC n)] M = some (.flat (.slice none 0 (.exact 0))) := by
      show (match M.get tc with
        | some (.cells [.map none] _) => some (KeepR.flat (.slice none 0 (.exact 0)))
        | some (.cells [.map (some bm)] _) => _
        | _ => none) = _
      simp only [h2]
    show ((pAbove [.ptr (some (tc, 0)), .agg (stC n)] M).map fun r => r.res M) = _
    rw [e]
    rfl
theorem NoTree.below {M : Mem} {t : V} (h : NoTree M t) (p : St) : Runs D2 F_tree_Tree_Below [t, .agg (stC p)] M fun v M' => v = .slice none 0 (.exact 0) ∧ Grew M M' := Below_none D2 rfl (by rfl) rfl (by rfl) M t p fun M' hG => (h.grew hG).none_
theorem NoTree.same {M : Mem} {t : V} (h : NoTree M t) (u : V) : Runs D2 F_tree_Tree_Same [t, u] M fun v M' => v = .bool false ∧ M' = M := by
  refine R_opq fun R hR => ?_
  refine Runs.walk (F := A_tree_Tree_Same) rfl (by rfl) (by rfl) ?_
  unfold A_tree_Tree_Same
  simp -dsimp only [↓w_seq, ↓w_ops, ↓w_skip, ↓w_ret, ↓w_exit, ↓w_scope, ↓w_block, ↓w_cond, cond_true', cond_false', ↓t_nil, ↓t_plain, ↓t_guard, ↓t_gagain, ↓t_again, t_val, t_call, g_true, g_false, ga_true, ga_false, a_val, a_call, ↓n_normal, ↓n_ret, ↓n_exit, ↓b_normal, ↓b_ret, ↓b_exit, ↓e_normal, ↓e_ret, e_some, go_sem, ↓reduceIte, Nat.reduceEqDiff, Nat.reduceLT, Nat.reduceSub, A_tree_Tree_Same_0, A_tree_Tree_Same_1]
  refine call_eq h.none_ ?_
  simp -dsimp only [↓w_seq, ↓w_ops, ↓w_skip, ↓w_ret, ↓w_exit, ↓w_scope, ↓w_block, ↓w_cond, cond_true', cond_false', ↓t_nil, ↓t_plain, ↓t_guard, ↓t_gagain, ↓t_again, t_val, t_call, g_true, g_false, ga_true, ga_false, a_val, a_call, ↓n_normal, ↓n_ret, ↓n_exit, ↓b_normal, ↓b_ret, ↓b_exit, ↓e_normal, ↓e_ret, e_some, go_sem, ↓reduceIte, Nat.reduceEqDiff, Nat.reduceLT, Nat.reduceSub, Bool.not_true]
  exact hR _ _ ⟨rfl, rfl⟩
theorem num_p (M : Mem) (n : Int) : Runs D2 F_law10_num [.int .i64 n] M fun v M' => v = .int .i64 n ∧ M' = M := by
  refine R_opq fun R hR => ?_
  refine Runs.walk (F := A_law10_num) rfl (by rfl) (by rfl) ?_
  unfold A_law10_num
  simp -dsimp only [↓w_seq, ↓w_ops, ↓w_skip, ↓w_ret, ↓w_exit, ↓w_scope, ↓w_block, ↓w_cond, cond_true', cond_false', ↓t_nil, ↓t_plain, ↓t_guard, ↓t_gagain, ↓t_again, t_val, t_call, g_true, g_false, ga_true, ga_false, a_val, a_call, ↓n_normal, ↓n_ret, ↓n_exit, ↓b_normal, ↓b_ret, ↓b_exit, ↓e_normal, ↓e_ret, e_some, go_sem, ↓reduceIte, Nat.reduceEqDiff, Nat.reduceLT, Nat.reduceSub, A_law10_num_0, A_law10_num_1]
  exact hR _ _ ⟨rfl, rfl⟩
theorem NoTree.add {M : Mem} {t : V} (h : NoTree M t) (n : St) (s : Spot) : Runs D2 F_tree_Tree_Add [t, .agg (stC n), .agg (spC s)] M fun v M' => v = .int .i64 1 ∧ Grew M M' := by
  refine R_opq fun R hR => ?_
  refine Runs.walk (F := A_tree_Tree_Add) rfl (by rfl) (by rfl) ?_
  unfold A_tree_Tree_Add
  have hcn : V.cells (.agg (stC n)) = stC n := rfl
  have hcs : V.cells (.agg (spC s)) = spC s := rfl
  have hG := (Grew.push M (.cells (stC n) false)).trans (Grew.push _ (.cells (spC s) false))
  simp -dsimp only [↓w_seq, ↓w_ops, ↓w_skip, ↓w_ret, ↓w_exit, ↓w_scope, ↓w_block, ↓w_cond, cond_true', cond_false', ↓t_nil, ↓t_plain, ↓t_guard, ↓t_gagain, ↓t_again, t_val, t_call, g_true, g_false, ga_true, ga_false, a_val, a_call, ↓n_normal, ↓n_ret, ↓n_exit, ↓b_normal, ↓b_ret, ↓b_exit, ↓e_normal, ↓e_ret, e_some, go_sem, ↓reduceIte, Nat.reduceEqDiff, Nat.reduceLT, Nat.reduceSub, A_tree_Tree_Add_0, A_tree_Tree_Add_1, hcn, hcs, Mem.next_push]
  generalize (M.push (.cells (stC n) false)).push (.cells (spC s) false) = M1 at *
  refine call_eq (h.grew hG).none_ ?_
  simp -dsimp only [↓w_seq, ↓w_ops, ↓w_skip, ↓w_ret, ↓w_exit, ↓w_scope, ↓w_block, ↓w_cond, cond_true', cond_false', ↓t_nil, ↓t_plain, ↓t_guard, ↓t_gagain, ↓t_again, t_val, t_call, g_true, g_false, ga_true, ga_false, a_val, a_call, ↓n_normal, ↓n_ret, ↓n_exit, ↓b_normal, ↓b_ret, ↓b_exit, ↓e_normal, ↓e_ret, e_some, go_sem, ↓reduceIte, Nat.reduceEqDiff, Nat.reduceLT, Nat.reduceSub, A_tree_Tree_Add_2]
  exact hR _ _ ⟨rfl, hG⟩
theorem NoTree.move {M : Mem} {t : V} (h : NoTree M t) (n : St) (s : Spot) : Runs D2 F_tree_Tree_Move [t, .agg (stC n), .agg (spC s)] M fun v M' => v = .tup [.agg (spC sp0), .int .i64 1] ∧ Grew M M' := by
  refine R_opq fun R hR => ?_
  refine Runs.walk (F := A_tree_Tree_Move) rfl (by rfl) (by rfl) ?_
  unfold A_tree_Tree_Move
  have hcn : V.cells (.agg (stC n)) = stC n := rfl
  have hcs : ∀ s, V.cells (.agg (spC s)) = spC s := fun _ => rfl
  have hrs : ∀ s, rdCells (spC s) 0 3 = some (spC s) := fun _ => rfl
  have hG := ((Grew.push M (.cells (stC n) false)).trans (Grew.push _ (.cells (spC s) false))).trans (Grew.push _ (.cells [.int .i64 0, .int .i64 0, .str []] false))
  have g6 : (((M.push (.cells (stC n) false)).push (.cells (spC s) false)).push (.cells [.int .i64 0, .int .i64 0, .str []] false)).get (M.next + 1 + 1) = some (.cells (spC sp0) false) := Mem.get_push_same ((M.push _).push _) _
  simp -dsimp only [↓w_seq, ↓w_ops, ↓w_skip, ↓w_ret, ↓w_exit, ↓w_scope, ↓w_block, ↓w_cond, cond_true', cond_false', ↓t_nil, ↓t_plain, ↓t_guard, ↓t_gagain, ↓t_again, t_val, t_call, g_true, g_false, ga_true, ga_false, a_val, a_call, ↓n_normal, ↓n_ret, ↓n_exit, ↓b_normal, ↓b_ret, ↓b_exit, ↓e_normal, ↓e_ret, e_some, go_sem, ↓reduceIte, Nat.reduceEqDiff, Nat.reduceLT, Nat.reduceSub, A_tree_Tree_Move_0, A_tree_Tree_Move_1, hcn, hcs, Mem.next_push]
  generalize ((M.push (.cells (stC n) false)).push (.cells (spC s) false)).push (.cells [.int .i64 0, .int .i64 0, .str []] false) = M1 at *
  have hw0 := write_full (vs := spC sp0) g6 rfl rfl
  have hs0 := Mem.get_set_same M1 (M.next + 1 + 1) (.cells (spC sp0) false)
  have hG0 := hG.upd (b := M.next + 1 + 1) (by omega) (Upd.set M1 (M.next + 1 + 1) (.cells (spC sp0) false))
  refine call_eq (h.grew hG).none_ ?_
  simp -dsimp only [↓w_seq, ↓w_ops, ↓w_skip, ↓w_ret, ↓w_exit, ↓w_scope, ↓w_block, ↓w_cond, cond_true', cond_false', ↓t_nil, ↓t_plain, ↓t_guard, ↓t_gagain, ↓t_again, t_val, t_call, g_true, g_false, ga_true, ga_false, a_val, a_call, ↓n_normal, ↓n_ret, ↓n_exit, ↓b_normal, ↓b_ret, ↓b_exit, ↓e_normal, ↓e_ret, e_some, go_sem, ↓reduceIte, Nat.reduceEqDiff, Nat.reduceLT, Nat.reduceSub, A_tree_Tree_Move_2, vload, vptr, Mem.read, g6, hrs, Nat.add_zero, vstore, hcs, spC_len, hw0, hs0, Option.bind_some, oneOf, Nat.reduceEqDiff]
  exact hR _ _ ⟨rfl, hG0⟩
theorem NoTree.drop {M : Mem} {t : V} (h : NoTree M t) (n : St) : Runs D2 F_tree_Tree_Drop [t, .agg (stC n)] M fun v M' => v = .tup [.agg (spC sp0), .int .i64 1] ∧ Grew M M' := by
  refine R_opq fun R hR => ?_
  refine Runs.walk (F := A_tree_Tree_Drop) rfl (by rfl) (by rfl) ?_
  unfold A_tree_Tree_Drop
  have hcn : V.cells (.agg (stC n)) = stC n := rfl
  have hcs : ∀ s, V.cells (.agg (spC s)) = spC s := fun _ => rfl
  have hrs : ∀ s, rdCells (spC s) 0 3 = some (spC s) := fun _ => rfl
  have hG := (Grew.push M (.cells (stC n) false)).trans (Grew.push _ (.cells [.int .i64 0, .int .i64 0, .str []] false))
  have g4 : ((M.push (.cells (stC n) false)).push (.cells [.int .i64 0, .int .i64 0, .str []] false)).get (M.next + 1) = some (.cells (spC sp0) false) := Mem.get_push_same (M.push _) _
  simp -dsimp only [↓w_seq, ↓w_ops, ↓w_skip, ↓w_ret, ↓w_exit, ↓w_scope, ↓w_block, ↓w_cond, cond_true', cond_false', ↓t_nil, ↓t_plain, ↓t_guard, ↓t_gagain, ↓t_again, t_val, t_call, g_true, g_false, ga_true, ga_false, a_val, a_call, ↓n_normal, ↓n_ret, ↓n_exit, ↓b_normal, ↓b_ret, ↓b_exit, ↓e_normal, ↓e_ret, e_some, go_sem, ↓reduceIte, Nat.reduceEqDiff, Nat.reduceLT, Nat.reduceSub, A_tree_Tree_Drop_0, A_tree_Tree_Drop_1, hcn, hcs, Mem.next_push]
  generalize (M.push (.cells (stC n) false)).push (.cells [.int .i64 0, .int .i64 0, .str []] false) = M1 at *
  have hw0 := write_full (vs := spC sp0) g4 rfl rfl
  have hs0 := Mem.get_set_same M1 (M.next + 1) (.cells (spC sp0) false)
  have hG0 := hG.upd (b := M.next + 1) (by omega) (Upd.set M1 (M.next + 1) (.cells (spC sp0) false))
  refine call_eq (h.grew hG).none_ ?_
  simp -dsimp only [↓w_seq, ↓w_ops, ↓w_skip, ↓w_ret, ↓w_exit, ↓w_scope, ↓w_block, ↓w_cond, cond_true', cond_false', ↓t_nil, ↓t_plain, ↓t_guard, ↓t_gagain, ↓t_again, t_val, t_call, g_true, g_false, ga_true, ga_false, a_val, a_call, ↓n_normal, ↓n_ret, ↓n_exit, ↓b_normal, ↓b_ret, ↓b_exit, ↓e_normal, ↓e_ret, e_some, go_sem, ↓reduceIte, Nat.reduceEqDiff, Nat.reduceLT, Nat.reduceSub, A_tree_Tree_Drop_2, vload, vptr, Mem.read, g4, hrs, Nat.add_zero, vstore, hcs, spC_len, hw0, hs0, Option.bind_some, oneOf, Nat.reduceEqDiff]
  exact hR _ _ ⟨rfl, hG0⟩

/-- What is asked of a frame, and no more. -/
theorem WT_abs {D : Decls} {n : Nat} {l : List Item} {fr : Fr} {M : Mem} {K : Fr → Mem → Prop} {k : Tg K} (p : Fr → Prop) (hp : p fr) (h : ∀ fr, p fr → WT D n l fr M k) : WT D n l fr M k := h fr hp
end Go.Am.Tryd


/- A machine with more parts does what it did. -/
namespace Go.Am
open Go

structure Decls.le (D D' : Decls) : Prop where
  prim : ∀ f g, D.prim f = some g → D'.prim f = some g
  code : ∀ f F, D.prim f = none → D.code.get f = some F → D'.prim f = none ∧ D'.code.get f = some F
theorem callN_more {D D' : Decls} (h : D.le D') : ∀ (k : Nat), CallLe (callN D k) (callN D' k)
  | 0 => fun f args M r hr => by cases hr
  | k + 1 => fun f args M r hr => by
    simp only [callN] at hr ⊢
    cases hp : D.prim f with
    | some g =>
      rw [hp] at hr
      rw [h.prim f g hp]
      exact hr
    | none =>
      rw [hp] at hr
      simp only at hr
      cases hg : D.code.get f with
      | none => rw [hg] at hr; cases hr
      | some F =>
        rw [hg] at hr
        obtain ⟨h1, h2⟩ := h.code f F hp hg
        rw [h1, h2]
        simp only [Bool.cond_eq_ite] at hr ⊢
        split at hr
        · rename_i hle
          rw [if_pos hle]
          split at hr
          · rename_i fr' M' he
            rw [exec_mono (callN_more h k) (Nat.le_refl _) _ he]
            exact hr
          · rename_i fr' M' he
            rw [exec_mono (callN_more h k) (Nat.le_refl _) _ he]
            exact hr
          · cases hr
        · cases hr
theorem Runs.more {D D' : Decls} (hle : D.le D') {f : FuncId} {args : List V} {M : Mem} {R : V → Mem → Prop} (h : Runs D f args M R) : Runs D' f args M R := by
  obtain ⟨k, v, M', h1, h2⟩ := h
  exact ⟨k, v, M', callN_more hle k _ _ _ _ h1, h2⟩
/-- A part for a function that the machine did not know. -/
theorem Decls.le_addM {D : Decls} {f : FuncId} {g : List V → Mem → Option (V × Mem)} (hp : D.prim f = none) (hc : D.code.get f = none) : D.le (D.addM f g) := by
  refine ⟨fun f' g' h => ?_, fun f' F h hF => ?_⟩
  · simp only [Decls.addM]
    cases hb : Nat.beq f' f with
    | true =>
      have := Nat.eq_of_beq_eq_true hb
      subst this
      rw [hp] at h; cases h
    | false => exact h
  · simp only [Decls.addM]
    cases hb : Nat.beq f' f with
    | true =>
      have := Nat.eq_of_beq_eq_true hb
      subst this
      rw [hc] at hF; cases hF
    | false => exact ⟨h, hF⟩
theorem Decls.le_trans {D D' D'' : Decls} (h : D.le D') (h' : D'.le D'') : D.le D'' :=
  ⟨fun f g hg => h'.prim f g (h.prim f g hg), fun f F hp hc => by obtain ⟨a, b⟩ := h.code f F hp hc; exact h'.code f F a b⟩
end Go.Am


/- maps.Clone of a tree's map as a part, by the kit's contract; Tree.Clone. -/
namespace Go.Proofs
open Go.Shelf
def Tryd.cloneT_ren : Go.Shelf.Ren := ⟨fun | 5 => 51 | 7 => 78 | n => n, fun | 23 => 63 | 25 => 29 | 3 => 38 | n => n, fun n => n⟩
theorem Tryd.cloneT : Go.Proofs.SlLaysW.n5 Tryd.prog Tryd.cloneT_ren := {
  mixed := by kernel_rfl
  f5 := ⟨Tryd.f51.name, by decide, Tryd.func51.trans (congrArg some (by kernel_rfl))⟩
  f7 := Tryd.func78.trans (congrArg some (by kernel_rfl))
  t4 := Tryd.underlying4
  a4 := Tryd.isAgg4
  z4 := Tryd.sizeOf4
  v4 := Tryd.zeroValue4
  t20 := Tryd.underlying20
  a20 := Tryd.isAgg20
  z20 := Tryd.sizeOf20
  v20 := Tryd.zeroValue20
  t23 := Tryd.underlying63
  a23 := Tryd.isAgg63
  z23 := Tryd.sizeOf63
  v23 := Tryd.zeroValue63 }
end Go.Proofs
namespace Go.Am.Tryd
open Go Go.Am Go.Proofs Go.Sort Go.Shelf
set_option maxRecDepth 100000
set_option linter.unusedSimpArgs false
set_option linter.unusedVariables false

def pClone (args : List V) (M : Mem) : Option (V × Mem) :=
  match args with
  | [.map (some b)] => (match M.get b with
    | some (.map es) => some (.map (some M.next), M.push (.map es))
    | _ => none)
  | _ => none
theorem pClone_ok : CallOK Tryd.prog gl0 fun f' args M => if f' = F_maps_Clone_Stamp_Spot then pClone args M else none := by
  intro f' args M v M' he
  simp only at he
  split at he
  · rename_i e
    subst e
    unfold pClone at he
    split at he
    · rename_i b
      split at he
      · rename_i es hb
        cases he
        refine ⟨⟨_, Tryd.func51, (by kernel_rfl), (by kernel_rfl)⟩, fun E w args' hR hG hA => ?_⟩
        generalize hq : args'.toList = q at hA
        cases hA with
        | cons h1 t =>
          cases t
          cases h1 with
          | map hE =>
            rename_i c d k
            obtain rfl : args' = #[.map (some c)] := by cases args'; simp_all
            obtain ⟨o, ho, hor⟩ := hR.at_ b c d k hE
            rw [hb] at ho
            cases ho
            obtain ⟨ents, clock, hx, hER, hborn⟩ := hor
            have hc := AnyW.maps_Clone Tryd.cloneT c ents clock w hx
            refine hc.mono fun e w' ⟨he, hw⟩ => ?_
            subst hw
            have hle := Emb.more_le (x := (w.heap.size, 0, 0)) (hR.fresh (Nat.le_refl M.next))
            obtain ⟨r1, r2⟩ := hR.alloc (o := .map es) (x := .map ents clock) (k := 0) ⟨ents, clock, rfl, ⟨hER.1.mono hle, hER.2.mono hle⟩, hborn⟩
            exact ⟨_, _, he, .map (Emb.more_same _ _ _), r1, r2⟩
      · cases he
    · cases he
  · cases he
def D3a : Decls := D2.addM F_maps_Clone_Stamp_Spot pClone
theorem dok3a : DOK Tryd.prog gl0 D3a := dok2.addM pClone_ok
theorem le3a : D2.le D3a := Decls.le_addM rfl (by rfl)

theorem Clone_runs (D : Decls) (hle : D3a.le D) (M : Mem) (tc bm : Nat) (l : Tr) (T : TreeIn M tc bm l) : Runs D F_tree_Tree_Clone [.ptr (some (tc, 0))] M fun v M' => v = .ptr (some (M.next + 1, 0)) ∧ Grew M M' ∧ TreeIn M' (M.next + 1) M.next l := by
  refine Runs.more hle ?_
  refine R_opq fun R hR => ?_
  refine Runs.walk (F := A_tree_Tree_Clone) rfl (by rfl) (by rfl) ?_
  unfold A_tree_Tree_Clone
  simp -dsimp only [↓w_seq, ↓w_ops, ↓w_skip, ↓w_ret, ↓w_exit, ↓w_scope, ↓w_block, ↓w_cond, cond_true', cond_false', ↓t_nil, ↓t_plain, ↓t_guard, ↓t_gagain, ↓t_again, t_val, t_call, g_true, g_false, ga_true, ga_false, a_val, a_call, ↓n_normal, ↓n_ret, ↓n_exit, ↓b_normal, ↓b_ret, ↓b_exit, ↓e_normal, ↓e_ret, e_some, go_sem, ↓reduceIte, Nat.reduceEqDiff, Nat.reduceLT, Nat.reduceSub, A_tree_Tree_Clone_0, A_tree_Tree_Clone_1]
  refine call_eq ((none_p (D := D2) rfl T.of).more le3a) ?_
  simp -dsimp only [↓w_seq, ↓w_ops, ↓w_skip, ↓w_ret, ↓w_exit, ↓w_scope, ↓w_block, ↓w_cond, cond_true', cond_false', ↓t_nil, ↓t_plain, ↓t_guard, ↓t_gagain, ↓t_again, t_val, t_call, g_true, g_false, ga_true, ga_false, a_val, a_call, ↓n_normal, ↓n_ret, ↓n_exit, ↓b_normal, ↓b_ret, ↓b_exit, ↓e_normal, ↓e_ret, e_some, go_sem, ↓reduceIte, Nat.reduceEqDiff, Nat.reduceLT, Nat.reduceSub, A_tree_Tree_Clone_3, vload, vptr, Mem.read, T.c, Nat.add_zero, List.getElem?_cons_zero]
  refine call_of (S := fun v M1 => v = .map (some M.next) ∧ M1 = M.push (.map (encM l))) (Runs.prim (v := .map (some M.next)) (M' := M.push (.map (encM l))) rfl (by simp only [pClone, T.m]) ⟨rfl, rfl⟩) ?_
  intro v M1 hv
  rw [hv.1, hv.2]
  clear hv
  have hf : fillCells [.map none] [(0, 1, .map (some M.next))] = some [.map (some M.next)] := rfl
  have hG := (Grew.push M (.map (encM l))).trans (Grew.push _ (.cells [.map (some M.next)] false))
  simp -dsimp only [↓w_seq, ↓w_ops, ↓w_skip, ↓w_ret, ↓w_exit, ↓w_scope, ↓w_block, ↓w_cond, cond_true', cond_false', ↓t_nil, ↓t_plain, ↓t_guard, ↓t_gagain, ↓t_again, t_val, t_call, g_true, g_false, ga_true, ga_false, a_val, a_call, ↓n_normal, ↓n_ret, ↓n_exit, ↓b_normal, ↓b_ret, ↓b_exit, ↓e_normal, ↓e_ret, e_some, go_sem, ↓reduceIte, Nat.reduceEqDiff, Nat.reduceLT, Nat.reduceSub, hf, vof, Option.map_some, V.cells, Mem.next_push]
  exact hR _ _ ⟨rfl, hG, Mem.get_push_same (M.push _) _, by rw [Mem.get_push_ne _ _ (by simp), Mem.get_push_same], by simp only [Mem.next_push]; omega, by simp only [Mem.next_push]; omega⟩
end Go.Am.Tryd


/- maps.Equal of two trees' maps, as a part. -/
namespace Go.Am.Tryd
open Go Go.Am Go.Proofs Go.Sort Go.Shelf
set_option maxRecDepth 100000
set_option linter.unusedSimpArgs false
set_option linter.unusedVariables false

theorem sp_same (a b : Spot) : vsame ⟨true, [.int .i64, .int .i64, .str]⟩ (.agg (spC a)) (.agg (spC b)) = some (decide (a = b)) := by
  obtain ⟨⟨a1, a2⟩, a3⟩ := a
  obtain ⟨⟨b1, b2⟩, b3⟩ := b
  simp only [spC]
  rw [same_spot]
  simp [Prod.ext_iff, and_assoc]

/-- Do two maps tell the same of the first one's keys? -/
def eqB (l l' : Tr) : Bool := decide (l.length = l'.length) && (keysS l).all fun x => decide (getS l' x = getS l x)

theorem enc_at {l : Tr} (hn : (keysS l).Nodup) {i : Nat} {kv : V × V} (h : (encM l)[i]? = some kv) : ∃ x s, kv = (.agg (stC x), .agg (spC s)) ∧ x = (keysS l).getD i (0, 0) ∧ getS l x = some s ∧ x ∈ keysS l := by
  simp only [encM, List.getElem?_map, Option.map_eq_some_iff] at h
  obtain ⟨p, h1, rfl⟩ := h
  have hm := List.mem_of_getElem? h1
  refine ⟨p.1, p.2, rfl, ?_, get_of_in hn hm, List.mem_map_of_mem (f := (·.1)) hm⟩
  simp [keysS, List.getD_eq_getElem?_getD, h1]

set_option maxHeartbeats 2000000 in
theorem Equal_loop (it b1 b2 : Nat) (l l' : Tr) (hnd : (keysS l).Nodup) (ents : List MapEntry) (clock : Nat) (hl : ents.length = (keysS l).length) (hborn : Born ents clock) (M0 : Mem)
    (hb1 : M0.get b1 = some (.rmap (encM l) ents clock)) (hb2 : mapAt M0 b2 = some (encM l')) (l1 : b1 < M0.next) (l2 : b2 < M0.next) (hn1 : b1 ≠ it) (hn2 : b2 ≠ it)
    (Q : XQ) (hQ : ∀ fr M, (∀ x ∈ keysS l, getS l' x = getS l x) → (∀ c, c < M0.next → c ≠ it → M.get c = M0.get c) → Q (.exit 0) fr M) (hQx : ∀ fr M, (∃ x ∈ keysS l, getS l' x ≠ getS l x) → (∀ c, c < M0.next → c ≠ it → M.get c = M0.get c) → fr.rd 4 = .bool false → Q .ret fr M) :
    ∀ (f : Nat) (idx rest : List Nat) (seen : Array Nat) (pre : List St) (fr : Fr) (M : Mem), rest.length = f → Came ents (keysS l) seen pre idx rest → (∀ x ∈ pre, getS l' x = getS l x) → (∀ c, c < M0.next → c ≠ it → M.get c = M0.get c) → M0.next ≤ M.next → it < M0.next → M.get it = some (.mapIter (some b1) clock seen clock) → fr.rd 1 = .map (some b2) → fr.rd 15 = .ptr (some (it, 0)) →
    roundsX (WX Tryd.prog gl0 34 X_maps_Equal_Stamp_Spot_9 false) (f + 1) fr M Q := by
  intro f
  induction f with
  | zero =>
    intro idx rest seen pre fr M hf hC hpre hk hn hlt hit h1 h15
    rw [rounds_x_succ]
    refine xw_of ?_
    unfold X_maps_Equal_Stamp_Spot_9
    simp -dsimp only [↓x_seq', ↓x_ops, ↓x_skip, ↓x_ret, ↓x_exit, ↓x_block', ↓x_cond', cond_true', cond_false', ↓i_nil, ↓i_plain, ↓i_guard, xs_val, xs_call, xs_yield, xg_true, xg_false, ↓n_normal, ↓n_ret, ↓n_exit, ↓b_normal, ↓b_ret, ↓b_exit, ↓xe_normal, ↓xe_ret, e_some, yieldOf, go_sem, ↓reduceIte, Nat.reduceEqDiff, Nat.reduceLT, Nat.reduceSub, X_maps_Equal_Stamp_Spot_4]
    refine i_next (it := it) (b := b1) (clock := clock) (seen := seen) (show fr.rd 15 = _ from h15) hit ((hk _ l1 hn1).trans hb1) ?_ ?_
    · intro hfil
      simp -dsimp only [↓x_seq', ↓x_ops, ↓x_skip, ↓x_ret, ↓x_exit, ↓x_block', ↓x_cond', cond_true', cond_false', ↓i_nil, ↓i_plain, ↓i_guard, xs_val, xs_call, xs_yield, xg_true, xg_false, ↓n_normal, ↓n_ret, ↓n_exit, ↓b_normal, ↓b_ret, ↓b_exit, ↓xe_normal, ↓xe_ret, e_some, yieldOf, go_sem, ↓reduceIte, Nat.reduceEqDiff, Nat.reduceLT, Nat.reduceSub, List.getElem?_cons_zero]
      exact hQ _ _ (fun x hx => hpre x ((hC.done hborn hl hfil).mem_iff.mpr hx)) hk
    · intro i e kv hi hne hkv
      have := (hC.step hl hi hne).1
      rw [List.eq_nil_of_length_eq_zero hf] at this
      cases this
  | succ f ih =>
    intro idx rest seen pre fr M hf hC hpre hk hn hlt hit h1 h15
    rw [rounds_x_succ]
    refine xw_of ?_
    unfold X_maps_Equal_Stamp_Spot_9
    simp -dsimp only [↓x_seq', ↓x_ops, ↓x_skip, ↓x_ret, ↓x_exit, ↓x_block', ↓x_cond', cond_true', cond_false', ↓i_nil, ↓i_plain, ↓i_guard, xs_val, xs_call, xs_yield, xg_true, xg_false, ↓n_normal, ↓n_ret, ↓n_exit, ↓b_normal, ↓b_ret, ↓b_exit, ↓xe_normal, ↓xe_ret, e_some, yieldOf, go_sem, ↓reduceIte, Nat.reduceEqDiff, Nat.reduceLT, Nat.reduceSub, X_maps_Equal_Stamp_Spot_4]
    refine i_next (it := it) (b := b1) (clock := clock) (seen := seen) (show fr.rd 15 = _ from h15) hit ((hk _ l1 hn1).trans hb1) ?_ ?_
    · intro hfil
      simp -dsimp only [↓x_seq', ↓x_ops, ↓x_skip, ↓x_ret, ↓x_exit, ↓x_block', ↓x_cond', cond_true', cond_false', ↓i_nil, ↓i_plain, ↓i_guard, xs_val, xs_call, xs_yield, xg_true, xg_false, ↓n_normal, ↓n_ret, ↓n_exit, ↓b_normal, ↓b_ret, ↓b_exit, ↓xe_normal, ↓xe_ret, e_some, yieldOf, go_sem, ↓reduceIte, Nat.reduceEqDiff, Nat.reduceLT, Nat.reduceSub, List.getElem?_cons_zero]
      exact hQ _ _ (fun x hx => hpre x ((hC.done hborn hl hfil).mem_iff.mpr hx)) hk
    · intro i e kv hi hne hkv
      obtain ⟨hir, hC'⟩ := hC.step hl hi hne
      obtain ⟨x, s, hkv2, hx, hgx, hxm⟩ := enc_at hnd hkv
      rw [← hx] at hC'
      rw [hkv2] at hkv ⊢
      have hit1 : (M.set it (.mapIter (some b1) clock (seen.push e.born) clock)).get it = some (.mapIter (some b1) clock (seen.push e.born) clock) := Mem.get_set_same _ _ _
      have hk1 : ∀ c, c < M0.next → c ≠ it → (M.set it (.mapIter (some b1) clock (seen.push e.born) clock)).get c = M0.get c := fun c hc hne => (Mem.get_set_ne _ _ hne).trans (hk c hc hne)
      have hnn : (M.set it (.mapIter (some b1) clock (seen.push e.born) clock)).next = M.next := rfl
      generalize M.set it (.mapIter (some b1) clock (seen.push e.born) clock) = M1 at *
      simp -dsimp only [↓x_seq', ↓x_ops, ↓x_skip, ↓x_ret, ↓x_exit, ↓x_block', ↓x_cond', cond_true', cond_false', ↓i_nil, ↓i_plain, ↓i_guard, xs_val, xs_call, xs_yield, xg_true, xg_false, ↓n_normal, ↓n_ret, ↓n_exit, ↓b_normal, ↓b_ret, ↓b_exit, ↓xe_normal, ↓xe_ret, e_some, yieldOf, go_sem, ↓reduceIte, Nat.reduceEqDiff, Nat.reduceLT, Nat.reduceSub, List.getElem?_cons_zero, X_maps_Equal_Stamp_Spot_5]
      refine i_entry (it := it) (b := b1) (since := clock) (clock := clock) (seen := seen.push e.born) (by simp only [go_sem, ↓reduceIte, Nat.reduceEqDiff, Nat.reduceLT, Nat.reduceSub, h15]) hit1 ((hk1 _ l1 hn1).trans hb1) i e _ hi (by simp) hkv ?_
      have hcn : V.cells (.agg (stC x)) = stC x := rfl
      have hcs : ∀ s, V.cells (.agg (spC s)) = spC s := fun _ => rfl
      have w5 := write_full (M := (M1.push (.cells [.int .i64 0, .int .i64 0] false)).push (.cells [.int .i64 0, .int .i64 0, .str []] false)) (b := M1.next) (cs := [.int .i64 0, .int .i64 0]) (vs := stC x) (by rw [Mem.get_push_ne _ _ (by simp)]; exact Mem.get_push_same _ _) rfl rfl
      have w6 := write_full (M := ((M1.push (.cells [.int .i64 0, .int .i64 0] false)).push (.cells [.int .i64 0, .int .i64 0, .str []] false)).set M1.next (.cells (stC x) false)) (b := M1.next + 1) (cs := [.int .i64 0, .int .i64 0, .str []]) (vs := spC s) (by rw [Mem.get_set_ne _ _ (by omega)]; exact Mem.get_push_same (M1.push _) _) rfl rfl
      simp -dsimp only [↓x_seq', ↓x_ops, ↓x_skip, ↓x_ret, ↓x_exit, ↓x_block', ↓x_cond', cond_true', cond_false', ↓i_nil, ↓i_plain, ↓i_guard, xs_val, xs_call, xs_yield, xg_true, xg_false, ↓n_normal, ↓n_ret, ↓n_exit, ↓b_normal, ↓b_ret, ↓b_exit, ↓xe_normal, ↓xe_ret, e_some, yieldOf, go_sem, ↓reduceIte, Nat.reduceEqDiff, Nat.reduceLT, Nat.reduceSub, List.getElem?_cons_zero, List.getElem?_cons_succ, Mem.next_push, vstore, hcn, hcs, stC_len, spC_len, w5, w6, Nat.reduceEqDiff]
      have q5 : ((((M1.push (.cells [.int .i64 0, .int .i64 0] false)).push (.cells [.int .i64 0, .int .i64 0, .str []] false)).set M1.next (.cells (stC x) false)).set (M1.next + 1) (.cells (spC s) false)).get M1.next = some (.cells (stC x) false) := by rw [Mem.get_set_ne _ _ (by omega), Mem.get_set_same]
      have q6 : ((((M1.push (.cells [.int .i64 0, .int .i64 0] false)).push (.cells [.int .i64 0, .int .i64 0, .str []] false)).set M1.next (.cells (stC x) false)).set (M1.next + 1) (.cells (spC s) false)).get (M1.next + 1) = some (.cells (spC s) false) := Mem.get_set_same _ _ _
      have qk : ∀ c, c < M1.next → ((((M1.push (.cells [.int .i64 0, .int .i64 0] false)).push (.cells [.int .i64 0, .int .i64 0, .str []] false)).set M1.next (.cells (stC x) false)).set (M1.next + 1) (.cells (spC s) false)).get c = M1.get c := fun c hc => by rw [Mem.get_set_ne _ _ (by omega), Mem.get_set_ne _ _ (by omega), Mem.get_push_ne _ _ (by simp; omega), Mem.get_push_ne _ _ (by omega)]
      have qn : ((((M1.push (.cells [.int .i64 0, .int .i64 0] false)).push (.cells [.int .i64 0, .int .i64 0, .str []] false)).set M1.next (.cells (stC x) false)).set (M1.next + 1) (.cells (spC s) false)).next = M1.next + 2 := rfl
      clear w5 w6
      generalize (((M1.push (.cells [.int .i64 0, .int .i64 0] false)).push (.cells [.int .i64 0, .int .i64 0, .str []] false)).set M1.next (.cells (stC x) false)).set (M1.next + 1) (.cells (spC s) false) = M2 at *
      have hm2 : mapAt M2 b2 = some (encM l') := mapAt_keep hb2 ((qk _ (by omega)).trans (hk1 _ l2 hn2))
      have hlk := look_is hm2 x
      have hrn : rdCells (stC x) 0 2 = some (stC x) := rfl
      have hrs : ∀ s, rdCells (spC s) 0 3 = some (spC s) := fun _ => rfl
      have w7 := write_full (M := M2.push (.cells [.int .i64 0, .int .i64 0, .str []] false)) (b := M2.next) (vs := spC ((getS l' x).getD sp0)) (Mem.get_push_same _ _) rfl rfl
      simp -dsimp only [↓x_seq', ↓x_ops, ↓x_skip, ↓x_ret, ↓x_exit, ↓x_block', ↓x_cond', cond_true', cond_false', ↓i_nil, ↓i_plain, ↓i_guard, xs_val, xs_call, xs_yield, xg_true, xg_false, ↓n_normal, ↓n_ret, ↓n_exit, ↓b_normal, ↓b_ret, ↓b_exit, ↓xe_normal, ↓xe_ret, e_some, yieldOf, go_sem, ↓reduceIte, Nat.reduceEqDiff, Nat.reduceLT, Nat.reduceSub, X_maps_Equal_Stamp_Spot_6, h1, vload, vptr, Mem.read, q5, hrn, hlk, vof, lookV_parts, List.getElem?_cons_zero, List.getElem?_cons_succ, vstore, hcs, spC_len, w7, Nat.reduceEqDiff]
      have p6 : ((M2.push (.cells [.int .i64 0, .int .i64 0, .str []] false)).set M2.next (.cells (spC ((getS l' x).getD sp0)) false)).get (M1.next + 1) = some (.cells (spC s) false) := by rw [Mem.get_set_ne _ _ (by omega), Mem.get_push_ne _ _ (by omega)]; exact q6
      have p7 : ((M2.push (.cells [.int .i64 0, .int .i64 0, .str []] false)).set M2.next (.cells (spC ((getS l' x).getD sp0)) false)).get M2.next = some (.cells (spC ((getS l' x).getD sp0)) false) := Mem.get_set_same _ _ _
      have pk : ∀ c, c < M1.next → ((M2.push (.cells [.int .i64 0, .int .i64 0, .str []] false)).set M2.next (.cells (spC ((getS l' x).getD sp0)) false)).get c = M1.get c := fun c hc => by rw [Mem.get_set_ne _ _ (by omega), Mem.get_push_ne _ _ (by omega)]; exact qk c hc
      have pn : ((M2.push (.cells [.int .i64 0, .int .i64 0, .str []] false)).set M2.next (.cells (spC ((getS l' x).getD sp0)) false)).next = M1.next + 3 := by rw [Mem.next_set, Mem.next_push, qn]
      clear w7
      generalize (M2.push (.cells [.int .i64 0, .int .i64 0, .str []] false)).set M2.next (.cells (spC ((getS l' x).getD sp0)) false) = M3 at *
      have hkeep : ∀ c, c < M0.next → c ≠ it → M3.get c = M0.get c := fun c hc hne => (pk c (by omega)).trans (hk1 c hc hne)
      cases hs : getS l' x with
      | none =>
        simp -dsimp only [↓x_seq', ↓x_ops, ↓x_skip, ↓x_ret, ↓x_exit, ↓x_block', ↓x_cond', cond_true', cond_false', ↓i_nil, ↓i_plain, ↓i_guard, xs_val, xs_call, xs_yield, xg_true, xg_false, ↓n_normal, ↓n_ret, ↓n_exit, ↓b_normal, ↓b_ret, ↓b_exit, ↓xe_normal, ↓xe_ret, e_some, yieldOf, go_sem, ↓reduceIte, Nat.reduceEqDiff, Nat.reduceLT, Nat.reduceSub, X_maps_Equal_Stamp_Spot_7, X_maps_Equal_Stamp_Spot_8, Option.isSome_none, Bool.not_false]
        exact hQx _ _ ⟨x, hxm, by rw [hs, hgx]; simp⟩ hkeep (by simp only [go_sem, ↓reduceIte, Nat.reduceEqDiff, Nat.reduceLT, Nat.reduceSub])
      | some s' =>
        rw [hs] at p7
        by_cases hss : s = s'
        · simp -dsimp only [↓x_seq', ↓x_ops, ↓x_skip, ↓x_ret, ↓x_exit, ↓x_block', ↓x_cond', cond_true', cond_false', ↓i_nil, ↓i_plain, ↓i_guard, xs_val, xs_call, xs_yield, xg_true, xg_false, ↓n_normal, ↓n_ret, ↓n_exit, ↓b_normal, ↓b_ret, ↓b_exit, ↓xe_normal, ↓xe_ret, e_some, yieldOf, go_sem, ↓reduceIte, Nat.reduceEqDiff, Nat.reduceLT, Nat.reduceSub, X_maps_Equal_Stamp_Spot_7, X_maps_Equal_Stamp_Spot_8, Option.isSome_some, Bool.not_true, vload, vptr, Mem.read, p6, p7, hrs, Option.getD_some, sp_same, hss, decide_true]
          have hpre2 : ∀ y ∈ pre ++ [x], getS l' y = getS l y := fun y hy => by
            rcases List.mem_append.mp hy with hy | hy
            · exact hpre y hy
            · simp only [List.mem_singleton] at hy
              rw [hy, hs, hgx, hss]
          have hf2 : (rest.erase i).length = f := by rw [List.length_erase_of_mem hir]; omega
          have hit3 := (pk it (by omega)).trans hit1
          have hn3 : M0.next ≤ M3.next := by omega
          have ih2 := fun fr => ih (idx ++ [i]) (rest.erase i) (seen.push e.born) (pre ++ [x]) fr M3 hf2 hC' hpre2 hkeep hn3 hlt hit3
          refine ih2 _ ?_ ?_
          all_goals simp only [go_sem, ↓reduceIte, Nat.reduceEqDiff, Nat.reduceLT, Nat.reduceSub, h1, h15]
        · simp -dsimp only [↓x_seq', ↓x_ops, ↓x_skip, ↓x_ret, ↓x_exit, ↓x_block', ↓x_cond', cond_true', cond_false', ↓i_nil, ↓i_plain, ↓i_guard, xs_val, xs_call, xs_yield, xg_true, xg_false, ↓n_normal, ↓n_ret, ↓n_exit, ↓b_normal, ↓b_ret, ↓b_exit, ↓xe_normal, ↓xe_ret, e_some, yieldOf, go_sem, ↓reduceIte, Nat.reduceEqDiff, Nat.reduceLT, Nat.reduceSub, X_maps_Equal_Stamp_Spot_7, X_maps_Equal_Stamp_Spot_8, Option.isSome_some, Bool.not_true, vload, vptr, Mem.read, p6, p7, hrs, Option.getD_some, sp_same, hss, decide_false, Bool.not_false]
          exact hQx _ _ ⟨x, hxm, by rw [hs, hgx]; intro h; exact hss (Option.some.inj h).symm⟩ hkeep (by simp only [go_sem, ↓reduceIte, Nat.reduceEqDiff, Nat.reduceLT, Nat.reduceSub])

theorem Equal_runs (M : Mem) (b1 b2 : Nat) (l l' : Tr) (hnd : (keysS l).Nodup) (ents : List MapEntry) (clock : Nat) (hl : ents.length = (keysS l).length) (hborn : Born ents clock)
    (hb1 : M.get b1 = some (.rmap (encM l) ents clock)) (hb2 : mapAt M b2 = some (encM l')) (l1 : b1 < M.next) (l2 : b2 < M.next) :
    XP F_maps_Equal_Stamp_Spot [.map (some b1), .map (some b2)] M fun v M' => v = .bool (eqB l l') ∧ ∀ c, c < M.next → M'.get c = M.get c := by
  refine XR_opq fun R hR => ?_
  refine XRuns.walk mixed Tryd.func54 b_maps_Equal_Stamp_Spot n_maps_Equal_Stamp_Spot r_maps_Equal_Stamp_Spot (by rfl) ?_
  unfold X_maps_Equal_Stamp_Spot
  have hm1 : mapAt M b1 = some (encM l) := by unfold mapAt; rw [hb1]
  by_cases hln : l.length = l'.length
  · have hlni : (l.length : Int) = (l'.length : Int) := by omega
    simp -dsimp only [↓x_seq', ↓x_ops, ↓x_skip, ↓x_ret, ↓x_exit, ↓x_block', ↓x_cond', cond_true', cond_false', ↓i_nil, ↓i_plain, ↓i_guard, xs_val, xs_call, xs_yield, xg_true, xg_false, ↓n_normal, ↓n_ret, ↓n_exit, ↓b_normal, ↓b_ret, ↓b_exit, ↓xe_normal, ↓xe_ret, e_some, yieldOf, go_sem, ↓reduceIte, Nat.reduceEqDiff, Nat.reduceLT, Nat.reduceSub, X_maps_Equal_Stamp_Spot_0, X_maps_Equal_Stamp_Spot_1, X_maps_Equal_Stamp_Spot_3, enc_lenI hm1, enc_lenI hb2, hlni, ne_eq, not_true_eq_false, decide_false]
    refine i_range (b := b1) (clock := clock) (by simp only [go_sem, ↓reduceIte, Nat.reduceEqDiff, Nat.reduceLT, Nat.reduceSub]) hb1 ?_
    have hit : (M.push (.mapIter (some b1) clock #[] clock)).get M.next = some (.mapIter (some b1) clock #[] clock) := Mem.get_push_same _ _
    have hp : ∀ c, c < M.next → (M.push (.mapIter (some b1) clock #[] clock)).get c = M.get c := fun c hc => Mem.get_push_ne _ _ (by omega)
    have hnx : (M.push (.mapIter (some b1) clock #[] clock)).next = M.next + 1 := rfl
    simp -dsimp only [↓x_seq', ↓x_ops, ↓x_skip, ↓x_ret, ↓x_exit, ↓x_block', ↓x_cond', cond_true', cond_false', ↓i_nil, ↓i_plain, ↓i_guard, xs_val, xs_call, xs_yield, xg_true, xg_false, ↓n_normal, ↓n_ret, ↓n_exit, ↓b_normal, ↓b_ret, ↓b_exit, ↓xe_normal, ↓xe_ret, e_some, yieldOf, go_sem, ↓reduceIte, Nat.reduceEqDiff, Nat.reduceLT, Nat.reduceSub]
    refine ⟨(keysS l).length + 1, Equal_loop M.next b1 b2 l l' hnd ents clock hl hborn _ ((hp _ l1).trans hb1) (mapAt_keep hb2 (hp _ l2)) (by omega) (by omega) (by omega) (by omega) _ ?_ ?_ (keysS l).length [] (List.range (keysS l).length) #[] [] _ _ (by simp) ⟨by simp, rfl, rfl⟩ (fun x hx => by cases hx) (fun _ _ _ => rfl) (Nat.le_refl _) (by omega) hit ?_ ?_⟩
    · intro fr M' hall hk
      simp -dsimp only [↓x_seq', ↓x_ops, ↓x_skip, ↓x_ret, ↓x_exit, ↓x_block', ↓x_cond', cond_true', cond_false', ↓i_nil, ↓i_plain, ↓i_guard, xs_val, xs_call, xs_yield, xg_true, xg_false, ↓n_normal, ↓n_ret, ↓n_exit, ↓b_normal, ↓b_ret, ↓b_exit, ↓xe_normal, ↓xe_ret, e_some, yieldOf, go_sem, ↓reduceIte, Nat.reduceEqDiff, Nat.reduceLT, Nat.reduceSub, X_maps_Equal_Stamp_Spot_10]
      refine hR _ _ ⟨?_, fun c hc => (hk c (by omega) (by omega)).trans (hp c hc)⟩
      rw [eqB, decide_eq_true hln, Bool.true_and, List.all_eq_true.mpr fun x hx => decide_eq_true (hall x hx)]
    · intro fr M' hex hk h4
      simp -dsimp only [↓x_seq', ↓x_ops, ↓x_skip, ↓x_ret, ↓x_exit, ↓x_block', ↓x_cond', cond_true', cond_false', ↓i_nil, ↓i_plain, ↓i_guard, xs_val, xs_call, xs_yield, xg_true, xg_false, ↓n_normal, ↓n_ret, ↓n_exit, ↓b_normal, ↓b_ret, ↓b_exit, ↓xe_normal, ↓xe_ret, e_some, yieldOf, go_sem, ↓reduceIte, Nat.reduceEqDiff, Nat.reduceLT, Nat.reduceSub, h4]
      refine hR _ _ ⟨?_, fun c hc => (hk c (by omega) (by omega)).trans (hp c hc)⟩
      obtain ⟨x, hx, hne⟩ := hex
      have : (keysS l).all (fun x => decide (getS l' x = getS l x)) = false := by
        rw [List.all_eq_false]
        exact ⟨x, hx, by simpa using hne⟩
      rw [eqB, this, Bool.and_false]
    all_goals simp only [go_sem, ↓reduceIte, Nat.reduceEqDiff, Nat.reduceLT, Nat.reduceSub]
  · have hlni : ¬ (l.length : Int) = (l'.length : Int) := by omega
    simp -dsimp only [↓x_seq', ↓x_ops, ↓x_skip, ↓x_ret, ↓x_exit, ↓x_block', ↓x_cond', cond_true', cond_false', ↓i_nil, ↓i_plain, ↓i_guard, xs_val, xs_call, xs_yield, xg_true, xg_false, ↓n_normal, ↓n_ret, ↓n_exit, ↓b_normal, ↓b_ret, ↓b_exit, ↓xe_normal, ↓xe_ret, e_some, yieldOf, go_sem, ↓reduceIte, Nat.reduceEqDiff, Nat.reduceLT, Nat.reduceSub, X_maps_Equal_Stamp_Spot_0, X_maps_Equal_Stamp_Spot_1, X_maps_Equal_Stamp_Spot_2, enc_lenI hm1, enc_lenI hb2, hlni, ne_eq, not_false_eq_true, decide_true]
    exact hR _ _ ⟨by rw [eqB, decide_eq_false hln, Bool.false_and], fun _ _ => rfl⟩

def pEqual (args : List V) (M : Mem) : Option KeepR :=
  match args with
  | [.map (some b1), .map (some b2)] => (match M.get b1, M.get b2 with
    | some (.map es), some (.map es') => (decM es).bind fun l => (decM es').bind fun l' => cond (decide (keysS l).Nodup) (some (.flat (.bool (eqB l l')))) none
    | _, _ => none)
  | _ => none
theorem pEqual_ok : CallOK Tryd.prog gl0 fun f' args M => if f' = F_maps_Equal_Stamp_Spot then (pEqual args M).map fun r => r.res M else none := by
  refine callOK_keep ⟨_, Tryd.func54, (by kernel_rfl), (by kernel_rfl)⟩ ?_
  intro args M r h hwf
  unfold pEqual at h
  split at h
  · rename_i b1 b2
    split at h
    · rename_i es es' hb1 hb2
      simp only [Option.bind_eq_some_iff] at h
      obtain ⟨l, hl, l', hl', h⟩ := h
      obtain ⟨hnd, h⟩ := cond_some h
      have hnd := of_decide_eq_true hnd
      cases h
      have e1 := decM_is hl
      have e2 := decM_is hl'
      subst e1 e2
      refine ⟨[b1], fun E w us hR hA b hb => ?_, fun Mz hz => ?_⟩
      · simp only [List.mem_singleton] at hb
        subst hb
        refine ⟨⟨_, hb1⟩, ?_⟩
        cases hA with
        | cons h1 t => cases h1 with
          | map hE => exact ⟨_, hE⟩
      · obtain ⟨es'', ents, clock, hz1, hz2, hz3, hz4⟩ := hz.at_ b1 (by simp)
        rw [hb1] at hz1
        cases hz1
        have lt1 := lt_of_get hwf hb1
        have lt2 := lt_of_get hwf hb2
        rw [← hz.next] at lt1 lt2
        have hm2 : mapAt Mz b2 = some (encM l') := by
          by_cases e : b2 = b1
          · subst e
            rw [hb1] at hb2
            simp only [Option.some.injEq, O.map.injEq] at hb2
            unfold mapAt
            rw [hz2]
            simp only [hb2]
          · unfold mapAt
            rw [hz.other b2 (by simpa using e), hb2]
        refine (Equal_runs Mz b1 b2 l l' hnd ents clock (by rw [hz3, enc_len, keys_len]) hz4 hz2 hm2 lt1 lt2).mono ?_
        intro v M' hv
        exact ⟨fun c hc => hv.2 c (by rw [hz.next]; exact hc), rfl, hv.1⟩
    · cases h
  · cases h
def D3 : Decls := D3a.addM F_maps_Equal_Stamp_Spot (fun args M => (pEqual args M).map fun r => r.res M)
theorem dok3 : DOK Tryd.prog gl0 D3 := dok3a.addM pEqual_ok
theorem le3b : D3a.le D3 := Decls.le_addM rfl (by rfl)
theorem le3 : D2.le D3 := Decls.le_trans le3a le3b

theorem Same_runs (M : Mem) (tc bm uc um : Nat) (l l' : Tr) (T : TreeIn M tc bm l) (U : TreeIn M uc um l') (hnd : (keysS l).Nodup) : Runs D3 F_tree_Tree_Same [.ptr (some (tc, 0)), .ptr (some (uc, 0))] M fun v M' => v = .bool (eqB l l') ∧ M' = M := by
  refine R_opq fun R hR => ?_
  refine Runs.walk (F := A_tree_Tree_Same) rfl (by rfl) (by rfl) ?_
  unfold A_tree_Tree_Same
  simp -dsimp only [↓w_seq, ↓w_ops, ↓w_skip, ↓w_ret, ↓w_exit, ↓w_scope, ↓w_block, ↓w_cond, cond_true', cond_false', ↓t_nil, ↓t_plain, ↓t_guard, ↓t_gagain, ↓t_again, t_val, t_call, g_true, g_false, ga_true, ga_false, a_val, a_call, ↓n_normal, ↓n_ret, ↓n_exit, ↓b_normal, ↓b_ret, ↓b_exit, ↓e_normal, ↓e_ret, e_some, go_sem, ↓reduceIte, Nat.reduceEqDiff, Nat.reduceLT, Nat.reduceSub, A_tree_Tree_Same_0, A_tree_Tree_Same_1]
  refine call_eq ((none_p (D := D2) rfl T.of).more le3) ?_
  simp -dsimp only [↓w_seq, ↓w_ops, ↓w_skip, ↓w_ret, ↓w_exit, ↓w_scope, ↓w_block, ↓w_cond, cond_true', cond_false', ↓t_nil, ↓t_plain, ↓t_guard, ↓t_gagain, ↓t_again, t_val, t_call, g_true, g_false, ga_true, ga_false, a_val, a_call, ↓n_normal, ↓n_ret, ↓n_exit, ↓b_normal, ↓b_ret, ↓b_exit, ↓e_normal, ↓e_ret, e_some, go_sem, ↓reduceIte, Nat.reduceEqDiff, Nat.reduceLT, Nat.reduceSub, Bool.not_false]
  refine call_eq ((none_p (D := D2) rfl U.of).more le3) ?_
  simp -dsimp only [↓w_seq, ↓w_ops, ↓w_skip, ↓w_ret, ↓w_exit, ↓w_scope, ↓w_block, ↓w_cond, cond_true', cond_false', ↓t_nil, ↓t_plain, ↓t_guard, ↓t_gagain, ↓t_again, t_val, t_call, g_true, g_false, ga_true, ga_false, a_val, a_call, ↓n_normal, ↓n_ret, ↓n_exit, ↓b_normal, ↓b_ret, ↓b_exit, ↓e_normal, ↓e_ret, e_some, go_sem, ↓reduceIte, Nat.reduceEqDiff, Nat.reduceLT, Nat.reduceSub, Bool.not_false, vload, vptr, Mem.read, T.c, U.c, Nat.add_zero, List.getElem?_cons_zero]
  refine call_eq (Runs.prim (v := .bool (eqB l l')) (M' := M) rfl (by
    simp only [pEqual, T.m, U.m, decM_enc, Option.bind_some, decide_eq_true hnd, cond_true, Option.map_some]
    rfl) ⟨rfl, rfl⟩) ?_
  simp -dsimp only [↓w_seq, ↓w_ops, ↓w_skip, ↓w_ret, ↓w_exit, ↓w_scope, ↓w_block, ↓w_cond, cond_true', cond_false', ↓t_nil, ↓t_plain, ↓t_guard, ↓t_gagain, ↓t_again, t_val, t_call, g_true, g_false, ga_true, ga_false, a_val, a_call, ↓n_normal, ↓n_ret, ↓n_exit, ↓b_normal, ↓b_ret, ↓b_exit, ↓e_normal, ↓e_ret, e_some, go_sem, ↓reduceIte, Nat.reduceEqDiff, Nat.reduceLT, Nat.reduceSub]
  exact hR _ _ ⟨rfl, rfl⟩
theorem eqB_self {l : Tr} : eqB l l = true := by
  rw [eqB, decide_eq_true rfl, Bool.true_and, List.all_eq_true]
  exact fun x _ => decide_eq_true rfl
end Go.Am.Tryd


/- The law TreeBack answers true. -/
namespace Go.Am.Tryd
open Go Go.Am Go.Proofs Go.Sort Go.Shelf
set_option maxRecDepth 100000
set_option linter.unusedSimpArgs false
set_option linter.unusedVariables false

/-! ### plainly: back to where it was -/
def RightT (l : Tr) : Prop := ∀ n s, getS l n = some s → rightSp s = true
theorem RightT.put {l : Tr} (h : RightT l) {n : St} {s : Spot} (hs : rightSp s = true) : RightT (putS l n s) := fun m t hm => by
  rw [get_put] at hm
  split at hm
  · cases hm; exact hs
  · exact h m t hm
theorem RightT.act {l : Tr} (h : RightT l) (hI : Inv l) (a : Act) : RightT (doT l a) := by
  unfold doT addT moveT dropT
  split
  · split
    · rename_i h0
      exact h.put (addE_0 h0).2.1
    · exact h
  · split
    · split
      · rename_i h0
        exact h.put (moveE_0 h0).2.1
      · exact h
    · split
      · split
        · intro m t hm
          rw [get_del _ _ _ hI.nd] at hm
          split at hm
          · cases hm
          · exact h m t hm
        · exact h
      · exact h
/-! ### the walk -/
structure BK (M : Mem) (tc bm uc um b3 : Nat) (l lu : Tr) (a : Act) : Prop where
  T : TreeIn M tc bm l
  U : TreeIn M uc um lu
  b : M.get b3 = some (.cells (actC a) false)
  bl : b3 < M.next
  ne1 : uc ≠ bm
  ne2 : um ≠ bm
  ne3 : b3 ≠ bm
  g : isG M = true
  n2 : 2 ≤ M.next
  bm2 : 2 ≤ bm
theorem BK.grew {M M' : Mem} {tc bm uc um b3 : Nat} {l lu : Tr} {a : Act} (h : BK M tc bm uc um b3 l lu a) (hG : Grew M M') : BK M' tc bm uc um b3 l lu a :=
  ⟨h.T.grew hG, h.U.grew hG, (hG.old _ h.bl).trans h.b, Nat.lt_of_lt_of_le h.bl hG.next, h.ne1, h.ne2, h.ne3, isG_keep h.g h.n2 hG.old, Nat.le_trans h.n2 hG.next, h.bm2⟩
theorem BK.new {M : Mem} {tc bm uc um b3 b' : Nat} {l lu : Tr} {a : Act} {o : O} (h : BK M tc bm uc um b3 l lu a) (h1 : b' ≠ tc) (h2 : b' ≠ bm) (h3 : b' ≠ uc) (h4 : b' ≠ um) (h5 : b' ≠ b3) (h6 : 2 ≤ b') : BK (M.set b' o) tc bm uc um b3 l lu a :=
  ⟨⟨(Mem.get_set_ne _ _ h1.symm).trans h.T.c, (Mem.get_set_ne _ _ h2.symm).trans h.T.m, h.T.tl, h.T.bl⟩, ⟨(Mem.get_set_ne _ _ h3.symm).trans h.U.c, (Mem.get_set_ne _ _ h4.symm).trans h.U.m, h.U.tl, h.U.bl⟩, (Mem.get_set_ne _ _ h5.symm).trans h.b, h.bl, h.ne1, h.ne2, h.ne3,
    isG_mk ((Mem.get_set_ne _ _ (by omega)).trans (isG_is h.g).1) ((Mem.get_set_ne _ _ (by omega)).trans (isG_is h.g).2), h.n2, h.bm2⟩
end Go.Am.Tryd


/- The law TreeBack answers true: the whole. -/
namespace Go.Am.Tryd
open Go Go.Am Go.Proofs Go.Sort Go.Shelf
set_option maxRecDepth 100000
set_option linter.unusedSimpArgs false
set_option linter.unusedVariables false

end Go.Am.Tryd


/- Own slices, also such as have no room; what is put together out of parts of one. -/
namespace Go.Am
open Go

/-! ### an own slice, or one of no room -/
def HoldE (lo : Nat) (M : Mem) (es : Nat) (s : V) (n : Nat) (cs : List V) : Prop :=
  Hold lo M es s n cs ∨ (n = 0 ∧ cs = [] ∧ ∃ b, s = .slice (some (b, 0)) 0 (.exact 0) ∧ M.get b = some (.cells [] false) ∧ lo ≤ b ∧ b < M.next)
theorem HoldE.keep {lo es n : Nat} {M M' : Mem} {s : V} {cs : List V} (h : HoldE lo M es s n cs) (hk : ∀ b, s.blk = some b → M'.get b = M.get b) (hn : M.next ≤ M'.next) : HoldE lo M' es s n cs := by
  rcases h with h | ⟨rfl, rfl, b, rfl, h1, h2, h3⟩
  · exact .inl (h.keep hk hn)
  · exact .inr ⟨rfl, rfl, b, rfl, (hk b rfl).trans h1, h2, by omega⟩
theorem HoldE.blk_le {lo es n : Nat} {M : Mem} {s : V} {cs : List V} (h : HoldE lo M es s n cs) {b : Nat} (hb : s.blk = some b) : lo ≤ b ∧ b < M.next := by
  rcases h with h | ⟨rfl, rfl, b', rfl, h1, h2, h3⟩
  · exact ⟨(h.blk_le hb).1, (h.blk_le hb).2.1⟩
  · simp only [V.blk, Option.some.injEq] at hb
    subst hb
    exact ⟨h2, h3⟩
theorem HoldE.append {lo es bytes n m : Nat} {M : Mem} {s x : V} {cs new : List V} (h : HoldE lo M es s n cs) (hlo : lo ≤ M.next) (hx : srcLen x = some m) (hc : srcCells es M m x = some new) (hnew : new.length = m * es)
    (hroom : (n + m) * bytes ≤ maxRoom) (hone : allOne new = true) :
    ∃ s' M', vappend es bytes M s x = some (s', M') ∧ HoldE lo M' es s' (n + m) (cs ++ new) ∧ (m ≠ 0 → Hold lo M' es s' (n + m) (cs ++ new)) ∧ M.next ≤ M'.next ∧ (∀ c, c < M.next → s.blk ≠ some c → M'.get c = M.get c) ∧ (s'.blk = s.blk ∨ s'.blk = some M.next) ∧ (m = 0 → s' = s ∧ M' = M) := by
  rcases h with h | ⟨rfl, rfl, b, rfl, h1, h2, h3⟩
  · by_cases hm : m = 0
    · subst hm
      obtain ⟨s', M', e1, e2, e3, e4, e5⟩ := h.append_any hlo hx hc hnew hroom hone
      have : new = [] := List.eq_nil_of_length_eq_zero (by simpa using hnew)
      subst this
      have h0 : vappend es bytes M s x = some (s, M) := by
        cases h with
        | nil => simp only [vappend, hx, hc, Option.bind_some, beq_dec, decide_true, cond_true]
        | row a b c d => simp only [vappend, hx, hc, Option.bind_some, beq_dec, decide_true, cond_true]
      rw [h0] at e1
      cases e1
      exact ⟨s, M, h0, .inl e2, fun hm => absurd rfl hm, Nat.le_refl _, fun _ _ _ => rfl, .inl rfl, fun _ => ⟨rfl, rfl⟩⟩
    · obtain ⟨M', e1, e2, e3, e4⟩ := h.append hlo hx hc hm hnew hroom hone
      exact ⟨_, M', e1, .inl e2, fun _ => e2, by omega, fun c hc1 hc2 => e4 c (by omega) hc2, .inr rfl, fun h => absurd h hm⟩
  · by_cases hm : m = 0
    · subst hm
      have : new = [] := List.eq_nil_of_length_eq_zero (by simpa using hnew)
      subst this
      exact ⟨_, M, by simp only [vappend, hx, hc, Option.bind_some, beq_dec, decide_true, cond_true], .inr ⟨rfl, rfl, b, rfl, h1, h2, h3⟩, fun hm => absurd rfl hm, Nat.le_refl _, fun _ _ _ => rfl, .inl rfl, fun _ => ⟨rfl, rfl⟩⟩
    · have hle : ¬ m ≤ 0 := by omega
      have hH : Hold lo (M.push (.cells new false)) es (.slice (some (M.next, 0)) m (.upto es)) m new := .row (Mem.get_push_same _ _) hnew hlo (by simp)
      refine ⟨.slice (some (M.next, 0)) m (.upto es), M.push (.cells new false), ?_, ?_, fun _ => ?_, by simp, fun c hc _ => Mem.get_push_ne _ _ (by omega), .inr rfl, fun h => absurd h hm⟩
      · rw [Nat.zero_add] at hroom
        simp only [vappend, hx, hc, Option.bind_some, beq_dec, hm, decide_false, cond_false, Nat.zero_add, ble_iff, hle, hroom, decide_true, cond_true, Option.map_some, List.nil_append]
      · rw [Nat.zero_add, List.nil_append]; exact .inl hH
      · rw [Nat.zero_add, List.nil_append]; exact hH


/-- The two parts of a slice. -/
theorem slice_two {lo es : Nat} {M : Mem} {so : V} {len : Nat} {cs : List V} (h : HoldE lo M es so len cs) {i j : Nat} (hi : i ≤ len) (hj : j ≤ len) :
    ∃ s1 s2, vslice es so none (some i) none = some s1 ∧ vslice es so (some j) none none = some s2 ∧ srcLen s1 = some i ∧ srcLen s2 = some (len - j) ∧
      ∀ M', (∀ b, so.blk = some b → M'.get b = M.get b) → srcCells es M' i s1 = some (cs.take (i * es)) ∧ srcCells es M' (len - j) s2 = some (cs.drop (j * es)) := by
  rcases h with h | ⟨rfl, rfl, b, rfl, h1, h2, h3⟩
  · have hcl := h.len
    cases h with
    | nil =>
      have : i = 0 := by omega
      subst this
      have : j = 0 := by omega
      subst this
      exact ⟨.slice none 0 (.exact 0), .slice none 0 (.exact 0), rfl, rfl, rfl, rfl, fun M' _ => ⟨by simp [srcCells], by simp [srcCells]⟩⟩
    | row a b c d =>
      rename_i blk
      refine ⟨.slice (some (blk, 0)) i (.upto es), .slice (some (blk, j * es)) (len - j) (.upto es), ?_, ?_, rfl, rfl, fun M' hM => ?_⟩
      · simp only [vslice, Option.getD_some, Option.getD_none, beq_dec, decide_true, cond_true, ble_iff, hi, Nat.zero_le, Nat.zero_mul, Nat.add_zero, Nat.sub_zero]
      · simp only [vslice, Option.getD_some, Option.getD_none, beq_dec, decide_true, cond_true, ble_iff, hj, Nat.le_refl, Nat.zero_add]
      · have hM' := (hM blk rfl).trans a
        have e1 : i * es ≤ len * es := Nat.mul_le_mul_right es hi
        have e2 : j * es + (len - j) * es = len * es := by rw [← Nat.add_mul]; congr 1; omega
        constructor
        · simp only [srcCells, beq_dec]
          by_cases h0 : i = 0
          · subst h0; simp
          · rw [decide_eq_false h0]
            simp only [cond_false, Mem.read, hM', rdCells]
            rw [ble_iff, decide_eq_true (by rw [hcl]; omega)]
            simp
        · simp only [srcCells, beq_dec]
          by_cases h0 : len - j = 0
          · rw [decide_eq_true h0]
            simp only [cond_true]
            rw [h0, Nat.zero_mul, Nat.add_zero] at e2
            rw [List.drop_eq_nil_of_le (by rw [hcl]; omega)]
          · rw [decide_eq_false h0]
            simp only [cond_false, Mem.read, hM', rdCells]
            rw [ble_iff, decide_eq_true (by rw [hcl]; omega)]
            simp only [cond_true]
            rw [List.take_of_length_le (by rw [List.length_drop, hcl]; omega)]
  · have : i = 0 := by omega
    subst this
    have : j = 0 := by omega
    subst this
    exact ⟨_, _, rfl, rfl, rfl, rfl, fun M' _ => ⟨by simp [srcCells, beq_dec], by simp [srcCells, beq_dec]⟩⟩

theorem Elem.all_take {α : Type} (e : Elem α) : ∀ (L : List α) (i : Nat), (e.all L).take (i * e.k) = e.all (L.take i)
  | [], i => by simp [Elem.all]
  | x :: L, 0 => by simp [Elem.all]
  | x :: L, i + 1 => by
    have ih := Elem.all_take e L i
    have h1 : e.all (x :: L) = e.cv x ++ e.all L := rfl
    have h2 : e.all ((x :: L).take (i + 1)) = e.cv x ++ e.all (L.take i) := rfl
    rw [h1, h2, Nat.add_mul, Nat.one_mul, Nat.add_comm, List.take_append, e.len, List.take_of_length_le (by rw [e.len]; omega), Nat.add_sub_cancel_left, ih]
theorem Elem.all_drop {α : Type} (e : Elem α) : ∀ (L : List α) (i : Nat), (e.all L).drop (i * e.k) = e.all (L.drop i)
  | [], i => by simp [Elem.all]
  | x :: L, 0 => by simp
  | x :: L, i + 1 => by
    have ih := Elem.all_drop e L i
    have h1 : e.all (x :: L) = e.cv x ++ e.all L := rfl
    rw [h1, Nat.add_mul, Nat.one_mul, Nat.add_comm, List.drop_append, e.len, List.drop_eq_nil_of_le (by rw [e.len]; omega), Nat.add_sub_cancel_left, ih]
    rfl
theorem Elem.all_app {α : Type} (e : Elem α) (a b : List α) : e.all (a ++ b) = e.all a ++ e.all b := by simp [Elem.all, List.flatMap_append]

/-- A part, a new one, the other part, put together anew. -/
theorem ins3 {α : Type} (e : Elem α) {bytes n i : Nat} {M : Mem} {s : V} {L : List α} {x : α} (hn : n = L.length) (h : HoldE 0 M e.k s n (e.all L)) (hi : i ≤ n) (hroom : (n + 1) * bytes ≤ maxRoom) :
    ∃ s46 s58 s47 Mc s52 Md s59 Me, vslice e.k s none (some i) none = some s46 ∧ vslice e.k s (some i) none none = some s58 ∧
      vappend e.k bytes ((M.push (.cells [] false)).push (.cells (e.cv x) false)) (.slice (some (M.next, 0)) 0 (.exact 0)) s46 = some (s47, Mc) ∧ vappend e.k bytes Mc s47 (.slice (some (M.next + 1, 0)) 1 (.exact 1)) = some (s52, Md) ∧ vappend e.k bytes Md s52 s58 = some (s59, Me) ∧
      HoldE M.next Me e.k s59 (n + 1) (e.all (L.take i ++ x :: L.drop i)) ∧ Grew M Mc ∧ Grew M Md ∧ Grew M Me ∧ Mc.get (M.next + 1) = some (.cells (e.cv x) false) := by
  have hkp := e.k_pos
  obtain ⟨s46, s58, v1, v2, l1, l2, hsrc⟩ := slice_two h hi hi
  have hG0 : Grew M ((M.push (.cells [] false)).push (.cells (e.cv x) false)) := (Grew.push _ _).trans (Grew.push _ _)
  have hE0 : HoldE M.next ((M.push (.cells [] false)).push (.cells (e.cv x) false)) e.k (.slice (some (M.next, 0)) 0 (.exact 0)) 0 [] :=
    .inr ⟨rfl, rfl, M.next, rfl, by rw [Mem.get_push_ne _ _ (by simp), Mem.get_push_same], Nat.le_refl _, by simp only [Mem.next_push]; omega⟩
  have hx0 : ((M.push (.cells [] false)).push (.cells (e.cv x) false)).get (M.next + 1) = some (.cells (e.cv x) false) := Mem.get_push_same (M.push _) _
  have hnx0 : ((M.push (.cells [] false)).push (.cells (e.cv x) false)).next = M.next + 2 := rfl
  generalize (M.push (.cells [] false)).push (.cells (e.cv x) false) = M0 at *
  have hb0 : ∀ b, s.blk = some b → b < M.next := fun b hb => (h.blk_le hb).2
  have c1 := (hsrc M0 fun b hb => hG0.old b (hb0 b hb)).1
  rw [e.all_take] at c1
  obtain ⟨s47, Mc, a1, a2, a3, a4, a5, a6, a7⟩ := hE0.append (bytes := bytes) (by omega) l1 c1 (by rw [e.all_len, List.length_take, Nat.min_eq_left (by omega)]) (Nat.le_trans (Nat.mul_le_mul_right bytes (by omega)) hroom) (e.all_one _)
  have hGc : Grew M Mc := ⟨by omega, fun c hc => by rw [a5 c (by omega) (fun e => by simp only [V.blk, Option.some.injEq] at e; omega)]; exact hG0.old c hc⟩
  have hxc : Mc.get (M.next + 1) = some (.cells (e.cv x) false) := by rw [a5 _ (by omega) (fun e => by simp only [V.blk, Option.some.injEq] at e; omega)]; exact hx0
  have hxs : srcCells e.k Mc 1 (.slice (some (M.next + 1, 0)) 1 (.exact 1)) = some (e.all [x]) := by
    have : e.all [x] = e.cv x := by simp [Elem.all]
    rw [this]
    have h2 := read_all hxc
    rw [e.len] at h2
    simp only [srcCells, beq_dec, Nat.one_mul, Nat.reduceEqDiff, decide_false, cond_false]
    exact h2
  obtain ⟨s52, Md, d1, d2, d3, d4, d5, d6, d7⟩ := a2.append (bytes := bytes) (by omega) (m := 1) (x := .slice (some (M.next + 1, 0)) 1 (.exact 1)) rfl hxs (by rw [e.all_len]; rfl) (Nat.le_trans (Nat.mul_le_mul_right bytes (by omega)) hroom) (e.all_one _)
  have hs47 : ∀ c, s47.blk = some c → M.next ≤ c := fun c hc => (a2.blk_le hc).1
  have hGd : Grew M Md := ⟨by have := hGc.next; omega, fun c hc => by rw [d5 c (by have := hGc.next; omega) (fun e => by have := hs47 _ e; omega)]; exact hGc.old c hc⟩
  have c3 := (hsrc Md fun b hb => hGd.old b (hb0 b hb)).2
  rw [e.all_drop] at c3
  obtain ⟨s59, Me, f1, f2, f3, f4, f5, f6, f7⟩ := d2.append (bytes := bytes) (by have := hGd.next; omega) l2 c3 (by rw [e.all_len, List.length_drop]; congr 1; omega) (Nat.le_trans (Nat.mul_le_mul_right bytes (by omega)) hroom) (e.all_one _)
  have hs52 : ∀ c, s52.blk = some c → M.next ≤ c := fun c hc => (d2.blk_le hc).1
  have hGe : Grew M Me := ⟨by have := hGd.next; omega, fun c hc => by rw [f5 c (by have := hGd.next; omega) (fun e => by have := hs52 _ e; omega)]; exact hGd.old c hc⟩
  refine ⟨s46, s58, s47, Mc, s52, Md, s59, Me, v1, v2, a1, d1, f1, ?_, hGc, hGd, hGe, hxc⟩
  have e1 : 0 + i + 1 + (n - i) = n + 1 := by omega
  have e2 : [] ++ e.all (L.take i) ++ e.all [x] ++ e.all (L.drop i) = e.all (L.take i ++ x :: L.drop i) := by
    rw [List.nil_append, ← e.all_app, ← e.all_app]
    simp
  rw [e1, e2] at f2
  exact f2
/-- A part, and what stands behind one, put together anew. -/
theorem del2 {α : Type} (e : Elem α) {bytes n i : Nat} {M : Mem} {s : V} {L : List α} (hn : n = L.length) (h : HoldE 0 M e.k s n (e.all L)) (hi : i < n) (hroom : (n + 1) * bytes ≤ maxRoom) :
    ∃ s39 s47 s40 Mc s48 Md, vslice e.k s none (some i) none = some s39 ∧ vslice e.k s (some (i + 1)) none none = some s47 ∧
      vappend e.k bytes (M.push (.cells [] false)) (.slice (some (M.next, 0)) 0 (.exact 0)) s39 = some (s40, Mc) ∧ vappend e.k bytes Mc s40 s47 = some (s48, Md) ∧
      HoldE M.next Md e.k s48 (n - 1) (e.all (L.eraseIdx i)) ∧ Grew M Mc ∧ Grew M Md := by
  have hkp := e.k_pos
  obtain ⟨s39, s47, v1, v2, l1, l2, hsrc⟩ := slice_two h (show i ≤ n by omega) (show i + 1 ≤ n by omega)
  have hG0 : Grew M (M.push (.cells [] false)) := Grew.push _ _
  have hE0 : HoldE M.next (M.push (.cells [] false)) e.k (.slice (some (M.next, 0)) 0 (.exact 0)) 0 [] :=
    .inr ⟨rfl, rfl, M.next, rfl, Mem.get_push_same _ _, Nat.le_refl _, by simp only [Mem.next_push]; omega⟩
  have hnx0 : (M.push (.cells [] false)).next = M.next + 1 := rfl
  generalize M.push (.cells [] false) = M0 at *
  have hb0 : ∀ b, s.blk = some b → b < M.next := fun b hb => (h.blk_le hb).2
  have c1 := (hsrc M0 fun b hb => hG0.old b (hb0 b hb)).1
  rw [e.all_take] at c1
  obtain ⟨s40, Mc, a1, a2, a3, a4, a5, a6, a7⟩ := hE0.append (bytes := bytes) (by omega) l1 c1 (by rw [e.all_len, List.length_take, Nat.min_eq_left (by omega)]) (Nat.le_trans (Nat.mul_le_mul_right bytes (by omega)) hroom) (e.all_one _)
  have hGc : Grew M Mc := ⟨by omega, fun c hc => by rw [a5 c (by omega) (fun e => by simp only [V.blk, Option.some.injEq] at e; omega)]; exact hG0.old c hc⟩
  have c3 := (hsrc Mc fun b hb => hGc.old b (hb0 b hb)).2
  rw [e.all_drop] at c3
  obtain ⟨s48, Md, f1, f2, f3, f4, f5, f6, f7⟩ := a2.append (bytes := bytes) (by omega) l2 c3 (by rw [e.all_len, List.length_drop]; congr 1; omega) (Nat.le_trans (Nat.mul_le_mul_right bytes (by omega)) hroom) (e.all_one _)
  have hs40 : ∀ c, s40.blk = some c → M.next ≤ c := fun c hc => (a2.blk_le hc).1
  have hGd : Grew M Md := ⟨by have := hGc.next; omega, fun c hc => by rw [f5 c (by have := hGc.next; omega) (fun e => by have := hs40 _ e; omega)]; exact hGc.old c hc⟩
  refine ⟨s39, s47, s40, Mc, s48, Md, v1, v2, a1, f1, ?_, hGc, hGd⟩
  have e1 : 0 + i + (n - (i + 1)) = n - 1 := by omega
  have e2 : [] ++ e.all (L.take i) ++ e.all (L.drop (i + 1)) = e.all (L.eraseIdx i) := by
    rw [List.nil_append, ← e.all_app, List.eraseIdx_eq_take_drop_succ]
  rw [e1, e2] at f2
  exact f2
end Go.Am


/- The reference's Above, Within, Below. -/
namespace Go.Am.Tryd
open Go Go.Am Go.Proofs Go.Sort Go.Shelf
set_option maxRecDepth 100000
set_option linter.unusedSimpArgs false
set_option linter.unusedVariables false

theorem HE.of {lo : Nat} {M : Mem} {s : V} {L : Tr} (h : HoldE lo M 5 s L.length (elRow.all L)) : HE M s L := by
  generalize hn : L.length = n at h
  generalize hc : elRow.all L = cs at h
  rcases h with h | ⟨rfl, rfl, b, rfl, h1, h2, h3⟩
  · cases h with
    | nil => exact .inl ⟨List.eq_nil_of_length_eq_zero hn, none, .exact 0, rfl, fun _ => rfl, fun b o e => (by cases e)⟩
    | row h1 h2 h3 h4 =>
      rename_i b
      by_cases hne : L = []
      · refine .inl ⟨hne, some (b, 0), .upto 5, ?_, fun e => (by cases e), fun b' o e => ?_⟩
        · rw [← hn, hne]; rfl
        · cases e; exact h4
      · exact .inr ⟨hne, _, by rw [hn], by rw [hc]; exact h1, h4⟩
  · exact .inl ⟨List.eq_nil_of_length_eq_zero hn, some (b, 0), .exact 0, rfl, fun e => (by cases e), fun b' o e => (by cases e; exact h3)⟩
/-- The reference's tree in memory. -/
structure RefIn (M : Mem) (rc : Nat) (s : V) (L : Tr) : Prop where
  c : M.get rc = some (.cells [s] false)
  rl : rc < M.next
  ho : HoldE 0 M 5 s L.length (elRow.all L)
  ln : L.length ≤ 100000
theorem RefIn.he {M : Mem} {rc : Nat} {s : V} {L : Tr} (h : RefIn M rc s L) : HE M s L := HE.of h.ho
theorem RefIn.keep {M M' : Mem} {rc : Nat} {s : V} {L : Tr} (h : RefIn M rc s L) (h1 : M'.get rc = M.get rc) (h2 : ∀ b, s.blk = some b → M'.get b = M.get b) (hn : M.next ≤ M'.next) : RefIn M' rc s L :=
  ⟨h1.trans h.c, Nat.lt_of_lt_of_le h.rl hn, h.ho.keep h2 hn, h.ln⟩
theorem RefIn.grew {M M' : Mem} {rc : Nat} {s : V} {L : Tr} (h : RefIn M rc s L) (hG : Grew M M') : RefIn M' rc s L :=
  h.keep (hG.old _ h.rl) (fun b hb => hG.old b (h.ho.blk_le hb).2) hG.next
theorem RefIn.rows {M : Mem} {rc : Nat} {s : V} {L : Tr} (h : RefIn M rc s L) : rowsOf M rc = some L := rowsOf_is h.c h.he h.ln

def upR (L : Tr) : Nat → St → List St
  | 0, _ => []
  | f + 1, n => if (findL L n).2 = true then (rowL L (findL L n).1).1 :: upR L f (rowL L (findL L n).1).1 else []
theorem upR_len (L : Tr) : ∀ (f : Nat) (n : St), (upR L f n).length ≤ f
  | 0, _ => Nat.le_refl _
  | f + 1, n => by
    unfold upR
    split
    · have := upR_len L f (rowL L (findL L n).1).1
      simp only [List.length_cons]; omega
    · simp

theorem rAbove_loop (rc b3 : Nat) (s : V) (L : Tr) (M0 : Mem) (h : RefIn M0 rc s L) (hb3 : M0.next ≤ b3) {Q : AExit → Fr → Mem → Prop} (out : List St) (hout : out.length ≤ 100001)
    (hE : ∀ fr M v, Grew M0 M → Hold (b3 + 1) M 2 v out.length (elSt.all out) → fr.rd 5 = v → Q (.exit 0) fr M) (hR : ∀ fr M v, Grew M0 M → Hold (b3 + 1) M 2 v out.length (elSt.all out) → fr.rd 4 = v → Q .ret fr M) :
    ∀ (f k : Nat) (n : St) (acc : List St) (v : V) (fr : Fr) (M : Mem), k + f = L.length + 1 → out = acc ++ upR L f n → Grew M0 M → b3 < M.next → M.get b3 = some (.cells (stC n) false) → Hold (b3 + 1) M 2 v acc.length (elSt.all acc) → fr.rd 0 = .ptr (some (rc, 0)) → fr.rd 3 = .ptr (some (b3, 0)) → fr.rd 5 = v → fr.rd 6 = .int .i64 (k : Int) → WC D2 41 (.loop A_ref10_Tree_Above_10) fr M Q := by
  have hln := h.ln
  intro f
  induction f with
  | zero =>
    intro k n acc v fr M hk ho hG hb hn hH h0 h3 h5 h6
    refine WC.loop (W_of ?_)
    unfold A_ref10_Tree_Above_10
    have hM := (h.grew hG)
    obtain ⟨a, cap, e, _⟩ := hM.he.sl
    have hc := hM.c
    rw [e] at hc
    have : ¬ (k : Int) ≤ L.length := by omega
    simp -dsimp only [↓w_seq, ↓w_ops, ↓w_skip, ↓w_ret, ↓w_exit, ↓w_scope, ↓w_block, ↓w_cond, cond_true', cond_false', ↓t_nil, ↓t_plain, ↓t_guard, ↓t_gagain, ↓t_again, t_val, t_call, g_true, g_false, ga_true, ga_false, a_val, a_call, ↓n_normal, ↓n_ret, ↓n_exit, ↓b_normal, ↓b_ret, ↓b_exit, ↓e_normal, ↓e_ret, e_some, go_sem, ↓reduceIte, Nat.reduceEqDiff, Nat.reduceLT, Nat.reduceSub, A_ref10_Tree_Above_3, h0, h6, vload, vptr, Mem.read, hc, Nat.add_zero, List.getElem?_cons_zero, this, decide_false]
    rw [upR, List.append_nil] at ho
    subst ho
    exact hE _ M v hG hH (by simp only [go_sem, ↓reduceIte, Nat.reduceEqDiff, Nat.reduceLT, Nat.reduceSub, h5])
  | succ f ih =>
    intro k n acc v fr M hk ho hG hb hn hH h0 h3 h5 h6
    refine WC.loop (W_of ?_)
    unfold A_ref10_Tree_Above_10
    have hM := (h.grew hG)
    have hsl := hM.he.sl
    obtain ⟨a, cap, e, _⟩ := id hsl
    have hc := hM.c
    rw [e] at hc
    have e1 : (k : Int) ≤ L.length := by omega
    have h5' : (k : Int) + 1 = ((k + 1 : Nat) : Int) := by omega
    have hrd : ∀ x : St, rdCells (stC x) 0 2 = some (stC x) := fun _ => rfl
    unfold upR at ho
    simp -dsimp only [↓w_seq, ↓w_ops, ↓w_skip, ↓w_ret, ↓w_exit, ↓w_scope, ↓w_block, ↓w_cond, cond_true', cond_false', ↓t_nil, ↓t_plain, ↓t_guard, ↓t_gagain, ↓t_again, t_val, t_call, g_true, g_false, ga_true, ga_false, a_val, a_call, ↓n_normal, ↓n_ret, ↓n_exit, ↓b_normal, ↓b_ret, ↓b_exit, ↓e_normal, ↓e_ret, e_some, go_sem, ↓reduceIte, Nat.reduceEqDiff, Nat.reduceLT, Nat.reduceSub, A_ref10_Tree_Above_3, A_ref10_Tree_Above_4, h0, h3, h6, vload, vptr, Mem.read, hc, hn, hrd, Nat.add_zero, List.getElem?_cons_zero, e1, decide_true]
    cases hf : (findL L n).2 with
    | false =>
      refine call_eq (find_p rfl hM.rows n) ?_
      rw [hf, if_neg (by simp), List.append_nil] at ho
      subst ho
      rw [hf]
      simp -dsimp only [↓w_seq, ↓w_ops, ↓w_skip, ↓w_ret, ↓w_exit, ↓w_scope, ↓w_block, ↓w_cond, cond_true', cond_false', ↓t_nil, ↓t_plain, ↓t_guard, ↓t_gagain, ↓t_again, t_val, t_call, g_true, g_false, ga_true, ga_false, a_val, a_call, ↓n_normal, ↓n_ret, ↓n_exit, ↓b_normal, ↓b_ret, ↓b_exit, ↓e_normal, ↓e_ret, e_some, go_sem, ↓reduceIte, Nat.reduceEqDiff, Nat.reduceLT, Nat.reduceSub, A_ref10_Tree_Above_5, A_ref10_Tree_Above_6, List.getElem?_cons_zero, List.getElem?_cons_succ, Bool.not_false, h5]
      exact hR _ M v hG hH (by simp only [go_sem, ↓reduceIte, Nat.reduceEqDiff, Nat.reduceLT, Nat.reduceSub])
    | true =>
      refine call_eq (find_p rfl hM.rows n) ?_
      rw [hf, if_pos rfl] at ho
      rw [hf]
      have hlt := findL_lt hf
      obtain ⟨b, o, cs, rb, cap', e', hMb, hr5, hr2, hr3, hr22⟩ := row_at hsl hlt
      rw [e] at e'
      simp only [V.slice.injEq, true_and] at e'
      obtain ⟨rfl, rfl⟩ := e'
      have hrl : L[(findL L n).1].2.1 = (rowL L (findL L n).1).1 := by simp [rowL, List.getD_eq_getElem?_getD, List.getElem?_eq_getElem hlt]
      rw [hrl] at hr22
      generalize (rowL L (findL L n).1).1 = p at hr22 ho
      have e2 : (findL L n).1 + 1 ≤ L.length := hlt
      have hcn : ∀ x : St, V.cells (.agg (stC x)) = stC x := fun _ => rfl
      have hw := write_full (vs := stC p) hn rfl rfl
      have hs3 := Mem.get_set_same M b3 (.cells (stC p) false)
      have hG2 : Grew M0 (M.set b3 (.cells (stC p) false)) := hG.upd hb3 (Upd.set _ _ _)
      have hH2 : Hold (b3 + 1) (M.set b3 (.cells (stC p) false)) 2 v acc.length (elSt.all acc) := hH.keep (fun c hc => Mem.get_set_ne _ _ (by have := (hH.blk_le hc).1; omega)) (Nat.le_refl _)
      have hnx : (M.set b3 (.cells (stC p) false)).next = M.next := rfl
      simp -dsimp only [↓w_seq, ↓w_ops, ↓w_skip, ↓w_ret, ↓w_exit, ↓w_scope, ↓w_block, ↓w_cond, cond_true', cond_false', ↓t_nil, ↓t_plain, ↓t_guard, ↓t_gagain, ↓t_again, t_val, t_call, g_true, g_false, ga_true, ga_false, a_val, a_call, ↓n_normal, ↓n_ret, ↓n_exit, ↓b_normal, ↓b_ret, ↓b_exit, ↓e_normal, ↓e_ret, e_some, go_sem, ↓reduceIte, Nat.reduceEqDiff, Nat.reduceLT, Nat.reduceSub, A_ref10_Tree_Above_5, A_ref10_Tree_Above_7, List.getElem?_cons_zero, List.getElem?_cons_succ, Bool.not_true, h0, h3, vload, vptr, Mem.read, hc, hMb, hr22, Nat.add_zero, e2, decide_true, vstore, hcn, stC_len, hw, Nat.reduceEqDiff]
      generalize M.set b3 (.cells (stC p) false) = M1 at *
      have hH3 : Hold (b3 + 1) (M1.push (.cells (stC p) false)) 2 v acc.length (elSt.all acc) := hH2.keep (fun c hc => Mem.get_push_ne _ _ (by have := hH2.blk_le hc; omega)) (by simp)
      have hul := upR_len L f p
      have hal : acc.length + 1 ≤ 100001 := by rw [ho] at hout; simp at hout; omega
      obtain ⟨M4, hap, hH4, hn4, ho4⟩ := hH3.append (bytes := 16) (m := 1) (x := .slice (some (M1.next, 0)) 1 (.exact 1)) (new := stC p) (by simp; omega) rfl
        (by
          have := read_all (Mem.get_push_same M1 (.cells (stC p) false))
          simp only [srcCells, beq_dec, Nat.one_mul, Nat.reduceEqDiff, decide_false, cond_false]
          exact this) (by omega) rfl (by
            have hmx : maxRoom = 17592186044416 := rfl
            omega) rfl
      have hf1 : fillCells [.int .i64 0, .int .i64 0] [(0, 2, .agg (stC p))] = some (stC p) := rfl
      simp -dsimp only [↓w_seq, ↓w_ops, ↓w_skip, ↓w_ret, ↓w_exit, ↓w_scope, ↓w_block, ↓w_cond, cond_true', cond_false', ↓t_nil, ↓t_plain, ↓t_guard, ↓t_gagain, ↓t_again, t_val, t_call, g_true, g_false, ga_true, ga_false, a_val, a_call, ↓n_normal, ↓n_ret, ↓n_exit, ↓b_normal, ↓b_ret, ↓b_exit, ↓e_normal, ↓e_ret, e_some, go_sem, ↓reduceIte, Nat.reduceEqDiff, Nat.reduceLT, Nat.reduceSub, A_ref10_Tree_Above_8, A_ref10_Tree_Above_9, h3, h5, h6, h5', vload, vptr, Mem.read, hs3, hrd, repl, List.append_nil, hf1, hap, IntWalk.i64_in ((k + 1 : Nat) : Int) (by omega)]
      simp only [Mem.next_push] at hH4 hn4 ho4
      refine ih (k + 1) p (acc ++ [p]) (.slice (some (M1.next + 1, 0)) (acc.length + 1) (.upto 2)) _ M4 (by omega) (by rw [ho]; simp) ⟨by have := hG2.next; omega, fun c hc => ?_⟩ (by omega) ?_ ?_ ?_ ?_ ?_ ?_
      · have := hG2.next
        rw [ho4 c (by omega) (fun e => by have := (hH2.blk_le e).1; omega), Mem.get_push_ne _ _ (by omega)]
        exact hG2.old c hc
      · rw [ho4 b3 (by omega) (fun e => by have := (hH2.blk_le e).1; omega), Mem.get_push_ne _ _ (by omega)]
        exact hs3
      · have e2 : elSt.all (acc ++ [p]) = elSt.all acc ++ stC p := by simp [Elem.all, elSt]
        rw [List.length_append, e2]
        exact hH4
      all_goals simp only [go_sem, ↓reduceIte, Nat.reduceEqDiff, Nat.reduceLT, Nat.reduceSub, h0, h3, Mem.next_push]
theorem rAbove_runs (rc : Nat) (s : V) (L : Tr) (n : St) (M : Mem) (h : RefIn M rc s L) : Runs D2 F_ref10_Tree_Above [.ptr (some (rc, 0)), .agg (stC n)] M fun v M' => Grew M M' ∧ Hold M.next M' 2 v (upR L (L.length + 1) n).length (elSt.all (upR L (L.length + 1) n)) := by
  refine R_opq fun R hR => ?_
  refine Runs.walk (F := A_ref10_Tree_Above) rfl (by rfl) (by rfl) ?_
  unfold A_ref10_Tree_Above
  have hcn : V.cells (.agg (stC n)) = stC n := rfl
  have hG := Grew.push M (.cells (stC n) false)
  have g3 : (M.push (.cells (stC n) false)).get M.next = some (.cells (stC n) false) := Mem.get_push_same _ _
  have hnx : (M.push (.cells (stC n) false)).next = M.next + 1 := rfl
  have hln := h.ln
  simp -dsimp only [↓w_seq, ↓w_ops, ↓w_skip, ↓w_ret, ↓w_exit, ↓w_scope, ↓w_block, ↓w_cond, cond_true', cond_false', ↓t_nil, ↓t_plain, ↓t_guard, ↓t_gagain, ↓t_again, t_val, t_call, g_true, g_false, ga_true, ga_false, a_val, a_call, ↓n_normal, ↓n_ret, ↓n_exit, ↓b_normal, ↓b_ret, ↓b_exit, ↓e_normal, ↓e_ret, e_some, go_sem, ↓reduceIte, Nat.reduceEqDiff, Nat.reduceLT, Nat.reduceSub, A_ref10_Tree_Above_0, A_ref10_Tree_Above_1, A_ref10_Tree_Above_2, hcn]
  generalize M.push (.cells (stC n) false) = M1 at *
  refine rAbove_loop rc M.next s L M h (Nat.le_refl _) (upR L (L.length + 1) n) (Nat.le_trans (upR_len L _ n) (by omega)) ?_ ?_ (L.length + 1) 0 n [] (.slice none 0 (.exact 0)) _ M1 (by omega) rfl hG (by omega) g3 .nil ?_ ?_ ?_ ?_
  · intro fr M2 v hG2 hH h5
    simp -dsimp only [↓w_seq, ↓w_ops, ↓w_skip, ↓w_ret, ↓w_exit, ↓w_scope, ↓w_block, ↓w_cond, cond_true', cond_false', ↓t_nil, ↓t_plain, ↓t_guard, ↓t_gagain, ↓t_again, t_val, t_call, g_true, g_false, ga_true, ga_false, a_val, a_call, ↓n_normal, ↓n_ret, ↓n_exit, ↓b_normal, ↓b_ret, ↓b_exit, ↓e_normal, ↓e_ret, e_some, go_sem, ↓reduceIte, Nat.reduceEqDiff, Nat.reduceLT, Nat.reduceSub, A_ref10_Tree_Above_11, h5]
    exact hR _ _ ⟨hG2, hH.lower (by omega)⟩
  · intro fr M2 v hG2 hH h4
    simp -dsimp only [↓w_seq, ↓w_ops, ↓w_skip, ↓w_ret, ↓w_exit, ↓w_scope, ↓w_block, ↓w_cond, cond_true', cond_false', ↓t_nil, ↓t_plain, ↓t_guard, ↓t_gagain, ↓t_again, t_val, t_call, g_true, g_false, ga_true, ga_false, a_val, a_call, ↓n_normal, ↓n_ret, ↓n_exit, ↓b_normal, ↓b_ret, ↓b_exit, ↓e_normal, ↓e_ret, e_some, go_sem, ↓reduceIte, Nat.reduceEqDiff, Nat.reduceLT, Nat.reduceSub, h4]
    exact hR _ _ ⟨hG2, hH.lower (by omega)⟩
  all_goals simp only [go_sem, ↓reduceIte, Nat.reduceEqDiff, Nat.reduceLT, Nat.reduceSub]
  rfl

theorem mem_loop (b4 : Nat) (p : St) (su : V) (up : List St) (M : Mem) (hs : SlR elSt M su up) (hul : up.length ≤ 100001) (h4 : M.get b4 = some (.cells (stC p) false)) {Q : AExit → Fr → Mem → Prop}
    (hE : ∀ fr, p ∉ up → Q (.exit 0) fr M) (hR : ∀ fr, p ∈ up → fr.rd 6 = .bool true → Q .ret fr M) :
    ∀ (f k : Nat) (fr : Fr), k + f = up.length → p ∉ up.take k → fr.rd 4 = .ptr (some (b4, 0)) → fr.rd 9 = su → fr.rd 10 = .int .i64 (k : Int) → WC D2 37 (.loop A_ref10_Tree_Within_12) fr M Q := by
  intro f
  induction f with
  | zero =>
    intro k fr hk hn hf4 h9 h10
    refine WC.loop (W_of ?_)
    unfold A_ref10_Tree_Within_12
    obtain ⟨a, cap, rfl, _⟩ := hs
    have : ¬ (k : Int) < up.length := by omega
    simp -dsimp only [↓w_seq, ↓w_ops, ↓w_skip, ↓w_ret, ↓w_exit, ↓w_scope, ↓w_block, ↓w_cond, cond_true', cond_false', ↓t_nil, ↓t_plain, ↓t_guard, ↓t_gagain, ↓t_again, t_val, t_call, g_true, g_false, ga_true, ga_false, a_val, a_call, ↓n_normal, ↓n_ret, ↓n_exit, ↓b_normal, ↓b_ret, ↓b_exit, ↓e_normal, ↓e_ret, e_some, go_sem, ↓reduceIte, Nat.reduceEqDiff, Nat.reduceLT, Nat.reduceSub, A_ref10_Tree_Within_8, h9, h10, this, decide_false]
    have : k = up.length := by omega
    subst this
    rw [List.take_length] at hn
    exact hE _ hn
  | succ f ih =>
    intro k fr hk hn hf4 h9 h10
    refine WC.loop (W_of ?_)
    unfold A_ref10_Tree_Within_12
    have hil : k < up.length := by omega
    obtain ⟨b, o, cs, ro, cap, rfl, hM, hr⟩ := st_at hs hil
    have e1 : (k : Int) < up.length := by omega
    have e2 : k + 1 ≤ up.length := by omega
    have h5' : (k : Int) + 1 = ((k + 1 : Nat) : Int) := by omega
    have hrd : ∀ x : St, rdCells (stC x) 0 2 = some (stC x) := fun _ => rfl
    by_cases he : up[k] = p
    · simp -dsimp only [↓w_seq, ↓w_ops, ↓w_skip, ↓w_ret, ↓w_exit, ↓w_scope, ↓w_block, ↓w_cond, cond_true', cond_false', ↓t_nil, ↓t_plain, ↓t_guard, ↓t_gagain, ↓t_again, t_val, t_call, g_true, g_false, ga_true, ga_false, a_val, a_call, ↓n_normal, ↓n_ret, ↓n_exit, ↓b_normal, ↓b_ret, ↓b_exit, ↓e_normal, ↓e_ret, e_some, go_sem, ↓reduceIte, Nat.reduceEqDiff, Nat.reduceLT, Nat.reduceSub, A_ref10_Tree_Within_8, A_ref10_Tree_Within_9, A_ref10_Tree_Within_10, hf4, h9, h10, e1, e2, decide_true, vload, vptr, Mem.read, hM, hr, h4, hrd, st_same, he]
      exact hR _ (he ▸ List.getElem_mem hil) (by simp only [go_sem, ↓reduceIte, Nat.reduceEqDiff, Nat.reduceLT, Nat.reduceSub])
    · simp -dsimp only [↓w_seq, ↓w_ops, ↓w_skip, ↓w_ret, ↓w_exit, ↓w_scope, ↓w_block, ↓w_cond, cond_true', cond_false', ↓t_nil, ↓t_plain, ↓t_guard, ↓t_gagain, ↓t_again, t_val, t_call, g_true, g_false, ga_true, ga_false, a_val, a_call, ↓n_normal, ↓n_ret, ↓n_exit, ↓b_normal, ↓b_ret, ↓b_exit, ↓e_normal, ↓e_ret, e_some, go_sem, ↓reduceIte, Nat.reduceEqDiff, Nat.reduceLT, Nat.reduceSub, A_ref10_Tree_Within_8, A_ref10_Tree_Within_9, A_ref10_Tree_Within_11, hf4, h9, h10, e1, e2, decide_true, vload, vptr, Mem.read, hM, hr, h4, hrd, st_same, he, decide_false, h5', IntWalk.i64_in ((k + 1 : Nat) : Int) (by omega)]
      refine ih (k + 1) _ (by omega) ?_ ?_ ?_ ?_
      · rw [List.take_add_one, List.getElem?_eq_getElem hil]
        intro hm
        rcases List.mem_append.mp hm with hm | hm
        · exact hn hm
        · simp only [Option.toList, List.mem_singleton] at hm
          exact he hm.symm
      all_goals simp only [go_sem, ↓reduceIte, Nat.reduceEqDiff, Nat.reduceLT, Nat.reduceSub, hf4, h9]
def withinR (L : Tr) (p n : St) : Bool := (findL L n).2 && (decide (p = n) || decide (p ∈ upR L (L.length + 1) n))
theorem rWithin_runs (rc : Nat) (s : V) (L : Tr) (p n : St) (M : Mem) (h : RefIn M rc s L) : Runs D2 F_ref10_Tree_Within [.ptr (some (rc, 0)), .agg (stC p), .agg (stC n)] M fun v M' => v = .bool (withinR L p n) ∧ Grew M M' := by
  refine R_opq fun R hR => ?_
  refine Runs.walk (F := A_ref10_Tree_Within) rfl (by rfl) (by rfl) ?_
  unfold A_ref10_Tree_Within
  have hcn : ∀ x : St, V.cells (.agg (stC x)) = stC x := fun _ => rfl
  have hrd : ∀ x : St, rdCells (stC x) 0 2 = some (stC x) := fun _ => rfl
  have hG := (Grew.push M (.cells (stC p) false)).trans (Grew.push _ (.cells (stC n) false))
  have g4 : ((M.push (.cells (stC p) false)).push (.cells (stC n) false)).get M.next = some (.cells (stC p) false) := by rw [Mem.get_push_ne _ _ (by simp), Mem.get_push_same]
  have g5 : ((M.push (.cells (stC p) false)).push (.cells (stC n) false)).get (M.next + 1) = some (.cells (stC n) false) := Mem.get_push_same (M.push _) _
  have hnx : ((M.push (.cells (stC p) false)).push (.cells (stC n) false)).next = M.next + 2 := rfl
  simp -dsimp only [↓w_seq, ↓w_ops, ↓w_skip, ↓w_ret, ↓w_exit, ↓w_scope, ↓w_block, ↓w_cond, cond_true', cond_false', ↓t_nil, ↓t_plain, ↓t_guard, ↓t_gagain, ↓t_again, t_val, t_call, g_true, g_false, ga_true, ga_false, a_val, a_call, ↓n_normal, ↓n_ret, ↓n_exit, ↓b_normal, ↓b_ret, ↓b_exit, ↓e_normal, ↓e_ret, e_some, go_sem, ↓reduceIte, Nat.reduceEqDiff, Nat.reduceLT, Nat.reduceSub, A_ref10_Tree_Within_0, A_ref10_Tree_Within_1, hcn, Mem.next_push]
  generalize (M.push (.cells (stC p) false)).push (.cells (stC n) false) = M1 at *
  have h1 := h.grew hG
  simp -dsimp only [↓w_seq, ↓w_ops, ↓w_skip, ↓w_ret, ↓w_exit, ↓w_scope, ↓w_block, ↓w_cond, cond_true', cond_false', ↓t_nil, ↓t_plain, ↓t_guard, ↓t_gagain, ↓t_again, t_val, t_call, g_true, g_false, ga_true, ga_false, a_val, a_call, ↓n_normal, ↓n_ret, ↓n_exit, ↓b_normal, ↓b_ret, ↓b_exit, ↓e_normal, ↓e_ret, e_some, go_sem, ↓reduceIte, Nat.reduceEqDiff, Nat.reduceLT, Nat.reduceSub, vload, vptr, Mem.read, g5, hrd]
  cases hf : (findL L n).2 with
  | false =>
    refine call_eq (find_p rfl h1.rows n) ?_
    rw [hf]
    simp -dsimp only [↓w_seq, ↓w_ops, ↓w_skip, ↓w_ret, ↓w_exit, ↓w_scope, ↓w_block, ↓w_cond, cond_true', cond_false', ↓t_nil, ↓t_plain, ↓t_guard, ↓t_gagain, ↓t_again, t_val, t_call, g_true, g_false, ga_true, ga_false, a_val, a_call, ↓n_normal, ↓n_ret, ↓n_exit, ↓b_normal, ↓b_ret, ↓b_exit, ↓e_normal, ↓e_ret, e_some, go_sem, ↓reduceIte, Nat.reduceEqDiff, Nat.reduceLT, Nat.reduceSub, A_ref10_Tree_Within_2, A_ref10_Tree_Within_3, List.getElem?_cons_zero, List.getElem?_cons_succ, Bool.not_false]
    exact hR _ _ ⟨by rw [withinR, hf]; rfl, hG⟩
  | true =>
    by_cases hpn : p = n
    · refine call_eq (find_p rfl h1.rows n) ?_
      rw [hf]
      simp -dsimp only [↓w_seq, ↓w_ops, ↓w_skip, ↓w_ret, ↓w_exit, ↓w_scope, ↓w_block, ↓w_cond, cond_true', cond_false', ↓t_nil, ↓t_plain, ↓t_guard, ↓t_gagain, ↓t_again, t_val, t_call, g_true, g_false, ga_true, ga_false, a_val, a_call, ↓n_normal, ↓n_ret, ↓n_exit, ↓b_normal, ↓b_ret, ↓b_exit, ↓e_normal, ↓e_ret, e_some, go_sem, ↓reduceIte, Nat.reduceEqDiff, Nat.reduceLT, Nat.reduceSub, A_ref10_Tree_Within_2, A_ref10_Tree_Within_4, A_ref10_Tree_Within_5, List.getElem?_cons_zero, List.getElem?_cons_succ, Bool.not_true, vload, vptr, Mem.read, g4, g5, hrd, st_same, hpn, decide_true]
      exact hR _ _ ⟨by rw [withinR, hf, decide_eq_true hpn]; rfl, hG⟩
    · refine call_eq (find_p rfl h1.rows n) ?_
      rw [hf]
      simp -dsimp only [↓w_seq, ↓w_ops, ↓w_skip, ↓w_ret, ↓w_exit, ↓w_scope, ↓w_block, ↓w_cond, cond_true', cond_false', ↓t_nil, ↓t_plain, ↓t_guard, ↓t_gagain, ↓t_again, t_val, t_call, g_true, g_false, ga_true, ga_false, a_val, a_call, ↓n_normal, ↓n_ret, ↓n_exit, ↓b_normal, ↓b_ret, ↓b_exit, ↓e_normal, ↓e_ret, e_some, go_sem, ↓reduceIte, Nat.reduceEqDiff, Nat.reduceLT, Nat.reduceSub, A_ref10_Tree_Within_2, A_ref10_Tree_Within_4, A_ref10_Tree_Within_6, List.getElem?_cons_zero, List.getElem?_cons_succ, Bool.not_true, vload, vptr, Mem.read, g4, g5, hrd, st_same, hpn, decide_false]
      refine call_of (rAbove_runs rc s L n M1 h1) ?_
      intro v M2 hv
      obtain ⟨hG2, hH⟩ := hv
      have hln := h.ln
      have hsl := Hold.slR hH
      simp -dsimp only [↓w_seq, ↓w_ops, ↓w_skip, ↓w_ret, ↓w_exit, ↓w_scope, ↓w_block, ↓w_cond, cond_true', cond_false', ↓t_nil, ↓t_plain, ↓t_guard, ↓t_gagain, ↓t_again, t_val, t_call, g_true, g_false, ga_true, ga_false, a_val, a_call, ↓n_normal, ↓n_ret, ↓n_exit, ↓b_normal, ↓b_ret, ↓b_exit, ↓e_normal, ↓e_ret, e_some, go_sem, ↓reduceIte, Nat.reduceEqDiff, Nat.reduceLT, Nat.reduceSub, A_ref10_Tree_Within_7]
      refine mem_loop M.next p v (upR L (L.length + 1) n) M2 hsl (Nat.le_trans (upR_len L _ n) (by omega)) ((hG2.old _ (by omega)).trans g4) ?_ ?_ (upR L (L.length + 1) n).length 0 _ (by omega) (by simp) ?_ ?_ ?_
      · intro fr hni
        simp -dsimp only [↓w_seq, ↓w_ops, ↓w_skip, ↓w_ret, ↓w_exit, ↓w_scope, ↓w_block, ↓w_cond, cond_true', cond_false', ↓t_nil, ↓t_plain, ↓t_guard, ↓t_gagain, ↓t_again, t_val, t_call, g_true, g_false, ga_true, ga_false, a_val, a_call, ↓n_normal, ↓n_ret, ↓n_exit, ↓b_normal, ↓b_ret, ↓b_exit, ↓e_normal, ↓e_ret, e_some, go_sem, ↓reduceIte, Nat.reduceEqDiff, Nat.reduceLT, Nat.reduceSub, A_ref10_Tree_Within_13]
        exact hR _ _ ⟨by rw [withinR, hf, decide_eq_false hpn, decide_eq_false hni]; rfl, hG.trans hG2⟩
      · intro fr hin h6
        simp -dsimp only [↓w_seq, ↓w_ops, ↓w_skip, ↓w_ret, ↓w_exit, ↓w_scope, ↓w_block, ↓w_cond, cond_true', cond_false', ↓t_nil, ↓t_plain, ↓t_guard, ↓t_gagain, ↓t_again, t_val, t_call, g_true, g_false, ga_true, ga_false, a_val, a_call, ↓n_normal, ↓n_ret, ↓n_exit, ↓b_normal, ↓b_ret, ↓b_exit, ↓e_normal, ↓e_ret, e_some, go_sem, ↓reduceIte, Nat.reduceEqDiff, Nat.reduceLT, Nat.reduceSub, h6]
        exact hR _ _ ⟨by rw [withinR, hf, decide_eq_false hpn, decide_eq_true hin]; rfl, hG.trans hG2⟩
      all_goals simp only [go_sem, ↓reduceIte, Nat.reduceEqDiff, Nat.reduceLT, Nat.reduceSub]
      rfl
end Go.Am.Tryd


/- The reference's Below and Add. -/
namespace Go.Am.Tryd
open Go Go.Am Go.Proofs Go.Sort Go.Shelf
set_option maxRecDepth 100000
set_option linter.unusedSimpArgs false
set_option linter.unusedVariables false

def belR (L : Tr) (p : St) : List St := (L.filter fun r => decide (r.2.1 = p)).map (·.1)
theorem belR_len (L : Tr) (p : St) : (belR L p).length ≤ L.length := by
  unfold belR
  rw [List.length_map]
  exact List.length_filter_le _ _
theorem rBelow_loop (rc b3 : Nat) (s : V) (L : Tr) (p : St) (M0 : Mem) (h : RefIn M0 rc s L) (l3 : b3 < M0.next) (h3 : M0.get b3 = some (.cells (stC p) false)) {Q : AExit → Fr → Mem → Prop}
    (hE : ∀ fr M v, Grew M0 M → Hold M0.next M 2 v (belR L p).length (elSt.all (belR L p)) → fr.rd 5 = v → Q (.exit 0) fr M) :
    ∀ (f i : Nat) (v : V) (fr : Fr) (M : Mem), i + f = L.length → Grew M0 M → Hold M0.next M 2 v (belR (L.take i) p).length (elSt.all (belR (L.take i) p)) → fr.rd 0 = .ptr (some (rc, 0)) → fr.rd 3 = .ptr (some (b3, 0)) → fr.rd 5 = v → fr.rd 6 = .int .i64 (i : Int) → WC D2 39 (.loop A_ref10_Tree_Below_7) fr M Q := by
  have hln := h.ln
  intro f
  induction f with
  | zero =>
    intro i v fr M hi hG hH h0 hf3 h5 h6
    refine WC.loop (W_of ?_)
    unfold A_ref10_Tree_Below_7
    have hM := h.grew hG
    obtain ⟨a, cap, e, _⟩ := hM.he.sl
    have hc := hM.c
    rw [e] at hc
    have : ¬ (i : Int) < L.length := by omega
    simp -dsimp only [↓w_seq, ↓w_ops, ↓w_skip, ↓w_ret, ↓w_exit, ↓w_scope, ↓w_block, ↓w_cond, cond_true', cond_false', ↓t_nil, ↓t_plain, ↓t_guard, ↓t_gagain, ↓t_again, t_val, t_call, g_true, g_false, ga_true, ga_false, a_val, a_call, ↓n_normal, ↓n_ret, ↓n_exit, ↓b_normal, ↓b_ret, ↓b_exit, ↓e_normal, ↓e_ret, e_some, go_sem, ↓reduceIte, Nat.reduceEqDiff, Nat.reduceLT, Nat.reduceSub, A_ref10_Tree_Below_3, h0, h6, vload, vptr, Mem.read, hc, Nat.add_zero, List.getElem?_cons_zero, this, decide_false]
    have : i = L.length := by omega
    subst this
    rw [List.take_length] at hH
    exact hE _ M v hG hH (by simp only [go_sem, ↓reduceIte, Nat.reduceEqDiff, Nat.reduceLT, Nat.reduceSub, h5])
  | succ f ih =>
    intro i v fr M hi hG hH h0 hf3 h5 h6
    refine WC.loop (W_of ?_)
    unfold A_ref10_Tree_Below_7
    have hil : i < L.length := by omega
    have hM := h.grew hG
    obtain ⟨b, o, cs, rb, cap, e, hMb, hr5, hr2, hr3, hr22⟩ := row_at hM.he.sl hil
    have hc := hM.c
    rw [e] at hc
    have g3 := (hG.old _ l3).trans h3
    have e1 : (i : Int) < L.length := by omega
    have e2 : i + 1 ≤ L.length := by omega
    have h5' : (i : Int) + 1 = ((i + 1 : Nat) : Int) := by omega
    have hrd : ∀ x : St, rdCells (stC x) 0 2 = some (stC x) := fun _ => rfl
    have htk : belR (L.take (i + 1)) p = belR (L.take i) p ++ (if L[i].2.1 = p then [L[i].1] else []) := by
      unfold belR
      rw [take_snoc L hil, List.filter_append, List.map_append]
      by_cases hp : L[i].2.1 = p <;> simp [hp]
    generalize L[i] = x at *
    have hn0 := hG.next
    by_cases hp : x.2.1 = p
    · rw [if_pos hp] at htk
      rw [hp] at hr22
      have hbl := belR_len (L.take i) p
      rw [List.length_take] at hbl
      have hH3 : Hold M0.next (M.push (.cells (stC x.1) false)) 2 v (belR (L.take i) p).length (elSt.all (belR (L.take i) p)) := hH.keep (fun c hc => Mem.get_push_ne _ _ (by have := hH.blk_le hc; omega)) (by simp)
      obtain ⟨M4, hap, hH4, hn4, ho4⟩ := hH3.append (bytes := 16) (m := 1) (x := .slice (some (M.next, 0)) 1 (.exact 1)) (new := stC x.1) (by simp; omega) rfl
        (by
          have := read_all (Mem.get_push_same M (.cells (stC x.1) false))
          simp only [srcCells, beq_dec, Nat.one_mul, Nat.reduceEqDiff, decide_false, cond_false]
          exact this) (by omega) rfl (by
            have hmx : maxRoom = 17592186044416 := rfl
            omega) rfl
      have hf1 : fillCells [.int .i64 0, .int .i64 0] [(0, 2, .agg (stC x.1))] = some (stC x.1) := rfl
      simp -dsimp only [↓w_seq, ↓w_ops, ↓w_skip, ↓w_ret, ↓w_exit, ↓w_scope, ↓w_block, ↓w_cond, cond_true', cond_false', ↓t_nil, ↓t_plain, ↓t_guard, ↓t_gagain, ↓t_again, t_val, t_call, g_true, g_false, ga_true, ga_false, a_val, a_call, ↓n_normal, ↓n_ret, ↓n_exit, ↓b_normal, ↓b_ret, ↓b_exit, ↓e_normal, ↓e_ret, e_some, go_sem, ↓reduceIte, Nat.reduceEqDiff, Nat.reduceLT, Nat.reduceSub, A_ref10_Tree_Below_3, A_ref10_Tree_Below_4, A_ref10_Tree_Below_5, A_ref10_Tree_Below_6, h0, hf3, h5, h6, vload, vptr, Mem.read, hc, hMb, g3, hr2, hr22, hrd, Nat.add_zero, List.getElem?_cons_zero, e1, e2, decide_true, st_same, repl, List.append_nil, hf1, hap, h5', IntWalk.i64_in ((i + 1 : Nat) : Int) (by omega)]
      simp only [Mem.next_push] at hH4 hn4 ho4
      refine ih (i + 1) (.slice (some (M.next + 1, 0)) ((belR (L.take i) p).length + 1) (.upto 2)) _ M4 (by omega) ⟨by omega, fun c hc => ?_⟩ ?_ ?_ ?_ ?_ ?_
      · rw [ho4 c (by omega) (fun e => by have := (hH.blk_le e).1; omega), Mem.get_push_ne _ _ (by omega)]
        exact hG.old c hc
      · have e3 : elSt.all (belR (L.take i) p ++ [x.1]) = elSt.all (belR (L.take i) p) ++ stC x.1 := by simp [Elem.all, elSt]
        rw [htk, List.length_append, e3]
        exact hH4
      all_goals simp only [go_sem, ↓reduceIte, Nat.reduceEqDiff, Nat.reduceLT, Nat.reduceSub, h0, hf3, Mem.next_push]
    · rw [if_neg hp, List.append_nil] at htk
      simp -dsimp only [↓w_seq, ↓w_ops, ↓w_skip, ↓w_ret, ↓w_exit, ↓w_scope, ↓w_block, ↓w_cond, cond_true', cond_false', ↓t_nil, ↓t_plain, ↓t_guard, ↓t_gagain, ↓t_again, t_val, t_call, g_true, g_false, ga_true, ga_false, a_val, a_call, ↓n_normal, ↓n_ret, ↓n_exit, ↓b_normal, ↓b_ret, ↓b_exit, ↓e_normal, ↓e_ret, e_some, go_sem, ↓reduceIte, Nat.reduceEqDiff, Nat.reduceLT, Nat.reduceSub, A_ref10_Tree_Below_3, A_ref10_Tree_Below_4, A_ref10_Tree_Below_6, h0, hf3, h6, vload, vptr, Mem.read, hc, hMb, g3, hr22, hrd, Nat.add_zero, List.getElem?_cons_zero, e1, e2, decide_true, st_same, hp, decide_false, h5', IntWalk.i64_in ((i + 1 : Nat) : Int) (by omega)]
      refine ih (i + 1) v _ M (by omega) hG (by rw [htk]; exact hH) ?_ ?_ ?_ ?_
      all_goals simp only [go_sem, ↓reduceIte, Nat.reduceEqDiff, Nat.reduceLT, Nat.reduceSub, h0, hf3, h5]
theorem rBelow_runs (rc : Nat) (s : V) (L : Tr) (p : St) (M : Mem) (h : RefIn M rc s L) : Runs D2 F_ref10_Tree_Below [.ptr (some (rc, 0)), .agg (stC p)] M fun v M' => Grew M M' ∧ Hold M.next M' 2 v (belR L p).length (elSt.all (belR L p)) := by
  refine R_opq fun R hR => ?_
  refine Runs.walk (F := A_ref10_Tree_Below) rfl (by rfl) (by rfl) ?_
  unfold A_ref10_Tree_Below
  have hcn : V.cells (.agg (stC p)) = stC p := rfl
  have hG := Grew.push M (.cells (stC p) false)
  have g3 : (M.push (.cells (stC p) false)).get M.next = some (.cells (stC p) false) := Mem.get_push_same _ _
  have hnx : (M.push (.cells (stC p) false)).next = M.next + 1 := rfl
  simp -dsimp only [↓w_seq, ↓w_ops, ↓w_skip, ↓w_ret, ↓w_exit, ↓w_scope, ↓w_block, ↓w_cond, cond_true', cond_false', ↓t_nil, ↓t_plain, ↓t_guard, ↓t_gagain, ↓t_again, t_val, t_call, g_true, g_false, ga_true, ga_false, a_val, a_call, ↓n_normal, ↓n_ret, ↓n_exit, ↓b_normal, ↓b_ret, ↓b_exit, ↓e_normal, ↓e_ret, e_some, go_sem, ↓reduceIte, Nat.reduceEqDiff, Nat.reduceLT, Nat.reduceSub, A_ref10_Tree_Below_0, A_ref10_Tree_Below_1, A_ref10_Tree_Below_2, hcn]
  generalize M.push (.cells (stC p) false) = M1 at *
  refine rBelow_loop rc M.next s L p M1 (h.grew hG) (by omega) g3 ?_ L.length 0 (.slice none 0 (.exact 0)) _ M1 (by omega) (Grew.refl _) ?_ ?_ ?_ ?_ ?_
  · intro fr M2 v hG2 hH h5
    simp -dsimp only [↓w_seq, ↓w_ops, ↓w_skip, ↓w_ret, ↓w_exit, ↓w_scope, ↓w_block, ↓w_cond, cond_true', cond_false', ↓t_nil, ↓t_plain, ↓t_guard, ↓t_gagain, ↓t_again, t_val, t_call, g_true, g_false, ga_true, ga_false, a_val, a_call, ↓n_normal, ↓n_ret, ↓n_exit, ↓b_normal, ↓b_ret, ↓b_exit, ↓e_normal, ↓e_ret, e_some, go_sem, ↓reduceIte, Nat.reduceEqDiff, Nat.reduceLT, Nat.reduceSub, A_ref10_Tree_Below_8, h5]
    exact hR _ _ ⟨hG.trans hG2, hH.lower (by omega)⟩
  · exact .nil
  all_goals simp only [go_sem, ↓reduceIte, Nat.reduceEqDiff, Nat.reduceLT, Nat.reduceSub]
  rfl

/-- All but the reference's tree is as it was. -/
structure Keep2 (M : Mem) (rc : Nat) (s : V) (M' : Mem) : Prop where
  next : M.next ≤ M'.next
  old : ∀ c, c < M.next → c ≠ rc → s.blk ≠ some c → M'.get c = M.get c
theorem Keep2.of {M M' : Mem} {rc : Nat} {s : V} (h : Grew M M') : Keep2 M rc s M' := ⟨h.next, fun c hc _ _ => h.old c hc⟩
def addER (L : Tr) (n : St) (s : Spot) : Nat := if (nodeSt n && rightSp s) = false then 1 else if (findL L n).2 = true then 4 else if hasRB L s.1 = false then 3 else if 65536 ≤ L.length then 7 else 0
def addLR (L : Tr) (n : St) (s : Spot) : Tr := if addER L n s = 0 then L.take (findL L n).1 ++ (n, s) :: L.drop (findL L n).1 else L
/-- What the reference's tree comes to. -/
def RefTo (M : Mem) (rc : Nat) (s : V) (M' : Mem) (L' : Tr) : Prop := ∃ s', RefIn M' rc s' L' ∧ (s' = s ∨ ∀ b, s'.blk = some b → M.next ≤ b) ∧ Keep2 M rc s M'
theorem RefTo.same {M M' : Mem} {rc : Nat} {s : V} {L : Tr} (h : RefIn M rc s L) (hG : Grew M M') : RefTo M rc s M' L := ⟨s, h.grew hG, .inl rfl, Keep2.of hG⟩

theorem rnode_p {D : Decls} (hp : D.prim F_ref07_Node = some fun args M => (pOpNode args M).map (·, M)) {M : Mem} (x : St) : Runs D F_ref07_Node [.agg (stC x)] M fun v M' => v = .bool (nodeSt x) ∧ M' = M := Runs.part (g := pOpNode) hp rfl
theorem rspright_p {D : Decls} (hp : D.prim F_ref10_Right = some fun args M => (pRSpRight args M).map (·, M)) {M : Mem} (s : Spot) : Runs D F_ref10_Right [.agg (spC s)] M fun v M' => v = .bool (rightSp s) ∧ M' = M := Runs.part (g := pRSpRight) hp rfl

theorem HoldE.low {lo lo' es n : Nat} {M : Mem} {s : V} {cs : List V} (h : HoldE lo M es s n cs) (hl : lo' ≤ lo) : HoldE lo' M es s n cs := by
  rcases h with h | ⟨a, b, c, d, e, f, g⟩
  · exact .inl (h.lower hl)
  · exact .inr ⟨a, b, c, d, e, Nat.le_trans hl f, g⟩
set_option maxHeartbeats 1000000 in
theorem rAdd10 (rc b4 b5 : Nat) (s : V) (L : Tr) (n : St) (sp : Spot) (M : Mem) (h : RefIn M rc s L) (hl : L.length < 100000) (l4 : b4 < M.next) (l5 : b5 < M.next) (g4 : M.get b4 = some (.cells (stC n) false)) (g5 : M.get b5 = some (.cells (spC sp) false)) (i : Nat) (hi : i ≤ L.length) {K : Fr → Mem → Prop}
    (hK : ∀ fr M', RefTo M rc s M' (L.take i ++ (n, sp) :: L.drop i) → K fr M') (fr : Fr) (h0 : fr.rd 0 = .ptr (some (rc, 0))) (h4 : fr.rd 4 = .ptr (some (b4, 0))) (h5 : fr.rd 5 = .ptr (some (b5, 0))) (h7 : fr.rd 7 = .int .i64 (i : Int)) : WT D2 62 A_ref10_Tree_Add_10 fr M (K := K) ⟨⟩ := by
  have hmx : maxRoom = 17592186044416 := rfl
  have hrn : rdCells (stC n) 0 2 = some (stC n) := rfl
  have hrs : rdCells (spC sp) 0 3 = some (spC sp) := rfl
  obtain ⟨s46, s58, s47, Mc, s52, Md, s59, Me, v1, v2, a1, a2, a3, hHE, hGc, hGd, hGe, hxc⟩ := ins3 elRow (bytes := 48) (i := i) (x := (n, sp)) rfl h.ho hi (by omega)
  have k5 : elRow.k = 5 := rfl
  have kc : elRow.cv (n, sp) = rowC (n, sp) := rfl
  rw [k5] at v1 v2 a1 a2 a3 hHE
  rw [kc] at a1 hxc
  obtain ⟨a, cap, es, _⟩ := h.he.sl
  have hc := h.c
  rw [es] at hc v1 v2
  have hp1 := Grew.push M (.cells [] false)
  have hp2 := hp1.trans (Grew.push _ (.cells (rowC (n, sp)) false))
  have c1 := (hp1.old _ h.rl).trans hc
  have c2 := (hp2.old _ h.rl).trans hc
  have q4 := (hp1.old _ l4).trans g4
  have q5 := (hp1.old _ l5).trans g5
  have cc := (hGc.old _ h.rl).trans hc
  have cd := (hGd.old _ h.rl).trans hc
  have ce := (hGe.old _ h.rl).trans hc
  have p4 := (hGc.old _ l4).trans g4
  have p5 := (hGc.old _ l5).trans g5
  have f0 : fillCells [] [] = some [] := rfl
  have f1 : fillCells [.int .i64 0, .int .i64 0, .int .i64 0, .int .i64 0, .str []] [(0, 2, .agg (stC n)), (2, 3, .agg (spC sp))] = some (rowC (n, sp)) := rfl
  have f2 : fillCells [.int .i64 0, .int .i64 0, .int .i64 0, .int .i64 0, .str []] [(0, 5, .agg (rowC (n, sp)))] = some (rowC (n, sp)) := rfl
  have hx2 : ((M.push (.cells [] false)).push (.cells (rowC (n, sp)) false)).get (M.next + 1) = some (.cells (rowC (n, sp)) false) := Mem.get_push_same (M.push _) _
  simp -dsimp only [↓w_seq, ↓w_ops, ↓w_skip, ↓w_ret, ↓w_exit, ↓w_scope, ↓w_block, ↓w_cond, cond_true', cond_false', ↓t_nil, ↓t_plain, ↓t_guard, ↓t_gagain, ↓t_again, t_val, t_call, g_true, g_false, ga_true, ga_false, a_val, a_call, ↓n_normal, ↓n_ret, ↓n_exit, ↓b_normal, ↓b_ret, ↓b_exit, ↓e_normal, ↓e_ret, e_some, go_sem, ↓reduceIte, Nat.reduceEqDiff, Nat.reduceLT, Nat.reduceSub, A_ref10_Tree_Add_10, h0, h4, h5, h7, vload, vptr, Mem.read, hc, c1, c2, q4, q5, hrn, hrs, Nat.add_zero, List.getElem?_cons_zero, f0, f1, f2, vof, Option.map_some, repl, Mem.next_push, Option.map_none, Option.bind_none, Option.bind_some, id_eq, v1, v2, a1]
  refine ⟨?_, ?_⟩
  · simp only [List.all_cons, List.all_nil, Bool.and_true, againOk, wantedA, cond_true, go_sem, ↓reduceIte, Nat.reduceEqDiff, Nat.reduceLT, Nat.reduceSub, vload, vptr, Mem.read, h4, h5, vof, Option.map_some, Bool.true_and, cc, p4, p5, hx2, hxc, hrn, hrs, sameCells, Nat.add_zero, List.getElem?_cons_zero, Nat.zero_add, V.beq, V.beq_self, V.beqs_self, Bool.and_self, Nat.reduceAdd, Nat.reduceLeDiff, decide_true, cond_true]
  simp -dsimp only [↓w_seq, ↓w_ops, ↓w_skip, ↓w_ret, ↓w_exit, ↓w_scope, ↓w_block, ↓w_cond, cond_true', cond_false', ↓t_nil, ↓t_plain, ↓t_guard, ↓t_gagain, ↓t_again, t_val, t_call, g_true, g_false, ga_true, ga_false, a_val, a_call, ↓n_normal, ↓n_ret, ↓n_exit, ↓b_normal, ↓b_ret, ↓b_exit, ↓e_normal, ↓e_ret, e_some, go_sem, ↓reduceIte, Nat.reduceEqDiff, Nat.reduceLT, Nat.reduceSub, a2, Option.map_some]
  refine ⟨?_, ?_⟩
  · simp only [List.all_cons, List.all_nil, Bool.and_true, againOk, wantedA, cond_true, go_sem, ↓reduceIte, Nat.reduceEqDiff, Nat.reduceLT, Nat.reduceSub, vload, vptr, Mem.read, vof, Option.map_some, Bool.true_and, cd, Nat.add_zero, List.getElem?_cons_zero, Nat.zero_add, V.beq, V.beq_self, V.beqs_self, Bool.and_self, Nat.reduceAdd, Nat.reduceLeDiff, decide_true, cond_true]
  have hsl : ∃ a n c, s59 = .slice a n c := by
    rcases hHE with h | ⟨_, _, b, e, _⟩
    · obtain ⟨a, c, e⟩ := h.shape; exact ⟨a, _, c, e⟩
    · exact ⟨_, _, _, e⟩
  have hone : V.cells s59 = [s59] := by obtain ⟨_, _, _, rfl⟩ := hsl; rfl
  have hone2 : s59.one = true := by obtain ⟨_, _, _, rfl⟩ := hsl; rfl
  have hw := write_one (v := s59) ce (show 0 < 1 by omega) hone2
  simp -dsimp only [↓w_seq, ↓w_ops, ↓w_skip, ↓w_ret, ↓w_exit, ↓w_scope, ↓w_block, ↓w_cond, cond_true', cond_false', ↓t_nil, ↓t_plain, ↓t_guard, ↓t_gagain, ↓t_again, t_val, t_call, g_true, g_false, ga_true, ga_false, a_val, a_call, ↓n_normal, ↓n_ret, ↓n_exit, ↓b_normal, ↓b_ret, ↓b_exit, ↓e_normal, ↓e_ret, e_some, go_sem, ↓reduceIte, Nat.reduceEqDiff, Nat.reduceLT, Nat.reduceSub, a3, Option.map_some, h0, vptr, vof, vstore, hone, List.length_cons, List.length_nil, Nat.zero_add, hw, List.set_cons_zero, Nat.add_zero]
  have hnl : (L.take i ++ (n, sp) :: L.drop i).length = L.length + 1 := by simp; omega
  have hrl := h.rl
  have hbl : ∀ b, s59.blk = some b → M.next ≤ b ∧ b < Me.next := fun b hb => hHE.blk_le hb
  refine hK _ _ ⟨s59, ⟨Mem.get_set_same _ _ _, by rw [Mem.next_set]; have := hGe.next; omega, ?_, by rw [hnl]; omega⟩, .inr fun b hb => (hbl b hb).1, ⟨by rw [Mem.next_set]; exact hGe.next, fun c hc hne _ => (Mem.get_set_ne _ _ hne).trans (hGe.old c hc)⟩⟩
  rw [hnl]
  have hx := hHE.keep (M' := Me.set rc (.cells [s59] false)) (fun b hb => Mem.get_set_ne _ _ (by have := (hbl b hb).1; omega)) (Nat.le_refl _)
  exact HoldE.low hx (Nat.zero_le _)

set_option maxHeartbeats 1000000 in
theorem rAdd_runs (rc : Nat) (s : V) (L : Tr) (n : St) (sp : Spot) (M : Mem) (h : RefIn M rc s L) (hl : L.length < 100000) :
    Runs D2 F_ref10_Tree_Add [.ptr (some (rc, 0)), .agg (stC n), .agg (spC sp)] M fun v M' => v = .int .i64 (addER L n sp : Int) ∧ RefTo M rc s M' (addLR L n sp) := by
  refine R_opq fun R hR => ?_
  refine Runs.walk (F := A_ref10_Tree_Add) rfl (by rfl) (by rfl) ?_
  unfold A_ref10_Tree_Add
  have hcn : V.cells (.agg (stC n)) = stC n := rfl
  have hcs : V.cells (.agg (spC sp)) = spC sp := rfl
  have hrn : rdCells (stC n) 0 2 = some (stC n) := rfl
  have hrs : rdCells (spC sp) 0 3 = some (spC sp) := rfl
  have hrp : rdCells (spC sp) 0 2 = some (stC sp.1) := rfl
  have hG := (Grew.push M (.cells (stC n) false)).trans (Grew.push _ (.cells (spC sp) false))
  have g4 : ((M.push (.cells (stC n) false)).push (.cells (spC sp) false)).get M.next = some (.cells (stC n) false) := by rw [Mem.get_push_ne _ _ (by simp), Mem.get_push_same]
  have g5 : ((M.push (.cells (stC n) false)).push (.cells (spC sp) false)).get (M.next + 1) = some (.cells (spC sp) false) := Mem.get_push_same (M.push _) _
  have hnx : ((M.push (.cells (stC n) false)).push (.cells (spC sp) false)).next = M.next + 2 := rfl
  simp -dsimp only [↓w_seq, ↓w_ops, ↓w_skip, ↓w_ret, ↓w_exit, ↓w_scope, ↓w_block, ↓w_cond, cond_true', cond_false', ↓t_nil, ↓t_plain, ↓t_guard, ↓t_gagain, ↓t_again, t_val, t_call, g_true, g_false, ga_true, ga_false, a_val, a_call, ↓n_normal, ↓n_ret, ↓n_exit, ↓b_normal, ↓b_ret, ↓b_exit, ↓e_normal, ↓e_ret, e_some, go_sem, ↓reduceIte, Nat.reduceEqDiff, Nat.reduceLT, Nat.reduceSub, A_ref10_Tree_Add_0, A_ref10_Tree_Add_1, hcn, hcs, Mem.next_push]
  generalize (M.push (.cells (stC n) false)).push (.cells (spC sp) false) = M1 at *
  have h1 := h.grew hG
  have bad : ∀ e : Nat, addER L n sp = e → e ≠ 0 → R (.int .i64 (e : Int)) M1 := fun e h1' h2 => hR _ _ ⟨by rw [h1'], by rw [addLR, if_neg (by omega)]; exact RefTo.same h hG⟩
  have hfl := findL_le n L
  simp -dsimp only [↓w_seq, ↓w_ops, ↓w_skip, ↓w_ret, ↓w_exit, ↓w_scope, ↓w_block, ↓w_cond, cond_true', cond_false', ↓t_nil, ↓t_plain, ↓t_guard, ↓t_gagain, ↓t_again, t_val, t_call, g_true, g_false, ga_true, ga_false, a_val, a_call, ↓n_normal, ↓n_ret, ↓n_exit, ↓b_normal, ↓b_ret, ↓b_exit, ↓e_normal, ↓e_ret, e_some, go_sem, ↓reduceIte, Nat.reduceEqDiff, Nat.reduceLT, Nat.reduceSub, vload, vptr, Mem.read, g4, hrn]
  refine call_eq (find_p rfl h1.rows n) ?_
  simp -dsimp only [↓w_seq, ↓w_ops, ↓w_skip, ↓w_ret, ↓w_exit, ↓w_scope, ↓w_block, ↓w_cond, cond_true', cond_false', ↓t_nil, ↓t_plain, ↓t_guard, ↓t_gagain, ↓t_again, t_val, t_call, g_true, g_false, ga_true, ga_false, a_val, a_call, ↓n_normal, ↓n_ret, ↓n_exit, ↓b_normal, ↓b_ret, ↓b_exit, ↓e_normal, ↓e_ret, e_some, go_sem, ↓reduceIte, Nat.reduceEqDiff, Nat.reduceLT, Nat.reduceSub, A_ref10_Tree_Add_2, List.getElem?_cons_zero, List.getElem?_cons_succ, vload, vptr, Mem.read, g4, hrn]
  cases e1 : nodeSt n with
  | false =>
    refine call_eq (rnode_p rfl n) ?_
    rw [e1]
    simp -dsimp only [↓w_seq, ↓w_ops, ↓w_skip, ↓w_ret, ↓w_exit, ↓w_scope, ↓w_block, ↓w_cond, cond_true', cond_false', ↓t_nil, ↓t_plain, ↓t_guard, ↓t_gagain, ↓t_again, t_val, t_call, g_true, g_false, ga_true, ga_false, a_val, a_call, ↓n_normal, ↓n_ret, ↓n_exit, ↓b_normal, ↓b_ret, ↓b_exit, ↓e_normal, ↓e_ret, e_some, go_sem, ↓reduceIte, Nat.reduceEqDiff, Nat.reduceLT, Nat.reduceSub, A_ref10_Tree_Add_3, Bool.not_false]
    exact bad 1 (by rw [addER, e1]; rfl) (by decide)
  | true =>
    refine call_eq (rnode_p rfl n) ?_
    rw [e1]
    simp -dsimp only [↓w_seq, ↓w_ops, ↓w_skip, ↓w_ret, ↓w_exit, ↓w_scope, ↓w_block, ↓w_cond, cond_true', cond_false', ↓t_nil, ↓t_plain, ↓t_guard, ↓t_gagain, ↓t_again, t_val, t_call, g_true, g_false, ga_true, ga_false, a_val, a_call, ↓n_normal, ↓n_ret, ↓n_exit, ↓b_normal, ↓b_ret, ↓b_exit, ↓e_normal, ↓e_ret, e_some, go_sem, ↓reduceIte, Nat.reduceEqDiff, Nat.reduceLT, Nat.reduceSub, Bool.not_true, vload, vptr, Mem.read, g5, hrs]
    cases e2 : rightSp sp with
    | false =>
      refine call_eq (rspright_p rfl sp) ?_
      rw [e2]
      simp -dsimp only [↓w_seq, ↓w_ops, ↓w_skip, ↓w_ret, ↓w_exit, ↓w_scope, ↓w_block, ↓w_cond, cond_true', cond_false', ↓t_nil, ↓t_plain, ↓t_guard, ↓t_gagain, ↓t_again, t_val, t_call, g_true, g_false, ga_true, ga_false, a_val, a_call, ↓n_normal, ↓n_ret, ↓n_exit, ↓b_normal, ↓b_ret, ↓b_exit, ↓e_normal, ↓e_ret, e_some, go_sem, ↓reduceIte, Nat.reduceEqDiff, Nat.reduceLT, Nat.reduceSub, A_ref10_Tree_Add_3, Bool.not_false]
      exact bad 1 (by rw [addER, e1, e2]; rfl) (by decide)
    | true =>
      have hb : (nodeSt n && rightSp sp) = true := by rw [e1, e2]; rfl
      cases e3 : (findL L n).2 with
      | true =>
        refine call_eq (rspright_p rfl sp) ?_
        rw [e2]
        simp -dsimp only [↓w_seq, ↓w_ops, ↓w_skip, ↓w_ret, ↓w_exit, ↓w_scope, ↓w_block, ↓w_cond, cond_true', cond_false', ↓t_nil, ↓t_plain, ↓t_guard, ↓t_gagain, ↓t_again, t_val, t_call, g_true, g_false, ga_true, ga_false, a_val, a_call, ↓n_normal, ↓n_ret, ↓n_exit, ↓b_normal, ↓b_ret, ↓b_exit, ↓e_normal, ↓e_ret, e_some, go_sem, ↓reduceIte, Nat.reduceEqDiff, Nat.reduceLT, Nat.reduceSub, Bool.not_true, A_ref10_Tree_Add_4, A_ref10_Tree_Add_5]
        exact bad 4 (by rw [addER, hb, e3]; rfl) (by decide)
      | false =>
        refine call_eq (rspright_p rfl sp) ?_
        rw [e2]
        simp -dsimp only [↓w_seq, ↓w_ops, ↓w_skip, ↓w_ret, ↓w_exit, ↓w_scope, ↓w_block, ↓w_cond, cond_true', cond_false', ↓t_nil, ↓t_plain, ↓t_guard, ↓t_gagain, ↓t_again, t_val, t_call, g_true, g_false, ga_true, ga_false, a_val, a_call, ↓n_normal, ↓n_ret, ↓n_exit, ↓b_normal, ↓b_ret, ↓b_exit, ↓e_normal, ↓e_ret, e_some, go_sem, ↓reduceIte, Nat.reduceEqDiff, Nat.reduceLT, Nat.reduceSub, Bool.not_true, A_ref10_Tree_Add_4, A_ref10_Tree_Add_6, vload, vptr, Mem.read, g5, hrp, Nat.add_zero]
        cases e4 : hasRB L sp.1 with
        | false =>
          refine call_eq (rhas_p rfl h1.rows sp.1) ?_
          rw [e4]
          simp -dsimp only [↓w_seq, ↓w_ops, ↓w_skip, ↓w_ret, ↓w_exit, ↓w_scope, ↓w_block, ↓w_cond, cond_true', cond_false', ↓t_nil, ↓t_plain, ↓t_guard, ↓t_gagain, ↓t_again, t_val, t_call, g_true, g_false, ga_true, ga_false, a_val, a_call, ↓n_normal, ↓n_ret, ↓n_exit, ↓b_normal, ↓b_ret, ↓b_exit, ↓e_normal, ↓e_ret, e_some, go_sem, ↓reduceIte, Nat.reduceEqDiff, Nat.reduceLT, Nat.reduceSub, A_ref10_Tree_Add_7, Bool.not_false]
          exact bad 3 (by rw [addER, hb, e3, e4]; rfl) (by decide)
        | true =>
          obtain ⟨a, cap, es, _⟩ := h1.he.sl
          have hc := h1.c
          have hc' := hc
          rw [es] at hc
          by_cases e5 : 65536 ≤ L.length
          · have e5' : (65536 : Int) ≤ (L.length : Int) := by omega
            refine call_eq (rhas_p rfl h1.rows sp.1) ?_
            rw [e4]
            simp -dsimp only [↓w_seq, ↓w_ops, ↓w_skip, ↓w_ret, ↓w_exit, ↓w_scope, ↓w_block, ↓w_cond, cond_true', cond_false', ↓t_nil, ↓t_plain, ↓t_guard, ↓t_gagain, ↓t_again, t_val, t_call, g_true, g_false, ga_true, ga_false, a_val, a_call, ↓n_normal, ↓n_ret, ↓n_exit, ↓b_normal, ↓b_ret, ↓b_exit, ↓e_normal, ↓e_ret, e_some, go_sem, ↓reduceIte, Nat.reduceEqDiff, Nat.reduceLT, Nat.reduceSub, A_ref10_Tree_Add_8, A_ref10_Tree_Add_9, Bool.not_true, vload, vptr, Mem.read, hc, Nat.add_zero, List.getElem?_cons_zero, e5', decide_true]
            exact bad 7 (by rw [addER, hb, e3, e4, if_pos e5]; rfl) (by decide)
          · have e5' : ¬ (65536 : Int) ≤ (L.length : Int) := by omega
            have e0 : addER L n sp = 0 := by rw [addER, hb, e3, e4, if_neg e5]; rfl
            refine call_eq (rhas_p rfl h1.rows sp.1) ?_
            rw [e4]
            simp -dsimp only [↓w_seq, ↓w_ops, ↓w_skip, ↓w_ret, ↓w_exit, ↓w_scope, ↓w_block, ↓w_cond, cond_true', cond_false', ↓t_nil, ↓t_plain, ↓t_guard, ↓t_gagain, ↓t_again, t_val, t_call, g_true, g_false, ga_true, ga_false, a_val, a_call, ↓n_normal, ↓n_ret, ↓n_exit, ↓b_normal, ↓b_ret, ↓b_exit, ↓e_normal, ↓e_ret, e_some, go_sem, ↓reduceIte, Nat.reduceEqDiff, Nat.reduceLT, Nat.reduceSub, A_ref10_Tree_Add_8, Bool.not_true, vload, vptr, Mem.read, hc, Nat.add_zero, List.getElem?_cons_zero, e5', decide_false]
            refine rAdd10 rc M.next (M.next + 1) s L n sp M1 h1 hl (by omega) (by omega) g4 g5 (findL L n).1 hfl ?_ _ ?_ ?_ ?_ ?_
            · intro fr M2 hto
              simp -dsimp only [↓w_seq, ↓w_ops, ↓w_skip, ↓w_ret, ↓w_exit, ↓w_scope, ↓w_block, ↓w_cond, cond_true', cond_false', ↓t_nil, ↓t_plain, ↓t_guard, ↓t_gagain, ↓t_again, t_val, t_call, g_true, g_false, ga_true, ga_false, a_val, a_call, ↓n_normal, ↓n_ret, ↓n_exit, ↓b_normal, ↓b_ret, ↓b_exit, ↓e_normal, ↓e_ret, e_some, go_sem, ↓reduceIte, Nat.reduceEqDiff, Nat.reduceLT, Nat.reduceSub, A_ref10_Tree_Add_11]
              refine hR _ _ ⟨by rw [e0]; rfl, ?_⟩
              rw [addLR, if_pos e0]
              obtain ⟨s', t1, t2, t3⟩ := hto
              refine ⟨s', t1, ?_, ⟨Nat.le_trans hG.next t3.next, fun c hc' h2 h3 => (t3.old c (Nat.lt_of_lt_of_le hc' hG.next) h2 h3).trans (hG.old c hc')⟩⟩
              rcases t2 with t2 | t2
              · exact .inl t2
              · exact .inr fun b hb => Nat.le_trans hG.next (t2 b hb)
            all_goals simp only [go_sem, ↓reduceIte, Nat.reduceEqDiff, Nat.reduceLT, Nat.reduceSub]
end Go.Am.Tryd


/- The reference's Move and Drop. -/
namespace Go.Am.Tryd
open Go Go.Am Go.Proofs Go.Sort Go.Shelf
set_option maxRecDepth 100000
set_option linter.unusedSimpArgs false
set_option linter.unusedVariables false

theorem wr_skip : ∀ (a cs : List V) (o : Nat) (vs : List V), wrCells (a ++ cs) (a.length + o) vs = a ++ wrCells cs o vs
  | [], cs, o, vs => by simp
  | x :: a, cs, o, [] => by cases cs <;> simp [wrCells]
  | x :: a, cs, o, v :: vs => by
    have ih := wr_skip a cs o (v :: vs)
    rw [List.length_cons, show a.length + 1 + o = (a.length + o) + 1 by omega, List.cons_append]
    show x :: wrCells (a ++ cs) (a.length + o) (v :: vs) = _
    rw [ih, List.cons_append]
theorem wr_row (L : Tr) (i : Nat) (hi : i < L.length) (s : Spot) : wrCells (elRow.all L) (i * 5 + 2) (spC s) = elRow.all (L.set i (L[i].1, s)) := by
  have e1 : elRow.all L = elRow.all (L.take i) ++ (rowC L[i] ++ elRow.all (L.drop (i + 1))) := by
    have : L = L.take i ++ L[i] :: L.drop (i + 1) := by rw [← List.drop_eq_getElem_cons hi, List.take_append_drop]
    conv => lhs; rw [this]
    rw [elRow.all_app]
    rfl
  have e2 : elRow.all (L.set i (L[i].1, s)) = elRow.all (L.take i) ++ (rowC (L[i].1, s) ++ elRow.all (L.drop (i + 1))) := by
    rw [List.set_eq_take_append_cons_drop, if_pos hi, elRow.all_app]
    rfl
  have hl : (elRow.all (L.take i)).length = i * 5 := by
    have h2 : (elRow.all (L.take i)).length = (L.take i).length * 5 := elRow.all_len _
    rw [h2, List.length_take, Nat.min_eq_left (by omega)]
  rw [e1, e2, ← hl, wr_skip]
  have e3 : ∀ cs : List V, wrCells cs 0 [] = cs := fun cs => by cases cs <;> rfl
  simp only [rowC, stC, spC, List.cons_append, List.nil_append, wrCells, e3]

def moveER (L : Tr) (n : St) (s : Spot) : Nat := if (nodeSt n && rightSp s) = false then 1 else if ((findL L n).2 && hasRB L s.1) = false then 3 else if withinR L n s.1 = true then 41 else 0
def moveLR (L : Tr) (n : St) (s : Spot) : Tr := if moveER L n s = 0 then L.set (findL L n).1 ((L.getD (findL L n).1 ((0, 0), sp0)).1, s) else L
def moveWR (L : Tr) (n : St) (s : Spot) : Spot := if moveER L n s = 0 then rowL L (findL L n).1 else sp0

theorem RefTo.pre {M M1 M' : Mem} {rc : Nat} {s : V} {L' : Tr} (hG : Grew M M1) (h : RefTo M1 rc s M' L') : RefTo M rc s M' L' := by
  obtain ⟨s', t1, t2, t3⟩ := h
  refine ⟨s', t1, ?_, ⟨Nat.le_trans hG.next t3.next, fun c hc' h2 h3 => (t3.old c (Nat.lt_of_lt_of_le hc' hG.next) h2 h3).trans (hG.old c hc')⟩⟩
  rcases t2 with t2 | t2
  · exact .inl t2
  · exact .inr fun b hb => Nat.le_trans hG.next (t2 b hb)
theorem RefTo.set_new {M M' : Mem} {rc b : Nat} {s : V} {L' : Tr} {o : O} (h : RefIn M rc s L') (hb : M.next ≤ b) (hb2 : ∀ c, s.blk = some c → c < M.next) {L : Tr} (h2 : RefTo M rc s M' L) (hb3 : ∀ s', RefIn M' rc s' L → ∀ c, s'.blk = some c → c ≠ b) : RefTo M rc s (M'.set b o) L := by
  obtain ⟨s', t1, t2, t3⟩ := h2
  have hrl := h.rl
  exact ⟨s', t1.keep (Mem.get_set_ne _ _ (by omega)) (fun c hc => Mem.get_set_ne _ _ (hb3 s' t1 c hc)) (Nat.le_refl _), t2, ⟨t3.next, fun c hc h1 h2 => (Mem.get_set_ne _ _ (by omega)).trans (t3.old c hc h1 h2)⟩⟩

set_option maxHeartbeats 1000000 in
theorem rMove_runs (rc : Nat) (s : V) (L : Tr) (n : St) (sp : Spot) (M : Mem) (h : RefIn M rc s L) :
    Runs D2 F_ref10_Tree_Move [.ptr (some (rc, 0)), .agg (stC n), .agg (spC sp)] M fun v M' => v = .tup [.agg (spC (moveWR L n sp)), .int .i64 (moveER L n sp : Int)] ∧ RefTo M rc s M' (moveLR L n sp) := by
  refine R_opq fun R hR => ?_
  refine Runs.walk (F := A_ref10_Tree_Move) rfl (by rfl) (by rfl) ?_
  unfold A_ref10_Tree_Move
  have hcn : V.cells (.agg (stC n)) = stC n := rfl
  have hcs : ∀ s, V.cells (.agg (spC s)) = spC s := fun _ => rfl
  have hrn : rdCells (stC n) 0 2 = some (stC n) := rfl
  have hrs : ∀ s, rdCells (spC s) 0 3 = some (spC s) := fun _ => rfl
  have hrp : rdCells (spC sp) 0 2 = some (stC sp.1) := rfl
  have hG := ((Grew.push M (.cells (stC n) false)).trans (Grew.push _ (.cells (spC sp) false))).trans (Grew.push _ (.cells [.int .i64 0, .int .i64 0, .str []] false))
  have g4 : (((M.push (.cells (stC n) false)).push (.cells (spC sp) false)).push (.cells [.int .i64 0, .int .i64 0, .str []] false)).get M.next = some (.cells (stC n) false) := by rw [Mem.get_push_ne _ _ (by simp; omega), Mem.get_push_ne _ _ (by simp), Mem.get_push_same]
  have g5 : (((M.push (.cells (stC n) false)).push (.cells (spC sp) false)).push (.cells [.int .i64 0, .int .i64 0, .str []] false)).get (M.next + 1) = some (.cells (spC sp) false) := by rw [Mem.get_push_ne _ _ (by simp)]; exact Mem.get_push_same (M.push _) _
  have g6 : (((M.push (.cells (stC n) false)).push (.cells (spC sp) false)).push (.cells [.int .i64 0, .int .i64 0, .str []] false)).get (M.next + 1 + 1) = some (.cells (spC sp0) false) := Mem.get_push_same ((M.push _).push _) _
  have hnx : (((M.push (.cells (stC n) false)).push (.cells (spC sp) false)).push (.cells [.int .i64 0, .int .i64 0, .str []] false)).next = M.next + 3 := rfl
  simp -dsimp only [↓w_seq, ↓w_ops, ↓w_skip, ↓w_ret, ↓w_exit, ↓w_scope, ↓w_block, ↓w_cond, cond_true', cond_false', ↓t_nil, ↓t_plain, ↓t_guard, ↓t_gagain, ↓t_again, t_val, t_call, g_true, g_false, ga_true, ga_false, a_val, a_call, ↓n_normal, ↓n_ret, ↓n_exit, ↓b_normal, ↓b_ret, ↓b_exit, ↓e_normal, ↓e_ret, e_some, go_sem, ↓reduceIte, Nat.reduceEqDiff, Nat.reduceLT, Nat.reduceSub, A_ref10_Tree_Move_0, A_ref10_Tree_Move_1, hcn, hcs, Mem.next_push]
  generalize ((M.push (.cells (stC n) false)).push (.cells (spC sp) false)).push (.cells [.int .i64 0, .int .i64 0, .str []] false) = M1 at *
  have h1 := h.grew hG
  have hfill : fillCells [.int .i64 0, .int .i64 0, .str []] [] = some (spC sp0) := rfl
  have bad : ∀ (M2 : Mem) (e : Nat), Grew M1 M2 → moveER L n sp = e → e ≠ 0 → R (.tup [.agg (spC sp0), .int .i64 (e : Int)]) (M2.set (M.next + 1 + 1) (.cells (spC sp0) false)) := fun M2 e hG2 h1' h2 =>
    hR _ _ ⟨by rw [moveWR, if_neg (by omega), h1'], by rw [moveLR, if_neg (by omega)]; exact RefTo.same h ((hG.trans hG2).upd (b := M.next + 1 + 1) (by omega) (Upd.set M2 _ _))⟩
  have hw0 : ∀ M2, Grew M1 M2 → M2.write (M.next + 1 + 1) 0 (spC sp0) = some (M2.set (M.next + 1 + 1) (.cells (spC sp0) false)) := fun M2 hG2 => write_full (vs := spC sp0) ((hG2.old _ (by omega)).trans g6) rfl rfl
  have hw1 := hw0 M1 (Grew.refl _)
  have hs1 := Mem.get_set_same M1 (M.next + 1 + 1) (.cells (spC sp0) false)
  simp -dsimp only [↓w_seq, ↓w_ops, ↓w_skip, ↓w_ret, ↓w_exit, ↓w_scope, ↓w_block, ↓w_cond, cond_true', cond_false', ↓t_nil, ↓t_plain, ↓t_guard, ↓t_gagain, ↓t_again, t_val, t_call, g_true, g_false, ga_true, ga_false, a_val, a_call, ↓n_normal, ↓n_ret, ↓n_exit, ↓b_normal, ↓b_ret, ↓b_exit, ↓e_normal, ↓e_ret, e_some, go_sem, ↓reduceIte, Nat.reduceEqDiff, Nat.reduceLT, Nat.reduceSub, vload, vptr, Mem.read, g4, hrn]
  refine call_eq (find_p rfl h1.rows n) ?_
  simp -dsimp only [↓w_seq, ↓w_ops, ↓w_skip, ↓w_ret, ↓w_exit, ↓w_scope, ↓w_block, ↓w_cond, cond_true', cond_false', ↓t_nil, ↓t_plain, ↓t_guard, ↓t_gagain, ↓t_again, t_val, t_call, g_true, g_false, ga_true, ga_false, a_val, a_call, ↓n_normal, ↓n_ret, ↓n_exit, ↓b_normal, ↓b_ret, ↓b_exit, ↓e_normal, ↓e_ret, e_some, go_sem, ↓reduceIte, Nat.reduceEqDiff, Nat.reduceLT, Nat.reduceSub, A_ref10_Tree_Move_2, List.getElem?_cons_zero, List.getElem?_cons_succ, vload, vptr, Mem.read, g4, hrn]
  cases e1 : nodeSt n with
  | false =>
    refine call_eq (rnode_p rfl n) ?_
    rw [e1]
    simp -dsimp only [↓w_seq, ↓w_ops, ↓w_skip, ↓w_ret, ↓w_exit, ↓w_scope, ↓w_block, ↓w_cond, cond_true', cond_false', ↓t_nil, ↓t_plain, ↓t_guard, ↓t_gagain, ↓t_again, t_val, t_call, g_true, g_false, ga_true, ga_false, a_val, a_call, ↓n_normal, ↓n_ret, ↓n_exit, ↓b_normal, ↓b_ret, ↓b_exit, ↓e_normal, ↓e_ret, e_some, go_sem, ↓reduceIte, Nat.reduceEqDiff, Nat.reduceLT, Nat.reduceSub, A_ref10_Tree_Move_3, Bool.not_false, hfill, vof, Option.map_some, vstore, hcs, spC_len, hw1, Nat.reduceEqDiff, vload, vptr, Mem.read, hs1, hrs, Option.bind_some, oneOf]
    exact bad M1 1 (Grew.refl _) (by rw [moveER, e1]; rfl) (by decide)
  | true =>
    refine call_eq (rnode_p rfl n) ?_
    rw [e1]
    simp -dsimp only [↓w_seq, ↓w_ops, ↓w_skip, ↓w_ret, ↓w_exit, ↓w_scope, ↓w_block, ↓w_cond, cond_true', cond_false', ↓t_nil, ↓t_plain, ↓t_guard, ↓t_gagain, ↓t_again, t_val, t_call, g_true, g_false, ga_true, ga_false, a_val, a_call, ↓n_normal, ↓n_ret, ↓n_exit, ↓b_normal, ↓b_ret, ↓b_exit, ↓e_normal, ↓e_ret, e_some, go_sem, ↓reduceIte, Nat.reduceEqDiff, Nat.reduceLT, Nat.reduceSub, Bool.not_true, vload, vptr, Mem.read, g5, hrs]
    cases e2 : rightSp sp with
    | false =>
      refine call_eq (rspright_p rfl sp) ?_
      rw [e2]
      simp -dsimp only [↓w_seq, ↓w_ops, ↓w_skip, ↓w_ret, ↓w_exit, ↓w_scope, ↓w_block, ↓w_cond, cond_true', cond_false', ↓t_nil, ↓t_plain, ↓t_guard, ↓t_gagain, ↓t_again, t_val, t_call, g_true, g_false, ga_true, ga_false, a_val, a_call, ↓n_normal, ↓n_ret, ↓n_exit, ↓b_normal, ↓b_ret, ↓b_exit, ↓e_normal, ↓e_ret, e_some, go_sem, ↓reduceIte, Nat.reduceEqDiff, Nat.reduceLT, Nat.reduceSub, A_ref10_Tree_Move_3, Bool.not_false, hfill, vof, Option.map_some, vstore, hcs, spC_len, hw1, Nat.reduceEqDiff, vload, vptr, Mem.read, hs1, hrs, Option.bind_some, oneOf]
      exact bad M1 1 (Grew.refl _) (by rw [moveER, e1, e2]; rfl) (by decide)
    | true =>
      have hb : (nodeSt n && rightSp sp) = true := by rw [e1, e2]; rfl
      cases e3 : (findL L n).2 with
      | false =>
        refine call_eq (rspright_p rfl sp) ?_
        rw [e2]
        simp -dsimp only [↓w_seq, ↓w_ops, ↓w_skip, ↓w_ret, ↓w_exit, ↓w_scope, ↓w_block, ↓w_cond, cond_true', cond_false', ↓t_nil, ↓t_plain, ↓t_guard, ↓t_gagain, ↓t_again, t_val, t_call, g_true, g_false, ga_true, ga_false, a_val, a_call, ↓n_normal, ↓n_ret, ↓n_exit, ↓b_normal, ↓b_ret, ↓b_exit, ↓e_normal, ↓e_ret, e_some, go_sem, ↓reduceIte, Nat.reduceEqDiff, Nat.reduceLT, Nat.reduceSub, Bool.not_true, A_ref10_Tree_Move_4, A_ref10_Tree_Move_5, Bool.not_false, hfill, vof, Option.map_some, vstore, hcs, spC_len, hw1, Nat.reduceEqDiff, vload, vptr, Mem.read, hs1, hrs, Option.bind_some, oneOf]
        exact bad M1 3 (Grew.refl _) (by rw [moveER, hb, e3]; rfl) (by decide)
      | true =>
        refine call_eq (rspright_p rfl sp) ?_
        rw [e2]
        simp -dsimp only [↓w_seq, ↓w_ops, ↓w_skip, ↓w_ret, ↓w_exit, ↓w_scope, ↓w_block, ↓w_cond, cond_true', cond_false', ↓t_nil, ↓t_plain, ↓t_guard, ↓t_gagain, ↓t_again, t_val, t_call, g_true, g_false, ga_true, ga_false, a_val, a_call, ↓n_normal, ↓n_ret, ↓n_exit, ↓b_normal, ↓b_ret, ↓b_exit, ↓e_normal, ↓e_ret, e_some, go_sem, ↓reduceIte, Nat.reduceEqDiff, Nat.reduceLT, Nat.reduceSub, Bool.not_true, A_ref10_Tree_Move_4, vload, vptr, Mem.read, g5, hrp, Nat.add_zero]
        cases e4 : hasRB L sp.1 with
        | false =>
          refine call_eq (rhas_p rfl h1.rows sp.1) ?_
          rw [e4]
          simp -dsimp only [↓w_seq, ↓w_ops, ↓w_skip, ↓w_ret, ↓w_exit, ↓w_scope, ↓w_block, ↓w_cond, cond_true', cond_false', ↓t_nil, ↓t_plain, ↓t_guard, ↓t_gagain, ↓t_again, t_val, t_call, g_true, g_false, ga_true, ga_false, a_val, a_call, ↓n_normal, ↓n_ret, ↓n_exit, ↓b_normal, ↓b_ret, ↓b_exit, ↓e_normal, ↓e_ret, e_some, go_sem, ↓reduceIte, Nat.reduceEqDiff, Nat.reduceLT, Nat.reduceSub, A_ref10_Tree_Move_5, Bool.not_false, hfill, vof, Option.map_some, vstore, hcs, spC_len, hw1, Nat.reduceEqDiff, vload, vptr, Mem.read, hs1, hrs, Option.bind_some, oneOf]
          exact bad M1 3 (Grew.refl _) (by rw [moveER, hb, e3, e4]; rfl) (by decide)
        | true =>
          refine call_eq (rhas_p rfl h1.rows sp.1) ?_
          rw [e4]
          simp -dsimp only [↓w_seq, ↓w_ops, ↓w_skip, ↓w_ret, ↓w_exit, ↓w_scope, ↓w_block, ↓w_cond, cond_true', cond_false', ↓t_nil, ↓t_plain, ↓t_guard, ↓t_gagain, ↓t_again, t_val, t_call, g_true, g_false, ga_true, ga_false, a_val, a_call, ↓n_normal, ↓n_ret, ↓n_exit, ↓b_normal, ↓b_ret, ↓b_exit, ↓e_normal, ↓e_ret, e_some, go_sem, ↓reduceIte, Nat.reduceEqDiff, Nat.reduceLT, Nat.reduceSub, Bool.not_true, A_ref10_Tree_Move_6, vload, vptr, Mem.read, g4, g5, hrn, hrp, Nat.add_zero]
          refine call_of (rWithin_runs rc s L n sp.1 M1 h1) ?_
          intro v M2 hv
          rw [hv.1]
          have hG2 := hv.2
          clear hv
          cases e5 : withinR L n sp.1 with
          | true =>
            have hw2 := hw0 M2 hG2
            have hs2 := Mem.get_set_same M2 (M.next + 1 + 1) (.cells (spC sp0) false)
            simp -dsimp only [↓w_seq, ↓w_ops, ↓w_skip, ↓w_ret, ↓w_exit, ↓w_scope, ↓w_block, ↓w_cond, cond_true', cond_false', ↓t_nil, ↓t_plain, ↓t_guard, ↓t_gagain, ↓t_again, t_val, t_call, g_true, g_false, ga_true, ga_false, a_val, a_call, ↓n_normal, ↓n_ret, ↓n_exit, ↓b_normal, ↓b_ret, ↓b_exit, ↓e_normal, ↓e_ret, e_some, go_sem, ↓reduceIte, Nat.reduceEqDiff, Nat.reduceLT, Nat.reduceSub, A_ref10_Tree_Move_7, hfill, vof, Option.map_some, vstore, hcs, spC_len, hw2, Nat.reduceEqDiff, vload, vptr, Mem.read, hs2, hrs, Option.bind_some, oneOf]
            exact bad M2 41 hG2 (by rw [moveER, hb, e3, e4, e5]; rfl) (by decide)
          | false =>
            have h0 : moveER L n sp = 0 := by rw [moveER, hb, e3, e4, e5]; rfl
            have h2 := h1.grew hG2
            have hlt := findL_lt e3
            have k5 := (hG2.old _ (by omega)).trans g5
            have k6 := (hG2.old _ (by omega)).trans g6
            rcases h2.he with ⟨hnil, _⟩ | ⟨hne, b, es, hMb, hbl⟩
            · exfalso; rw [hnil] at hlt; simp at hlt
            obtain ⟨b', o', cs', rb', cap', es', hMb', hr5, hr2, hr3, hr22⟩ := row_at h2.he.sl hlt
            rw [es] at es'
            simp only [V.slice.injEq, Option.some.injEq, Prod.mk.injEq, true_and] at es'
            obtain ⟨⟨rfl, rfl⟩, rfl⟩ := es'
            rw [hMb] at hMb'
            simp only [Option.some.injEq, O.cells.injEq] at hMb'
            obtain ⟨rfl, rfl⟩ := hMb'
            have hc := h2.c
            rw [es] at hc
            have hrl : L[(findL L n).1].2 = rowL L (findL L n).1 := by simp [rowL, List.getD_eq_getElem?_getD, List.getElem?_eq_getElem hlt]
            rw [hrl, Nat.zero_add] at hr3
            have e2' : (findL L n).1 + 1 ≤ L.length := hlt
            simp -dsimp only [↓w_seq, ↓w_ops, ↓w_skip, ↓w_ret, ↓w_exit, ↓w_scope, ↓w_block, ↓w_cond, cond_true', cond_false', ↓t_nil, ↓t_plain, ↓t_guard, ↓t_gagain, ↓t_again, t_val, t_call, g_true, g_false, ga_true, ga_false, a_val, a_call, ↓n_normal, ↓n_ret, ↓n_exit, ↓b_normal, ↓b_ret, ↓b_exit, ↓e_normal, ↓e_ret, e_some, go_sem, ↓reduceIte, Nat.reduceEqDiff, Nat.reduceLT, Nat.reduceSub]
            refine WT_abs (fun fr => fr.rd 0 = .ptr (some (rc, 0)) ∧ fr.rd 5 = .ptr (some (M.next + 1, 0)) ∧ fr.rd 6 = .ptr (some (M.next + 1 + 1, 0)) ∧ fr.rd 8 = .int .i64 ((findL L n).1 : Int)) ⟨by simp only [go_sem, ↓reduceIte, Nat.reduceEqDiff, Nat.reduceLT, Nat.reduceSub], by simp only [go_sem, ↓reduceIte, Nat.reduceEqDiff, Nat.reduceLT, Nat.reduceSub], by simp only [go_sem, ↓reduceIte, Nat.reduceEqDiff, Nat.reduceLT, Nat.reduceSub], by simp only [go_sem, ↓reduceIte, Nat.reduceEqDiff, Nat.reduceLT, Nat.reduceSub]⟩ ?_
            intro fr hfr
            obtain ⟨f0, f5, f6, f8⟩ := hfr
            have hrow := wr_row L (findL L n).1 hlt sp
            have hL' : (L.getD (findL L n).1 ((0, 0), sp0)).1 = L[(findL L n).1].1 := by simp [List.getD_eq_getElem?_getD, List.getElem?_eq_getElem hlt]
            have hbd : (findL L n).1 * 5 + 2 + 3 ≤ (elRow.all L).length := by
              have : (elRow.all L).length = L.length * 5 := elRow.all_len L
              rw [this]; omega
            generalize hi0 : (findL L n).1 = i at *
            -- the new box
            have hGp := Grew.push M2 (.cells [.int .i64 0, .int .i64 0, .str []] false)
            have w10 := write_full (M := M2.push (.cells [.int .i64 0, .int .i64 0, .str []] false)) (b := M2.next) (vs := spC (rowL L i)) (Mem.get_push_same _ _) rfl rfl
            simp -dsimp only [↓w_seq, ↓w_ops, ↓w_skip, ↓w_ret, ↓w_exit, ↓w_scope, ↓w_block, ↓w_cond, cond_true', cond_false', ↓t_nil, ↓t_plain, ↓t_guard, ↓t_gagain, ↓t_again, t_val, t_call, g_true, g_false, ga_true, ga_false, a_val, a_call, ↓n_normal, ↓n_ret, ↓n_exit, ↓b_normal, ↓b_ret, ↓b_exit, ↓e_normal, ↓e_ret, e_some, go_sem, ↓reduceIte, Nat.reduceEqDiff, Nat.reduceLT, Nat.reduceSub, A_ref10_Tree_Move_8, f0, f8, vload, vptr, vof, Option.map_some, Mem.read, hc, hMb, hr3, e2', decide_true, Nat.add_zero, Nat.zero_add, List.getElem?_cons_zero, vstore, hcs, spC_len, w10, Nat.reduceEqDiff]
            have hG3 : Grew M2 ((M2.push (.cells [.int .i64 0, .int .i64 0, .str []] false)).set M2.next (.cells (spC (rowL L i)) false)) := hGp.upd (Nat.le_refl _) (Upd.set _ _ _)
            have q10 := Mem.get_set_same (M2.push (.cells [.int .i64 0, .int .i64 0, .str []] false)) M2.next (.cells (spC (rowL L i)) false)
            have hn3 : ((M2.push (.cells [.int .i64 0, .int .i64 0, .str []] false)).set M2.next (.cells (spC (rowL L i)) false)).next = M2.next + 1 := rfl
            clear w10 hGp
            generalize (M2.push (.cells [.int .i64 0, .int .i64 0, .str []] false)).set M2.next (.cells (spC (rowL L i)) false) = M3 at *
            have hn2 := hG2.next
            have c3 := (hG3.old _ h2.rl).trans hc
            have b3 := (hG3.old _ hbl).trans hMb
            have k53 := (hG3.old _ (by omega)).trans k5
            have k63 := (hG3.old _ (by omega)).trans k6
            have wb : M3.write b (i * 5 + 2) (spC sp) = some (M3.set b (.cells (elRow.all (L.set i (L[i].1, sp))) false)) := by
              unfold Mem.write
              simp only [b3, spC_len, ble_iff, decide_eq_true hbd, cond_true, hrow]
              rfl
            simp -dsimp only [↓w_seq, ↓w_ops, ↓w_skip, ↓w_ret, ↓w_exit, ↓w_scope, ↓w_block, ↓w_cond, cond_true', cond_false', ↓t_nil, ↓t_plain, ↓t_guard, ↓t_gagain, ↓t_again, t_val, t_call, g_true, g_false, ga_true, ga_false, a_val, a_call, ↓n_normal, ↓n_ret, ↓n_exit, ↓b_normal, ↓b_ret, ↓b_exit, ↓e_normal, ↓e_ret, e_some, go_sem, ↓reduceIte, Nat.reduceEqDiff, Nat.reduceLT, Nat.reduceSub, A_ref10_Tree_Move_9, f0, f5, f8, vload, vptr, vof, Option.map_some, Mem.read, c3, k53, hrs, e2', decide_true, Nat.add_zero, Nat.zero_add, List.getElem?_cons_zero, vstore, hcs, spC_len, wb, Nat.reduceEqDiff]
            have hbM : b < M.next := (h.ho.blk_le (by rw [es]; rfl)).2
            have hlen5 : (elRow.all L).length = L.length * 5 := elRow.all_len L
            have hbrc : b ≠ rc := fun e => by
              rw [e, h2.c] at hMb
              have := congrArg (fun o => match o with | some (O.cells cs _) => cs.length | _ => 0) hMb
              simp only [List.length_cons, List.length_nil] at this
              omega
            have u4 : ∀ c, c ≠ b → (M3.set b (.cells (elRow.all (L.set i (L[i].1, sp))) false)).get c = M3.get c := fun c hc => Mem.get_set_ne _ _ hc
            have s4 := Mem.get_set_same M3 b (.cells (elRow.all (L.set i (L[i].1, sp))) false)
            have n4 : (M3.set b (.cells (elRow.all (L.set i (L[i].1, sp))) false)).next = M3.next := rfl
            generalize M3.set b (.cells (elRow.all (L.set i (L[i].1, sp))) false) = M4 at *
            have q104 := (u4 M2.next (by omega)).trans q10
            have k64 := (u4 (M.next + 1 + 1) (by omega)).trans k63
            have w6 := write_full (vs := spC (rowL L i)) k64 rfl rfl
            simp -dsimp only [↓w_seq, ↓w_ops, ↓w_skip, ↓w_ret, ↓w_exit, ↓w_scope, ↓w_block, ↓w_cond, cond_true', cond_false', ↓t_nil, ↓t_plain, ↓t_guard, ↓t_gagain, ↓t_again, t_val, t_call, g_true, g_false, ga_true, ga_false, a_val, a_call, ↓n_normal, ↓n_ret, ↓n_exit, ↓b_normal, ↓b_ret, ↓b_exit, ↓e_normal, ↓e_ret, e_some, go_sem, ↓reduceIte, Nat.reduceEqDiff, Nat.reduceLT, Nat.reduceSub, A_ref10_Tree_Move_10, vload, vptr, vof, Option.map_some, Mem.read, f6, q104, hrs, Nat.add_zero, Nat.zero_add, vstore, hcs, spC_len, w6, Nat.reduceEqDiff]
            have u5 : ∀ c, c ≠ M.next + 1 + 1 → (M4.set (M.next + 1 + 1) (.cells (spC (rowL L i)) false)).get c = M4.get c := fun c hc => Mem.get_set_ne _ _ hc
            have s5 := Mem.get_set_same M4 (M.next + 1 + 1) (.cells (spC (rowL L i)) false)
            have n5 : (M4.set (M.next + 1 + 1) (.cells (spC (rowL L i)) false)).next = M4.next := rfl
            generalize M4.set (M.next + 1 + 1) (.cells (spC (rowL L i)) false) = M5 at *
            simp -dsimp only [↓w_seq, ↓w_ops, ↓w_skip, ↓w_ret, ↓w_exit, ↓w_scope, ↓w_block, ↓w_cond, cond_true', cond_false', ↓t_nil, ↓t_plain, ↓t_guard, ↓t_gagain, ↓t_again, t_val, t_call, g_true, g_false, ga_true, ga_false, a_val, a_call, ↓n_normal, ↓n_ret, ↓n_exit, ↓b_normal, ↓b_ret, ↓b_exit, ↓e_normal, ↓e_ret, e_some, go_sem, ↓reduceIte, Nat.reduceEqDiff, Nat.reduceLT, Nat.reduceSub, vload, vptr, Mem.read, f6, s5, hrs, Nat.add_zero, Option.bind_some, oneOf]
            have hrl := h.rl
            have hLl : (L.set i (L[i].1, sp)).length = L.length := List.length_set
            refine hR _ _ ⟨by rw [moveWR, if_pos h0, h0]; simp [hi0], ?_⟩
            rw [moveLR, if_pos h0, hi0, hL']
            refine ⟨s, ⟨?_, by omega, ?_, by rw [hLl]; exact h.ln⟩, .inl rfl, ⟨by omega, fun c hc' h1' h2' => ?_⟩⟩
            · rw [u5 rc (by omega), u4 rc (fun e => hbrc e.symm), hG3.old rc h2.rl]
              exact h2.c
            · rw [hLl, es]
              refine .inl (.row ?_ ?_ (Nat.zero_le _) (by omega))
              · rw [u5 b (by omega)]; exact s4
              · have := elRow.all_len (L.set i (L[i].1, sp))
                rw [this, hLl]
                rfl
            · have : c ≠ b := fun e => h2' (by rw [es, e]; rfl)
              rw [u5 c (by omega), u4 c this, hG3.old c (by omega), hG2.old c (by omega), hG.old c hc']
end Go.Am.Tryd


/- The reference's Drop. -/
namespace Go.Am.Tryd
open Go Go.Am Go.Proofs Go.Sort Go.Shelf
set_option maxRecDepth 100000
set_option linter.unusedSimpArgs false
set_option linter.unusedVariables false

def dropER (L : Tr) (n : St) : Nat := if (findL L n).2 = false then 3 else if 0 < (belR L n).length then 4 else 0
def dropLR (L : Tr) (n : St) : Tr := if dropER L n = 0 then L.eraseIdx (findL L n).1 else L
def dropWR (L : Tr) (n : St) : Spot := if dropER L n = 0 then rowL L (findL L n).1 else sp0

set_option maxHeartbeats 1000000 in
theorem rDrop_runs (rc : Nat) (s : V) (L : Tr) (n : St) (M : Mem) (h : RefIn M rc s L) :
    Runs D2 F_ref10_Tree_Drop [.ptr (some (rc, 0)), .agg (stC n)] M fun v M' => v = .tup [.agg (spC (dropWR L n)), .int .i64 (dropER L n : Int)] ∧ RefTo M rc s M' (dropLR L n) := by
  refine R_opq fun R hR => ?_
  refine Runs.walk (F := A_ref10_Tree_Drop) rfl (by rfl) (by rfl) ?_
  unfold A_ref10_Tree_Drop
  have hcn : V.cells (.agg (stC n)) = stC n := rfl
  have hcs : ∀ s, V.cells (.agg (spC s)) = spC s := fun _ => rfl
  have hrn : rdCells (stC n) 0 2 = some (stC n) := rfl
  have hrs : ∀ s, rdCells (spC s) 0 3 = some (spC s) := fun _ => rfl
  have hG := (Grew.push M (.cells (stC n) false)).trans (Grew.push _ (.cells [.int .i64 0, .int .i64 0, .str []] false))
  have g3 : ((M.push (.cells (stC n) false)).push (.cells [.int .i64 0, .int .i64 0, .str []] false)).get M.next = some (.cells (stC n) false) := by rw [Mem.get_push_ne _ _ (by simp), Mem.get_push_same]
  have g4 : ((M.push (.cells (stC n) false)).push (.cells [.int .i64 0, .int .i64 0, .str []] false)).get (M.next + 1) = some (.cells (spC sp0) false) := Mem.get_push_same (M.push _) _
  have hnx : ((M.push (.cells (stC n) false)).push (.cells [.int .i64 0, .int .i64 0, .str []] false)).next = M.next + 2 := rfl
  have hln := h.ln
  have hrl0 := h.rl
  simp -dsimp only [↓w_seq, ↓w_ops, ↓w_skip, ↓w_ret, ↓w_exit, ↓w_scope, ↓w_block, ↓w_cond, cond_true', cond_false', ↓t_nil, ↓t_plain, ↓t_guard, ↓t_gagain, ↓t_again, t_val, t_call, g_true, g_false, ga_true, ga_false, a_val, a_call, ↓n_normal, ↓n_ret, ↓n_exit, ↓b_normal, ↓b_ret, ↓b_exit, ↓e_normal, ↓e_ret, e_some, go_sem, ↓reduceIte, Nat.reduceEqDiff, Nat.reduceLT, Nat.reduceSub, A_ref10_Tree_Drop_0, A_ref10_Tree_Drop_1, hcn, hcs, Mem.next_push]
  generalize (M.push (.cells (stC n) false)).push (.cells [.int .i64 0, .int .i64 0, .str []] false) = M1 at *
  have h1 := h.grew hG
  have hfill : fillCells [.int .i64 0, .int .i64 0, .str []] [] = some (spC sp0) := rfl
  have bad : ∀ (M2 : Mem) (e : Nat), Grew M1 M2 → dropER L n = e → e ≠ 0 → R (.tup [.agg (spC sp0), .int .i64 (e : Int)]) (M2.set (M.next + 1) (.cells (spC sp0) false)) := fun M2 e hG2 h1' h2 =>
    hR _ _ ⟨by rw [dropWR, if_neg (by omega), h1'], by rw [dropLR, if_neg (by omega)]; exact RefTo.same h ((hG.trans hG2).upd (b := M.next + 1) (by omega) (Upd.set M2 _ _))⟩
  have hw0 : ∀ M2, Grew M1 M2 → M2.write (M.next + 1) 0 (spC sp0) = some (M2.set (M.next + 1) (.cells (spC sp0) false)) := fun M2 hG2 => write_full (vs := spC sp0) ((hG2.old _ (by omega)).trans g4) rfl rfl
  have hw1 := hw0 M1 (Grew.refl _)
  have hs1 := Mem.get_set_same M1 (M.next + 1) (.cells (spC sp0) false)
  simp -dsimp only [↓w_seq, ↓w_ops, ↓w_skip, ↓w_ret, ↓w_exit, ↓w_scope, ↓w_block, ↓w_cond, cond_true', cond_false', ↓t_nil, ↓t_plain, ↓t_guard, ↓t_gagain, ↓t_again, t_val, t_call, g_true, g_false, ga_true, ga_false, a_val, a_call, ↓n_normal, ↓n_ret, ↓n_exit, ↓b_normal, ↓b_ret, ↓b_exit, ↓e_normal, ↓e_ret, e_some, go_sem, ↓reduceIte, Nat.reduceEqDiff, Nat.reduceLT, Nat.reduceSub, vload, vptr, Mem.read, g3, hrn]
  cases e3 : (findL L n).2 with
  | false =>
    refine call_eq (find_p rfl h1.rows n) ?_
    rw [e3]
    simp -dsimp only [↓w_seq, ↓w_ops, ↓w_skip, ↓w_ret, ↓w_exit, ↓w_scope, ↓w_block, ↓w_cond, cond_true', cond_false', ↓t_nil, ↓t_plain, ↓t_guard, ↓t_gagain, ↓t_again, t_val, t_call, g_true, g_false, ga_true, ga_false, a_val, a_call, ↓n_normal, ↓n_ret, ↓n_exit, ↓b_normal, ↓b_ret, ↓b_exit, ↓e_normal, ↓e_ret, e_some, go_sem, ↓reduceIte, Nat.reduceEqDiff, Nat.reduceLT, Nat.reduceSub, A_ref10_Tree_Drop_2, A_ref10_Tree_Drop_3, List.getElem?_cons_zero, List.getElem?_cons_succ, Bool.not_false, hfill, vof, Option.map_some, vstore, hcs, spC_len, hw1, Nat.reduceEqDiff, vload, vptr, Mem.read, hs1, hrs, Option.bind_some, oneOf]
    exact bad M1 3 (Grew.refl _) (by rw [dropER, e3]; rfl) (by decide)
  | true =>
    refine call_eq (find_p rfl h1.rows n) ?_
    rw [e3]
    simp -dsimp only [↓w_seq, ↓w_ops, ↓w_skip, ↓w_ret, ↓w_exit, ↓w_scope, ↓w_block, ↓w_cond, cond_true', cond_false', ↓t_nil, ↓t_plain, ↓t_guard, ↓t_gagain, ↓t_again, t_val, t_call, g_true, g_false, ga_true, ga_false, a_val, a_call, ↓n_normal, ↓n_ret, ↓n_exit, ↓b_normal, ↓b_ret, ↓b_exit, ↓e_normal, ↓e_ret, e_some, go_sem, ↓reduceIte, Nat.reduceEqDiff, Nat.reduceLT, Nat.reduceSub, A_ref10_Tree_Drop_2, A_ref10_Tree_Drop_4, List.getElem?_cons_zero, List.getElem?_cons_succ, Bool.not_true, vload, vptr, Mem.read, g3, hrn]
    refine call_of (rBelow_runs rc s L n M1 h1) ?_
    intro v M2 hv
    obtain ⟨hG2, hH⟩ := hv
    obtain ⟨av, cv, rfl⟩ := hH.shape
    have hn2 := hG2.next
    by_cases hb : 0 < (belR L n).length
    · have hb' : (0 : Int) < ((belR L n).length : Int) := by omega
      have hw2 := hw0 M2 hG2
      have hs2 := Mem.get_set_same M2 (M.next + 1) (.cells (spC sp0) false)
      simp -dsimp only [↓w_seq, ↓w_ops, ↓w_skip, ↓w_ret, ↓w_exit, ↓w_scope, ↓w_block, ↓w_cond, cond_true', cond_false', ↓t_nil, ↓t_plain, ↓t_guard, ↓t_gagain, ↓t_again, t_val, t_call, g_true, g_false, ga_true, ga_false, a_val, a_call, ↓n_normal, ↓n_ret, ↓n_exit, ↓b_normal, ↓b_ret, ↓b_exit, ↓e_normal, ↓e_ret, e_some, go_sem, ↓reduceIte, Nat.reduceEqDiff, Nat.reduceLT, Nat.reduceSub, hb', decide_true, A_ref10_Tree_Drop_5, hfill, vof, Option.map_some, vstore, hcs, spC_len, hw2, Nat.reduceEqDiff, vload, vptr, Mem.read, hs2, hrs, Option.bind_some, oneOf]
      exact bad M2 4 hG2 (by rw [dropER, e3, if_pos hb]; rfl) (by decide)
    · have hb' : ¬ (0 : Int) < ((belR L n).length : Int) := by omega
      have h0 : dropER L n = 0 := by rw [dropER, e3, if_neg hb]; rfl
      have h2 := h1.grew hG2
      have hlt := findL_lt e3
      have k4 := (hG2.old _ (by omega)).trans g4
      obtain ⟨b, o, cs, rb, cap, es, hMb, hr5, hr2, hr3, hr22⟩ := row_at h2.he.sl hlt
      have hc := h2.c
      rw [es] at hc
      have hrl : L[(findL L n).1].2 = rowL L (findL L n).1 := by simp [rowL, List.getD_eq_getElem?_getD, List.getElem?_eq_getElem hlt]
      rw [hrl] at hr3
      have e2' : (findL L n).1 + 1 ≤ L.length := hlt
      simp -dsimp only [↓w_seq, ↓w_ops, ↓w_skip, ↓w_ret, ↓w_exit, ↓w_scope, ↓w_block, ↓w_cond, cond_true', cond_false', ↓t_nil, ↓t_plain, ↓t_guard, ↓t_gagain, ↓t_again, t_val, t_call, g_true, g_false, ga_true, ga_false, a_val, a_call, ↓n_normal, ↓n_ret, ↓n_exit, ↓b_normal, ↓b_ret, ↓b_exit, ↓e_normal, ↓e_ret, e_some, go_sem, ↓reduceIte, Nat.reduceEqDiff, Nat.reduceLT, Nat.reduceSub, hb', decide_false]
      refine WT_abs (fun fr => fr.rd 0 = .ptr (some (rc, 0)) ∧ fr.rd 4 = .ptr (some (M.next + 1, 0)) ∧ fr.rd 6 = .int .i64 ((findL L n).1 : Int)) ⟨by simp only [go_sem, ↓reduceIte, Nat.reduceEqDiff, Nat.reduceLT, Nat.reduceSub], by simp only [go_sem, ↓reduceIte, Nat.reduceEqDiff, Nat.reduceLT, Nat.reduceSub], by simp only [go_sem, ↓reduceIte, Nat.reduceEqDiff, Nat.reduceLT, Nat.reduceSub]⟩ ?_
      intro fr hfr
      obtain ⟨f0, f4, f6⟩ := hfr
      generalize hi0 : (findL L n).1 = i at *
      have hGp := Grew.push M2 (.cells [.int .i64 0, .int .i64 0, .str []] false)
      have w8 := write_full (M := M2.push (.cells [.int .i64 0, .int .i64 0, .str []] false)) (b := M2.next) (vs := spC (rowL L i)) (Mem.get_push_same _ _) rfl rfl
      simp -dsimp only [↓w_seq, ↓w_ops, ↓w_skip, ↓w_ret, ↓w_exit, ↓w_scope, ↓w_block, ↓w_cond, cond_true', cond_false', ↓t_nil, ↓t_plain, ↓t_guard, ↓t_gagain, ↓t_again, t_val, t_call, g_true, g_false, ga_true, ga_false, a_val, a_call, ↓n_normal, ↓n_ret, ↓n_exit, ↓b_normal, ↓b_ret, ↓b_exit, ↓e_normal, ↓e_ret, e_some, go_sem, ↓reduceIte, Nat.reduceEqDiff, Nat.reduceLT, Nat.reduceSub, A_ref10_Tree_Drop_6, f0, f6, vload, vptr, vof, Option.map_some, Mem.read, hc, hMb, hr3, e2', decide_true, Nat.add_zero, Nat.zero_add, List.getElem?_cons_zero, vstore, hcs, spC_len, w8, Nat.reduceEqDiff]
      have hG3 : Grew M2 ((M2.push (.cells [.int .i64 0, .int .i64 0, .str []] false)).set M2.next (.cells (spC (rowL L i)) false)) := hGp.upd (Nat.le_refl _) (Upd.set _ _ _)
      have q8 := Mem.get_set_same (M2.push (.cells [.int .i64 0, .int .i64 0, .str []] false)) M2.next (.cells (spC (rowL L i)) false)
      have hn3 : ((M2.push (.cells [.int .i64 0, .int .i64 0, .str []] false)).set M2.next (.cells (spC (rowL L i)) false)).next = M2.next + 1 := rfl
      clear w8 hGp
      generalize (M2.push (.cells [.int .i64 0, .int .i64 0, .str []] false)).set M2.next (.cells (spC (rowL L i)) false) = M3 at *
      have h3 := h2.grew hG3
      have hmx : maxRoom = 17592186044416 := rfl
      obtain ⟨s39, s47, s40, Mc, s48, Md, v1, v2, a1, a2, hHE, hGc, hGd⟩ := del2 elRow (bytes := 48) (i := i) rfl h3.ho hlt (by omega)
      have k5 : elRow.k = 5 := rfl
      rw [k5] at v1 v2 a1 a2 hHE
      have hc3 := h3.c
      rw [es] at hc3 v1 v2
      have hp1 := Grew.push M3 (.cells [] false)
      have c1 := (hp1.old _ h3.rl).trans hc3
      have cc := (hGc.old _ h3.rl).trans hc3
      have cd := (hGd.old _ h3.rl).trans hc3
      have f00 : fillCells [] [] = some [] := rfl
      have hi1 : (i : Int) + 1 = ((i + 1 : Nat) : Int) := by omega
      simp -dsimp only [↓w_seq, ↓w_ops, ↓w_skip, ↓w_ret, ↓w_exit, ↓w_scope, ↓w_block, ↓w_cond, cond_true', cond_false', ↓t_nil, ↓t_plain, ↓t_guard, ↓t_gagain, ↓t_again, t_val, t_call, g_true, g_false, ga_true, ga_false, a_val, a_call, ↓n_normal, ↓n_ret, ↓n_exit, ↓b_normal, ↓b_ret, ↓b_exit, ↓e_normal, ↓e_ret, e_some, go_sem, ↓reduceIte, Nat.reduceEqDiff, Nat.reduceLT, Nat.reduceSub, A_ref10_Tree_Drop_7, f0, f6, vload, vptr, Mem.read, hc3, c1, Nat.add_zero, List.getElem?_cons_zero, f00, vof, Option.map_some, repl, Mem.next_push, Option.map_none, Option.bind_none, Option.bind_some, id_eq, hi1, IntWalk.i64_in ((i + 1 : Nat) : Int) (by omega), v1, v2, a1]
      refine ⟨?_, ?_⟩
      · simp only [List.all_cons, List.all_nil, Bool.and_true, againOk, wantedA, cond_true, go_sem, ↓reduceIte, Nat.reduceEqDiff, Nat.reduceLT, Nat.reduceSub, vload, vptr, Mem.read, vof, Option.map_some, Bool.true_and, cc, Nat.add_zero, List.getElem?_cons_zero, Nat.zero_add, V.beq, V.beq_self, V.beqs_self, Bool.and_self, Nat.reduceAdd, Nat.reduceLeDiff, decide_true, cond_true]
      have hsl : ∃ a n c, s48 = .slice a n c := by
        rcases hHE with h | ⟨_, _, b, e, _⟩
        · obtain ⟨a, c, e⟩ := h.shape; exact ⟨a, _, c, e⟩
        · exact ⟨_, _, _, e⟩
      have hone : V.cells s48 = [s48] := by obtain ⟨_, _, _, rfl⟩ := hsl; rfl
      have hone2 : s48.one = true := by obtain ⟨_, _, _, rfl⟩ := hsl; rfl
      have hw := write_one (v := s48) cd (show 0 < 1 by omega) hone2
      simp -dsimp only [↓w_seq, ↓w_ops, ↓w_skip, ↓w_ret, ↓w_exit, ↓w_scope, ↓w_block, ↓w_cond, cond_true', cond_false', ↓t_nil, ↓t_plain, ↓t_guard, ↓t_gagain, ↓t_again, t_val, t_call, g_true, g_false, ga_true, ga_false, a_val, a_call, ↓n_normal, ↓n_ret, ↓n_exit, ↓b_normal, ↓b_ret, ↓b_exit, ↓e_normal, ↓e_ret, e_some, go_sem, ↓reduceIte, Nat.reduceEqDiff, Nat.reduceLT, Nat.reduceSub, a2, Option.map_some, f0, vptr, vof, vstore, hone, List.length_cons, List.length_nil, Nat.zero_add, hw, List.set_cons_zero, Nat.add_zero]
      have u4 : ∀ c, c ≠ rc → (Md.set rc (.cells [s48] false)).get c = Md.get c := fun c hc => Mem.get_set_ne _ _ hc
      have s4 := Mem.get_set_same Md rc (.cells [s48] false)
      have n4 : (Md.set rc (.cells [s48] false)).next = Md.next := rfl
      generalize Md.set rc (.cells [s48] false) = M4 at *
      have hnd := hGd.next
      have q84 : M4.get M2.next = some (.cells (spC (rowL L i)) false) := by rw [u4 _ (by omega), hGd.old _ (by omega)]; exact q8
      have k44 : M4.get (M.next + 1) = some (.cells (spC sp0) false) := by rw [u4 _ (by omega), hGd.old _ (by omega), hG3.old _ (by omega)]; exact k4
      have w4 := write_full (vs := spC (rowL L i)) k44 rfl rfl
      simp -dsimp only [↓w_seq, ↓w_ops, ↓w_skip, ↓w_ret, ↓w_exit, ↓w_scope, ↓w_block, ↓w_cond, cond_true', cond_false', ↓t_nil, ↓t_plain, ↓t_guard, ↓t_gagain, ↓t_again, t_val, t_call, g_true, g_false, ga_true, ga_false, a_val, a_call, ↓n_normal, ↓n_ret, ↓n_exit, ↓b_normal, ↓b_ret, ↓b_exit, ↓e_normal, ↓e_ret, e_some, go_sem, ↓reduceIte, Nat.reduceEqDiff, Nat.reduceLT, Nat.reduceSub, A_ref10_Tree_Drop_8, f4, vload, vptr, vof, Option.map_some, Mem.read, q84, hrs, Nat.add_zero, Nat.zero_add, vstore, hcs, spC_len, w4, Nat.reduceEqDiff]
      have u5 : ∀ c, c ≠ M.next + 1 → (M4.set (M.next + 1) (.cells (spC (rowL L i)) false)).get c = M4.get c := fun c hc => Mem.get_set_ne _ _ hc
      have s5 := Mem.get_set_same M4 (M.next + 1) (.cells (spC (rowL L i)) false)
      have n5 : (M4.set (M.next + 1) (.cells (spC (rowL L i)) false)).next = M4.next := rfl
      generalize M4.set (M.next + 1) (.cells (spC (rowL L i)) false) = M5 at *
      simp -dsimp only [↓w_seq, ↓w_ops, ↓w_skip, ↓w_ret, ↓w_exit, ↓w_scope, ↓w_block, ↓w_cond, cond_true', cond_false', ↓t_nil, ↓t_plain, ↓t_guard, ↓t_gagain, ↓t_again, t_val, t_call, g_true, g_false, ga_true, ga_false, a_val, a_call, ↓n_normal, ↓n_ret, ↓n_exit, ↓b_normal, ↓b_ret, ↓b_exit, ↓e_normal, ↓e_ret, e_some, go_sem, ↓reduceIte, Nat.reduceEqDiff, Nat.reduceLT, Nat.reduceSub, vload, vptr, Mem.read, f4, s5, hrs, Nat.add_zero, Option.bind_some, oneOf]
      have hLl : (L.eraseIdx i).length = L.length - 1 := by rw [List.length_eraseIdx, if_pos hlt]
      have hbl : ∀ b, s48.blk = some b → M3.next ≤ b ∧ b < Md.next := fun b hb => hHE.blk_le hb
      refine hR _ _ ⟨by rw [dropWR, if_pos h0, h0]; simp [hi0], ?_⟩
      rw [dropLR, if_pos h0, hi0]
      refine ⟨s48, ⟨?_, by omega, ?_, by rw [hLl]; omega⟩, .inr fun b hb => by have := (hbl b hb).1; omega, ⟨by omega, fun c hc' h1' h2' => ?_⟩⟩
      · rw [u5 rc (by omega)]; exact s4
      · rw [hLl]
        refine HoldE.low (HoldE.keep hHE (fun b hb => ?_) (by omega)) (Nat.zero_le _)
        have := (hbl b hb).1
        rw [u5 b (by omega), u4 b (by omega)]
      · rw [u5 c (by omega), u4 c h1', hGd.old c (by omega), hG3.old c (by omega), hG2.old c (by omega), hG.old c hc']
end Go.Am.Tryd


/- Plainly: the reference's rows are the tree's, and each act does on both the same. -/
namespace Go.Am.Tryd
open Go Go.Am Go.Proofs Go.Sort Go.Shelf
set_option maxRecDepth 100000
set_option linter.unusedSimpArgs false
set_option linter.unusedVariables false

def rowsL (l : Tr) : Tr := (nodesL l).map fun n => (n, (getS l n).getD sp0)
def SR (L : Tr) : Prop := L.Pairwise fun a b => ltSt a.1 b.1 = true
theorem cmp_lt {a b : St} : (0 ≤ cmpSt a b) ↔ ltSt a b = false := by
  unfold cmpSt ltSt
  by_cases h : a = b
  · subst h; simp
  · rw [if_neg h]
    by_cases h2 : a.1 < b.1 ∨ a.1 = b.1 ∧ a.2 < b.2
    · rw [if_pos h2]; simp [h2]
    · rw [if_neg h2]; simp [h2]
theorem lt_irrefl (a : St) : ltSt a a = false := swo_St.irrefl a
theorem lt_trans {a b c : St} (h : ltSt a b = true) (h' : ltSt b c = true) : ltSt a c = true := swo_St.trans _ _ _ h h'
theorem lt_asym {a b : St} (h : ltSt a b = true) : ltSt b a = false := by
  cases hq : ltSt b a with
  | false => rfl
  | true => have := lt_trans h hq; rw [lt_irrefl] at this; cases this
theorem lt_total {a b : St} (h : ltSt a b = false) (hne : a ≠ b) : ltSt b a = true := by
  cases hq : ltSt b a with
  | true => rfl
  | false => exact absurd (tot_St _ _ h hq) hne

theorem rows_ext : ∀ {L L' : Tr}, SR L → SR L' → (∀ x, x ∈ L ↔ x ∈ L') → L = L'
  | [], [], _, _, _ => rfl
  | [], b :: L', _, _, h => absurd ((h b).mpr (List.mem_cons_self ..)) (by simp)
  | a :: L, [], _, _, h => absurd ((h a).mp (List.mem_cons_self ..)) (by simp)
  | a :: L, b :: L', hs, hs', h => by
    unfold SR at hs hs'
    rw [List.pairwise_cons] at hs hs'
    have hab : a = b := by
      rcases List.mem_cons.mp ((h a).mp (List.mem_cons_self ..)) with e | ha
      · exact e
      rcases List.mem_cons.mp ((h b).mpr (List.mem_cons_self ..)) with e | hb
      · exact e.symm
      have h1 := hs'.1 a ha
      have h2 := hs.1 b hb
      rw [lt_asym h1] at h2; cases h2
    subst hab
    rw [rows_ext hs.2 hs'.2 fun x => ?_]
    have hna : ∀ (K : Tr), (∀ b ∈ K, ltSt a.1 b.1 = true) → a ∉ K := fun K hK hm => by
      have := hK a hm; rw [lt_irrefl] at this; cases this
    constructor
    · intro hx
      rcases List.mem_cons.mp ((h x).mp (List.mem_cons_of_mem _ hx)) with e | hx'
      · exact absurd (e ▸ hx) (hna L hs.1)
      · exact hx'
    · intro hx
      rcases List.mem_cons.mp ((h x).mpr (List.mem_cons_of_mem _ hx)) with e | hx'
      · exact absurd (e ▸ hx) (hna L' hs'.1)
      · exact hx'

theorem nodes_sorted {l : Tr} (h : (keysS l).Nodup) : (nodesL l).Pairwise fun a b => ltSt a b = true := by
  have h1 := isort_sorted swo_St (keysS l)
  have h2 : (nodesL l).Nodup := (isort_perm ltSt (keysS l)).nodup_iff.mpr h
  unfold nodesL at h2 ⊢
  generalize isort ltSt (keysS l) = ns at h1 h2
  induction ns with
  | nil => exact List.Pairwise.nil
  | cons a ns ih =>
    rw [List.pairwise_cons] at h1 ⊢
    rw [List.nodup_cons] at h2
    exact ⟨fun b hb => lt_total (h1.1 b hb) fun e => h2.1 (e ▸ hb), ih h1.2 h2.2⟩
theorem rows_sorted {l : Tr} (h : (keysS l).Nodup) : SR (rowsL l) := by
  unfold SR rowsL
  rw [List.pairwise_map]
  exact nodes_sorted h
theorem mem_rows {l : Tr} {x : St × Spot} : x ∈ rowsL l ↔ getS l x.1 = some x.2 := by
  unfold rowsL
  rw [List.mem_map]
  constructor
  · rintro ⟨n, hn, rfl⟩
    have := get_mem.mpr (mem_nodes.mp hn)
    cases hg : getS l n with
    | none => rw [hg] at this; cases this
    | some s => rfl
  · intro h
    exact ⟨x.1, mem_nodes.mpr (get_mem.mp (by rw [h]; rfl)), by rw [h]; rfl⟩
theorem rows_len (l : Tr) : (rowsL l).length = l.length := by rw [rowsL, List.length_map, nodes_len]

/-- What find tells of rising rows. -/
theorem find_spec (n : St) : ∀ {L : Tr}, SR L → (∀ x ∈ L.take (findL L n).1, ltSt x.1 n = true) ∧ (∀ x ∈ L.drop (findL L n).1, ltSt x.1 n = false) ∧ ((findL L n).2 = true → ∃ h : (findL L n).1 < L.length, L[(findL L n).1].1 = n) ∧ ((findL L n).2 = false → ∀ x ∈ L, x.1 ≠ n)
  | [], _ => by simp [findL]
  | p :: r, hs => by
    unfold SR at hs
    rw [List.pairwise_cons] at hs
    rw [findL_cons]
    by_cases hc : 0 ≤ cmpSt p.1 n
    · rw [if_pos hc]
      have hp := cmp_lt.mp hc
      have hge : ∀ x ∈ p :: r, ltSt x.1 n = false := fun x hx => by
        rcases List.mem_cons.mp hx with rfl | hx
        · exact hp
        · cases hq : ltSt x.1 n with
          | false => rfl
          | true => have := lt_trans (hs.1 x hx) hq; rw [this] at hp; cases hp
      refine ⟨by simp, by simpa using hge, fun h => ⟨by simp, by simpa using h⟩, fun h x hx e => ?_⟩
      have hpn : p.1 ≠ n := by simpa using h
      rcases List.mem_cons.mp hx with rfl | hx
      · exact hpn e
      · have := hs.1 x hx
        rw [e, hp] at this; cases this
    · rw [if_neg hc]
      have hp : ltSt p.1 n = true := by
        cases hq : ltSt p.1 n with
        | true => rfl
        | false => exact absurd (cmp_lt.mpr hq) hc
      obtain ⟨h1, h2, h3, h4⟩ := find_spec n (L := r) hs.2
      refine ⟨fun x hx => ?_, h2, fun h => ?_, fun h x hx => ?_⟩
      · rw [List.take_succ_cons] at hx
        rcases List.mem_cons.mp hx with rfl | hx
        · exact hp
        · exact h1 x hx
      · obtain ⟨h5, h6⟩ := h3 h
        exact ⟨by simp only [List.length_cons]; omega, h6⟩
      · rcases List.mem_cons.mp hx with rfl | hx
        · intro e; rw [e, lt_irrefl] at hp; cases hp
        · exact h4 h x hx

section
variable {l : Tr} (h : Inv l)
include h
theorem find_is (n : St) : (findL (rowsL l) n).2 = (getS l n).isSome := by
  obtain ⟨_, _, h3, h4⟩ := find_spec n (rows_sorted h.nd)
  cases hf : (findL (rowsL l) n).2 with
  | true =>
    obtain ⟨h5, h6⟩ := h3 hf
    have := mem_rows.mp (List.getElem_mem h5)
    rw [h6] at this
    rw [this]; rfl
  | false =>
    cases hg : getS l n with
    | none => rfl
    | some s => exact absurd rfl (h4 hf (n, s) (mem_rows.mpr hg))
theorem find_at {n : St} {s : Spot} (hg : getS l n = some s) : ∃ hlt : (findL (rowsL l) n).1 < (rowsL l).length, (rowsL l)[(findL (rowsL l) n).1] = (n, s) := by
  obtain ⟨_, _, h3, _⟩ := find_spec n (rows_sorted h.nd)
  obtain ⟨h5, h6⟩ := h3 (by rw [find_is h, hg]; rfl)
  refine ⟨h5, ?_⟩
  have := mem_rows.mp (List.getElem_mem h5)
  rw [h6, hg] at this
  exact Prod.ext h6 (Option.some.inj this).symm
theorem row_is {n : St} {s : Spot} (hg : getS l n = some s) : rowL (rowsL l) (findL (rowsL l) n).1 = s := by
  obtain ⟨h1, h2⟩ := find_at h hg
  simp [rowL, List.getD_eq_getElem?_getD, List.getElem?_eq_getElem h1, h2]
theorem has_is (p : St) : hasRB (rowsL l) p = hasB l p := by
  unfold hasRB hasB
  rw [find_is h]
  congr 1
  unfold placeSt
  cases hn : nodeSt p with
  | true =>
    have h0 := node_pos hn
    have h1 : p ≠ (0, 0) := fun e => by rw [e] at h0; exact absurd h0 (by decide)
    have h2 : p ≠ (0, 1) := fun e => by rw [e] at h0; exact absurd h0 (by decide)
    simp [h1, h2]
  | false => simp
theorem spot_is (n : St) : spotR (rowsL l) n = (getS l n).getD sp0 := by
  unfold spotR
  rw [find_is h]
  cases hg : getS l n with
  | none => rfl
  | some s => rw [if_pos Option.isSome_some, row_is h hg]; rfl
theorem bel_is (p : St) : belR (rowsL l) p = belowL l p := by
  unfold belR belowL rowsL
  rw [List.filter_map, List.map_map]
  have : (Prod.fst ∘ fun n => (n, (getS l n).getD sp0)) = id := rfl
  rw [this, List.map_id]
  rfl
theorem up_is : ∀ (f : Nat) (n : St) (r : List St), PathN l n r → r.length + 1 ≤ f → upR (rowsL l) f n = r
  | 0, n, r, _, hf => by omega
  | f + 1, n, r, hp, hf => by
    unfold upR
    rw [find_is h]
    have h2 := hp.look
    cases hg : getS l n with
    | none => rw [hg] at h2; cases h2; rfl
    | some s =>
      rw [hg] at h2
      obtain ⟨r', rfl, hr⟩ := h2
      rw [if_pos Option.isSome_some, row_is h hg, up_is f s.1 r' hr (by simp only [List.length_cons] at hf; omega)]
theorem upto_is (n : St) : upR (rowsL l) ((rowsL l).length + 1) n = pathOf l n := by
  have hp := h.path n
  exact up_is h _ n _ hp (by rw [rows_len]; have := hp.len; omega)
theorem within_is (p n : St) : withinR (rowsL l) p n = withinB l p n (pathOf l n) := by
  unfold withinR withinB
  rw [find_is h, upto_is h, Bool.or_comm]
theorem addE_is (n : St) (s : Spot) : addER (rowsL l) n s = addE l n s := by
  unfold addER addE
  rw [find_is h, has_is h, rows_len]
theorem moveE_is (n : St) (s : Spot) : moveER (rowsL l) n s = moveE l n s := by
  unfold moveER moveE
  rw [find_is h, has_is h, within_is h]
theorem dropE_is (n : St) : dropER (rowsL l) n = dropE l n := by
  unfold dropER dropE
  rw [find_is h, bel_is h]
theorem moveW_is (n : St) (s : Spot) : moveWR (rowsL l) n s = moveW l n s := by
  unfold moveWR moveW
  rw [moveE_is h]
  split
  · rename_i h0
    obtain ⟨_, _, h3, _⟩ := moveE_0 h0
    cases hg : getS l n with
    | none => rw [hg] at h3; cases h3
    | some w => rw [row_is h hg]; rfl
  · rfl
theorem dropW_is (n : St) : dropWR (rowsL l) n = dropW l n := by
  unfold dropWR dropW
  rw [dropE_is h]
  split
  · rename_i h0
    obtain ⟨h3, _⟩ := dropE_0 h0
    cases hg : getS l n with
    | none => rw [hg] at h3; cases h3
    | some w => rw [row_is h hg]; rfl
  · rfl
theorem addL_is (n : St) (s : Spot) : addLR (rowsL l) n s = rowsL (addT l n s) := by
  have hI := h.add n s
  unfold addLR addT at *
  rw [addE_is h]
  split
  · rename_i h0
    rw [if_pos h0] at hI
    obtain ⟨_, _, hg, _⟩ := addE_0 h0
    obtain ⟨h1, h2, _, h4⟩ := find_spec n (rows_sorted h.nd)
    have hne := h4 (by rw [find_is h, hg]; rfl)
    have hs := rows_sorted h.nd
    refine rows_ext ?_ (rows_sorted hI.nd) fun x => ?_
    · unfold SR
      rw [List.pairwise_append, List.pairwise_cons]
      refine ⟨hs.sublist (List.take_sublist _ _), ⟨fun x hx => lt_total (h2 x hx) (hne x (List.mem_of_mem_drop hx)), hs.sublist (List.drop_sublist _ _)⟩, fun x hx y hy => ?_⟩
      rcases List.mem_cons.mp hy with rfl | hy
      · exact h1 x hx
      · exact lt_trans (h1 x hx) (lt_total (h2 y hy) (hne y (List.mem_of_mem_drop hy)))
    · have hx : x ∈ (rowsL l).take (findL (rowsL l) n).1 ++ (n, s) :: (rowsL l).drop (findL (rowsL l) n).1 ↔ x = (n, s) ∨ x ∈ rowsL l := by
        conv => rhs; rw [← List.take_append_drop (findL (rowsL l) n).1 (rowsL l)]
        simp only [List.mem_append, List.mem_cons]
        constructor
        · rintro (h | h | h)
          · exact .inr (.inl h)
          · exact .inl h
          · exact .inr (.inr h)
        · rintro (h | h | h)
          · exact .inr (.inl h)
          · exact .inl h
          · exact .inr (.inr h)
      rw [hx, mem_rows, mem_rows, get_put]
      constructor
      · rintro (rfl | hx)
        · rw [if_pos rfl]
        · rw [if_neg (fun e => by rw [e, hg] at hx; cases hx)]; exact hx
      · intro hx
        by_cases e : x.1 = n
        · rw [if_pos e] at hx
          exact .inl (Prod.ext e (Option.some.inj hx).symm)
        · rw [if_neg e] at hx; exact .inr hx
  · rfl
theorem moveL_is (n : St) (s : Spot) : moveLR (rowsL l) n s = rowsL (moveT l n s) := by
  unfold moveLR moveT
  rw [moveE_is h]
  split
  · rename_i h0
    obtain ⟨_, _, h3, _⟩ := moveE_0 h0
    cases hg : getS l n with
    | none => rw [hg] at h3; cases h3
    | some w =>
      obtain ⟨h5, h6⟩ := find_at h hg
      have hk : keysS (putS l n s) = keysS l := by rw [keys_put, if_pos (get_mem.mp (by rw [hg]; rfl))]
      have hnn : nodesL (putS l n s) = nodesL l := by unfold nodesL; rw [hk]
      have hnd : (nodesL l).Nodup := (isort_perm ltSt (keysS l)).nodup_iff.mpr h.nd
      rw [show ((rowsL l).getD (findL (rowsL l) n).1 ((0, 0), sp0)).1 = n by simp [List.getD_eq_getElem?_getD, List.getElem?_eq_getElem h5, h6]]
      have hlen := rows_len l
      have hi : (nodesL l)[(findL (rowsL l) n).1]'(by rw [nodes_len, ← hlen]; exact h5) = n := by
        have := congrArg Prod.fst h6
        simpa [rowsL] using this
      apply List.ext_getElem
      · rw [List.length_set, rowsL, rowsL, List.length_map, List.length_map, hnn]
      · intro j hj1 hj2
        rw [List.getElem_set]
        rw [List.length_set] at hj1
        have hjn : j < (nodesL l).length := by rw [nodes_len, ← hlen]; exact hj1
        have e2 : (rowsL (putS l n s))[j] = ((nodesL l)[j], (getS (putS l n s) (nodesL l)[j]).getD sp0) := by simp only [rowsL, List.getElem_map, hnn]
        have e1 : (rowsL l)[j] = ((nodesL l)[j], (getS l (nodesL l)[j]).getD sp0) := by simp [rowsL]
        rw [e2, get_put]
        by_cases e : (findL (rowsL l) n).1 = j
        · subst e
          rw [if_pos rfl, hi, if_pos rfl]; rfl
        · rw [if_neg e, e1, if_neg]
          intro e3
          exact e ((List.getElem_inj hnd).mp (hi.trans e3.symm))
  · rfl
theorem dropL_is (n : St) : dropLR (rowsL l) n = rowsL (dropT l n) := by
  have hI := h.drop n
  unfold dropLR dropT at *
  rw [dropE_is h]
  split
  · rename_i h0
    rw [if_pos h0] at hI
    obtain ⟨h3, _⟩ := dropE_0 h0
    cases hg : getS l n with
    | none => rw [hg] at h3; cases h3
    | some w =>
      obtain ⟨h5, h6⟩ := find_at h hg
      have hs := rows_sorted h.nd
      refine rows_ext (hs.sublist (List.eraseIdx_sublist _ _)) (rows_sorted hI.nd) fun x => ?_
      rw [List.mem_eraseIdx_iff_getElem, mem_rows, get_del _ _ _ h.nd]
      constructor
      · rintro ⟨j, hj, hne, rfl⟩
        have hm := mem_rows.mp (List.getElem_mem hj)
        rw [if_neg]
        · exact hm
        · intro e
          unfold SR at hs
          rw [List.pairwise_iff_getElem] at hs
          rcases Nat.lt_trichotomy j (findL (rowsL l) n).1 with h1 | h1 | h1
          · have := hs j _ hj h5 h1
            rw [e, h6, lt_irrefl] at this; cases this
          · exact hne h1
          · have := hs _ j h5 hj h1
            rw [e, h6, lt_irrefl] at this; cases this
      · intro hx
        split at hx
        · cases hx
        · rename_i hne
          obtain ⟨j, hj, e⟩ := List.getElem_of_mem (mem_rows.mpr hx)
          exact ⟨j, hj, fun e2 => hne (by rw [← e]; subst e2; rw [h6]), e⟩
  · rfl
end
theorem same_is {l l' : Tr} (h : Inv l) (h' : Inv l') : eqB l l' = decide (rowsL l = rowsL l') := by
  rw [Bool.eq_iff_iff, decide_eq_true_eq]
  unfold eqB
  rw [Bool.and_eq_true, decide_eq_true_eq, List.all_eq_true]
  constructor
  · rintro ⟨h1, h2⟩
    have hk : ∀ x ∈ keysS l, x ∈ keysS l' := fun x hx => by
      have := of_decide_eq_true (h2 x hx)
      exact get_mem.mp (by rw [this]; exact get_mem.mpr hx)
    have hk' : ∀ x ∈ keysS l', x ∈ keysS l := fun x hx => by
      refine Classical.byContradiction fun hn => ?_
      have := nodup_len (l := x :: keysS l) (l' := keysS l') (List.nodup_cons.mpr ⟨hn, h.nd⟩) (fun y hy => by
        rcases List.mem_cons.mp hy with rfl | hy
        · exact hx
        · exact hk y hy)
      rw [List.length_cons, keys_len, keys_len] at this
      omega
    refine rows_ext (rows_sorted h.nd) (rows_sorted h'.nd) fun x => ?_
    rw [mem_rows, mem_rows]
    constructor
    · intro hx
      rw [of_decide_eq_true (h2 x.1 (get_mem.mp (by rw [hx]; rfl)))]; exact hx
    · intro hx
      rw [← of_decide_eq_true (h2 x.1 (hk' _ (get_mem.mp (by rw [hx]; rfl))))]; exact hx
  · intro e
    refine ⟨by rw [← rows_len l, ← rows_len l', e], fun x hx => decide_eq_true ?_⟩
    have hx := get_mem.mpr hx
    cases hg : getS l x with
    | none => rw [hg] at hx; cases hx
    | some s => exact mem_rows.mp (e ▸ mem_rows.mpr hg : (x, s) ∈ rowsL l')
end Go.Am.Tryd


/- Same: of two lists of stamps; of two of the reference's trees. -/
namespace Go.Am.Tryd
open Go Go.Am Go.Proofs Go.Sort Go.Shelf
set_option maxRecDepth 100000
set_option linter.unusedSimpArgs false
set_option linter.unusedVariables false

theorem row_same (x y : St × Spot) : vsame ⟨true, [.int .i64, .int .i64, .int .i64, .int .i64, .str]⟩ (.agg (rowC x)) (.agg (rowC y)) = some (decide (x = y)) := by
  obtain ⟨⟨a, b⟩, ⟨c, d⟩, e⟩ := x
  obtain ⟨⟨a', b'⟩, ⟨c', d'⟩, e'⟩ := y
  have : vsame ⟨true, [.int .i64, .int .i64, .int .i64, .int .i64, .str]⟩ (.agg [.int .i64 a, .int .i64 b, .int .i64 c, .int .i64 d, .str e]) (.agg [.int .i64 a', .int .i64 b', .int .i64 c', .int .i64 d', .str e']) = some (decide (a = a' ∧ b = b' ∧ c = c' ∧ d = d' ∧ e = e')) := by
    simp only [vsame, Sh.ok, fitAll, SK.fits, ikEq_self, cond_true, V.beq, V.beqs, intEq_dec, strEq_prop]
    by_cases h : a = a' <;> by_cases h2 : b = b' <;> by_cases h3 : c = c' <;> by_cases h4 : d = d' <;> by_cases h5 : e = e' <;> simp [h, h2, h3, h4, h5]
  show vsame _ (.agg [.int .i64 a, .int .i64 b, .int .i64 c, .int .i64 d, .str e]) (.agg [.int .i64 a', .int .i64 b', .int .i64 c', .int .i64 d', .str e']) = _
  rw [this]
  simp [Prod.ext_iff, and_assoc]

theorem take_eq {α : Type} [DecidableEq α] {xs ys : List α} {i : Nat} (h1 : i < xs.length) (h2 : i < ys.length) (ht : xs.take i = ys.take i) (he : xs[i] = ys[i]) : xs.take (i + 1) = ys.take (i + 1) := by
  rw [List.take_add_one, List.take_add_one, List.getElem?_eq_getElem h1, List.getElem?_eq_getElem h2, ht, he]

theorem lSame_loop (s u : V) (xs ys : List St) (hxy : xs.length = ys.length) (hl : xs.length < 2 ^ 62) (M : Mem) (hs : SlR elSt M s xs) (hu : SlR elSt M u ys) {Q : AExit → Fr → Mem → Prop}
    (hE : ∀ fr, xs = ys → Q (.exit 0) fr M) (hR : ∀ fr, xs ≠ ys → fr.rd 4 = .bool false → Q .ret fr M) :
    ∀ (f i : Nat) (fr : Fr), i + f = xs.length → xs.take i = ys.take i → fr.rd 0 = s → fr.rd 1 = u → fr.rd 5 = .int .i64 (i : Int) → WC D2 26 (.loop A_law05_Same_8) fr M Q := by
  intro f
  induction f with
  | zero =>
    intro i fr hi ht h0 h1 h5
    refine WC.loop (W_of ?_)
    unfold A_law05_Same_8
    obtain ⟨a, cap, rfl, _⟩ := hs
    have : ¬ (i : Int) < xs.length := by omega
    simp -dsimp only [↓w_seq, ↓w_ops, ↓w_skip, ↓w_ret, ↓w_exit, ↓w_scope, ↓w_block, ↓w_cond, cond_true', cond_false', ↓t_nil, ↓t_plain, ↓t_guard, ↓t_gagain, ↓t_again, t_val, t_call, g_true, g_false, ga_true, ga_false, a_val, a_call, ↓n_normal, ↓n_ret, ↓n_exit, ↓b_normal, ↓b_ret, ↓b_exit, ↓e_normal, ↓e_ret, e_some, go_sem, ↓reduceIte, Nat.reduceEqDiff, Nat.reduceLT, Nat.reduceSub, A_law05_Same_4, h0, h5, this, decide_false]
    have : i = xs.length := by omega
    subst this
    rw [List.take_length, hxy, List.take_length] at ht
    exact hE _ ht
  | succ f ih =>
    intro i fr hi ht h0 h1 h5
    refine WC.loop (W_of ?_)
    unfold A_law05_Same_8
    have hil : i < xs.length := by omega
    have hil2 : i < ys.length := by omega
    obtain ⟨b, o, cs, ro, cap, rfl, hM, hr⟩ := st_at hs hil
    obtain ⟨b', o', cs', ro', cap', rfl, hM', hr'⟩ := st_at hu hil2
    have e1 : (i : Int) < xs.length := by omega
    have e2 : i + 1 ≤ xs.length := by omega
    have e3 : i + 1 ≤ ys.length := by omega
    have h5' : (i : Int) + 1 = ((i + 1 : Nat) : Int) := by omega
    by_cases he : xs[i] = ys[i]
    · simp -dsimp only [↓w_seq, ↓w_ops, ↓w_skip, ↓w_ret, ↓w_exit, ↓w_scope, ↓w_block, ↓w_cond, cond_true', cond_false', ↓t_nil, ↓t_plain, ↓t_guard, ↓t_gagain, ↓t_again, t_val, t_call, g_true, g_false, ga_true, ga_false, a_val, a_call, ↓n_normal, ↓n_ret, ↓n_exit, ↓b_normal, ↓b_ret, ↓b_exit, ↓e_normal, ↓e_ret, e_some, go_sem, ↓reduceIte, Nat.reduceEqDiff, Nat.reduceLT, Nat.reduceSub, A_law05_Same_4, A_law05_Same_5, A_law05_Same_7, h0, h1, h5, e1, e2, e3, decide_true, vload, vptr, Mem.read, hM, hM', hr, hr', st_same, he, Bool.not_true, h5', IntWalk.i64_in ((i + 1 : Nat) : Int) (by omega)]
      refine ih (i + 1) _ (by omega) (take_eq hil hil2 ht he) ?_ ?_ ?_
      all_goals simp only [go_sem, ↓reduceIte, Nat.reduceEqDiff, Nat.reduceLT, Nat.reduceSub, h0, h1]
    · simp -dsimp only [↓w_seq, ↓w_ops, ↓w_skip, ↓w_ret, ↓w_exit, ↓w_scope, ↓w_block, ↓w_cond, cond_true', cond_false', ↓t_nil, ↓t_plain, ↓t_guard, ↓t_gagain, ↓t_again, t_val, t_call, g_true, g_false, ga_true, ga_false, a_val, a_call, ↓n_normal, ↓n_ret, ↓n_exit, ↓b_normal, ↓b_ret, ↓b_exit, ↓e_normal, ↓e_ret, e_some, go_sem, ↓reduceIte, Nat.reduceEqDiff, Nat.reduceLT, Nat.reduceSub, A_law05_Same_4, A_law05_Same_5, A_law05_Same_6, h0, h1, h5, e1, e2, e3, decide_true, vload, vptr, Mem.read, hM, hM', hr, hr', st_same, he, decide_false, Bool.not_false]
      exact hR _ (fun e => he (by subst e; rfl)) (by simp only [go_sem, ↓reduceIte, Nat.reduceEqDiff, Nat.reduceLT, Nat.reduceSub])
theorem lSame_runs (s u : V) (xs ys : List St) (hl : xs.length < 2 ^ 62) (M : Mem) (hs : SlR elSt M s xs) (hu : SlR elSt M u ys) : Runs D2 F_law05_Same [s, u] M fun v M' => v = .bool (decide (xs = ys)) ∧ M' = M := by
  refine R_opq fun R hR => ?_
  refine Runs.walk (F := A_law05_Same) rfl (by rfl) (by rfl) ?_
  unfold A_law05_Same
  obtain ⟨a, cap, e1, _⟩ := id hs
  obtain ⟨a', cap', e1', _⟩ := id hu
  by_cases hxy : xs.length = ys.length
  · have hi : (xs.length : Int) = (ys.length : Int) := by omega
    simp -dsimp only [↓w_seq, ↓w_ops, ↓w_skip, ↓w_ret, ↓w_exit, ↓w_scope, ↓w_block, ↓w_cond, cond_true', cond_false', ↓t_nil, ↓t_plain, ↓t_guard, ↓t_gagain, ↓t_again, t_val, t_call, g_true, g_false, ga_true, ga_false, a_val, a_call, ↓n_normal, ↓n_ret, ↓n_exit, ↓b_normal, ↓b_ret, ↓b_exit, ↓e_normal, ↓e_ret, e_some, go_sem, ↓reduceIte, Nat.reduceEqDiff, Nat.reduceLT, Nat.reduceSub, A_law05_Same_0, A_law05_Same_1, A_law05_Same_3, e1, e1', hi, ne_eq, not_true_eq_false, decide_false]
    refine lSame_loop s u xs ys hxy hl M hs hu ?_ ?_ xs.length 0 _ (by omega) rfl ?_ ?_ ?_
    · intro fr e
      simp -dsimp only [↓w_seq, ↓w_ops, ↓w_skip, ↓w_ret, ↓w_exit, ↓w_scope, ↓w_block, ↓w_cond, cond_true', cond_false', ↓t_nil, ↓t_plain, ↓t_guard, ↓t_gagain, ↓t_again, t_val, t_call, g_true, g_false, ga_true, ga_false, a_val, a_call, ↓n_normal, ↓n_ret, ↓n_exit, ↓b_normal, ↓b_ret, ↓b_exit, ↓e_normal, ↓e_ret, e_some, go_sem, ↓reduceIte, Nat.reduceEqDiff, Nat.reduceLT, Nat.reduceSub, A_law05_Same_9]
      exact hR _ _ ⟨by rw [decide_eq_true e], rfl⟩
    · intro fr e h4
      simp -dsimp only [↓w_seq, ↓w_ops, ↓w_skip, ↓w_ret, ↓w_exit, ↓w_scope, ↓w_block, ↓w_cond, cond_true', cond_false', ↓t_nil, ↓t_plain, ↓t_guard, ↓t_gagain, ↓t_again, t_val, t_call, g_true, g_false, ga_true, ga_false, a_val, a_call, ↓n_normal, ↓n_ret, ↓n_exit, ↓b_normal, ↓b_ret, ↓b_exit, ↓e_normal, ↓e_ret, e_some, go_sem, ↓reduceIte, Nat.reduceEqDiff, Nat.reduceLT, Nat.reduceSub, h4]
      exact hR _ _ ⟨by rw [decide_eq_false e], rfl⟩
    all_goals simp only [go_sem, ↓reduceIte, Nat.reduceEqDiff, Nat.reduceLT, Nat.reduceSub, e1, e1', hxy]
    rfl
  · have hi : ¬ (xs.length : Int) = (ys.length : Int) := by omega
    simp -dsimp only [↓w_seq, ↓w_ops, ↓w_skip, ↓w_ret, ↓w_exit, ↓w_scope, ↓w_block, ↓w_cond, cond_true', cond_false', ↓t_nil, ↓t_plain, ↓t_guard, ↓t_gagain, ↓t_again, t_val, t_call, g_true, g_false, ga_true, ga_false, a_val, a_call, ↓n_normal, ↓n_ret, ↓n_exit, ↓b_normal, ↓b_ret, ↓b_exit, ↓e_normal, ↓e_ret, e_some, go_sem, ↓reduceIte, Nat.reduceEqDiff, Nat.reduceLT, Nat.reduceSub, A_law05_Same_0, A_law05_Same_1, A_law05_Same_2, e1, e1', hi, ne_eq, not_false_eq_true, decide_true]
    exact hR _ _ ⟨by rw [decide_eq_false fun e => hxy (by rw [e])], rfl⟩

theorem rSame_loop (rc qc : Nat) (s u : V) (L K : Tr) (hxy : L.length = K.length) (M : Mem) (h : RefIn M rc s L) (k : RefIn M qc u K) {Q : AExit → Fr → Mem → Prop}
    (hE : ∀ fr, L = K → Q (.exit 0) fr M) (hR : ∀ fr, L ≠ K → fr.rd 4 = .bool false → Q .ret fr M) :
    ∀ (f i : Nat) (fr : Fr), i + f = L.length → L.take i = K.take i → fr.rd 0 = .ptr (some (rc, 0)) → fr.rd 1 = .ptr (some (qc, 0)) → fr.rd 5 = .int .i64 (i : Int) → WC D2 41 (.loop A_ref10_Same_8) fr M Q := by
  have hln := h.ln
  intro f
  induction f with
  | zero =>
    intro i fr hi ht h0 h1 h5
    refine WC.loop (W_of ?_)
    unfold A_ref10_Same_8
    obtain ⟨a, cap, e, _⟩ := h.he.sl
    have hc := h.c
    rw [e] at hc
    have : ¬ (i : Int) < L.length := by omega
    simp -dsimp only [↓w_seq, ↓w_ops, ↓w_skip, ↓w_ret, ↓w_exit, ↓w_scope, ↓w_block, ↓w_cond, cond_true', cond_false', ↓t_nil, ↓t_plain, ↓t_guard, ↓t_gagain, ↓t_again, t_val, t_call, g_true, g_false, ga_true, ga_false, a_val, a_call, ↓n_normal, ↓n_ret, ↓n_exit, ↓b_normal, ↓b_ret, ↓b_exit, ↓e_normal, ↓e_ret, e_some, go_sem, ↓reduceIte, Nat.reduceEqDiff, Nat.reduceLT, Nat.reduceSub, A_ref10_Same_4, h0, h5, vload, vptr, Mem.read, hc, Nat.add_zero, List.getElem?_cons_zero, this, decide_false]
    have : i = L.length := by omega
    subst this
    rw [List.take_length, hxy, List.take_length] at ht
    exact hE _ ht
  | succ f ih =>
    intro i fr hi ht h0 h1 h5
    refine WC.loop (W_of ?_)
    unfold A_ref10_Same_8
    have hil : i < L.length := by omega
    have hil2 : i < K.length := by omega
    obtain ⟨b, o, cs, ro, cap, es, hM, hr, _⟩ := row_at h.he.sl hil
    obtain ⟨b', o', cs', ro', cap', eu, hM', hr', _⟩ := row_at k.he.sl hil2
    have hc := h.c
    rw [es] at hc
    have kc := k.c
    rw [eu] at kc
    have e1 : (i : Int) < L.length := by omega
    have e2 : i + 1 ≤ L.length := by omega
    have e3 : i + 1 ≤ K.length := by omega
    have h5' : (i : Int) + 1 = ((i + 1 : Nat) : Int) := by omega
    by_cases he : L[i] = K[i]
    · simp -dsimp only [↓w_seq, ↓w_ops, ↓w_skip, ↓w_ret, ↓w_exit, ↓w_scope, ↓w_block, ↓w_cond, cond_true', cond_false', ↓t_nil, ↓t_plain, ↓t_guard, ↓t_gagain, ↓t_again, t_val, t_call, g_true, g_false, ga_true, ga_false, a_val, a_call, ↓n_normal, ↓n_ret, ↓n_exit, ↓b_normal, ↓b_ret, ↓b_exit, ↓e_normal, ↓e_ret, e_some, go_sem, ↓reduceIte, Nat.reduceEqDiff, Nat.reduceLT, Nat.reduceSub, A_ref10_Same_4, A_ref10_Same_5, A_ref10_Same_7, h0, h1, h5, e1, e2, e3, decide_true, vload, vptr, Mem.read, hc, kc, hM, hM', hr, hr', row_same, he, Bool.not_true, Nat.add_zero, List.getElem?_cons_zero, h5', IntWalk.i64_in ((i + 1 : Nat) : Int) (by omega)]
      refine ih (i + 1) _ (by omega) (take_eq hil hil2 ht he) ?_ ?_ ?_
      all_goals simp only [go_sem, ↓reduceIte, Nat.reduceEqDiff, Nat.reduceLT, Nat.reduceSub, h0, h1]
    · simp -dsimp only [↓w_seq, ↓w_ops, ↓w_skip, ↓w_ret, ↓w_exit, ↓w_scope, ↓w_block, ↓w_cond, cond_true', cond_false', ↓t_nil, ↓t_plain, ↓t_guard, ↓t_gagain, ↓t_again, t_val, t_call, g_true, g_false, ga_true, ga_false, a_val, a_call, ↓n_normal, ↓n_ret, ↓n_exit, ↓b_normal, ↓b_ret, ↓b_exit, ↓e_normal, ↓e_ret, e_some, go_sem, ↓reduceIte, Nat.reduceEqDiff, Nat.reduceLT, Nat.reduceSub, A_ref10_Same_4, A_ref10_Same_5, A_ref10_Same_6, h0, h1, h5, e1, e2, e3, decide_true, vload, vptr, Mem.read, hc, kc, hM, hM', hr, hr', row_same, he, decide_false, Bool.not_false, Nat.add_zero, List.getElem?_cons_zero]
      exact hR _ (fun e => he (by subst e; rfl)) (by simp only [go_sem, ↓reduceIte, Nat.reduceEqDiff, Nat.reduceLT, Nat.reduceSub])
theorem rSame_runs (rc qc : Nat) (s u : V) (L K : Tr) (M : Mem) (h : RefIn M rc s L) (k : RefIn M qc u K) : Runs D2 F_ref10_Same [.ptr (some (rc, 0)), .ptr (some (qc, 0))] M fun v M' => v = .bool (decide (L = K)) ∧ M' = M := by
  refine R_opq fun R hR => ?_
  refine Runs.walk (F := A_ref10_Same) rfl (by rfl) (by rfl) ?_
  unfold A_ref10_Same
  obtain ⟨a, cap, e1, _⟩ := h.he.sl
  obtain ⟨a', cap', e1', _⟩ := k.he.sl
  have hc := h.c
  rw [e1] at hc
  have kc := k.c
  rw [e1'] at kc
  by_cases hxy : L.length = K.length
  · have hi : (L.length : Int) = (K.length : Int) := by omega
    simp -dsimp only [↓w_seq, ↓w_ops, ↓w_skip, ↓w_ret, ↓w_exit, ↓w_scope, ↓w_block, ↓w_cond, cond_true', cond_false', ↓t_nil, ↓t_plain, ↓t_guard, ↓t_gagain, ↓t_again, t_val, t_call, g_true, g_false, ga_true, ga_false, a_val, a_call, ↓n_normal, ↓n_ret, ↓n_exit, ↓b_normal, ↓b_ret, ↓b_exit, ↓e_normal, ↓e_ret, e_some, go_sem, ↓reduceIte, Nat.reduceEqDiff, Nat.reduceLT, Nat.reduceSub, A_ref10_Same_0, A_ref10_Same_1, A_ref10_Same_3, vload, vptr, Mem.read, hc, kc, Nat.add_zero, List.getElem?_cons_zero, hi, ne_eq, not_true_eq_false, decide_false]
    refine rSame_loop rc qc s u L K hxy M h k ?_ ?_ L.length 0 _ (by omega) rfl ?_ ?_ ?_
    · intro fr e
      simp -dsimp only [↓w_seq, ↓w_ops, ↓w_skip, ↓w_ret, ↓w_exit, ↓w_scope, ↓w_block, ↓w_cond, cond_true', cond_false', ↓t_nil, ↓t_plain, ↓t_guard, ↓t_gagain, ↓t_again, t_val, t_call, g_true, g_false, ga_true, ga_false, a_val, a_call, ↓n_normal, ↓n_ret, ↓n_exit, ↓b_normal, ↓b_ret, ↓b_exit, ↓e_normal, ↓e_ret, e_some, go_sem, ↓reduceIte, Nat.reduceEqDiff, Nat.reduceLT, Nat.reduceSub, A_ref10_Same_9]
      exact hR _ _ ⟨by rw [decide_eq_true e], rfl⟩
    · intro fr e h4
      simp -dsimp only [↓w_seq, ↓w_ops, ↓w_skip, ↓w_ret, ↓w_exit, ↓w_scope, ↓w_block, ↓w_cond, cond_true', cond_false', ↓t_nil, ↓t_plain, ↓t_guard, ↓t_gagain, ↓t_again, t_val, t_call, g_true, g_false, ga_true, ga_false, a_val, a_call, ↓n_normal, ↓n_ret, ↓n_exit, ↓b_normal, ↓b_ret, ↓b_exit, ↓e_normal, ↓e_ret, e_some, go_sem, ↓reduceIte, Nat.reduceEqDiff, Nat.reduceLT, Nat.reduceSub, h4]
      exact hR _ _ ⟨by rw [decide_eq_false e], rfl⟩
    all_goals simp only [go_sem, ↓reduceIte, Nat.reduceEqDiff, Nat.reduceLT, Nat.reduceSub]
    rfl
  · have hi : ¬ (L.length : Int) = (K.length : Int) := by omega
    simp -dsimp only [↓w_seq, ↓w_ops, ↓w_skip, ↓w_ret, ↓w_exit, ↓w_scope, ↓w_block, ↓w_cond, cond_true', cond_false', ↓t_nil, ↓t_plain, ↓t_guard, ↓t_gagain, ↓t_again, t_val, t_call, g_true, g_false, ga_true, ga_false, a_val, a_call, ↓n_normal, ↓n_ret, ↓n_exit, ↓b_normal, ↓b_ret, ↓b_exit, ↓e_normal, ↓e_ret, e_some, go_sem, ↓reduceIte, Nat.reduceEqDiff, Nat.reduceLT, Nat.reduceSub, A_ref10_Same_0, A_ref10_Same_1, A_ref10_Same_2, vload, vptr, Mem.read, hc, kc, Nat.add_zero, List.getElem?_cons_zero, hi, ne_eq, not_false_eq_true, decide_true]
    exact hR _ _ ⟨by rw [decide_eq_false fun e => hxy (by rw [e])], rfl⟩
end Go.Am.Tryd

