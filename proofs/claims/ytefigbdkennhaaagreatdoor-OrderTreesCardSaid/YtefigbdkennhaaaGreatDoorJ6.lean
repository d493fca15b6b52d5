/- The machine and what is proved of its runs, part 6: what each part says stands at its head. -/
import Derived.Test.YtefigbdkennhaaaGreatDoorJ5
import Derived.Lib.Bytealg
import Derived.Lib.Strings
import Derived.Lib.Slices
import Derived.Lib.Walk
set_option linter.unusedSimpArgs false
set_option linter.unusedVariables false
set_option linter.unusedSectionVars false
/- Add, Move, Drop. -/
namespace Go.Am.Tryz
open Go Go.Am Go.Proofs Go.Sort Go.Shelf
set_option maxRecDepth 100000
set_option linter.unusedSimpArgs false
set_option linter.unusedVariables false

/-- All but one block is as it was. -/
structure Chg (M : Mem) (b : Nat) (M' : Mem) : Prop where
  next : M.next ≤ M'.next
  old : ∀ c, c < M.next → c ≠ b → M'.get c = M.get c
theorem Chg.of {M M' : Mem} {b : Nat} (h : Grew M M') : Chg M b M' := ⟨h.next, fun c hc _ => h.old c hc⟩
theorem Chg.trans {M M' M'' : Mem} {b : Nat} (h : Chg M b M') (h' : Chg M' b M'') : Chg M b M'' := ⟨Nat.le_trans h.next h'.next, fun c hc hb => (h'.old c (Nat.lt_of_lt_of_le hc h.next) hb).trans (h.old c hc hb)⟩
theorem Chg.set {M M' : Mem} {b : Nat} {o : O} (h : Grew M M') : Chg M b (M'.set b o) := ⟨h.next, fun c hc hb => (Mem.get_set_ne _ _ hb).trans (h.old c hc)⟩
theorem TreeIn.ne {M : Mem} {tc bm : Nat} {l : Tr} (h : TreeIn M tc bm l) : tc ≠ bm := fun e => by have := h.c; rw [e, h.m] at this; cases this
theorem TreeIn.set {M M' : Mem} {tc bm : Nat} {l l' : Tr} (h : TreeIn M tc bm l) (hG : Grew M M') : TreeIn (M'.set bm (.map (encM l'))) tc bm l' :=
  ⟨by rw [Mem.get_set_ne _ _ h.ne]; exact (h.grew hG).c, Mem.get_set_same _ _ _, (h.grew hG).tl, (h.grew hG).bl⟩

theorem Chg.set_new {M M' : Mem} {b b' : Nat} {o : O} (h : Chg M b M') (hb : M.next ≤ b') : Chg M b (M'.set b' o) := ⟨h.next, fun c hc hne => (Mem.get_set_ne _ _ (by omega)).trans (h.old c hc hne)⟩
theorem TreeIn.set_new {M M' : Mem} {tc bm b' : Nat} {l l' : Tr} {o : O} (T : TreeIn M tc bm l) (h : TreeIn M' tc bm l') (hb : M.next ≤ b') : TreeIn (M'.set b' o) tc bm l' := by
  have h1 := T.tl
  have h2 := T.bl
  exact ⟨(Mem.get_set_ne _ _ (by omega)).trans h.c, (Mem.get_set_ne _ _ (by omega)).trans h.m, h.tl, h.bl⟩

def addE (l : Tr) (n : St) (s : Spot) : Nat := if (nodeSt n && rightSp s) = false then 1 else if (getS l n).isSome = true then 4 else if hasB l s.1 = false then 3 else if 65536 ≤ l.length then 7 else 0
def addT (l : Tr) (n : St) (s : Spot) : Tr := if addE l n s = 0 then putS l n s else l

theorem enc_lenI {M : Mem} {bm : Nat} {l : Tr} (h : mapAt M bm = some (encM l)) : vlenMap M (.map (some bm)) = some (.int .i64 (l.length : Int)) := by
  simp only [vlenMap, h, Option.map_some, enc_len]

theorem Add_runs (M : Mem) (tc bm : Nat) (l : Tr) (n : St) (s : Spot) (T : TreeIn M tc bm l) (hg : isG M = true) (hn : 2 ≤ M.next) :
    Runs D2 F_tree_Tree_Add [.ptr (some (tc, 0)), .agg (stC n), .agg (spC s)] M fun v M' => v = .int .i64 (addE l n s : Int) ∧ Chg M bm M' ∧ TreeIn M' tc bm (addT l n s) := by
  refine R_opq fun R hR => ?_
  refine Runs.walk (F := A_tree_Tree_Add) rfl (by rfl) (by rfl) ?_
  unfold A_tree_Tree_Add
  have hcn : V.cells (.agg (stC n)) = stC n := rfl
  have hcs : V.cells (.agg (spC s)) = spC s := rfl
  have hrn : rdCells (stC n) 0 2 = some (stC n) := rfl
  have hrs : rdCells (spC s) 0 3 = some (spC s) := rfl
  have hrp : rdCells (spC s) 0 2 = some (stC s.1) := rfl
  have hG := (Grew.push M (.cells (stC n) false)).trans (Grew.push _ (.cells (spC s) false))
  have g4 : ((M.push (.cells (stC n) false)).push (.cells (spC s) false)).get M.next = some (.cells (stC n) false) := by rw [Mem.get_push_ne _ _ (by simp), Mem.get_push_same]
  have g5 : ((M.push (.cells (stC n) false)).push (.cells (spC s) false)).get (M.next + 1) = some (.cells (spC s) false) := Mem.get_push_same (M.push _) _
  simp -dsimp only [↓w_seq, ↓w_ops, ↓w_skip, ↓w_ret, ↓w_exit, ↓w_scope, ↓w_block, ↓w_cond, cond_true', cond_false', ↓t_nil, ↓t_plain, ↓t_guard, ↓t_gagain, ↓t_again, t_val, t_call, g_true, g_false, ga_true, ga_false, a_val, a_call, ↓n_normal, ↓n_ret, ↓n_exit, ↓b_normal, ↓b_ret, ↓b_exit, ↓e_normal, ↓e_ret, e_some, go_sem, ↓reduceIte, Nat.reduceEqDiff, Nat.reduceLT, Nat.reduceSub, A_tree_Tree_Add_0, A_tree_Tree_Add_1, hcn, hcs, Mem.next_push]
  have T1 := T.grew hG
  have hg1 := isG_keep hg hn hG.old
  generalize (M.push (.cells (stC n) false)).push (.cells (spC s) false) = M1 at *
  have bad : ∀ e : Nat, addE l n s = e → e ≠ 0 → R (.int .i64 (e : Int)) M1 := fun e h1 h2 => hR _ _ ⟨by rw [h1], Chg.of hG, by rw [addT, if_neg (by omega)]; exact T1⟩
  refine call_eq (none_p rfl T1.of) ?_
  simp -dsimp only [↓w_seq, ↓w_ops, ↓w_skip, ↓w_ret, ↓w_exit, ↓w_scope, ↓w_block, ↓w_cond, cond_true', cond_false', ↓t_nil, ↓t_plain, ↓t_guard, ↓t_gagain, ↓t_again, t_val, t_call, g_true, g_false, ga_true, ga_false, a_val, a_call, ↓n_normal, ↓n_ret, ↓n_exit, ↓b_normal, ↓b_ret, ↓b_exit, ↓e_normal, ↓e_ret, e_some, go_sem, ↓reduceIte, Nat.reduceEqDiff, Nat.reduceLT, Nat.reduceSub, vload, vptr, Mem.read, g4, hrn]
  refine call_eq (opnode_p rfl n) ?_
  cases h1 : nodeSt n with
  | false =>
    simp -dsimp only [↓w_seq, ↓w_ops, ↓w_skip, ↓w_ret, ↓w_exit, ↓w_scope, ↓w_block, ↓w_cond, cond_true', cond_false', ↓t_nil, ↓t_plain, ↓t_guard, ↓t_gagain, ↓t_again, t_val, t_call, g_true, g_false, ga_true, ga_false, a_val, a_call, ↓n_normal, ↓n_ret, ↓n_exit, ↓b_normal, ↓b_ret, ↓b_exit, ↓e_normal, ↓e_ret, e_some, go_sem, ↓reduceIte, Nat.reduceEqDiff, Nat.reduceLT, Nat.reduceSub, A_tree_Tree_Add_2, Bool.not_false]
    exact bad 1 (by rw [addE, h1]; rfl) (by decide)
  | true =>
    simp -dsimp only [↓w_seq, ↓w_ops, ↓w_skip, ↓w_ret, ↓w_exit, ↓w_scope, ↓w_block, ↓w_cond, cond_true', cond_false', ↓t_nil, ↓t_plain, ↓t_guard, ↓t_gagain, ↓t_again, t_val, t_call, g_true, g_false, ga_true, ga_false, a_val, a_call, ↓n_normal, ↓n_ret, ↓n_exit, ↓b_normal, ↓b_ret, ↓b_exit, ↓e_normal, ↓e_ret, e_some, go_sem, ↓reduceIte, Nat.reduceEqDiff, Nat.reduceLT, Nat.reduceSub, Bool.not_true, vload, vptr, Mem.read, g5, hrs]
    refine call_eq (spright_p rfl s hg1) ?_
    cases h2 : rightSp s with
    | false =>
      simp -dsimp only [↓w_seq, ↓w_ops, ↓w_skip, ↓w_ret, ↓w_exit, ↓w_scope, ↓w_block, ↓w_cond, cond_true', cond_false', ↓t_nil, ↓t_plain, ↓t_guard, ↓t_gagain, ↓t_again, t_val, t_call, g_true, g_false, ga_true, ga_false, a_val, a_call, ↓n_normal, ↓n_ret, ↓n_exit, ↓b_normal, ↓b_ret, ↓b_exit, ↓e_normal, ↓e_ret, e_some, go_sem, ↓reduceIte, Nat.reduceEqDiff, Nat.reduceLT, Nat.reduceSub, A_tree_Tree_Add_2, Bool.not_false]
      exact bad 1 (by rw [addE, h1, h2]; rfl) (by decide)
    | true =>
      have hb : (nodeSt n && rightSp s) = true := by rw [h1, h2]; rfl
      simp -dsimp only [↓w_seq, ↓w_ops, ↓w_skip, ↓w_ret, ↓w_exit, ↓w_scope, ↓w_block, ↓w_cond, cond_true', cond_false', ↓t_nil, ↓t_plain, ↓t_guard, ↓t_gagain, ↓t_again, t_val, t_call, g_true, g_false, ga_true, ga_false, a_val, a_call, ↓n_normal, ↓n_ret, ↓n_exit, ↓b_normal, ↓b_ret, ↓b_exit, ↓e_normal, ↓e_ret, e_some, go_sem, ↓reduceIte, Nat.reduceEqDiff, Nat.reduceLT, Nat.reduceSub, Bool.not_true, A_tree_Tree_Add_3, vload, vptr, Mem.read, g4, hrn]
      refine call_eq (node_p rfl T1.of n) ?_
      cases h3 : (getS l n).isSome with
      | true =>
        simp -dsimp only [↓w_seq, ↓w_ops, ↓w_skip, ↓w_ret, ↓w_exit, ↓w_scope, ↓w_block, ↓w_cond, cond_true', cond_false', ↓t_nil, ↓t_plain, ↓t_guard, ↓t_gagain, ↓t_again, t_val, t_call, g_true, g_false, ga_true, ga_false, a_val, a_call, ↓n_normal, ↓n_ret, ↓n_exit, ↓b_normal, ↓b_ret, ↓b_exit, ↓e_normal, ↓e_ret, e_some, go_sem, ↓reduceIte, Nat.reduceEqDiff, Nat.reduceLT, Nat.reduceSub, A_tree_Tree_Add_4]
        exact bad 4 (by rw [addE, hb, h3]; rfl) (by decide)
      | false =>
        simp -dsimp only [↓w_seq, ↓w_ops, ↓w_skip, ↓w_ret, ↓w_exit, ↓w_scope, ↓w_block, ↓w_cond, cond_true', cond_false', ↓t_nil, ↓t_plain, ↓t_guard, ↓t_gagain, ↓t_again, t_val, t_call, g_true, g_false, ga_true, ga_false, a_val, a_call, ↓n_normal, ↓n_ret, ↓n_exit, ↓b_normal, ↓b_ret, ↓b_exit, ↓e_normal, ↓e_ret, e_some, go_sem, ↓reduceIte, Nat.reduceEqDiff, Nat.reduceLT, Nat.reduceSub, A_tree_Tree_Add_5, vload, vptr, Mem.read, g5, hrp, Nat.add_zero]
        refine call_eq (has_p rfl T1.of hg1 s.1) ?_
        cases h4 : hasB l s.1 with
        | false =>
          simp -dsimp only [↓w_seq, ↓w_ops, ↓w_skip, ↓w_ret, ↓w_exit, ↓w_scope, ↓w_block, ↓w_cond, cond_true', cond_false', ↓t_nil, ↓t_plain, ↓t_guard, ↓t_gagain, ↓t_again, t_val, t_call, g_true, g_false, ga_true, ga_false, a_val, a_call, ↓n_normal, ↓n_ret, ↓n_exit, ↓b_normal, ↓b_ret, ↓b_exit, ↓e_normal, ↓e_ret, e_some, go_sem, ↓reduceIte, Nat.reduceEqDiff, Nat.reduceLT, Nat.reduceSub, A_tree_Tree_Add_6, Bool.not_false]
          exact bad 3 (by rw [addE, hb, h3, h4]; rfl) (by decide)
        | true =>
          simp -dsimp only [↓w_seq, ↓w_ops, ↓w_skip, ↓w_ret, ↓w_exit, ↓w_scope, ↓w_block, ↓w_cond, cond_true', cond_false', ↓t_nil, ↓t_plain, ↓t_guard, ↓t_gagain, ↓t_again, t_val, t_call, g_true, g_false, ga_true, ga_false, a_val, a_call, ↓n_normal, ↓n_ret, ↓n_exit, ↓b_normal, ↓b_ret, ↓b_exit, ↓e_normal, ↓e_ret, e_some, go_sem, ↓reduceIte, Nat.reduceEqDiff, Nat.reduceLT, Nat.reduceSub, A_tree_Tree_Add_7, Bool.not_true, vload, vptr, Mem.read, T1.c, Nat.add_zero, List.getElem?_cons_zero, enc_lenI T1.at_]
          by_cases h5 : 65536 ≤ l.length
          · have h5' : (65536 : Int) ≤ (l.length : Int) := by omega
            simp -dsimp only [↓w_seq, ↓w_ops, ↓w_skip, ↓w_ret, ↓w_exit, ↓w_scope, ↓w_block, ↓w_cond, cond_true', cond_false', ↓t_nil, ↓t_plain, ↓t_guard, ↓t_gagain, ↓t_again, t_val, t_call, g_true, g_false, ga_true, ga_false, a_val, a_call, ↓n_normal, ↓n_ret, ↓n_exit, ↓b_normal, ↓b_ret, ↓b_exit, ↓e_normal, ↓e_ret, e_some, go_sem, ↓reduceIte, Nat.reduceEqDiff, Nat.reduceLT, Nat.reduceSub, h5', decide_true, A_tree_Tree_Add_8]
            exact bad 7 (by rw [addE, hb, h3, h4, if_pos h5]; rfl) (by decide)
          · have h5' : ¬ (65536 : Int) ≤ (l.length : Int) := by omega
            simp -dsimp only [↓w_seq, ↓w_ops, ↓w_skip, ↓w_ret, ↓w_exit, ↓w_scope, ↓w_block, ↓w_cond, cond_true', cond_false', ↓t_nil, ↓t_plain, ↓t_guard, ↓t_gagain, ↓t_again, t_val, t_call, g_true, g_false, ga_true, ga_false, a_val, a_call, ↓n_normal, ↓n_ret, ↓n_exit, ↓b_normal, ↓b_ret, ↓b_exit, ↓e_normal, ↓e_ret, e_some, go_sem, ↓reduceIte, Nat.reduceEqDiff, Nat.reduceLT, Nat.reduceSub, h5', decide_false, A_tree_Tree_Add_9, A_tree_Tree_Add_10, vload, vptr, Mem.read, T1.c, g4, g5, hrn, hrs, Nat.add_zero, List.getElem?_cons_zero, put_is T1.m n s, Option.map_some]
            have h0 : addE l n s = 0 := by rw [addE, hb, h3, h4, if_neg h5]; rfl
            refine hR _ _ ⟨by rw [h0]; rfl, Chg.set hG, ?_⟩
            rw [addT, if_pos h0]
            exact T.set hG

def moveE (l : Tr) (n : St) (s : Spot) : Nat := if (nodeSt n && rightSp s) = false then 1 else if ((getS l n).isSome && hasB l s.1) = false then 3 else if withinB l n s.1 (pathOf l s.1) = true then 41 else 0
def moveT (l : Tr) (n : St) (s : Spot) : Tr := if moveE l n s = 0 then putS l n s else l
def moveW (l : Tr) (n : St) (s : Spot) : Spot := if moveE l n s = 0 then (getS l n).getD sp0 else sp0

theorem Move_runs (M : Mem) (tc bm : Nat) (l : Tr) (n : St) (s : Spot) (T : TreeIn M tc bm l) (hg : isG M = true) (hn : 2 ≤ M.next) (hI : Inv l) :
    Runs D2 F_tree_Tree_Move [.ptr (some (tc, 0)), .agg (stC n), .agg (spC s)] M fun v M' => v = .tup [.agg (spC (moveW l n s)), .int .i64 (moveE l n s : Int)] ∧ Chg M bm M' ∧ TreeIn M' tc bm (moveT l n s) := by
  refine R_opq fun R hR => ?_
  refine Runs.walk (F := A_tree_Tree_Move) rfl (by rfl) (by rfl) ?_
  unfold A_tree_Tree_Move
  have hcn : V.cells (.agg (stC n)) = stC n := rfl
  have hcs : ∀ s, V.cells (.agg (spC s)) = spC s := fun _ => rfl
  have hrn : rdCells (stC n) 0 2 = some (stC n) := rfl
  have hrs : ∀ s, rdCells (spC s) 0 3 = some (spC s) := fun _ => rfl
  have hrp : rdCells (spC s) 0 2 = some (stC s.1) := rfl
  have hG := ((Grew.push M (.cells (stC n) false)).trans (Grew.push _ (.cells (spC s) false))).trans (Grew.push _ (.cells [.int .i64 0, .int .i64 0, .str []] false))
  have g4 : (((M.push (.cells (stC n) false)).push (.cells (spC s) false)).push (.cells [.int .i64 0, .int .i64 0, .str []] false)).get M.next = some (.cells (stC n) false) := by rw [Mem.get_push_ne _ _ (by simp; omega), Mem.get_push_ne _ _ (by simp), Mem.get_push_same]
  have g5 : (((M.push (.cells (stC n) false)).push (.cells (spC s) false)).push (.cells [.int .i64 0, .int .i64 0, .str []] false)).get (M.next + 1) = some (.cells (spC s) false) := by rw [Mem.get_push_ne _ _ (by simp)]; exact Mem.get_push_same (M.push _) _
  have g6 : (((M.push (.cells (stC n) false)).push (.cells (spC s) false)).push (.cells [.int .i64 0, .int .i64 0, .str []] false)).get (M.next + 1 + 1) = some (.cells (spC sp0) false) := Mem.get_push_same ((M.push _).push _) _
  simp -dsimp only [↓w_seq, ↓w_ops, ↓w_skip, ↓w_ret, ↓w_exit, ↓w_scope, ↓w_block, ↓w_cond, cond_true', cond_false', ↓t_nil, ↓t_plain, ↓t_guard, ↓t_gagain, ↓t_again, t_val, t_call, g_true, g_false, ga_true, ga_false, a_val, a_call, ↓n_normal, ↓n_ret, ↓n_exit, ↓b_normal, ↓b_ret, ↓b_exit, ↓e_normal, ↓e_ret, e_some, go_sem, ↓reduceIte, Nat.reduceEqDiff, Nat.reduceLT, Nat.reduceSub, A_tree_Tree_Move_0, A_tree_Tree_Move_1, hcn, hcs, Mem.next_push]
  have T1 := T.grew hG
  have hg1 := isG_keep hg hn hG.old
  generalize ((M.push (.cells (stC n) false)).push (.cells (spC s) false)).push (.cells [.int .i64 0, .int .i64 0, .str []] false) = M1 at *
  have hw0 := write_full (vs := spC sp0) g6 rfl rfl
  have hs0 := Mem.get_set_same M1 (M.next + 1 + 1) (.cells (spC sp0) false)
  have hG0 := hG.upd (b := M.next + 1 + 1) (by omega) (Upd.set M1 (M.next + 1 + 1) (.cells (spC sp0) false))
  have bad : ∀ e : Nat, moveE l n s = e → e ≠ 0 → R (.tup [.agg (spC sp0), .int .i64 (e : Int)]) (M1.set (M.next + 1 + 1) (.cells (spC sp0) false)) := fun e h1 h2 => hR _ _ ⟨by rw [moveW, if_neg (by omega), h1], Chg.of hG0, by rw [moveT, if_neg (by omega)]; exact T.grew hG0⟩
  refine call_eq (none_p rfl T1.of) ?_
  simp -dsimp only [↓w_seq, ↓w_ops, ↓w_skip, ↓w_ret, ↓w_exit, ↓w_scope, ↓w_block, ↓w_cond, cond_true', cond_false', ↓t_nil, ↓t_plain, ↓t_guard, ↓t_gagain, ↓t_again, t_val, t_call, g_true, g_false, ga_true, ga_false, a_val, a_call, ↓n_normal, ↓n_ret, ↓n_exit, ↓b_normal, ↓b_ret, ↓b_exit, ↓e_normal, ↓e_ret, e_some, go_sem, ↓reduceIte, Nat.reduceEqDiff, Nat.reduceLT, Nat.reduceSub, vload, vptr, Mem.read, g4, hrn]
  refine call_eq (opnode_p rfl n) ?_
  cases h1 : nodeSt n with
  | false =>
    simp -dsimp only [↓w_seq, ↓w_ops, ↓w_skip, ↓w_ret, ↓w_exit, ↓w_scope, ↓w_block, ↓w_cond, cond_true', cond_false', ↓t_nil, ↓t_plain, ↓t_guard, ↓t_gagain, ↓t_again, t_val, t_call, g_true, g_false, ga_true, ga_false, a_val, a_call, ↓n_normal, ↓n_ret, ↓n_exit, ↓b_normal, ↓b_ret, ↓b_exit, ↓e_normal, ↓e_ret, e_some, go_sem, ↓reduceIte, Nat.reduceEqDiff, Nat.reduceLT, Nat.reduceSub, A_tree_Tree_Move_2, Bool.not_false, vload, vptr, Mem.read, g6, hrs, Nat.add_zero, vstore, hcs, spC_len, hw0, hs0, Option.bind_some, oneOf, Nat.reduceEqDiff]
    exact bad 1 (by rw [moveE, h1]; rfl) (by decide)
  | true =>
    simp -dsimp only [↓w_seq, ↓w_ops, ↓w_skip, ↓w_ret, ↓w_exit, ↓w_scope, ↓w_block, ↓w_cond, cond_true', cond_false', ↓t_nil, ↓t_plain, ↓t_guard, ↓t_gagain, ↓t_again, t_val, t_call, g_true, g_false, ga_true, ga_false, a_val, a_call, ↓n_normal, ↓n_ret, ↓n_exit, ↓b_normal, ↓b_ret, ↓b_exit, ↓e_normal, ↓e_ret, e_some, go_sem, ↓reduceIte, Nat.reduceEqDiff, Nat.reduceLT, Nat.reduceSub, Bool.not_true, vload, vptr, Mem.read, g5, hrs]
    refine call_eq (spright_p rfl s hg1) ?_
    cases h2 : rightSp s with
    | false =>
      simp -dsimp only [↓w_seq, ↓w_ops, ↓w_skip, ↓w_ret, ↓w_exit, ↓w_scope, ↓w_block, ↓w_cond, cond_true', cond_false', ↓t_nil, ↓t_plain, ↓t_guard, ↓t_gagain, ↓t_again, t_val, t_call, g_true, g_false, ga_true, ga_false, a_val, a_call, ↓n_normal, ↓n_ret, ↓n_exit, ↓b_normal, ↓b_ret, ↓b_exit, ↓e_normal, ↓e_ret, e_some, go_sem, ↓reduceIte, Nat.reduceEqDiff, Nat.reduceLT, Nat.reduceSub, A_tree_Tree_Move_2, Bool.not_false, vload, vptr, Mem.read, g6, hrs, Nat.add_zero, vstore, hcs, spC_len, hw0, hs0, Option.bind_some, oneOf, Nat.reduceEqDiff]
      exact bad 1 (by rw [moveE, h1, h2]; rfl) (by decide)
    | true =>
      have hb : (nodeSt n && rightSp s) = true := by rw [h1, h2]; rfl
      simp -dsimp only [↓w_seq, ↓w_ops, ↓w_skip, ↓w_ret, ↓w_exit, ↓w_scope, ↓w_block, ↓w_cond, cond_true', cond_false', ↓t_nil, ↓t_plain, ↓t_guard, ↓t_gagain, ↓t_again, t_val, t_call, g_true, g_false, ga_true, ga_false, a_val, a_call, ↓n_normal, ↓n_ret, ↓n_exit, ↓b_normal, ↓b_ret, ↓b_exit, ↓e_normal, ↓e_ret, e_some, go_sem, ↓reduceIte, Nat.reduceEqDiff, Nat.reduceLT, Nat.reduceSub, Bool.not_true, A_tree_Tree_Move_3, vload, vptr, Mem.read, g4, hrn]
      refine call_eq (node_p rfl T1.of n) ?_
      cases h3 : (getS l n).isSome with
      | false =>
        simp -dsimp only [↓w_seq, ↓w_ops, ↓w_skip, ↓w_ret, ↓w_exit, ↓w_scope, ↓w_block, ↓w_cond, cond_true', cond_false', ↓t_nil, ↓t_plain, ↓t_guard, ↓t_gagain, ↓t_again, t_val, t_call, g_true, g_false, ga_true, ga_false, a_val, a_call, ↓n_normal, ↓n_ret, ↓n_exit, ↓b_normal, ↓b_ret, ↓b_exit, ↓e_normal, ↓e_ret, e_some, go_sem, ↓reduceIte, Nat.reduceEqDiff, Nat.reduceLT, Nat.reduceSub, A_tree_Tree_Move_4, Bool.not_false, vload, vptr, Mem.read, g6, hrs, Nat.add_zero, vstore, hcs, spC_len, hw0, hs0, Option.bind_some, oneOf, Nat.reduceEqDiff]
        exact bad 3 (by rw [moveE, hb, h3]; rfl) (by decide)
      | true =>
        simp -dsimp only [↓w_seq, ↓w_ops, ↓w_skip, ↓w_ret, ↓w_exit, ↓w_scope, ↓w_block, ↓w_cond, cond_true', cond_false', ↓t_nil, ↓t_plain, ↓t_guard, ↓t_gagain, ↓t_again, t_val, t_call, g_true, g_false, ga_true, ga_false, a_val, a_call, ↓n_normal, ↓n_ret, ↓n_exit, ↓b_normal, ↓b_ret, ↓b_exit, ↓e_normal, ↓e_ret, e_some, go_sem, ↓reduceIte, Nat.reduceEqDiff, Nat.reduceLT, Nat.reduceSub, Bool.not_true, vload, vptr, Mem.read, g5, hrp, Nat.add_zero]
        refine call_eq (has_p rfl T1.of hg1 s.1) ?_
        cases h4 : hasB l s.1 with
        | false =>
          simp -dsimp only [↓w_seq, ↓w_ops, ↓w_skip, ↓w_ret, ↓w_exit, ↓w_scope, ↓w_block, ↓w_cond, cond_true', cond_false', ↓t_nil, ↓t_plain, ↓t_guard, ↓t_gagain, ↓t_again, t_val, t_call, g_true, g_false, ga_true, ga_false, a_val, a_call, ↓n_normal, ↓n_ret, ↓n_exit, ↓b_normal, ↓b_ret, ↓b_exit, ↓e_normal, ↓e_ret, e_some, go_sem, ↓reduceIte, Nat.reduceEqDiff, Nat.reduceLT, Nat.reduceSub, A_tree_Tree_Move_4, Bool.not_false, vload, vptr, Mem.read, g6, hrs, Nat.add_zero, vstore, hcs, spC_len, hw0, hs0, Option.bind_some, oneOf, Nat.reduceEqDiff]
          exact bad 3 (by rw [moveE, hb, h3, h4]; rfl) (by decide)
        | true =>
          simp -dsimp only [↓w_seq, ↓w_ops, ↓w_skip, ↓w_ret, ↓w_exit, ↓w_scope, ↓w_block, ↓w_cond, cond_true', cond_false', ↓t_nil, ↓t_plain, ↓t_guard, ↓t_gagain, ↓t_again, t_val, t_call, g_true, g_false, ga_true, ga_false, a_val, a_call, ↓n_normal, ↓n_ret, ↓n_exit, ↓b_normal, ↓b_ret, ↓b_exit, ↓e_normal, ↓e_ret, e_some, go_sem, ↓reduceIte, Nat.reduceEqDiff, Nat.reduceLT, Nat.reduceSub, A_tree_Tree_Move_5, Bool.not_true, vload, vptr, Mem.read, g4, g5, hrn, hrp, Nat.add_zero]
          refine call_eq (within_p rfl T1.of n s.1 (hI.path s.1)) ?_
          cases h5 : withinB l n s.1 (pathOf l s.1) with
          | true =>
            simp -dsimp only [↓w_seq, ↓w_ops, ↓w_skip, ↓w_ret, ↓w_exit, ↓w_scope, ↓w_block, ↓w_cond, cond_true', cond_false', ↓t_nil, ↓t_plain, ↓t_guard, ↓t_gagain, ↓t_again, t_val, t_call, g_true, g_false, ga_true, ga_false, a_val, a_call, ↓n_normal, ↓n_ret, ↓n_exit, ↓b_normal, ↓b_ret, ↓b_exit, ↓e_normal, ↓e_ret, e_some, go_sem, ↓reduceIte, Nat.reduceEqDiff, Nat.reduceLT, Nat.reduceSub, A_tree_Tree_Move_6, vload, vptr, Mem.read, g6, hrs, Nat.add_zero, vstore, hcs, spC_len, hw0, hs0, Option.bind_some, oneOf, Nat.reduceEqDiff]
            exact bad 41 (by rw [moveE, hb, h3, h4, h5]; rfl) (by decide)
          | false =>
            have h0 : moveE l n s = 0 := by rw [moveE, hb, h3, h4, h5]; rfl
            have hw1 := write_full (vs := spC ((getS l n).getD sp0)) g6 rfl rfl
            simp -dsimp only [↓w_seq, ↓w_ops, ↓w_skip, ↓w_ret, ↓w_exit, ↓w_scope, ↓w_block, ↓w_cond, cond_true', cond_false', ↓t_nil, ↓t_plain, ↓t_guard, ↓t_gagain, ↓t_again, t_val, t_call, g_true, g_false, ga_true, ga_false, a_val, a_call, ↓n_normal, ↓n_ret, ↓n_exit, ↓b_normal, ↓b_ret, ↓b_exit, ↓e_normal, ↓e_ret, e_some, go_sem, ↓reduceIte, Nat.reduceEqDiff, Nat.reduceLT, Nat.reduceSub, A_tree_Tree_Move_7, vload, vptr, Mem.read, T1.c, g4, hrn, Nat.add_zero, List.getElem?_cons_zero, look1 T1.at_ n, vof, vstore, hcs, spC_len, hw1, Nat.reduceEqDiff]
            have hG2 := hG.upd (b := M.next + 1 + 1) (by omega) (Upd.set M1 (M.next + 1 + 1) (.cells (spC ((getS l n).getD sp0)) false))
            have hs2 := Mem.get_set_same M1 (M.next + 1 + 1) (.cells (spC ((getS l n).getD sp0)) false)
            have k4 : (M1.set (M.next + 1 + 1) (.cells (spC ((getS l n).getD sp0)) false)).get M.next = some (.cells (stC n) false) := (Mem.get_set_ne _ _ (by omega)).trans g4
            have k5 : (M1.set (M.next + 1 + 1) (.cells (spC ((getS l n).getD sp0)) false)).get (M.next + 1) = some (.cells (spC s) false) := (Mem.get_set_ne _ _ (by omega)).trans g5
            have T2 := T.grew hG2
            generalize M1.set (M.next + 1 + 1) (.cells (spC ((getS l n).getD sp0)) false) = M2 at *
            have T3 := T.set (l' := putS l n s) hG2
            have hlt := T.bl
            have hC := Chg.set (b := bm) (o := .map (encM (putS l n s))) hG2
            have hs3 : (M2.set bm (.map (encM (putS l n s)))).get (M.next + 1 + 1) = some (.cells (spC ((getS l n).getD sp0)) false) := (Mem.get_set_ne _ _ (by omega)).trans hs2
            simp -dsimp only [↓w_seq, ↓w_ops, ↓w_skip, ↓w_ret, ↓w_exit, ↓w_scope, ↓w_block, ↓w_cond, cond_true', cond_false', ↓t_nil, ↓t_plain, ↓t_guard, ↓t_gagain, ↓t_again, t_val, t_call, g_true, g_false, ga_true, ga_false, a_val, a_call, ↓n_normal, ↓n_ret, ↓n_exit, ↓b_normal, ↓b_ret, ↓b_exit, ↓e_normal, ↓e_ret, e_some, go_sem, ↓reduceIte, Nat.reduceEqDiff, Nat.reduceLT, Nat.reduceSub, A_tree_Tree_Move_8, vload, vptr, Mem.read, T2.c, k4, k5, hrn, hrs, Nat.add_zero, List.getElem?_cons_zero, put_is T2.m n s, Option.map_some]
            generalize M2.set bm (.map (encM (putS l n s))) = M3 at *
            have hw3 := write_full (vs := spC ((getS l n).getD sp0)) hs3 rfl rfl
            simp -dsimp only [↓w_seq, ↓w_ops, ↓w_skip, ↓w_ret, ↓w_exit, ↓w_scope, ↓w_block, ↓w_cond, cond_true', cond_false', ↓t_nil, ↓t_plain, ↓t_guard, ↓t_gagain, ↓t_again, t_val, t_call, g_true, g_false, ga_true, ga_false, a_val, a_call, ↓n_normal, ↓n_ret, ↓n_exit, ↓b_normal, ↓b_ret, ↓b_exit, ↓e_normal, ↓e_ret, e_some, go_sem, ↓reduceIte, Nat.reduceEqDiff, Nat.reduceLT, Nat.reduceSub, A_tree_Tree_Move_9, vload, vptr, Mem.read, hs3, hrs, Nat.add_zero, vstore, hcs, spC_len, hw3, Option.bind_some, oneOf, Nat.reduceEqDiff]
            have hs4 := Mem.get_set_same M3 (M.next + 1 + 1) (.cells (spC ((getS l n).getD sp0)) false)
            have T4 := TreeIn.set_new (o := .cells (spC ((getS l n).getD sp0)) false) T T3 (show M.next ≤ M.next + 1 + 1 by omega)
            have hC4 := hC.set_new (o := .cells (spC ((getS l n).getD sp0)) false) (show M.next ≤ M.next + 1 + 1 by omega)
            generalize M3.set (M.next + 1 + 1) (.cells (spC ((getS l n).getD sp0)) false) = M4 at *
            simp only [hs4, hrs, Option.map_some, Option.bind_some, e_some, oneOf]
            exact hR _ _ ⟨by rw [moveW, if_pos h0, h0]; rfl, hC4, by rw [moveT, if_pos h0]; exact T4⟩

def dropE (l : Tr) (n : St) : Nat := if (getS l n).isSome = false then 3 else if 0 < (belowL l n).length then 4 else 0
def dropT (l : Tr) (n : St) : Tr := if dropE l n = 0 then delS l n else l
/-! ### acts -/
abbrev Act := Int × St × Spot
def actC (a : Act) : List V := .int .i64 a.1 :: stC a.2.1 ++ spC a.2.2
def doT (l : Tr) (a : Act) : Tr := if a.1 = 0 then addT l a.2.1 a.2.2 else if a.1 = 1 then moveT l a.2.1 a.2.2 else if a.1 = 2 then dropT l a.2.1 else l
end Go.Am.Tryz


/- Trees, plainly: acts keep the tree a tree. -/
namespace Go.Am.Tryz
open Go Go.Am Go.Proofs Go.Sort Go.Shelf
set_option maxRecDepth 100000
set_option linter.unusedSimpArgs false
set_option linter.unusedVariables false

theorem node_pos {n : St} (h : nodeSt n = true) : 0 < n.1 := by
  simp only [nodeSt, Bool.and_eq_true, decide_eq_true_eq] at h
  exact h.2
theorem hasB_P {l : Tr} {p : St} (h : hasB l p = true) : hasP l p := by
  simp only [hasB, Bool.or_eq_true, Bool.and_eq_true, Bool.not_eq_true'] at h
  rcases h with h | ⟨h1, h2⟩
  · exact .inl h
  · simp only [placeSt, h2, Bool.false_or, Bool.or_eq_true, decide_eq_true_eq] at h1
    exact .inr h1
theorem Inv.no_up {l : Tr} (h : Inv l) {n : St} (h0 : 0 < n.1) (hn : getS l n = none) {p : St} (hp : hasP l p) : n ∉ p :: pathOf l p := by
  have key : ∀ q, hasP l q → q ≠ n := fun q hq e => by
    subst e
    rcases hq with h1 | h1 | h1
    · rw [hn] at h1; cases h1
    · rw [h1] at h0; exact absurd h0 (by decide)
    · rw [h1] at h0; exact absurd h0 (by decide)
  intro hm
  rcases List.mem_cons.mp hm with e | hm
  · exact key p hp e.symm
  · obtain ⟨k, s, h1, h2⟩ := (h.path p).met hm
    exact key _ (h.par k s h1) h2

theorem addE_0 {l : Tr} {n : St} {s : Spot} (h : addE l n s = 0) : nodeSt n = true ∧ rightSp s = true ∧ getS l n = none ∧ hasB l s.1 = true ∧ l.length < 65536 := by
  unfold addE at h
  split at h
  · cases h
  · rename_i h1
    split at h
    · cases h
    · rename_i h2
      split at h
      · cases h
      · rename_i h3
        split at h
        · cases h
        · rename_i h4
          simp only [Bool.not_eq_false, Bool.and_eq_true] at h1 h3
          refine ⟨h1.1, h1.2, ?_, h3, by omega⟩
          cases hg : getS l n with
          | none => rfl
          | some t => rw [hg] at h2; exact absurd rfl h2
theorem moveE_0 {l : Tr} {n : St} {s : Spot} (h : moveE l n s = 0) : nodeSt n = true ∧ rightSp s = true ∧ (getS l n).isSome = true ∧ hasB l s.1 = true ∧ withinB l n s.1 (pathOf l s.1) = false := by
  unfold moveE at h
  split at h
  · cases h
  · rename_i h1
    split at h
    · cases h
    · rename_i h2
      split at h
      · cases h
      · rename_i h3
        simp only [Bool.not_eq_false, Bool.and_eq_true] at h1 h2
        exact ⟨h1.1, h1.2, h2.1, h2.2, by simpa using h3⟩
theorem dropE_0 {l : Tr} {n : St} (h : dropE l n = 0) : (getS l n).isSome = true ∧ belowL l n = [] := by
  unfold dropE at h
  split at h
  · cases h
  · rename_i h1
    split at h
    · cases h
    · rename_i h2
      exact ⟨by rwa [Bool.not_eq_false] at h1, List.eq_nil_of_length_eq_zero (by omega)⟩
theorem mem_nodes {l : Tr} {n : St} : n ∈ nodesL l ↔ n ∈ keysS l := (isort_perm ltSt (keysS l)).mem_iff
theorem mem_below {l : Tr} {n p : St} : n ∈ belowL l p ↔ ∃ s, getS l n = some s ∧ s.1 = p := by
  unfold belowL belF
  rw [List.mem_filter, mem_nodes, ← get_mem, decide_eq_true_eq]
  constructor
  · rintro ⟨h1, h2⟩
    cases hg : getS l n with
    | none => rw [hg] at h1; cases h1
    | some s => rw [hg] at h2; exact ⟨s, rfl, h2⟩
  · rintro ⟨s, h1, h2⟩
    rw [h1]
    exact ⟨rfl, h2⟩
theorem Inv.add {l : Tr} (h : Inv l) (n : St) (s : Spot) : Inv (addT l n s) := by
  unfold addT
  split
  · rename_i h0
    obtain ⟨h1, _, h3, h4, _⟩ := addE_0 h0
    exact h.put (node_pos h1) (hasB_P h4) (h.no_up (node_pos h1) h3 (hasB_P h4))
  · exact h
theorem Inv.move {l : Tr} (h : Inv l) (n : St) (s : Spot) : Inv (moveT l n s) := by
  unfold moveT
  split
  · rename_i h0
    obtain ⟨h1, _, h3, h4, h5⟩ := moveE_0 h0
    refine h.put (node_pos h1) (hasB_P h4) fun hm => ?_
    simp only [withinB] at h5
    cases hs : getS l s.1 with
    | some t =>
      rw [hs] at h5
      simp only [Option.isSome_some, Bool.true_and, Bool.or_eq_false_iff, decide_eq_false_iff_not] at h5
      rcases List.mem_cons.mp hm with e | hm
      · exact h5.2 e
      · exact h5.1 hm
    | none =>
      have := (PathN.nil hs).eq
      rw [← this] at hm
      simp only [List.mem_singleton] at hm
      rw [hm, hs] at h3
      cases h3
  · exact h
theorem Inv.drop {l : Tr} (h : Inv l) (n : St) : Inv (dropT l n) := by
  unfold dropT
  split
  · rename_i h0
    obtain ⟨h1, h2⟩ := dropE_0 h0
    refine h.del fun m s hm e => ?_
    have : m ∈ belowL l n := mem_below.mpr ⟨s, hm, e⟩
    rw [h2] at this
    cases this
  · exact h
theorem Inv.act {l : Tr} (h : Inv l) (a : Act) : Inv (doT l a) := by
  unfold doT
  split
  · exact h.add _ _
  · split
    · exact h.move _ _
    · split
      · exact h.drop _
      · exact h
theorem put_len (n : St) (s : Spot) : ∀ l : Tr, (putS l n s).length ≤ l.length + 1
  | [] => by simp [putS]
  | p :: r => by
    unfold putS
    split
    · simp
    · have := put_len n s r
      simp only [List.length_cons]
      omega
theorem del_len (n : St) : ∀ l : Tr, (delS l n).length ≤ l.length
  | [] => by simp [delS]
  | p :: r => by
    unfold delS
    split
    · simp
    · have := del_len n r
      simp only [List.length_cons]
      omega
theorem act_len (l : Tr) (a : Act) : (doT l a).length ≤ l.length + 1 := by
  unfold doT addT moveT dropT
  split
  · split
    · exact put_len _ _ _
    · omega
  · split
    · split
      · exact put_len _ _ _
      · omega
    · split
      · split
        · have := del_len a.2.1 l; omega
        · omega
      · omega
end Go.Am.Tryz


/- The law TreeReaches on the machine. -/
namespace Go.Am.Tryz
open Go Go.Am Go.Proofs Go.Sort Go.Shelf
set_option maxRecDepth 100000
set_option linter.unusedSimpArgs false
set_option linter.unusedVariables false

def decAct : List V → Option Act
  | [.int .i64 k, .int .i64 a, .int .i64 b, .int .i64 c, .int .i64 d, .str s] => some (k, (a, b), ((c, d), s))
  | _ => none
def elAct : Elem Act where
  k := 6
  cv := actC
  enc x := [.int .i64 x.1, .int .i64 x.2.1.1, .int .i64 x.2.1.2, .int .i64 x.2.2.1.1, .int .i64 x.2.2.1.2, .string ⟨x.2.2.2.toArray⟩]
  dec := decAct
  k_pos := by omega
  len _ := rfl
  elen _ := rfl
  dec_some cs x h := by unfold decAct at h; split at h <;> cases h; rfl
  dec_cv _ := rfl
  rel E x := .cons (.int _ _) (.cons (.int _ _) (.cons (.int _ _) (.cons (.int _ _) (.cons (.int _ _) (.cons (by have := VR.str (E := E) ⟨x.2.2.2.toArray⟩; simpa using this) .nil)))))
  rel_eq E x us h := by
    cases h with
    | cons h1 t => cases t with
      | cons h2 t => cases t with
        | cons h3 t => cases t with
          | cons h4 t => cases t with
            | cons h5 t => cases t with
              | cons h6 t =>
                cases t; cases h1; cases h2; cases h3; cases h4; cases h5
                generalize hs : V.str x.2.2.2 = v at h6
                cases h6 <;> first | (cases hs; done) | skip
                rename_i s
                have hx := V.str.inj hs
                rw [hx]
  one x v hv := by simp at hv; rcases hv with rfl | rfl | rfl | rfl | rfl | rfl <;> rfl
  one' _ := rfl
  flat _ := rfl

theorem act_at {M : Mem} {s : V} {xs : List Act} (h : SlR elAct M s xs) {i : Nat} (hi : i < xs.length) : ∃ b o cs ro cap, s = .slice (some (b, o)) xs.length cap ∧ M.get b = some (.cells cs ro) ∧ rdCells cs (o + i * 6) 6 = some (actC xs[i]) ∧ cs[o + i * 6 + 5]? = some (.str xs[i].2.2.2) := by
  obtain ⟨a, cap, rfl, h⟩ := h
  rcases h with h | ⟨b, o, cs, ro, rfl, h1, h2⟩
  · subst h; simp at hi
  · exact ⟨b, o, cs, ro, cap, rfl, h1, h2 i hi, rd_cell (h2 i hi) 5 (by decide)⟩

theorem Long_loop (s : V) (acts : List Act) (M : Mem) (hs : SlR elAct M s acts) (hk : ∀ x ∈ acts, x.2.2.2.length < 2 ^ 63) {Q : AExit → Fr → Mem → Prop}
    (hE : ∀ fr, fr.rd 0 = s → Q (.exit 0) fr M) (hR : ∀ fr, fr.rd 2 = .bool true → Q .ret fr M) :
    ∀ (f i : Nat) (fr : Fr), i + f = 300 → fr.rd 0 = s → fr.rd 3 = .int .i64 (i : Int) → WC D2 25 (.loop A_law10_Long_6) fr M Q := by
  intro f
  induction f with
  | zero =>
    intro i fr hi h0 h3
    refine WC.loop (W_of ?_)
    unfold A_law10_Long_6
    obtain ⟨a, cap, rfl, _⟩ := id hs
    have h2 : ¬ (i : Int) < 300 := by omega
    by_cases hil : (i : Int) < acts.length
    · simp -dsimp only [↓w_seq, ↓w_ops, ↓w_skip, ↓w_ret, ↓w_exit, ↓w_scope, ↓w_block, ↓w_cond, cond_true', cond_false', ↓t_nil, ↓t_plain, ↓t_guard, ↓t_gagain, ↓t_again, t_val, t_call, g_true, g_false, ga_true, ga_false, a_val, a_call, ↓n_normal, ↓n_ret, ↓n_exit, ↓b_normal, ↓b_ret, ↓b_exit, ↓e_normal, ↓e_ret, e_some, go_sem, ↓reduceIte, Nat.reduceEqDiff, Nat.reduceLT, Nat.reduceSub, A_law10_Long_2, h0, h3, hil, h2, decide_true, decide_false]
      exact hE _ (by simp only [go_sem, ↓reduceIte, Nat.reduceEqDiff, Nat.reduceLT, Nat.reduceSub, h0])
    · simp -dsimp only [↓w_seq, ↓w_ops, ↓w_skip, ↓w_ret, ↓w_exit, ↓w_scope, ↓w_block, ↓w_cond, cond_true', cond_false', ↓t_nil, ↓t_plain, ↓t_guard, ↓t_gagain, ↓t_again, t_val, t_call, g_true, g_false, ga_true, ga_false, a_val, a_call, ↓n_normal, ↓n_ret, ↓n_exit, ↓b_normal, ↓b_ret, ↓b_exit, ↓e_normal, ↓e_ret, e_some, go_sem, ↓reduceIte, Nat.reduceEqDiff, Nat.reduceLT, Nat.reduceSub, A_law10_Long_2, h0, h3, hil, h2, decide_true, decide_false]
      exact hE _ (by simp only [go_sem, ↓reduceIte, Nat.reduceEqDiff, Nat.reduceLT, Nat.reduceSub, h0])
  | succ f ih =>
    intro i fr hi h0 h3
    refine WC.loop (W_of ?_)
    unfold A_law10_Long_6
    have h2 : (i : Int) < 300 := by omega
    have h5' : (i : Int) + 1 = ((i + 1 : Nat) : Int) := by omega
    by_cases hil : i < acts.length
    · obtain ⟨b, o, cs, ro, cap, rfl, hM, hr, hk5⟩ := act_at hs hil
      rw [Nat.add_assoc] at hk5
      have e1 : (i : Int) < acts.length := by omega
      have e2 : i + 1 ≤ acts.length := by omega
      have hkl := hk _ (List.getElem_mem hil)
      by_cases h500 : (500 : Int) < acts[i].2.2.2.length
      · simp -dsimp only [↓w_seq, ↓w_ops, ↓w_skip, ↓w_ret, ↓w_exit, ↓w_scope, ↓w_block, ↓w_cond, cond_true', cond_false', ↓t_nil, ↓t_plain, ↓t_guard, ↓t_gagain, ↓t_again, t_val, t_call, g_true, g_false, ga_true, ga_false, a_val, a_call, ↓n_normal, ↓n_ret, ↓n_exit, ↓b_normal, ↓b_ret, ↓b_exit, ↓e_normal, ↓e_ret, e_some, go_sem, ↓reduceIte, Nat.reduceEqDiff, Nat.reduceLT, Nat.reduceSub, A_law10_Long_2, A_law10_Long_3, A_law10_Long_4, h0, h3, e1, h2, e2, decide_true, decide_false, vload, vptr, Mem.read, hM, Nat.add_assoc, Nat.reduceAdd, hk5, vof, h500]
        exact hR _ (by simp only [go_sem, ↓reduceIte, Nat.reduceEqDiff, Nat.reduceLT, Nat.reduceSub])
      · simp -dsimp only [↓w_seq, ↓w_ops, ↓w_skip, ↓w_ret, ↓w_exit, ↓w_scope, ↓w_block, ↓w_cond, cond_true', cond_false', ↓t_nil, ↓t_plain, ↓t_guard, ↓t_gagain, ↓t_again, t_val, t_call, g_true, g_false, ga_true, ga_false, a_val, a_call, ↓n_normal, ↓n_ret, ↓n_exit, ↓b_normal, ↓b_ret, ↓b_exit, ↓e_normal, ↓e_ret, e_some, go_sem, ↓reduceIte, Nat.reduceEqDiff, Nat.reduceLT, Nat.reduceSub, A_law10_Long_2, A_law10_Long_3, A_law10_Long_5, h0, h3, e1, h2, e2, decide_true, decide_false, vload, vptr, Mem.read, hM, Nat.add_assoc, Nat.reduceAdd, hk5, vof, h500, h5', IntWalk.i64_in ((i + 1 : Nat) : Int) (by omega)]
        refine ih (i + 1) _ (by omega) ?_ ?_
        all_goals simp only [go_sem, ↓reduceIte, Nat.reduceEqDiff, Nat.reduceLT, Nat.reduceSub, h0]
    · obtain ⟨a, cap, rfl, _⟩ := id hs
      have e1 : ¬ (i : Int) < acts.length := by omega
      simp -dsimp only [↓w_seq, ↓w_ops, ↓w_skip, ↓w_ret, ↓w_exit, ↓w_scope, ↓w_block, ↓w_cond, cond_true', cond_false', ↓t_nil, ↓t_plain, ↓t_guard, ↓t_gagain, ↓t_again, t_val, t_call, g_true, g_false, ga_true, ga_false, a_val, a_call, ↓n_normal, ↓n_ret, ↓n_exit, ↓b_normal, ↓b_ret, ↓b_exit, ↓e_normal, ↓e_ret, e_some, go_sem, ↓reduceIte, Nat.reduceEqDiff, Nat.reduceLT, Nat.reduceSub, A_law10_Long_2, h0, h3, e1, h2, decide_true, decide_false]
      exact hE _ (by simp only [go_sem, ↓reduceIte, Nat.reduceEqDiff, Nat.reduceLT, Nat.reduceSub, h0])
theorem Long_runs (s : V) (acts : List Act) (M : Mem) (hs : SlR elAct M s acts) (hk : ∀ x ∈ acts, x.2.2.2.length < 2 ^ 63) : Runs D2 F_law10_Long [s] M fun v M' => (∃ b, v = .bool b ∧ (b = false → acts.length ≤ 150)) ∧ M' = M := by
  refine R_opq fun R hR => ?_
  refine Runs.walk (F := A_law10_Long) rfl (by rfl) (by rfl) ?_
  unfold A_law10_Long
  simp -dsimp only [↓w_seq, ↓w_ops, ↓w_skip, ↓w_ret, ↓w_exit, ↓w_scope, ↓w_block, ↓w_cond, cond_true', cond_false', ↓t_nil, ↓t_plain, ↓t_guard, ↓t_gagain, ↓t_again, t_val, t_call, g_true, g_false, ga_true, ga_false, a_val, a_call, ↓n_normal, ↓n_ret, ↓n_exit, ↓b_normal, ↓b_ret, ↓b_exit, ↓e_normal, ↓e_ret, e_some, go_sem, ↓reduceIte, Nat.reduceEqDiff, Nat.reduceLT, Nat.reduceSub, A_law10_Long_0, A_law10_Long_1]
  refine Long_loop s acts M hs hk ?_ ?_ 300 0 _ (by omega) ?_ ?_
  · intro fr h0
    obtain ⟨a, cap, rfl, _⟩ := hs
    simp -dsimp only [↓w_seq, ↓w_ops, ↓w_skip, ↓w_ret, ↓w_exit, ↓w_scope, ↓w_block, ↓w_cond, cond_true', cond_false', ↓t_nil, ↓t_plain, ↓t_guard, ↓t_gagain, ↓t_again, t_val, t_call, g_true, g_false, ga_true, ga_false, a_val, a_call, ↓n_normal, ↓n_ret, ↓n_exit, ↓b_normal, ↓b_ret, ↓b_exit, ↓e_normal, ↓e_ret, e_some, go_sem, ↓reduceIte, Nat.reduceEqDiff, Nat.reduceLT, Nat.reduceSub, A_law10_Long_7, h0]
    exact hR _ _ ⟨⟨_, rfl, fun h => by have := of_decide_eq_false h; omega⟩, rfl⟩
  · intro fr h2
    simp -dsimp only [↓w_seq, ↓w_ops, ↓w_skip, ↓w_ret, ↓w_exit, ↓w_scope, ↓w_block, ↓w_cond, cond_true', cond_false', ↓t_nil, ↓t_plain, ↓t_guard, ↓t_gagain, ↓t_again, t_val, t_call, g_true, g_false, ga_true, ga_false, a_val, a_call, ↓n_normal, ↓n_ret, ↓n_exit, ↓b_normal, ↓b_ret, ↓b_exit, ↓e_normal, ↓e_ret, e_some, go_sem, ↓reduceIte, Nat.reduceEqDiff, Nat.reduceLT, Nat.reduceSub, h2]
    exact hR _ _ ⟨⟨true, rfl, fun h => by cases h⟩, rfl⟩
  all_goals simp only [go_sem, ↓reduceIte, Nat.reduceEqDiff, Nat.reduceLT, Nat.reduceSub]
  rfl

/-- Where a law stands: what it was given is as it was; a tree of its own. -/
structure LS (M0 M : Mem) (tc bm : Nat) (l : Tr) : Prop where
  old : ∀ c, c < M0.next → M.get c = M0.get c
  next : M0.next ≤ M.next
  T : TreeIn M tc bm l
  tb : M0.next ≤ bm
theorem LS.grew {M0 M M' : Mem} {tc bm : Nat} {l : Tr} (h : LS M0 M tc bm l) (hG : Grew M M') : LS M0 M' tc bm l :=
  ⟨fun c hc => (hG.old c (Nat.lt_of_lt_of_le hc h.next)).trans (h.old c hc), Nat.le_trans h.next hG.next, h.T.grew hG, h.tb⟩
theorem LS.g {M0 M : Mem} {tc bm : Nat} {l : Tr} (h : LS M0 M tc bm l) (hg : isG M0 = true) (hn : 2 ≤ M0.next) : isG M = true := isG_keep hg hn h.old

theorem take_snoc {α : Type} (xs : List α) {i : Nat} (h : i < xs.length) : xs.take (i + 1) = xs.take i ++ [xs[i]] := by
  rw [List.take_add_one, List.getElem?_eq_getElem h]; rfl

end Go.Am.Tryz


/- Texts, how they stand to each other. -/
namespace Go.Am
open Go
abbrev cmpB := Lib.compareBytes
theorem cmp_self : ∀ a : List UInt8, cmpB a a = 0
  | [] => rfl
  | c :: a => by unfold cmpB Lib.compareBytes; simp [UInt8.lt_irrefl]; exact cmp_self a
theorem cmp_neg : ∀ a b : List UInt8, cmpB b a = - cmpB a b
  | [], [] => rfl
  | [], _ :: _ => rfl
  | _ :: _, [] => rfl
  | c :: a, d :: b => by
    unfold cmpB Lib.compareBytes
    by_cases h1 : c < d
    · have : ¬ d < c := fun h => absurd (UInt8.lt_trans h1 h) (UInt8.lt_irrefl _)
      simp [h1, this]
    · by_cases h2 : d < c
      · simp [h1, h2]
      · simp [h1, h2]; exact cmp_neg a b
theorem cmp_eq : ∀ {a b : List UInt8}, cmpB a b = 0 → a = b
  | [], [], _ => rfl
  | [], _ :: _, h => by cases h
  | _ :: _, [], h => by cases h
  | c :: a, d :: b, h => by
    unfold cmpB Lib.compareBytes at h
    split at h
    · cases h
    · split at h
      · cases h
      · rename_i h1 h2
        have : c = d := UInt8.le_antisymm (UInt8.not_lt.1 h2) (UInt8.not_lt.1 h1)
        rw [this, cmp_eq h]
theorem cmp_three : ∀ a b : List UInt8, cmpB a b = -1 ∨ cmpB a b = 0 ∨ cmpB a b = 1
  | [], [] => .inr (.inl rfl)
  | [], _ :: _ => .inl rfl
  | _ :: _, [] => .inr (.inr rfl)
  | c :: a, d :: b => by
    unfold cmpB Lib.compareBytes
    split
    · exact .inl rfl
    · split
      · exact .inr (.inr rfl)
      · exact cmp_three a b
theorem cmp_trans : ∀ {a b c : List UInt8}, cmpB a b = -1 → cmpB b c = -1 → cmpB a c = -1
  | [], _, [], _, h2 => by rename_i b _; cases b <;> cases h2
  | [], _, _ :: _, _, _ => rfl
  | _ :: _, [], _, h1, _ => by cases h1
  | _ :: _, _ :: _, [], _, h2 => by cases h2
  | x :: a, y :: b, z :: c, h1, h2 => by
    unfold cmpB Lib.compareBytes at h1 h2 ⊢
    by_cases xy : x < y
    · by_cases yz : y < z
      · rw [if_pos (UInt8.lt_trans xy yz)]
      · rw [if_neg yz] at h2
        by_cases zy : z < y
        · rw [if_pos zy] at h2; cases h2
        · have e : y = z := UInt8.le_antisymm (UInt8.not_lt.1 zy) (UInt8.not_lt.1 yz)
          subst e; rw [if_pos xy]
    · rw [if_neg xy] at h1
      by_cases yx : y < x
      · rw [if_pos yx] at h1; cases h1
      · have e : x = y := UInt8.le_antisymm (UInt8.not_lt.1 yx) (UInt8.not_lt.1 xy)
        subst e
        rw [if_neg yx] at h1
        by_cases yz : x < z
        · rw [if_pos yz]
        · rw [if_neg yz] at h2 ⊢
          by_cases zy : z < x
          · rw [if_pos zy] at h2; cases h2
          · rw [if_neg zy] at h2 ⊢
            exact cmp_trans h1 h2
end Go.Am


/- Siblings: how they stand in cells; how they are compared, sorted. -/
namespace Go.Proofs
open Go.Shelf
def Tryz.sortSib_ren : Go.Shelf.Ren := ⟨fun | 6 => 131 | 15 => 150 | 14 => 149 | 28 => 166 | 29 => 167 | 20 => 158 | 21 => 159 | 22 => 160 | 23 => 161 | 24 => 162 | 25 => 163 | 26 => 164 | 27 => 165 | 46 => 177 | 47 => 178 | 48 => 179 | 49 => 180 | 50 => 181 | 57 => 185 | n => n, fun | 22 => 47 | 24 => 77 | 25 => 140 | 3 => 3 | 39 => 189 | 0 => 0 | 53 => 206 | 55 => 208 | 4 => 4 | 46 => 200 | 45 => 199 | 50 => 113 | 5 => 5 | 9 => 9 | 66 => 214 | 70 => 218 | 76 => 222 | 77 => 82 | n => n, fun | n => n⟩
theorem Tryz.sortSib : Go.Proofs.SlLaysF0.n6 Tryz.prog Tryz.sortSib_ren := {
  mixed := by kernel_rfl
  f6 := ⟨Tryz.f131.name, by decide, Tryz.func131.trans (congrArg some (by kernel_rfl))⟩
  f14 := ⟨Tryz.f149.name, by decide, Tryz.func149.trans (congrArg some (by kernel_rfl))⟩
  f15 := Tryz.func150.trans (congrArg some (by kernel_rfl))
  f20 := ⟨Tryz.f158.name, by decide, Tryz.func158.trans (congrArg some (by kernel_rfl))⟩
  f21 := ⟨Tryz.f159.name, by decide, Tryz.func159.trans (congrArg some (by kernel_rfl))⟩
  f22 := ⟨Tryz.f160.name, by decide, Tryz.func160.trans (congrArg some (by kernel_rfl))⟩
  f23 := ⟨Tryz.f161.name, by decide, Tryz.func161.trans (congrArg some (by kernel_rfl))⟩
  f24 := ⟨Tryz.f162.name, by decide, Tryz.func162.trans (congrArg some (by kernel_rfl))⟩
  f25 := ⟨Tryz.f163.name, by decide, Tryz.func163.trans (congrArg some (by kernel_rfl))⟩
  f26 := ⟨Tryz.f164.name, by decide, Tryz.func164.trans (congrArg some (by kernel_rfl))⟩
  f27 := ⟨Tryz.f165.name, by decide, Tryz.func165.trans (congrArg some (by kernel_rfl))⟩
  f28 := Tryz.func166.trans (congrArg some (by kernel_rfl))
  f29 := Tryz.func167.trans (congrArg some (by kernel_rfl))
  f46 := ⟨Tryz.f177.name, by decide, Tryz.func177.trans (congrArg some (by kernel_rfl))⟩
  f47 := Tryz.func178.trans (congrArg some (by kernel_rfl))
  f48 := Tryz.func179.trans (congrArg some (by kernel_rfl))
  f49 := ⟨Tryz.f180.name, by decide, Tryz.func180.trans (congrArg some (by kernel_rfl))⟩
  f50 := ⟨Tryz.f181.name, by decide, Tryz.func181.trans (congrArg some (by kernel_rfl))⟩
  f57 := ⟨Tryz.f185.name, by decide, Tryz.func185.trans (congrArg some (by kernel_rfl))⟩
  t0 := Tryz.underlying0
  a0 := Tryz.isAgg0
  z0 := Tryz.sizeOf0
  v0 := Tryz.zeroValue0
  t3 := Tryz.underlying3
  a3 := Tryz.isAgg3
  z3 := Tryz.sizeOf3
  v3 := Tryz.zeroValue3
  t4 := Tryz.underlying4
  a4 := Tryz.isAgg4
  z4 := Tryz.sizeOf4
  v4 := Tryz.zeroValue4
  t5 := Tryz.underlying5
  a5 := Tryz.isAgg5
  z5 := Tryz.sizeOf5
  v5 := Tryz.zeroValue5
  t9 := Tryz.underlying9
  a9 := Tryz.isAgg9
  z9 := Tryz.sizeOf9
  v9 := Tryz.zeroValue9
  t22 := Tryz.underlying47
  a22 := Tryz.isAgg47
  z22 := Tryz.sizeOf47
  v22 := Tryz.zeroValue47
  t25 := Tryz.underlying140
  a25 := Tryz.isAgg140
  z25 := Tryz.sizeOf140
  v25 := Tryz.zeroValue140
  t39 := Tryz.underlying189
  a39 := Tryz.isAgg189
  z39 := Tryz.sizeOf189
  v39 := Tryz.zeroValue189
  t45 := Tryz.underlying199
  a45 := Tryz.isAgg199
  z45 := Tryz.sizeOf199
  v45 := Tryz.zeroValue199
  t46 := Tryz.underlying200
  a46 := Tryz.isAgg200
  z46 := Tryz.sizeOf200
  v46 := Tryz.zeroValue200
  t50 := Tryz.underlying113
  a50 := Tryz.isAgg113
  z50 := Tryz.sizeOf113
  v50 := Tryz.zeroValue113
  t53 := Tryz.underlying206
  a53 := Tryz.isAgg206
  z53 := Tryz.sizeOf206
  v53 := Tryz.zeroValue206
  t55 := Tryz.underlying208
  a55 := Tryz.isAgg208
  z55 := Tryz.sizeOf208
  v55 := Tryz.zeroValue208
  t66 := Tryz.underlying214
  a66 := Tryz.isAgg214
  z66 := Tryz.sizeOf214
  v66 := Tryz.zeroValue214
  t70 := Tryz.underlying218
  a70 := Tryz.isAgg218
  z70 := Tryz.sizeOf218
  v70 := Tryz.zeroValue218
  t76 := Tryz.underlying222
  a76 := Tryz.isAgg222
  z76 := Tryz.sizeOf222
  v76 := Tryz.zeroValue222
  t77 := Tryz.underlying82
  a77 := Tryz.isAgg82
  z77 := Tryz.sizeOf82
  v77 := Tryz.zeroValue82 }
end Go.Proofs
namespace Go.Proofs
set_option maxHeartbeats 1000000 in
set_option maxRecDepth 100000 in
theorem Tryz.bytealg_CompareString (a b : ByteArray) (w : World) :
    Calls Tryz.prog 157 #[.string a, .string b] w fun e w' => e = .returned (.int .i64 (Lib.compareBytes a.data.toList b.data.toList)) ∧ w' = w := by
  go_enter Tryz.func157, Tryz.ntmps157
  go_wp2
  rw [run_callFunc_extern Tryz.func176 (by kernel_rfl) (by kernel_rfl) (by kernel_rfl) (e := Extern.BytealgCompare.compare) (by kernel_rfl), Lib.run_compareString]
  simp only [Result.andThen]
  rw [Oper.upon_value]
  go_wp2
  go_ret
  exact ⟨rfl, rfl⟩
set_option maxHeartbeats 1000000 in
theorem Tryz.strings_Compare (a b : ByteArray) (w : World) :
    Calls Tryz.prog 147 #[.string a, .string b] w fun e w' => e = .returned (.int .i64 (Lib.compareBytes a.data.toList b.data.toList)) ∧ w' = w := by
  go_enter Tryz.func147, Tryz.ntmps147
  go_wp2_with (go_at_call 157; refine (Tryz.bytealg_CompareString _ _ _).mono ?_; rintro e w' ⟨rfl, rfl⟩)
  go_ret
  exact ⟨rfl, rfl⟩
end Go.Proofs
namespace Go.Am.Tryz.O
open Go Go.Am Go.Proofs Go.Sort Go.Shelf
set_option maxRecDepth 100000
set_option linter.unusedSimpArgs false
set_option linter.unusedVariables false


def pCompare : List V → Option V
  | [.str a, .str b] => some (.int .i64 (Lib.compareBytes a b))
  | _ => none
theorem compare_ok (gl : Nat → Bool) : CallOK Tryz.prog gl fun f' args M => if f' = F_strings_Compare then (pCompare args).map (·, M) else none := by
  refine prim_of_calls ⟨_, Tryz.func147, (by kernel_rfl), (by kernel_rfl)⟩ ?_
  intro args v h E args' w hA
  unfold pCompare at h
  split at h
  · rename_i a b
    cases h
    have : ∃ x y : ByteArray, args' = #[.string x, .string y] ∧ a = x.data.toList ∧ b = y.data.toList := by
      obtain ⟨l⟩ := args'
      simp only at hA
      cases hA with
      | cons h1 t => cases h1 with | str x => cases t with | cons h2 t => cases h2 with | str y => cases t; exact ⟨x, y, rfl, rfl, rfl⟩
    obtain ⟨x, y, rfl, rfl, rfl⟩ := this
    refine (Tryz.strings_Compare x y w).mono fun e w' ⟨he, hw⟩ => ?_
    exact ⟨_, he, .int _ _, hw⟩
  · cases h
def D1 : Decls := Tryz.D2.add F_strings_Compare pCompare
theorem dok1 : DOK Tryz.prog gl0 D1 := Tryz.dok2.add (compare_ok gl0)

abbrev Sb := List UInt8 × St
def sbC (x : Sb) : List V := [.str x.1, .int .i64 x.2.1, .int .i64 x.2.2]
/-- Which sibling stands ahead. -/
def befSb (a b : Sb) : Bool := if a.1 = b.1 then decide (a ≠ b) && decide (cmpSt a.2 b.2 < 0) else decide (cmpB a.1 b.1 < 0)
def cmpSb (a b : Sb) : Int := if a = b then 0 else if befSb a b = true then -1 else 1

theorem poskey_Compare_runs (D : Decls) (hp : D.prim F_poskey_Compare = none) (hc : D.code.get F_poskey_Compare = some A_poskey_Compare) (hs : D.prim F_strings_Compare = some fun args M => (pCompare args).map (·, M)) (a b : List UInt8) (M : Mem) :
    Runs D F_poskey_Compare [.str a, .str b] M fun v M' => v = .int .i64 (cmpB a b) ∧ M' = M := by
  refine Runs.walk (F := A_poskey_Compare) hp hc (by rfl) ?_
  unfold A_poskey_Compare
  simp -dsimp only [↓w_seq, ↓w_ops, ↓w_skip, ↓w_ret, ↓w_exit, ↓w_scope, ↓w_block, ↓w_cond, cond_true', cond_false', ↓t_nil, ↓t_plain, ↓t_guard, ↓t_gagain, ↓t_again, t_val, t_call, g_true, g_false, ga_true, ga_false, a_val, a_call, ↓n_normal, ↓n_ret, ↓n_exit, ↓b_normal, ↓b_ret, ↓b_exit, ↓e_normal, ↓e_ret, e_some, go_sem, ↓reduceIte, Nat.reduceEqDiff, Nat.reduceLT, Nat.reduceSub, A_poskey_Compare_0, A_poskey_Compare_1]
  refine call_eq (Runs.prim hs rfl ⟨rfl, rfl⟩) ?_
  simp -dsimp only [↓w_seq, ↓w_ops, ↓w_skip, ↓w_ret, ↓w_exit, ↓w_scope, ↓w_block, ↓w_cond, cond_true', cond_false', ↓t_nil, ↓t_plain, ↓t_guard, ↓t_gagain, ↓t_again, t_val, t_call, g_true, g_false, ga_true, ga_false, a_val, a_call, ↓n_normal, ↓n_ret, ↓n_exit, ↓b_normal, ↓b_ret, ↓b_exit, ↓e_normal, ↓e_ret, e_some, go_sem, ↓reduceIte, Nat.reduceEqDiff, Nat.reduceLT, Nat.reduceSub, A_poskey_Compare_0, A_poskey_Compare_1]
  exact ⟨trivial, trivial⟩

/-- What the comparisons lean on. -/
structure HasCmp (D : Decls) : Prop where
  st : D.prim F_stamp_Compare = none ∧ D.code.get F_stamp_Compare = some A_stamp_Compare
  pk : D.prim F_poskey_Compare = none ∧ D.code.get F_poskey_Compare = some A_poskey_Compare
  bf : D.prim F_order_Before = none ∧ D.code.get F_order_Before = some A_order_Before
  c1 : D.prim F_order_Sort_c1 = none ∧ D.code.get F_order_Sort_c1 = some A_order_Sort_c1
  sc : D.prim F_strings_Compare = some fun args M => (pCompare args).map (·, M)

theorem order_Before_runs {D : Decls} (hD : HasCmp D) (a b : Sb) (M : Mem) : Runs D F_order_Before [.agg (sbC a), .agg (sbC b)] M fun v M' => v = .bool (befSb a b) ∧ Grew M M' := by
  refine Runs.walk (F := A_order_Before) hD.bf.1 hD.bf.2 (by rfl) ?_
  unfold A_order_Before
  obtain ⟨a0, a1, a2⟩ := a
  obtain ⟨b0, b1, b2⟩ := b
  simp only [sbC]
  have hG : Grew M ((M.push (.cells [.str a0, .int .i64 a1, .int .i64 a2] false)).push (.cells [.str b0, .int .i64 b1, .int .i64 b2] false)) := (Grew.push M _).trans (Grew.push _ _)
  by_cases h0 : a0 = b0
  · subst h0
    by_cases h1 : a1 = b1 ∧ a2 = b2
    · obtain ⟨rfl, rfl⟩ := h1
      simp -dsimp only [↓w_seq, ↓w_ops, ↓w_skip, ↓w_ret, ↓w_exit, ↓w_scope, ↓w_block, ↓w_cond, cond_true', cond_false', ↓t_nil, ↓t_plain, ↓t_guard, ↓t_gagain, ↓t_again, t_val, t_call, g_true, g_false, ga_true, ga_false, a_val, a_call, ↓n_normal, ↓n_ret, ↓n_exit, ↓b_normal, ↓b_ret, ↓b_exit, ↓e_normal, ↓e_ret, e_some, go_sem, ↓reduceIte, Nat.reduceEqDiff, Nat.reduceLT, Nat.reduceSub, A_order_Before_0, A_order_Before_1, A_order_Before_2, A_order_Before_3, Int.lt_irrefl, true_and, and_true, false_and, and_false, and_self, same_two, same_sib, same_spot, vload, vptr, vof, V.cells, Mem.read, rdCells, Mem.get_push, Mem.next_push, Nat.left_eq_add, Nat.add_eq_left, Nat.add_left_cancel_iff, Nat.add_right_cancel_iff, Nat.reduceAdd, Nat.add_zero, Nat.zero_add, Nat.add_assoc, Nat.reduceLeDiff, Nat.reduceBEq, List.length_cons, List.length_nil, List.drop_zero, List.drop_succ_cons, List.take_succ_cons, List.take_zero, List.take_nil, List.drop_nil, List.getElem?_cons_zero, List.getElem?_cons_succ, reduceCtorEq, Nat.succ_ne_self, Nat.one_ne_zero, Nat.le_refl, ne_eq, not_false_eq_true]
      exact ⟨by simp [befSb], hG⟩
    · have hne : ¬ ((a1, a2) : St) = (b1, b2) := fun e => h1 (by cases e; exact ⟨rfl, rfl⟩)
      simp -dsimp only [↓w_seq, ↓w_ops, ↓w_skip, ↓w_ret, ↓w_exit, ↓w_scope, ↓w_block, ↓w_cond, cond_true', cond_false', ↓t_nil, ↓t_plain, ↓t_guard, ↓t_gagain, ↓t_again, t_val, t_call, g_true, g_false, ga_true, ga_false, a_val, a_call, ↓n_normal, ↓n_ret, ↓n_exit, ↓b_normal, ↓b_ret, ↓b_exit, ↓e_normal, ↓e_ret, e_some, go_sem, ↓reduceIte, Nat.reduceEqDiff, Nat.reduceLT, Nat.reduceSub, A_order_Before_0, A_order_Before_1, A_order_Before_2, A_order_Before_3, Int.lt_irrefl, true_and, and_true, false_and, and_false, and_self, same_two, same_sib, same_spot, vload, vptr, vof, V.cells, Mem.read, rdCells, Mem.get_push, Mem.next_push, Nat.left_eq_add, Nat.add_eq_left, Nat.add_left_cancel_iff, Nat.add_right_cancel_iff, Nat.reduceAdd, Nat.add_zero, Nat.zero_add, Nat.add_assoc, Nat.reduceLeDiff, Nat.reduceBEq, List.length_cons, List.length_nil, List.drop_zero, List.drop_succ_cons, List.take_succ_cons, List.take_zero, List.take_nil, List.drop_nil, List.getElem?_cons_zero, List.getElem?_cons_succ, reduceCtorEq, Nat.succ_ne_self, Nat.one_ne_zero, Nat.le_refl, ne_eq, not_false_eq_true, h1]
      refine call_of (stamp_Compare_runs D hD.st.1 hD.st.2 (a1, a2) (b1, b2) _) ?_
      rintro v M' ⟨rfl, hM'⟩
      simp -dsimp only [↓w_seq, ↓w_ops, ↓w_skip, ↓w_ret, ↓w_exit, ↓w_scope, ↓w_block, ↓w_cond, cond_true', cond_false', ↓t_nil, ↓t_plain, ↓t_guard, ↓t_gagain, ↓t_again, t_val, t_call, g_true, g_false, ga_true, ga_false, a_val, a_call, ↓n_normal, ↓n_ret, ↓n_exit, ↓b_normal, ↓b_ret, ↓b_exit, ↓e_normal, ↓e_ret, e_some, go_sem, ↓reduceIte, Nat.reduceEqDiff, Nat.reduceLT, Nat.reduceSub, A_order_Before_0, A_order_Before_1, A_order_Before_2, A_order_Before_3, Int.lt_irrefl, true_and, and_true, false_and, and_false, and_self, same_two, same_sib, same_spot, vload, vptr, vof, V.cells, Mem.read, rdCells, Mem.get_push, Mem.next_push, Nat.left_eq_add, Nat.add_eq_left, Nat.add_left_cancel_iff, Nat.add_right_cancel_iff, Nat.reduceAdd, Nat.add_zero, Nat.zero_add, Nat.add_assoc, Nat.reduceLeDiff, Nat.reduceBEq, List.length_cons, List.length_nil, List.drop_zero, List.drop_succ_cons, List.take_succ_cons, List.take_zero, List.take_nil, List.drop_nil, List.getElem?_cons_zero, List.getElem?_cons_succ, reduceCtorEq, Nat.succ_ne_self, Nat.one_ne_zero, Nat.le_refl, ne_eq, not_false_eq_true]
      exact ⟨by simp [befSb, hne], hG.trans hM'⟩
  · simp -dsimp only [↓w_seq, ↓w_ops, ↓w_skip, ↓w_ret, ↓w_exit, ↓w_scope, ↓w_block, ↓w_cond, cond_true', cond_false', ↓t_nil, ↓t_plain, ↓t_guard, ↓t_gagain, ↓t_again, t_val, t_call, g_true, g_false, ga_true, ga_false, a_val, a_call, ↓n_normal, ↓n_ret, ↓n_exit, ↓b_normal, ↓b_ret, ↓b_exit, ↓e_normal, ↓e_ret, e_some, go_sem, ↓reduceIte, Nat.reduceEqDiff, Nat.reduceLT, Nat.reduceSub, A_order_Before_0, A_order_Before_1, A_order_Before_2, A_order_Before_3, Int.lt_irrefl, true_and, and_true, false_and, and_false, and_self, same_two, same_sib, same_spot, vload, vptr, vof, V.cells, Mem.read, rdCells, Mem.get_push, Mem.next_push, Nat.left_eq_add, Nat.add_eq_left, Nat.add_left_cancel_iff, Nat.add_right_cancel_iff, Nat.reduceAdd, Nat.add_zero, Nat.zero_add, Nat.add_assoc, Nat.reduceLeDiff, Nat.reduceBEq, List.length_cons, List.length_nil, List.drop_zero, List.drop_succ_cons, List.take_succ_cons, List.take_zero, List.take_nil, List.drop_nil, List.getElem?_cons_zero, List.getElem?_cons_succ, reduceCtorEq, Nat.succ_ne_self, Nat.one_ne_zero, Nat.le_refl, ne_eq, not_false_eq_true, h0]
    refine call_eq (poskey_Compare_runs D hD.pk.1 hD.pk.2 hD.sc _ _ _) ?_
    simp -dsimp only [↓w_seq, ↓w_ops, ↓w_skip, ↓w_ret, ↓w_exit, ↓w_scope, ↓w_block, ↓w_cond, cond_true', cond_false', ↓t_nil, ↓t_plain, ↓t_guard, ↓t_gagain, ↓t_again, t_val, t_call, g_true, g_false, ga_true, ga_false, a_val, a_call, ↓n_normal, ↓n_ret, ↓n_exit, ↓b_normal, ↓b_ret, ↓b_exit, ↓e_normal, ↓e_ret, e_some, go_sem, ↓reduceIte, Nat.reduceEqDiff, Nat.reduceLT, Nat.reduceSub, A_order_Before_0, A_order_Before_1, A_order_Before_2, A_order_Before_3, Int.lt_irrefl, true_and, and_true, false_and, and_false, and_self, same_two, same_sib, same_spot, vload, vptr, vof, V.cells, Mem.read, rdCells, Mem.get_push, Mem.next_push, Nat.left_eq_add, Nat.add_eq_left, Nat.add_left_cancel_iff, Nat.add_right_cancel_iff, Nat.reduceAdd, Nat.add_zero, Nat.zero_add, Nat.add_assoc, Nat.reduceLeDiff, Nat.reduceBEq, List.length_cons, List.length_nil, List.drop_zero, List.drop_succ_cons, List.take_succ_cons, List.take_zero, List.take_nil, List.drop_nil, List.getElem?_cons_zero, List.getElem?_cons_succ, reduceCtorEq, Nat.succ_ne_self, Nat.one_ne_zero, Nat.le_refl, ne_eq, not_false_eq_true]
    exact ⟨by simp [befSb, h0], hG⟩

theorem order_Sort_c1_runs {D : Decls} (hD : HasCmp D) (a b : Sb) (M : Mem) : Runs D F_order_Sort_c1 [.agg (sbC a), .agg (sbC b)] M fun v M' => v = .int .i64 (cmpSb a b) ∧ Grew M M' := by
  refine Runs.walk (F := A_order_Sort_c1) hD.c1.1 hD.c1.2 (by rfl) ?_
  unfold A_order_Sort_c1
  have hb := fun M => order_Before_runs hD a b M
  obtain ⟨a0, a1, a2⟩ := a
  obtain ⟨b0, b1, b2⟩ := b
  simp only [sbC] at hb ⊢
  have hG : Grew M ((M.push (.cells [.str a0, .int .i64 a1, .int .i64 a2] false)).push (.cells [.str b0, .int .i64 b1, .int .i64 b2] false)) := (Grew.push M _).trans (Grew.push _ _)
  by_cases h1 : a0 = b0 ∧ a1 = b1 ∧ a2 = b2
  · obtain ⟨rfl, rfl, rfl⟩ := h1
    simp -dsimp only [↓w_seq, ↓w_ops, ↓w_skip, ↓w_ret, ↓w_exit, ↓w_scope, ↓w_block, ↓w_cond, cond_true', cond_false', ↓t_nil, ↓t_plain, ↓t_guard, ↓t_gagain, ↓t_again, t_val, t_call, g_true, g_false, ga_true, ga_false, a_val, a_call, ↓n_normal, ↓n_ret, ↓n_exit, ↓b_normal, ↓b_ret, ↓b_exit, ↓e_normal, ↓e_ret, e_some, go_sem, ↓reduceIte, Nat.reduceEqDiff, Nat.reduceLT, Nat.reduceSub, A_order_Sort_c1_0, A_order_Sort_c1_1, A_order_Sort_c1_2, A_order_Sort_c1_3, A_order_Sort_c1_4, A_order_Sort_c1_5, Int.lt_irrefl, true_and, and_true, false_and, and_false, and_self, same_two, same_sib, same_spot, vload, vptr, vof, V.cells, Mem.read, rdCells, Mem.get_push, Mem.next_push, Nat.left_eq_add, Nat.add_eq_left, Nat.add_left_cancel_iff, Nat.add_right_cancel_iff, Nat.reduceAdd, Nat.add_zero, Nat.zero_add, Nat.add_assoc, Nat.reduceLeDiff, Nat.reduceBEq, List.length_cons, List.length_nil, List.drop_zero, List.drop_succ_cons, List.take_succ_cons, List.take_zero, List.take_nil, List.drop_nil, List.getElem?_cons_zero, List.getElem?_cons_succ, reduceCtorEq, Nat.succ_ne_self, Nat.one_ne_zero, Nat.le_refl, ne_eq, not_false_eq_true]
    exact ⟨by simp [cmpSb], hG⟩
  · have hne : ¬ ((a0, a1, a2) : Sb) = (b0, b1, b2) := fun e => h1 (by cases e; exact ⟨rfl, rfl, rfl⟩)
    simp -dsimp only [↓w_seq, ↓w_ops, ↓w_skip, ↓w_ret, ↓w_exit, ↓w_scope, ↓w_block, ↓w_cond, cond_true', cond_false', ↓t_nil, ↓t_plain, ↓t_guard, ↓t_gagain, ↓t_again, t_val, t_call, g_true, g_false, ga_true, ga_false, a_val, a_call, ↓n_normal, ↓n_ret, ↓n_exit, ↓b_normal, ↓b_ret, ↓b_exit, ↓e_normal, ↓e_ret, e_some, go_sem, ↓reduceIte, Nat.reduceEqDiff, Nat.reduceLT, Nat.reduceSub, A_order_Sort_c1_0, A_order_Sort_c1_1, A_order_Sort_c1_2, A_order_Sort_c1_3, A_order_Sort_c1_4, A_order_Sort_c1_5, Int.lt_irrefl, true_and, and_true, false_and, and_false, and_self, same_two, same_sib, same_spot, vload, vptr, vof, V.cells, Mem.read, rdCells, Mem.get_push, Mem.next_push, Nat.left_eq_add, Nat.add_eq_left, Nat.add_left_cancel_iff, Nat.add_right_cancel_iff, Nat.reduceAdd, Nat.add_zero, Nat.zero_add, Nat.add_assoc, Nat.reduceLeDiff, Nat.reduceBEq, List.length_cons, List.length_nil, List.drop_zero, List.drop_succ_cons, List.take_succ_cons, List.take_zero, List.take_nil, List.drop_nil, List.getElem?_cons_zero, List.getElem?_cons_succ, reduceCtorEq, Nat.succ_ne_self, Nat.one_ne_zero, Nat.le_refl, ne_eq, not_false_eq_true, h1]
    refine call_of (hb _) ?_
    rintro v M' ⟨rfl, hM'⟩
    cases hq : befSb (a0, a1, a2) (b0, b1, b2)
    · simp -dsimp only [↓w_seq, ↓w_ops, ↓w_skip, ↓w_ret, ↓w_exit, ↓w_scope, ↓w_block, ↓w_cond, cond_true', cond_false', ↓t_nil, ↓t_plain, ↓t_guard, ↓t_gagain, ↓t_again, t_val, t_call, g_true, g_false, ga_true, ga_false, a_val, a_call, ↓n_normal, ↓n_ret, ↓n_exit, ↓b_normal, ↓b_ret, ↓b_exit, ↓e_normal, ↓e_ret, e_some, go_sem, ↓reduceIte, Nat.reduceEqDiff, Nat.reduceLT, Nat.reduceSub, A_order_Sort_c1_0, A_order_Sort_c1_1, A_order_Sort_c1_2, A_order_Sort_c1_3, A_order_Sort_c1_4, A_order_Sort_c1_5, Int.lt_irrefl, true_and, and_true, false_and, and_false, and_self, same_two, same_sib, same_spot, vload, vptr, vof, V.cells, Mem.read, rdCells, Mem.get_push, Mem.next_push, Nat.left_eq_add, Nat.add_eq_left, Nat.add_left_cancel_iff, Nat.add_right_cancel_iff, Nat.reduceAdd, Nat.add_zero, Nat.zero_add, Nat.add_assoc, Nat.reduceLeDiff, Nat.reduceBEq, List.length_cons, List.length_nil, List.drop_zero, List.drop_succ_cons, List.take_succ_cons, List.take_zero, List.take_nil, List.drop_nil, List.getElem?_cons_zero, List.getElem?_cons_succ, reduceCtorEq, Nat.succ_ne_self, Nat.one_ne_zero, Nat.le_refl, ne_eq, not_false_eq_true]
      exact ⟨by simp [cmpSb, hne, hq], hG.trans hM'⟩
    · simp -dsimp only [↓w_seq, ↓w_ops, ↓w_skip, ↓w_ret, ↓w_exit, ↓w_scope, ↓w_block, ↓w_cond, cond_true', cond_false', ↓t_nil, ↓t_plain, ↓t_guard, ↓t_gagain, ↓t_again, t_val, t_call, g_true, g_false, ga_true, ga_false, a_val, a_call, ↓n_normal, ↓n_ret, ↓n_exit, ↓b_normal, ↓b_ret, ↓b_exit, ↓e_normal, ↓e_ret, e_some, go_sem, ↓reduceIte, Nat.reduceEqDiff, Nat.reduceLT, Nat.reduceSub, A_order_Sort_c1_0, A_order_Sort_c1_1, A_order_Sort_c1_2, A_order_Sort_c1_3, A_order_Sort_c1_4, A_order_Sort_c1_5, Int.lt_irrefl, true_and, and_true, false_and, and_false, and_self, same_two, same_sib, same_spot, vload, vptr, vof, V.cells, Mem.read, rdCells, Mem.get_push, Mem.next_push, Nat.left_eq_add, Nat.add_eq_left, Nat.add_left_cancel_iff, Nat.add_right_cancel_iff, Nat.reduceAdd, Nat.add_zero, Nat.zero_add, Nat.add_assoc, Nat.reduceLeDiff, Nat.reduceBEq, List.length_cons, List.length_nil, List.drop_zero, List.drop_succ_cons, List.take_succ_cons, List.take_zero, List.take_nil, List.drop_nil, List.getElem?_cons_zero, List.getElem?_cons_succ, reduceCtorEq, Nat.succ_ne_self, Nat.one_ne_zero, Nat.le_refl, ne_eq, not_false_eq_true]
      exact ⟨by simp [cmpSb, hne, hq], hG.trans hM'⟩
def ltSb (a b : Sb) : Bool := if a.1 = b.1 then ltSt a.2 b.2 else decide (cmpB a.1 b.1 < 0)
theorem bef_is (a b : Sb) : befSb a b = ltSb a b := by
  unfold befSb ltSb
  by_cases h : a.1 = b.1
  · rw [if_pos h, if_pos h, ← ltOf_St]
    unfold ltOf
    by_cases h2 : a = b
    · subst h2; simp [cmpSt]
    · simp [h2]
  · rw [if_neg h, if_neg h]
theorem ltOf_Sb (a b : Sb) : ltOf cmpSb a b = ltSb a b := by
  unfold ltOf cmpSb
  rw [bef_is]
  by_cases h : a = b
  · subst h; simp [ltSb, swo_St.irrefl]
  · cases hq : ltSb a b <;> simp [h]
theorem cmpB_neg (a b : List UInt8) : cmpB a b < 0 ↔ cmpB a b = -1 := by
  rcases cmp_three a b with h | h | h <;> simp [h]
theorem ltSb_iff (a b : Sb) : ltSb a b = true ↔ (a.1 = b.1 ∧ ltSt a.2 b.2 = true) ∨ cmpB a.1 b.1 = -1 := by
  unfold ltSb
  by_cases h : a.1 = b.1
  · rw [if_pos h, h, cmp_self]; simp
  · rw [if_neg h, decide_eq_true_eq, cmpB_neg]; simp [h]
theorem cmpB_total {a b : List UInt8} (h1 : cmpB a b ≠ -1) (h2 : cmpB b a ≠ -1) : a = b := by
  rcases cmp_three a b with h | h | h
  · exact absurd h h1
  · exact cmp_eq h
  · rw [cmp_neg a b, h] at h2; exact absurd rfl h2
theorem swo_Sb : SWO ltSb where
  irrefl x := by simp [ltSb, swo_St.irrefl]
  trans x y z h1 h2 := by
    rw [ltSb_iff] at *
    rcases h1 with ⟨e1, h1⟩ | h1 <;> rcases h2 with ⟨e2, h2⟩ | h2
    · exact .inl ⟨e1.trans e2, swo_St.trans _ _ _ h1 h2⟩
    · exact .inr (by rw [e1]; exact h2)
    · exact .inr (by rw [← e2]; exact h1)
    · exact .inr (cmp_trans h1 h2)
  ntrans x y z h1 h2 := by
    have n : ∀ a b : Sb, ltSb a b = false ↔ ¬ ((a.1 = b.1 ∧ ltSt a.2 b.2 = true) ∨ cmpB a.1 b.1 = -1) := fun a b => by rw [← ltSb_iff]; simp
    rw [n] at *
    rintro (⟨e, h⟩ | h)
    · by_cases hxy : x.1 = y.1
      · have hyz : y.1 = z.1 := hxy ▸ e
        have h3 : ltSt x.2 y.2 = false := by cases hq : ltSt x.2 y.2 with | false => rfl | true => exact absurd (.inl ⟨hxy, hq⟩) h1
        have h4 : ltSt y.2 z.2 = false := by cases hq : ltSt y.2 z.2 with | false => rfl | true => exact absurd (.inl ⟨hyz, hq⟩) h2
        rw [swo_St.ntrans _ _ _ h3 h4] at h
        cases h
      · have h3 : cmpB y.1 x.1 = -1 := by
          rcases cmp_three y.1 x.1 with q | q | q
          · exact q
          · exact absurd (cmp_eq q).symm hxy
          · exact absurd (.inr (by rw [cmp_neg y.1 x.1, q])) h1
        exact h2 (.inr (by rw [← e]; exact h3))
    · have h3 : cmpB x.1 y.1 ≠ -1 := fun q => h1 (.inr q)
      have h4 : cmpB y.1 z.1 ≠ -1 := fun q => h2 (.inr q)
      by_cases hxy : x.1 = y.1
      · exact h4 (by rw [← hxy]; exact h)
      · have h5 : cmpB y.1 x.1 = -1 := by
          rcases cmp_three y.1 x.1 with q | q | q
          · exact q
          · exact absurd (cmp_eq q).symm hxy
          · exact absurd (by rw [cmp_neg y.1 x.1, q]) h3
        exact h4 (cmp_trans h5 h)
theorem tot_Sb (x y : Sb) (h1 : ltSb x y = false) (h2 : ltSb y x = false) : x = y := by
  have n : ∀ a b : Sb, ltSb a b = false ↔ ¬ ((a.1 = b.1 ∧ ltSt a.2 b.2 = true) ∨ cmpB a.1 b.1 = -1) := fun a b => by rw [← ltSb_iff]; simp
  rw [n] at *
  have e : x.1 = y.1 := cmpB_total (fun q => h1 (.inr q)) (fun q => h2 (.inr q))
  have e2 : x.2 = y.2 := tot_St _ _ (by cases hq : ltSt x.2 y.2 with | false => rfl | true => exact absurd (.inl ⟨e, hq⟩) h1) (by cases hq : ltSt y.2 x.2 with | false => rfl | true => exact absurd (.inl ⟨e.symm, hq⟩) h2)
  exact Prod.ext e e2

/-! ### in cells -/
def decSb : List V → Option Sb
  | [.str s, .int .i64 a, .int .i64 b] => some (s, a, b)
  | _ => none
def elSb : Elem Sb where
  k := 3
  cv := sbC
  enc x := [.string ⟨x.1.toArray⟩, .int .i64 x.2.1, .int .i64 x.2.2]
  dec := decSb
  k_pos := by omega
  len _ := rfl
  elen _ := rfl
  dec_some cs x h := by unfold decSb at h; split at h <;> cases h; rfl
  dec_cv _ := rfl
  rel E x := .cons (by have := VR.str (E := E) ⟨x.1.toArray⟩; simpa using this) (.cons (.int _ _) (.cons (.int _ _) .nil))
  rel_eq E x us h := by
    cases h with
    | cons h1 t => cases t with
      | cons h2 t => cases t with
        | cons h3 t =>
          cases t; cases h2; cases h3
          generalize hs : V.str x.1 = v at h1
          cases h1 <;> first | (cases hs; done) | skip
          rename_i s
          have hx := V.str.inj hs
          rw [hx]
  one x v hv := by simp at hv; rcases hv with rfl | rfl | rfl <;> rfl
  one' _ := rfl
  flat _ := rfl

/-! ### the sort: the compare alone, no variable in sight -/
theorem cc1 : cFunc Tryz.prog gln Tryz.f129 = some A_poskey_Compare := by kernel_rfl
theorem cc2 : cFunc Tryz.prog gln Tryz.f83 = some A_order_Before := by kernel_rfl
theorem cc3 : cFunc Tryz.prog gln Tryz.f82 = some A_order_Sort_c1 := by kernel_rfl
def Db0 : Decls := ⟨codeOf [(F_stamp_Compare, A_stamp_Compare), (F_poskey_Compare, A_poskey_Compare), (F_order_Before, A_order_Before), (F_order_Sort_c1, A_order_Sort_c1)], fun _ => none⟩
theorem dokb0 : DOK Tryz.prog gln Db0 := dok_codes mixed (by
  simp only [List.forall_mem_cons]
  exact ⟨⟨_, Tryz.func107, (by kernel_rfl), cmp_code⟩, ⟨_, Tryz.func129, (by kernel_rfl), cc1⟩, ⟨_, Tryz.func83, (by kernel_rfl), cc2⟩, ⟨_, Tryz.func82, (by kernel_rfl), cc3⟩, fun x hx => by cases hx⟩)
def Db : Decls := Db0.add F_strings_Compare pCompare
theorem dokb : DOK Tryz.prog gln Db := dokb0.add (compare_ok gln)
theorem hasCmpb : HasCmp Db := ⟨⟨rfl, by rfl⟩, ⟨rfl, by rfl⟩, ⟨rfl, by rfl⟩, ⟨rfl, by rfl⟩, rfl⟩
theorem sortSb_ok : CallOK Tryz.prog gl0 fun f' args M => if f' = F_slices_SortFunc_Sib then sortP elSb F_order_Sort_c1 ltSb args M else none := by
  have h := sort_callOK (P := Tryz.prog) (gl := gl0) (α := Sb) Tryz.sortSib elSb Tryz.isAgg77 Tryz.sizeOf77 cmpSb (by rw [show ltOf cmpSb = ltSb from funext fun a => funext fun b => ltOf_Sb a b]; exact swo_Sb)
    (by rw [show ltOf cmpSb = ltSb from funext fun a => funext fun b => ltOf_Sb a b]; exact tot_Sb) F_order_Sort_c1 ⟨_, Tryz.func82, (by kernel_rfl), (by kernel_rfl)⟩ ⟨_, Tryz.func131, (by kernel_rfl), (by kernel_rfl)⟩ (by
      intro x y w
      obtain ⟨k, v, M', hr, rfl, _⟩ := order_Sort_c1_runs hasCmpb x y mem0
      obtain ⟨_, hs⟩ := callN_sound dokb k _ _ mem0 _ M' hr
      refine (hs emb0 w #[.agg (elSb.enc x).toArray, .agg (elSb.enc y).toArray] (rel0 w) (fun x hx => by cases hx) (.cons (.agg (elSb.rel _ x)) (.cons (.agg (elSb.rel _ y)) .nil))).mono ?_
      rintro e w' ⟨E', v', rfl, hv', _, hX⟩
      cases hv'
      exact ⟨rfl, grown_of hX⟩)
  rw [show ltOf cmpSb = ltSb from funext fun a => funext fun b => ltOf_Sb a b] at h
  exact h
end Go.Am.Tryz.O


/- Siblings that a function hands on, one by one, collected: slices.AppendSeq, slices.Collect. -/
namespace Go.Am.Tryz.O
open Go Go.Am Go.Proofs Go.Sort Go.Shelf
set_option maxRecDepth 100000
set_option linter.unusedSimpArgs false
set_option linter.unusedVariables false


abbrev XP := XRuns Tryz.prog gl0
/-- What is so while siblings come. -/
structure CollJ (M : Mem) (lp : LoopState → Option Code → O) (pre : List Sb) (M' : Mem) : Prop where
  old : ∀ c, c < M.next → M'.get c = M.get c
  next : M.next + 2 ≤ M'.next
  loop : M'.get (M.next + 1) = some (lp .ready none)
  box : ∃ s, M'.get M.next = some (.cells [s] false) ∧ Hold (M.next + 2) M' 3 s pre.length (elSb.all pre) ∧ (pre = [] → s = .slice none 0 (.exact 0))

theorem CollJ.other {M : Mem} {lp : LoopState → Option Code → O} {pre : List Sb} {M1 M2 : Mem} (h : CollJ M lp pre M1) (hn : M1.next ≤ M2.next) (hk : ∀ c, c < M1.next → (∀ b s k l, M1.get c ≠ some (.mapIter b s k l)) → M2.get c = M1.get c) (hold : ∀ c, c < M.next → M2.get c = M1.get c)
    (hlp : ∀ st p b s k l, lp st p ≠ .mapIter b s k l) : CollJ M lp pre M2 := by
  obtain ⟨a, b, c, s, d, e, e'⟩ := h
  refine ⟨fun q hq => (hold q hq).trans (a q hq), by omega, ?_, s, ?_, e.keep (fun q hq => hk q (e.blk_le hq).2.1 ?_) hn, e'⟩
  · rw [hk _ (by omega) (fun b s k l => by rw [c]; intro h; exact hlp _ _ _ _ _ _ (Option.some.inj h))]; exact c
  · rw [hk _ (by omega) (fun b s k l => by rw [d]; intro h; cases h)]; exact d
  · intro b s k l
    rw [(e.blk_le hq).2.2]
    intro h; cases h

theorem sbC_len (x : Sb) : (sbC x).length = 3 := rfl
theorem AppendSeq_runs {f : FuncId} {first captured : List V} {G : Mem → Prop} {S Sp : List Sb → Prop} {N : Nat} (hseq : SeqX Tryz.prog gl0 f first captured (fun x => .agg (sbC x)) G S Sp N) (hN : (N + 1) * 32 ≤ maxRoom) (M : Mem)
    (hG : ∀ M', (∀ c, c < M.next → M'.get c = M.get c) → M.next ≤ M'.next → G M') :
    XP F_slices_AppendSeq_Sib [.slice none 0 (.exact 0), .fn f first captured] M fun v M' => ∃ xs, S xs ∧ (∀ c, c < M.next → M'.get c = M.get c) ∧ Hold M.next M' 3 v xs.length (elSb.all xs) ∧ (xs = [] → v = .slice none 0 (.exact 0)) := by
  refine XRuns.walk mixed Tryz.func148 b_slices_AppendSeq_Sib n_slices_AppendSeq_Sib r_slices_AppendSeq_Sib (by rfl) ?_
  unfold X_slices_AppendSeq_Sib
  simp -dsimp only [↓x_seq', ↓x_ops, ↓x_skip, ↓x_ret, ↓x_exit, ↓x_block', ↓x_cond', cond_true', cond_false', ↓i_nil, ↓i_plain, ↓i_guard, xs_val, xs_call, xs_yield, xg_true, xg_false, ↓n_normal, ↓n_ret, ↓n_exit, ↓b_normal, ↓b_ret, ↓b_exit, ↓xe_normal, ↓xe_ret, e_some, yieldOf, go_sem, ↓reduceIte, Nat.reduceEqDiff, Nat.reduceLT, Nat.reduceSub, X_slices_AppendSeq_Sib_0, X_slices_AppendSeq_Sib_1, X_slices_AppendSeq_Sib_2, X_slices_AppendSeq_Sib_3, X_slices_AppendSeq_Sib_6, Int.lt_irrefl, true_and, and_true, false_and, and_false, and_self, same_two, same_sib, same_spot, vload, vptr, vof, V.cells, Mem.read, rdCells, Mem.get_push, Mem.next_push, Nat.left_eq_add, Nat.add_eq_left, Nat.add_left_cancel_iff, Nat.add_right_cancel_iff, Nat.reduceAdd, Nat.add_zero, Nat.zero_add, Nat.add_assoc, Nat.reduceLeDiff, Nat.reduceBEq, List.length_cons, List.length_nil, List.drop_zero, List.drop_succ_cons, List.take_succ_cons, List.take_zero, List.take_nil, List.drop_nil, List.getElem?_cons_zero, List.getElem?_cons_succ, reduceCtorEq, Nat.succ_ne_self, Nat.one_ne_zero, Nat.le_refl, ne_eq, not_false_eq_true]
  refine x_range' _ _ _ _ _ (f := f) (first := first) (captured := captured) (by simp only [go_sem, ↓reduceIte, Nat.reduceEqDiff, Nat.reduceLT, Nat.reduceSub]) ?_
  intro lp hlp hY
  have hb0 : (M.push (.cells [.slice none 0 (.exact 0)] false)).next = M.next + 1 := rfl
  rw [hb0] at hY ⊢
  have hst : CollJ M lp [] ((M.push (.cells [.slice none 0 (.exact 0)] false)).push (lp .ready none)) := by
    refine ⟨fun c hc => ?_, by simp, ?_, .slice none 0 (.exact 0), ?_, .nil, fun _ => rfl⟩
    · rw [Mem.get_push_ne _ _ (by simp; omega), Mem.get_push_ne _ _ (by omega)]
    · rw [← hb0, Mem.get_push_same]
    · rw [Mem.get_push_ne _ _ (by simp), Mem.get_push_same]
  refine (hseq (M.next + 1) (CollJ M lp) (fun _ _ => False) _ (fun pre M' h => hG M' h.old (by have := h.next; omega)) (fun pre M' o h => ?_) (fun pre M' o o' h => ?_) (fun pre M' c b s k l h hcn hi => ?_) (fun pre x M' h hlen => ?_) hst).mono ?_
  · exact h.other (by simp) (fun c hc _ => Mem.get_push_ne _ _ (by omega)) (fun c hc => Mem.get_push_ne _ _ (by have := h.next; omega)) hlp
  · have hn : ∀ c, c ≠ M'.next → ((M'.push o).set M'.next o').get c = M'.get c := fun c hc => by rw [Mem.get_set_ne _ _ hc, Mem.get_push_ne _ _ hc]
    exact h.other (by simp) (fun c hc _ => hn c (by omega)) (fun c hc => hn c (by have := h.next; omega)) hlp
  · obtain ⟨b', s', k', l', hi⟩ := hi
    refine h.other (by simp) (fun c' _ hc' => Mem.get_set_ne _ _ (fun e => hc' b' s' k' l' (by rw [e]; exact hi))) (fun c' hc' => Mem.get_set_ne _ _ (by simp at hcn; omega)) hlp
  · -- a round
    refine hY [.agg (sbC x)] M' _ h.loop rfl ?_
    unfold X_slices_AppendSeq_Sib_4 X_slices_AppendSeq_Sib_5
    obtain ⟨s, hbox, hH, _⟩ := h.box
    have hnx := h.next
    have hw0 := write_full (M := M'.push (.cells [.str [], .int .i64 0, .int .i64 0] false)) (b := M'.next) (vs := sbC x) (Mem.get_push_same _ _) rfl rfl
    simp -dsimp only [↓x_seq', ↓x_ops, ↓x_skip, ↓x_ret, ↓x_exit, ↓x_block', ↓x_cond', cond_true', cond_false', ↓i_nil, ↓i_plain, ↓i_guard, xs_val, xs_call, xs_yield, xg_true, xg_false, ↓n_normal, ↓n_ret, ↓n_exit, ↓b_normal, ↓b_ret, ↓b_exit, ↓xe_normal, ↓xe_ret, e_some, yieldOf, go_sem, ↓reduceIte, Nat.reduceEqDiff, Nat.reduceLT, Nat.reduceSub, X_slices_AppendSeq_Sib_0, X_slices_AppendSeq_Sib_1, X_slices_AppendSeq_Sib_2, X_slices_AppendSeq_Sib_3, X_slices_AppendSeq_Sib_6, Int.lt_irrefl, true_and, and_true, false_and, and_false, and_self, same_two, same_sib, same_spot, vload, vptr, vof, V.cells, Mem.read, rdCells, Mem.get_push, Mem.next_push, Nat.left_eq_add, Nat.add_eq_left, Nat.add_left_cancel_iff, Nat.add_right_cancel_iff, Nat.reduceAdd, Nat.add_zero, Nat.zero_add, Nat.add_assoc, Nat.reduceLeDiff, Nat.reduceBEq, List.length_cons, List.length_nil, List.drop_zero, List.drop_succ_cons, List.take_succ_cons, List.take_zero, List.take_nil, List.drop_nil, List.getElem?_cons_zero, List.getElem?_cons_succ, reduceCtorEq, Nat.succ_ne_self, Nat.one_ne_zero, Nat.le_refl, ne_eq, not_false_eq_true, putAll', List.zip_cons_cons, List.zip_nil_right, List.foldl_cons, List.foldl_nil, vstore, hw0, sbC_len]
    -- the memory with the round's own variable
    have k1 : ∀ c, c ≠ M'.next → ((M'.push (.cells [.str [], .int .i64 0, .int .i64 0] false)).set M'.next (.cells (sbC x) false)).get c = M'.get c := fun c hc => by rw [Mem.get_set_ne _ _ hc, Mem.get_push_ne _ _ hc]
    have k2 : ((M'.push (.cells [.str [], .int .i64 0, .int .i64 0] false)).set M'.next (.cells (sbC x) false)).get M'.next = some (.cells (sbC x) false) := Mem.get_set_same _ _ _
    have k3 : ((M'.push (.cells [.str [], .int .i64 0, .int .i64 0] false)).set M'.next (.cells (sbC x) false)).next = M'.next + 1 := rfl
    generalize (M'.push (.cells [.str [], .int .i64 0, .int .i64 0] false)).set M'.next (.cells (sbC x) false) = M1 at *
    refine ⟨rfl, (k1 _ (by omega)).trans h.loop, ?_⟩
    have l1 : ∀ c, c ≠ M.next + 1 → (M1.set (M.next + 1) (lp .busy none)).get c = M1.get c := fun c hc => Mem.get_set_ne _ _ hc
    have l2 : (M1.set (M.next + 1) (lp .busy none)).get (M.next + 1) = some (lp .busy none) := Mem.get_set_same _ _ _
    have l3 : (M1.set (M.next + 1) (lp .busy none)).next = M'.next + 1 := k3
    generalize M1.set (M.next + 1) (lp .busy none) = M2 at *
    have hb2 : M2.get M.next = some (.cells [s] false) := by rw [l1 _ (by omega), k1 _ (by omega)]; exact hbox
    have hx2 : M2.get M'.next = some (.cells (sbC x) false) := by rw [l1 _ (by omega)]; exact k2
    have hH2 : Hold (M.next + 2) M2 3 s pre.length (elSb.all pre) := hH.keep (fun c hc => by have := hH.blk_le hc; rw [l1 _ (by omega), k1 _ (by omega)]) (by omega)
    simp -dsimp only [↓x_seq', ↓x_ops, ↓x_skip, ↓x_ret, ↓x_exit, ↓x_block', ↓x_cond', cond_true', cond_false', ↓i_nil, ↓i_plain, ↓i_guard, xs_val, xs_call, xs_yield, xg_true, xg_false, ↓n_normal, ↓n_ret, ↓n_exit, ↓b_normal, ↓b_ret, ↓b_exit, ↓xe_normal, ↓xe_ret, e_some, yieldOf, go_sem, ↓reduceIte, Nat.reduceEqDiff, Nat.reduceLT, Nat.reduceSub, X_slices_AppendSeq_Sib_0, X_slices_AppendSeq_Sib_1, X_slices_AppendSeq_Sib_2, X_slices_AppendSeq_Sib_3, X_slices_AppendSeq_Sib_6, Int.lt_irrefl, true_and, and_true, false_and, and_false, and_self, same_two, same_sib, same_spot, vload, vptr, vof, V.cells, Mem.read, rdCells, Mem.get_push, Mem.next_push, Nat.left_eq_add, Nat.add_eq_left, Nat.add_left_cancel_iff, Nat.add_right_cancel_iff, Nat.reduceAdd, Nat.add_zero, Nat.zero_add, Nat.add_assoc, Nat.reduceLeDiff, Nat.reduceBEq, List.length_cons, List.length_nil, List.drop_zero, List.drop_succ_cons, List.take_succ_cons, List.take_zero, List.take_nil, List.drop_nil, List.getElem?_cons_zero, List.getElem?_cons_succ, reduceCtorEq, Nat.succ_ne_self, Nat.one_ne_zero, Nat.le_refl, ne_eq, not_false_eq_true, hb2, hx2, sbC, fillCells, repl, wrCells, List.append_nil]
    have hH3 : Hold (M.next + 2) (M2.push (.cells (sbC x) false)) 3 s pre.length (elSb.all pre) := hH2.keep (fun c hc => Mem.get_push_ne _ _ (by have := hH2.blk_le hc; omega)) (by simp)
    obtain ⟨M4, hap, hH4, hn4, ho4⟩ := hH3.append (bytes := 32) (m := 1) (x := .slice (some (M2.next, 0)) 1 (.exact 1)) (new := sbC x) (by simp; omega) rfl
      (by
        have := read_all (Mem.get_push_same M2 (.cells (sbC x) false))
        simp only [srcCells, beq_dec, Nat.one_mul, Nat.reduceEqDiff, decide_false, cond_false]
        exact this) (by omega) rfl (by omega) rfl
    simp only [sbC] at hap
    rw [hap]
    have hne4 : ∀ c, c < M'.next → s.blk ≠ some c → c ≠ M.next + 1 → M4.get c = M'.get c := fun c hc hs hl => by
      rw [ho4 c (by simp; omega) hs, Mem.get_push_ne _ _ (by omega), l1 _ hl, k1 _ (by omega)]
    have hsn : s.blk ≠ some M.next := fun e => by have := (hH.blk_le e).1; omega
    have hsl : s.blk ≠ some (M.next + 1) := fun e => by have := (hH.blk_le e).1; omega
    have hb4 : M4.get M.next = some (.cells [s] false) := by rw [hne4 _ (by omega) hsn (by omega)]; exact hbox
    simp only [Mem.next_push] at hap hH4 hn4 ho4
    have hw4 := write_one (v := .slice (some (M2.next + 1, 0)) (pre.length + 1) (.upto 3)) hb4 (show 0 < 1 by omega) rfl
    simp -dsimp only [↓x_seq', ↓x_ops, ↓x_skip, ↓x_ret, ↓x_exit, ↓x_block', ↓x_cond', cond_true', cond_false', ↓i_nil, ↓i_plain, ↓i_guard, xs_val, xs_call, xs_yield, xg_true, xg_false, ↓n_normal, ↓n_ret, ↓n_exit, ↓b_normal, ↓b_ret, ↓b_exit, ↓xe_normal, ↓xe_ret, e_some, yieldOf, go_sem, ↓reduceIte, Nat.reduceEqDiff, Nat.reduceLT, Nat.reduceSub, X_slices_AppendSeq_Sib_0, X_slices_AppendSeq_Sib_1, X_slices_AppendSeq_Sib_2, X_slices_AppendSeq_Sib_3, X_slices_AppendSeq_Sib_6, Int.lt_irrefl, true_and, and_true, false_and, and_false, and_self, same_two, same_sib, same_spot, vload, vptr, vof, V.cells, Mem.read, rdCells, Mem.get_push, Mem.next_push, Nat.left_eq_add, Nat.add_eq_left, Nat.add_left_cancel_iff, Nat.add_right_cancel_iff, Nat.reduceAdd, Nat.add_zero, Nat.zero_add, Nat.add_assoc, Nat.reduceLeDiff, Nat.reduceBEq, List.length_cons, List.length_nil, List.drop_zero, List.drop_succ_cons, List.take_succ_cons, List.take_zero, List.take_nil, List.drop_nil, List.getElem?_cons_zero, List.getElem?_cons_succ, reduceCtorEq, Nat.succ_ne_self, Nat.one_ne_zero, Nat.le_refl, ne_eq, not_false_eq_true, vstore, hw4, List.set_cons_zero]
    have u := Upd.set M4 M.next (.cells [.slice (some (M2.next + 1, 0)) (pre.length + 1) (.upto 3)] false)
    generalize M4.set M.next (.cells [.slice (some (M2.next + 1, 0)) (pre.length + 1) (.upto 3)] false) = M5 at *
    have hl5 : M5.get (M.next + 1) = some (lp .busy none) := by
      rw [u.other _ (by omega), ho4 _ (by omega) hsl, Mem.get_push_ne _ _ (by omega)]; exact l2
    refine ⟨hl5, .inl ⟨rfl, ⟨fun c hc => ?_, ?_, Mem.get_set_same _ _ _, ?_⟩, by simp only [Mem.next_set]; rw [u.next, hn4]; omega, fun c hc hi => ?_⟩⟩
    · rw [Mem.get_set_ne _ _ (by omega), u.other _ (by omega), hne4 c (by omega) (fun e => by have := (hH.blk_le e).1; omega) (by omega)]
      exact h.old c hc
    · simp only [Mem.next_set]; rw [u.next, hn4]; omega
    · refine ⟨.slice (some (M2.next + 1, 0)) (pre.length + 1) (.upto 3), ?_, ?_, fun h => by simp at h⟩
      · rw [Mem.get_set_ne _ _ (by omega)]; exact u.at_
      · have e1 : elSb.all (pre ++ [x]) = elSb.all pre ++ sbC x := by simp [Elem.all, elSb]
        rw [e1, List.length_append, List.length_cons, List.length_nil]
        refine hH4.keep (fun c hc => ?_) (by simp only [Mem.next_set]; rw [u.next]; exact Nat.le_refl _)
        have := hH4.blk_le hc
        simp only [V.blk, Option.some.injEq] at hc
        rw [Mem.get_set_ne _ _ (by omega), u.other _ (by omega)]
    · obtain ⟨b', s', k', l', hi⟩ := hi
      have c1 : c ≠ M.next + 1 := fun e => by
        rw [e] at hi; rw [h.loop] at hi; exact hlp _ _ _ _ _ _ (Option.some.inj hi)
      have c2 : c ≠ M.next := fun e => by rw [e] at hi; rw [hbox] at hi; cases hi
      rw [Mem.get_set_ne _ _ c1, u.other _ c2]
      exact hne4 c hc (fun e => by rw [(hH.blk_le e).2.2] at hi; cases hi) c1
  · -- all have come
    intro v M' h
    rcases h with ⟨xs, hS, hJ⟩ | ⟨pre, _, hS⟩
    · refine .inl ⟨hJ.loop, ?_⟩
      obtain ⟨s, hbox, hH, hnil⟩ := hJ.box
      have hnx := hJ.next
      have k1 : ∀ c, c ≠ M.next + 1 → (M'.set (M.next + 1) (lp .exhausted none)).get c = M'.get c := fun c hc => Mem.get_set_ne _ _ hc
      have k2 : (M'.set (M.next + 1) (lp .exhausted none)).next = M'.next := rfl
      generalize M'.set (M.next + 1) (lp .exhausted none) = M2 at *
      have hb2 : M2.get M.next = some (.cells [s] false) := (k1 _ (by omega)).trans hbox
      simp -dsimp only [↓x_seq', ↓x_ops, ↓x_skip, ↓x_ret, ↓x_exit, ↓x_block', ↓x_cond', cond_true', cond_false', ↓i_nil, ↓i_plain, ↓i_guard, xs_val, xs_call, xs_yield, xg_true, xg_false, ↓n_normal, ↓n_ret, ↓n_exit, ↓b_normal, ↓b_ret, ↓b_exit, ↓xe_normal, ↓xe_ret, e_some, yieldOf, go_sem, ↓reduceIte, Nat.reduceEqDiff, Nat.reduceLT, Nat.reduceSub, X_slices_AppendSeq_Sib_0, X_slices_AppendSeq_Sib_1, X_slices_AppendSeq_Sib_2, X_slices_AppendSeq_Sib_3, X_slices_AppendSeq_Sib_6, Int.lt_irrefl, true_and, and_true, false_and, and_false, and_self, same_two, same_sib, same_spot, vload, vptr, vof, V.cells, Mem.read, rdCells, Mem.get_push, Mem.next_push, Nat.left_eq_add, Nat.add_eq_left, Nat.add_left_cancel_iff, Nat.add_right_cancel_iff, Nat.reduceAdd, Nat.add_zero, Nat.zero_add, Nat.add_assoc, Nat.reduceLeDiff, Nat.reduceBEq, List.length_cons, List.length_nil, List.drop_zero, List.drop_succ_cons, List.take_succ_cons, List.take_zero, List.take_nil, List.drop_nil, List.getElem?_cons_zero, List.getElem?_cons_succ, reduceCtorEq, Nat.succ_ne_self, Nat.one_ne_zero, Nat.le_refl, ne_eq, not_false_eq_true, hb2]
      refine ⟨xs, hS, fun c hc => (k1 c (by omega)).trans (hJ.old c hc), ?_, hnil⟩
      exact (hH.keep (fun c hc => k1 c (by have := (hH.blk_le hc).1; omega)) (by omega)).lower (by omega)
    · exact hS.elim

theorem Collect_runs {f : FuncId} {first captured : List V} {G : Mem → Prop} {S Sp : List Sb → Prop} {N : Nat} (hseq : SeqX Tryz.prog gl0 f first captured (fun x => .agg (sbC x)) G S Sp N) (hN : (N + 1) * 32 ≤ maxRoom) (M : Mem)
    (hG : ∀ M', (∀ c, c < M.next → M'.get c = M.get c) → M.next ≤ M'.next → G M') :
    XP F_slices_Collect_Sib [.fn f first captured] M fun v M' => ∃ xs, S xs ∧ (∀ c, c < M.next → M'.get c = M.get c) ∧ Hold M.next M' 3 v xs.length (elSb.all xs) ∧ (xs = [] → v = .slice none 0 (.exact 0)) := by
  refine XRuns.walk mixed Tryz.func130 b_slices_Collect_Sib n_slices_Collect_Sib r_slices_Collect_Sib (by rfl) ?_
  unfold X_slices_Collect_Sib
  simp -dsimp only [↓x_seq', ↓x_ops, ↓x_skip, ↓x_ret, ↓x_exit, ↓x_block', ↓x_cond', cond_true', cond_false', ↓i_nil, ↓i_plain, ↓i_guard, xs_val, xs_call, xs_yield, xg_true, xg_false, ↓n_normal, ↓n_ret, ↓n_exit, ↓b_normal, ↓b_ret, ↓b_exit, ↓xe_normal, ↓xe_ret, e_some, yieldOf, go_sem, ↓reduceIte, Nat.reduceEqDiff, Nat.reduceLT, Nat.reduceSub, X_slices_Collect_Sib_0, X_slices_Collect_Sib_1, Int.lt_irrefl, true_and, and_true, false_and, and_false, and_self, same_two, same_sib, same_spot, vload, vptr, vof, V.cells, Mem.read, rdCells, Mem.get_push, Mem.next_push, Nat.left_eq_add, Nat.add_eq_left, Nat.add_left_cancel_iff, Nat.add_right_cancel_iff, Nat.reduceAdd, Nat.add_zero, Nat.zero_add, Nat.add_assoc, Nat.reduceLeDiff, Nat.reduceBEq, List.length_cons, List.length_nil, List.drop_zero, List.drop_succ_cons, List.take_succ_cons, List.take_zero, List.take_nil, List.drop_nil, List.getElem?_cons_zero, List.getElem?_cons_succ, reduceCtorEq, Nat.succ_ne_self, Nat.one_ne_zero, Nat.le_refl, ne_eq, not_false_eq_true]
  refine xcall_of (AppendSeq_runs hseq hN M hG) ?_
  intro v M' h
  simp -dsimp only [↓x_seq', ↓x_ops, ↓x_skip, ↓x_ret, ↓x_exit, ↓x_block', ↓x_cond', cond_true', cond_false', ↓i_nil, ↓i_plain, ↓i_guard, xs_val, xs_call, xs_yield, xg_true, xg_false, ↓n_normal, ↓n_ret, ↓n_exit, ↓b_normal, ↓b_ret, ↓b_exit, ↓xe_normal, ↓xe_ret, e_some, yieldOf, go_sem, ↓reduceIte, Nat.reduceEqDiff, Nat.reduceLT, Nat.reduceSub, X_slices_Collect_Sib_0, X_slices_Collect_Sib_1, Int.lt_irrefl, true_and, and_true, false_and, and_false, and_self, same_two, same_sib, same_spot, vload, vptr, vof, V.cells, Mem.read, rdCells, Mem.get_push, Mem.next_push, Nat.left_eq_add, Nat.add_eq_left, Nat.add_left_cancel_iff, Nat.add_right_cancel_iff, Nat.reduceAdd, Nat.add_zero, Nat.zero_add, Nat.add_assoc, Nat.reduceLeDiff, Nat.reduceBEq, List.length_cons, List.length_nil, List.drop_zero, List.drop_succ_cons, List.take_succ_cons, List.take_zero, List.take_nil, List.drop_nil, List.getElem?_cons_zero, List.getElem?_cons_succ, reduceCtorEq, Nat.succ_ne_self, Nat.one_ne_zero, Nat.le_refl, ne_eq, not_false_eq_true]
  exact h
end Go.Am.Tryz.O


/- slices.Values handed on; slices.SortedFunc; order.Sort. -/
namespace Go.Am.Tryz.O
open Go Go.Am Go.Proofs Go.Sort Go.Shelf
set_option maxRecDepth 100000
set_option linter.unusedSimpArgs false
set_option linter.unusedVariables false


theorem Values_loop (bx b : Nat) (s : V) (xs : List Sb) (hl : xs.length < 2 ^ 62) (J Jx : List Sb → Mem → Prop) (Mz : Mem) (hG : ∀ pre M, J pre M → SlR elSb M s xs) (hps : ∀ pre M o o', J pre M → J pre ((M.push o).set M.next o'))
    (hY : ∀ pre x M', J pre M' → pre.length < xs.length → XYield Tryz.prog gl0 b [.agg (sbC x)] M' fun v M'' => (v = .bool true ∧ J (pre ++ [x]) M'' ∧ M'.next ≤ M''.next ∧ ∀ c, c < M'.next → isIter M' c → M''.get c = M'.get c) ∨ (v = .bool false ∧ Jx (pre ++ [x]) M''))
    (Q : XQ) (hQ : ∀ fr M, J xs M → Q (.exit 0) fr M) (hQx : ∀ pre fr M, pre <+: xs → Jx pre M → Q .ret fr M) :
    ∀ (f i : Nat) (fr : Fr) (M : Mem), i + f = xs.length → J (xs.take i) M → fr.rd 0 = .yld b → fr.rd 5 = s → fr.rd 6 = .int .i64 (xs.length : Int) → fr.rd 7 = .int .i64 (i : Int) →
    roundsX (WX Tryz.prog gl0 16 X_slices_Values_Sib_c1_5 false) (f + 1) fr M Q := by
  intro f
  induction f with
  | zero =>
    intro i fr M hi hJ h0 h5 h6 h7
    rw [rounds_x_succ]
    refine xw_of ?_
    unfold X_slices_Values_Sib_c1_5
    have : ¬ (i : Int) < xs.length := by omega
    simp -dsimp only [↓x_seq', ↓x_ops, ↓x_skip, ↓x_ret, ↓x_exit, ↓x_block', ↓x_cond', cond_true', cond_false', ↓i_nil, ↓i_plain, ↓i_guard, xs_val, xs_call, xs_yield, xg_true, xg_false, ↓n_normal, ↓n_ret, ↓n_exit, ↓b_normal, ↓b_ret, ↓b_exit, ↓xe_normal, ↓xe_ret, e_some, yieldOf, go_sem, ↓reduceIte, Nat.reduceEqDiff, Nat.reduceLT, Nat.reduceSub, X_slices_Values_Sib_c1_0, X_slices_Values_Sib_c1_1, X_slices_Values_Sib_c1_2, X_slices_Values_Sib_c1_3, X_slices_Values_Sib_c1_4, h0, h5, h6, h7, this, decide_false]
    refine hQ _ _ ?_
    rwa [List.take_of_length_le (by omega)] at hJ
  | succ f ih =>
    intro i fr M hi hJ h0 h5 h6 h7
    rw [rounds_x_succ]
    refine xw_of ?_
    unfold X_slices_Values_Sib_c1_5
    have hlt : i < xs.length := by omega
    have h1 : (i : Int) < xs.length := by omega
    have h2 : i + 1 ≤ xs.length := by omega
    obtain ⟨a, cap, rfl, hS⟩ := hG _ _ hJ
    rcases hS with hS | ⟨bb, o, cs, ro, rfl, hM, hrd⟩
    · subst hS; simp at hlt
    have hr := hrd i hlt
    simp only [elSb] at hr
    have hw0 := write_full (M := M.push (.cells [.str [], .int .i64 0, .int .i64 0] false)) (b := M.next) (vs := sbC xs[i]) (Mem.get_push_same _ _) rfl rfl
    have hrd0 : rdCells cs (o + i * 3) 3 = some (sbC xs[i]) := hr
    have rd3 : rdCells (sbC xs[i]) 0 3 = some (sbC xs[i]) := rfl
    simp -dsimp only [↓x_seq', ↓x_ops, ↓x_skip, ↓x_ret, ↓x_exit, ↓x_block', ↓x_cond', cond_true', cond_false', ↓i_nil, ↓i_plain, ↓i_guard, xs_val, xs_call, xs_yield, xg_true, xg_false, ↓n_normal, ↓n_ret, ↓n_exit, ↓b_normal, ↓b_ret, ↓b_exit, ↓xe_normal, ↓xe_ret, e_some, yieldOf, go_sem, ↓reduceIte, Nat.reduceEqDiff, Nat.reduceLT, Nat.reduceSub, X_slices_Values_Sib_c1_0, X_slices_Values_Sib_c1_1, X_slices_Values_Sib_c1_2, X_slices_Values_Sib_c1_3, X_slices_Values_Sib_c1_4, h0, h5, h6, h7, h1, h2, vload, Mem.read, hM, hrd0, vstore, V.cells, sbC_len, hw0, Nat.reduceEqDiff, Mem.get_set_same, rd3]
    have hJ1 := hps _ _ (.cells [.str [], .int .i64 0, .int .i64 0] false) (.cells (sbC xs[i]) false) hJ
    have hti : (xs.take i).length < xs.length := by rw [List.length_take]; omega
    have htk : xs.take i ++ [xs[i]] = xs.take (i + 1) := by rw [List.take_add_one, List.getElem?_eq_getElem hlt]; rfl
    refine xyield_of (hY _ xs[i] _ hJ1 hti) ?_
    rw [htk]
    rintro v M2 (⟨rfl, hJ2, _⟩ | ⟨rfl, hJ2⟩)
    · have h3 : (i : Int) + 1 = ((i + 1 : Nat) : Int) := by omega
      simp -dsimp only [↓x_seq', ↓x_ops, ↓x_skip, ↓x_ret, ↓x_exit, ↓x_block', ↓x_cond', cond_true', cond_false', ↓i_nil, ↓i_plain, ↓i_guard, xs_val, xs_call, xs_yield, xg_true, xg_false, ↓n_normal, ↓n_ret, ↓n_exit, ↓b_normal, ↓b_ret, ↓b_exit, ↓xe_normal, ↓xe_ret, e_some, yieldOf, go_sem, ↓reduceIte, Nat.reduceEqDiff, Nat.reduceLT, Nat.reduceSub, X_slices_Values_Sib_c1_0, X_slices_Values_Sib_c1_1, X_slices_Values_Sib_c1_2, X_slices_Values_Sib_c1_3, X_slices_Values_Sib_c1_4, h7, IntWalk.i64_in ((i : Int) + 1) (by omega)]
      refine ih (i + 1) _ M2 (by omega) hJ2 ?_ ?_ ?_ ?_ <;> simp only [go_sem, ↓reduceIte, Nat.reduceEqDiff, Nat.reduceLT, Nat.reduceSub, h0, h5, h6, h3]
    · simp -dsimp only [↓x_seq', ↓x_ops, ↓x_skip, ↓x_ret, ↓x_exit, ↓x_block', ↓x_cond', cond_true', cond_false', ↓i_nil, ↓i_plain, ↓i_guard, xs_val, xs_call, xs_yield, xg_true, xg_false, ↓n_normal, ↓n_ret, ↓n_exit, ↓b_normal, ↓b_ret, ↓b_exit, ↓xe_normal, ↓xe_ret, e_some, yieldOf, go_sem, ↓reduceIte, Nat.reduceEqDiff, Nat.reduceLT, Nat.reduceSub, X_slices_Values_Sib_c1_0, X_slices_Values_Sib_c1_1, X_slices_Values_Sib_c1_2, X_slices_Values_Sib_c1_3, X_slices_Values_Sib_c1_4]
      exact hQx _ _ _ (List.take_prefix _ _) hJ2

/-- The elements of a slice, handed on. -/
theorem Values_seq (bx : Nat) (s : V) (ro : Bool) (xs : List Sb) (hl : xs.length < 2 ^ 62) :
    SeqX Tryz.prog gl0 F_slices_Values_Sib_c1 [] [.ptr (some (bx, 0))] (fun x => .agg (sbC x)) (fun M => M.get bx = some (.cells [s] ro) ∧ SlR elSb M s xs) (fun ys => ys = xs) (fun pre => pre <+: xs) xs.length := by
  intro b J Jx M hG hp hps hi hY hJ
  refine XRuns.walk mixed Tryz.func132 b_slices_Values_Sib_c1 n_slices_Values_Sib_c1 r_slices_Values_Sib_c1 (by rfl) ?_
  unfold X_slices_Values_Sib_c1
  obtain ⟨h1, h2⟩ := hG _ _ hJ
  obtain ⟨a, cap, rfl, hS⟩ := h2
  simp -dsimp only [↓x_seq', ↓x_ops, ↓x_skip, ↓x_ret, ↓x_exit, ↓x_block', ↓x_cond', cond_true', cond_false', ↓i_nil, ↓i_plain, ↓i_guard, xs_val, xs_call, xs_yield, xg_true, xg_false, ↓n_normal, ↓n_ret, ↓n_exit, ↓b_normal, ↓b_ret, ↓b_exit, ↓xe_normal, ↓xe_ret, e_some, yieldOf, go_sem, ↓reduceIte, Nat.reduceEqDiff, Nat.reduceLT, Nat.reduceSub, X_slices_Values_Sib_c1_0, X_slices_Values_Sib_c1_1, X_slices_Values_Sib_c1_2, X_slices_Values_Sib_c1_3, X_slices_Values_Sib_c1_4, Int.lt_irrefl, true_and, and_true, false_and, and_false, and_self, same_two, same_sib, same_spot, vload, vptr, vof, V.cells, Mem.read, rdCells, Mem.get_push, Mem.next_push, Nat.left_eq_add, Nat.add_eq_left, Nat.add_left_cancel_iff, Nat.add_right_cancel_iff, Nat.reduceAdd, Nat.add_zero, Nat.zero_add, Nat.add_assoc, Nat.reduceLeDiff, Nat.reduceBEq, List.length_cons, List.length_nil, List.drop_zero, List.drop_succ_cons, List.take_succ_cons, List.take_zero, List.take_nil, List.drop_nil, List.getElem?_cons_zero, List.getElem?_cons_succ, reduceCtorEq, Nat.succ_ne_self, Nat.one_ne_zero, Nat.le_refl, ne_eq, not_false_eq_true, List.singleton_append, h1]
  refine ⟨xs.length - 0 + 1, Values_loop bx b (.slice a xs.length cap) xs hl J Jx M (fun pre M' h => (hG pre M' h).2) hps hY _ ?_ ?_ (xs.length - 0) 0 _ M (by omega) (by simpa using hJ) ?_ ?_ ?_ ?_⟩
  · intro fr M' h
    simp -dsimp only [↓x_seq', ↓x_ops, ↓x_skip, ↓x_ret, ↓x_exit, ↓x_block', ↓x_cond', cond_true', cond_false', ↓i_nil, ↓i_plain, ↓i_guard, xs_val, xs_call, xs_yield, xg_true, xg_false, ↓n_normal, ↓n_ret, ↓n_exit, ↓b_normal, ↓b_ret, ↓b_exit, ↓xe_normal, ↓xe_ret, e_some, yieldOf, go_sem, ↓reduceIte, Nat.reduceEqDiff, Nat.reduceLT, Nat.reduceSub]
    exact .inl ⟨xs, rfl, h⟩
  · intro pre fr M' hpre h
    simp -dsimp only [↓x_seq', ↓x_ops, ↓x_skip, ↓x_ret, ↓x_exit, ↓x_block', ↓x_cond', cond_true', cond_false', ↓i_nil, ↓i_plain, ↓i_guard, xs_val, xs_call, xs_yield, xg_true, xg_false, ↓n_normal, ↓n_ret, ↓n_exit, ↓b_normal, ↓b_ret, ↓b_exit, ↓xe_normal, ↓xe_ret, e_some, yieldOf, go_sem, ↓reduceIte, Nat.reduceEqDiff, Nat.reduceLT, Nat.reduceSub]
    exact .inr ⟨pre, hpre, h⟩
  all_goals simp only [go_sem, ↓reduceIte, Nat.reduceEqDiff, Nat.reduceLT, Nat.reduceSub]
  rfl
end Go.Am.Tryz.O


/- slices.SortedFunc of a slice's values, as a part; order.Sort. -/
namespace Go.Am.Tryz.O
open Go Go.Am Go.Proofs Go.Sort Go.Shelf
set_option maxRecDepth 100000
set_option linter.unusedSimpArgs false
set_option linter.unusedVariables false


def D1s : Decls := D1.addM F_slices_SortFunc_Sib (sortP elSb F_order_Sort_c1 ltSb)
theorem dok1s : DOK Tryz.prog gl0 D1s := dok1.addM sortSb_ok

theorem SortFunc_hold {lo : Nat} {M : Mem} {s : V} {xs : List Sb} (h : Hold lo M 3 s xs.length (elSb.all xs)) (hn : xs.length ≤ maxRoom) :
    Runs D1s F_slices_SortFunc_Sib [s, .fn F_order_Sort_c1 [] []] M fun v M' => Hold lo M' 3 s xs.length (elSb.all (isort ltSb xs)) ∧ (∀ c, c < lo → M'.get c = M.get c) := by
  have hd := elSb.decs_all xs
  have hl := elSb.all_len (isort ltSb xs)
  rw [isort_len] at hl
  generalize hq : xs.length = n at *
  generalize hc : elSb.all xs = cs at *
  cases h with
  | nil =>
    have : xs = [] := List.eq_nil_of_length_eq_zero hq
    subst this
    exact Runs.prim rfl rfl ⟨.nil, fun _ _ => rfl⟩
  | row h1 h2 h3 h4 =>
    rename_i b
    refine Runs.prim (v := .tup []) (M' := M.set b (.cells (elSb.all (isort ltSb xs)) false)) rfl ?_ ⟨.row (Mem.get_set_same _ _ _) hl h3 (by simpa using h4), fun c hc => Mem.get_set_ne _ _ (by omega)⟩
    simp only [sortP, Nat.beq_refl, cond_true, ble_iff, decide_eq_true hn, h1, hd, Option.map_some]

theorem SortedFunc_runs {f : FuncId} {first captured : List V} {G : Mem → Prop} {S Sp : List Sb → Prop} {N : Nat} (hseq : SeqX Tryz.prog gl0 f first captured (fun x => .agg (sbC x)) G S Sp N) (hN : (N + 1) * 32 ≤ maxRoom) (hS : ∀ xs, S xs → xs.length ≤ maxRoom) (M : Mem)
    (hG : ∀ M', (∀ c, c < M.next → M'.get c = M.get c) → M.next ≤ M'.next → G M') :
    XP F_slices_SortedFunc_Sib [.fn f first captured, .fn F_order_Sort_c1 [] []] M fun v M' => ∃ xs, S xs ∧ (∀ c, c < M.next → M'.get c = M.get c) ∧ Hold M.next M' 3 v xs.length (elSb.all (isort ltSb xs)) ∧ (xs = [] → v = .slice none 0 (.exact 0)) := by
  refine XRuns.walk mixed Tryz.func84 b_slices_SortedFunc_Sib n_slices_SortedFunc_Sib r_slices_SortedFunc_Sib (by rfl) ?_
  unfold X_slices_SortedFunc_Sib
  simp -dsimp only [↓x_seq', ↓x_ops, ↓x_skip, ↓x_ret, ↓x_exit, ↓x_block', ↓x_cond', cond_true', cond_false', ↓i_nil, ↓i_plain, ↓i_guard, xs_val, xs_call, xs_yield, xg_true, xg_false, ↓n_normal, ↓n_ret, ↓n_exit, ↓b_normal, ↓b_ret, ↓b_exit, ↓xe_normal, ↓xe_ret, e_some, yieldOf, go_sem, ↓reduceIte, Nat.reduceEqDiff, Nat.reduceLT, Nat.reduceSub, X_slices_SortedFunc_Sib_0, X_slices_SortedFunc_Sib_1, X_slices_SortedFunc_Sib_2, X_slices_SortedFunc_Sib_3, Int.lt_irrefl, true_and, and_true, false_and, and_false, and_self, same_two, same_sib, same_spot, vload, vptr, vof, V.cells, Mem.read, rdCells, Mem.get_push, Mem.next_push, Nat.left_eq_add, Nat.add_eq_left, Nat.add_left_cancel_iff, Nat.add_right_cancel_iff, Nat.reduceAdd, Nat.add_zero, Nat.zero_add, Nat.add_assoc, Nat.reduceLeDiff, Nat.reduceBEq, List.length_cons, List.length_nil, List.drop_zero, List.drop_succ_cons, List.take_succ_cons, List.take_zero, List.take_nil, List.drop_nil, List.getElem?_cons_zero, List.getElem?_cons_succ, reduceCtorEq, Nat.succ_ne_self, Nat.one_ne_zero, Nat.le_refl, ne_eq, not_false_eq_true]
  refine xcall_of (Collect_runs hseq hN M hG) ?_
  rintro v M1 ⟨xs, h1, h2, h3, h6⟩
  simp -dsimp only [↓x_seq', ↓x_ops, ↓x_skip, ↓x_ret, ↓x_exit, ↓x_block', ↓x_cond', cond_true', cond_false', ↓i_nil, ↓i_plain, ↓i_guard, xs_val, xs_call, xs_yield, xg_true, xg_false, ↓n_normal, ↓n_ret, ↓n_exit, ↓b_normal, ↓b_ret, ↓b_exit, ↓xe_normal, ↓xe_ret, e_some, yieldOf, go_sem, ↓reduceIte, Nat.reduceEqDiff, Nat.reduceLT, Nat.reduceSub, X_slices_SortedFunc_Sib_0, X_slices_SortedFunc_Sib_1, X_slices_SortedFunc_Sib_2, X_slices_SortedFunc_Sib_3, Int.lt_irrefl, true_and, and_true, false_and, and_false, and_self, same_two, same_sib, same_spot, vload, vptr, vof, V.cells, Mem.read, rdCells, Mem.get_push, Mem.next_push, Nat.left_eq_add, Nat.add_eq_left, Nat.add_left_cancel_iff, Nat.add_right_cancel_iff, Nat.reduceAdd, Nat.add_zero, Nat.zero_add, Nat.add_assoc, Nat.reduceLeDiff, Nat.reduceBEq, List.length_cons, List.length_nil, List.drop_zero, List.drop_succ_cons, List.take_succ_cons, List.take_zero, List.take_nil, List.drop_nil, List.getElem?_cons_zero, List.getElem?_cons_succ, reduceCtorEq, Nat.succ_ne_self, Nat.one_ne_zero, Nat.le_refl, ne_eq, not_false_eq_true]
  refine xcall_of (XRuns.of_runs dok1s (SortFunc_hold h3 (hS xs h1))) ?_
  rintro v2 M2 ⟨h4, h5⟩
  simp -dsimp only [↓x_seq', ↓x_ops, ↓x_skip, ↓x_ret, ↓x_exit, ↓x_block', ↓x_cond', cond_true', cond_false', ↓i_nil, ↓i_plain, ↓i_guard, xs_val, xs_call, xs_yield, xg_true, xg_false, ↓n_normal, ↓n_ret, ↓n_exit, ↓b_normal, ↓b_ret, ↓b_exit, ↓xe_normal, ↓xe_ret, e_some, yieldOf, go_sem, ↓reduceIte, Nat.reduceEqDiff, Nat.reduceLT, Nat.reduceSub, X_slices_SortedFunc_Sib_0, X_slices_SortedFunc_Sib_1, X_slices_SortedFunc_Sib_2, X_slices_SortedFunc_Sib_3, Int.lt_irrefl, true_and, and_true, false_and, and_false, and_self, same_two, same_sib, same_spot, vload, vptr, vof, V.cells, Mem.read, rdCells, Mem.get_push, Mem.next_push, Nat.left_eq_add, Nat.add_eq_left, Nat.add_left_cancel_iff, Nat.add_right_cancel_iff, Nat.reduceAdd, Nat.add_zero, Nat.zero_add, Nat.add_assoc, Nat.reduceLeDiff, Nat.reduceBEq, List.length_cons, List.length_nil, List.drop_zero, List.drop_succ_cons, List.take_succ_cons, List.take_zero, List.take_nil, List.drop_nil, List.getElem?_cons_zero, List.getElem?_cons_succ, reduceCtorEq, Nat.succ_ne_self, Nat.one_ne_zero, Nat.le_refl, ne_eq, not_false_eq_true]
  exact ⟨xs, h1, fun c hc => (h5 c hc).trans (h2 c hc), h4, h6⟩

/-- What a slice's values come to, sorted. -/
def pSorted (args : List V) (M : Mem) : Option KeepR :=
  match args with
  | [.fn f1 [] [.ptr (some (bx, 0))], .fn f2 [] []] => cond (Nat.beq f1 F_slices_Values_Sib_c1) (cond (Nat.beq f2 F_order_Sort_c1) (match M.get bx with
    | some (.cells [s] _) => (readSl elSb M s).bind fun xs => cond (Nat.ble ((xs.length + 1) * 32) maxRoom) (some (match xs with
      | [] => .flat (.slice none 0 (.exact 0))
      | x :: xs => .row (xs.length + 1) 3 (elSb.all (isort ltSb (x :: xs))))) none
    | _ => none) none) none
  | _ => none
theorem pSorted_ok : CallOK Tryz.prog gl0 fun f' args M => if f' = F_slices_SortedFunc_Sib then (pSorted args M).map fun r => r.res M else none := by
  refine callOK_keep ⟨_, Tryz.func84, (by kernel_rfl), (by kernel_rfl)⟩ ?_
  intro args M r h hwf
  refine ⟨[], fun _ _ _ _ _ b hb => absurd hb (by simp), fun Mz hz => ?_⟩
  have hMz : ∀ c, Mz.get c = M.get c := fun c => hz.other c (by simp)
  have hlt : ∀ c o, Mz.get c = some o → c < Mz.next := fun c o hc => by
    rcases Nat.lt_or_ge c Mz.next with h1 | h1
    · exact h1
    · rw [hMz, hwf c (by rw [← hz.next]; exact h1)] at hc; cases hc
  unfold pSorted at h
  split at h
  · rename_i f1 bx f2
    obtain ⟨e1, h1⟩ := cond_some h
    clear h
    obtain ⟨e2, h⟩ := cond_some h1
    clear h1
    obtain rfl : f1 = F_slices_Values_Sib_c1 := Nat.eq_of_beq_eq_true e1
    obtain rfl : f2 = F_order_Sort_c1 := Nat.eq_of_beq_eq_true e2
    split at h
    · rename_i s ro hbx
      simp only [Option.bind_eq_some_iff] at h
      obtain ⟨xs, hxs, h⟩ := h
      obtain ⟨hl, h⟩ := cond_some h
      rw [ble_iff, decide_eq_true_eq] at hl
      obtain ⟨hsl, hle⟩ := readSl_is hxs
      have hbz : Mz.get bx = some (.cells [s] ro) := (hMz bx).trans hbx
      have hslz : SlR elSb Mz s xs := hsl.keep fun b _ => hMz b
      have hbl : ∀ b, s.blk = some b → xs ≠ [] → b < Mz.next := by
        intro b hb hne
        obtain ⟨a, cap, rfl, hq⟩ := hslz
        rcases hq with hq | ⟨b', o, cs, ro', rfl, hq, _⟩
        · exact absurd hq hne
        · simp only [V.blk, Option.some.injEq] at hb
          subst hb
          exact hlt _ _ hq
      refine (SortedFunc_runs (Values_seq bx s ro xs (by unfold maxRoom at hle; omega)) hl (fun ys h => by rw [h]; exact hle) Mz ?_).mono ?_
      · intro M' hk _
        refine ⟨(hk bx (hlt _ _ hbz)).trans hbz, ?_⟩
        obtain ⟨a, cap, rfl, hq⟩ := hslz
        refine ⟨a, cap, rfl, ?_⟩
        rcases hq with hq | ⟨b', o, cs, ro', rfl, hq, hr⟩
        · exact .inl hq
        · exact .inr ⟨b', o, cs, ro', rfl, (hk b' (hlt _ _ hq)).trans hq, hr⟩
      · rintro v M' ⟨ys, rfl, h1, h2, h6⟩
        cases h
        refine ⟨fun c hc => h1 c (by rw [hz.next]; exact hc), ?_⟩
        cases hx : ys with
        | nil =>
          subst hx
          exact ⟨rfl, h6 rfl⟩
        | cons x l =>
          subst hx
          refine ⟨elSb.all_flat _, ?_⟩
          generalize hq : elSb.all (isort ltSb (x :: l)) = cs at h2
          generalize hn : (x :: l).length = n at h2
          cases h2 with
          | nil => simp at hn
          | row a b c d =>
            refine ⟨_, by rw [← hz.next]; exact c, by rw [← hn]; rfl, a⟩
    · cases h
  · cases h

def D1t : Decls := D1s.addM F_slices_SortedFunc_Sib (fun args M => (pSorted args M).map fun r => r.res M)
theorem dok1t : DOK Tryz.prog gl0 D1t := dok1s.addM pSorted_ok
/-- Memory in which the two package variables stand alone. -/
def memG : Mem := Env.mem [(stC (0, 0), 0, 0, 2), (stC (0, 1), 1, 0, 2)]
/-- The same machine, with the laws' 'knows' among its code. -/
def Dk : Decls := ⟨codeOf (codesK ++ codes), D1t.prim⟩
theorem dokk : DOK Tryz.prog gl0 Dk := ⟨dok1t.mixed, fun f F hf => codesA_ok (f, F) (codeOf_get hf), dok1t.prim⟩
theorem knows_closed : (callN Dk 400 F_law11_knows [] memG).map (·.1) = some (.bool true) := by kernel_rfl
def pKnows (args : List V) (M : Mem) : Option (V × Mem) :=
  match args with
  | [] => cond (isG M) (some (.bool true, M)) none
  | _ => none
theorem memG_0 : memG.get 0 = some (.cells (stC (0, 0)) true) := by rw [memG, Env.get_mem]; rfl
theorem memG_1 : memG.get 1 = some (.cells (stC (0, 1)) true) := by rw [memG, Env.get_mem]; rfl
theorem pKnows_ok : CallOK Tryz.prog gl0 fun f' args M => if f' = F_law11_knows then pKnows args M else none := by
  obtain ⟨⟨v, M'⟩, h1, h2⟩ := Option.map_eq_some_iff.mp knows_closed
  simp only at h2
  subst h2
  refine prim_env dokk (M0 := memG) rfl ?_ ?_ h1 ?_
  · intro b hb
    rw [memG, Env.next_mem] at hb
    rw [memG, Env.get_mem, List.getElem?_eq_none hb]
    rfl
  · intro x hx
    rcases gl_two hx with rfl | rfl
    · exact ⟨_, memG_0, rfl⟩
    · exact ⟨_, memG_1, rfl⟩
  · intro args M r h
    unfold pKnows at h
    split at h
    · obtain ⟨hg, h⟩ := cond_some h
      cases h
      refine ⟨rfl, rfl, fun x hx => ?_⟩
      rcases gl_two hx with rfl | rfl
      · rw [(isG_is hg).1, memG_0]
      · rw [(isG_is hg).2, memG_1]
    · cases h
def D2 : Decls := D1t.addM F_law11_knows pKnows
theorem dok2 : DOK Tryz.prog gl0 D2 := dok1t.addM pKnows_ok
theorem knows_p {M : Mem} (h : isG M = true) : Runs D2 F_law11_knows [] M fun v M' => v = .bool true ∧ M' = M :=
  Runs.prim (v := .bool true) (M' := M) rfl (by simp only [pKnows, h, cond_true]) ⟨rfl, rfl⟩

theorem Values_runs (s : V) (M : Mem) : Runs D2 F_slices_Values_Sib [s] M fun v M' => v = .fn F_slices_Values_Sib_c1 [] [.ptr (some (M.next, 0))] ∧ Grew M M' ∧ M.next < M'.next ∧ M'.get M.next = some (.cells s.cells false) := by
  refine Runs.walk (F := A_slices_Values_Sib) rfl (by rfl) (by rfl) ?_
  unfold A_slices_Values_Sib
  simp -dsimp only [↓w_seq, ↓w_ops, A_slices_Values_Sib_0]
  simp -dsimp only [↓w_seq, ↓w_ops, ↓w_skip, ↓w_ret, ↓w_exit, ↓w_scope, ↓w_block, ↓w_cond, cond_true', cond_false', ↓t_nil, ↓t_plain, ↓t_guard, ↓t_gagain, ↓t_again, t_val, t_call, g_true, g_false, ga_true, ga_false, a_val, a_call, ↓n_normal, ↓n_ret, ↓n_exit, ↓b_normal, ↓b_ret, ↓b_exit, ↓e_normal, ↓e_ret, e_some, go_sem, ↓reduceIte, Nat.reduceEqDiff, Nat.reduceLT, Nat.reduceSub, A_slices_Values_Sib_0, A_slices_Values_Sib_1]
  exact ⟨trivial, Grew.push _ _, by simp, Mem.get_push_same _ _⟩
end Go.Am.Tryz.O


/- The reference's compare, of keys and of siblings; its Before. -/
namespace Go.Am.Tryz.O
open Go Go.Am Go.Proofs Go.Sort Go.Shelf
set_option maxRecDepth 100000
set_option linter.unusedSimpArgs false
set_option linter.unusedVariables false


theorem cmp_drop_lt {a b : List UInt8} {i : Nat} (ha : i < a.length) (hb : i < b.length) : cmpB (a.drop i) (b.drop i) = if a[i] < b[i] then -1 else if b[i] < a[i] then 1 else cmpB (a.drop (i + 1)) (b.drop (i + 1)) := by
  rw [List.drop_eq_getElem_cons ha, List.drop_eq_getElem_cons hb]
  rfl

theorem cmp_loop (a b : List UInt8) (ha : a.length < 2 ^ 63) (hb : b.length < 2 ^ 63) {Q : AExit → Fr → Mem → Prop} (M : Mem) (hQ : ∀ fr, fr.rd 4 = .int .i64 (cmpB a b) → Q .ret fr M)
    (hQ2 : ∀ fr i, fr.rd 0 = .str a → fr.rd 1 = .str b → i ≤ a.length → i ≤ b.length → (i = a.length ∨ i = b.length) → cmpB a b = cmpB (a.drop i) (b.drop i) → Q (.exit 0) fr M) :
    ∀ (f i : Nat) (fr : Fr), i + f = min a.length b.length → cmpB a b = cmpB (a.drop i) (b.drop i) → fr.rd 0 = .str a → fr.rd 1 = .str b → fr.rd 5 = .int .i64 (i : Int) → WC D2 42 (.loop A_ref04_Compare_8) fr M Q := by
  intro f
  induction f with
  | zero =>
    intro i fr hi hc h0 h1 h5
    refine WC.loop ?_
    unfold A_ref04_Compare_8
    refine WC.seq (WC.seq (WC.ops ?_))
    simp only [A_ref04_Compare_2, go_sem, ↓reduceIte, Nat.reduceEqDiff, Nat.reduceLT, h0, h1, h5]
    by_cases hia : (i : Int) < (a.length : Int)
    · have hib : ¬ (i : Int) < (b.length : Int) := by omega
      simp only [hia, hib, go_sem, ↓reduceIte, Nat.reduceEqDiff, Nat.reduceLT, h0, h1, h5]
      refine WC.test (t := false) (by simp only [go_sem, ↓reduceIte, Nat.reduceEqDiff, Nat.reduceLT]) (fun h => by cases h) (fun _ => WC.exit ?_)
      simp only [nextQ]
      exact hQ2 _ i (by simp only [go_sem, ↓reduceIte, Nat.reduceEqDiff, Nat.reduceLT, h0]) (by simp only [go_sem, ↓reduceIte, Nat.reduceEqDiff, Nat.reduceLT, h1]) (by omega) (by omega) (by omega) hc
    · simp only [hia, go_sem, ↓reduceIte, Nat.reduceEqDiff, Nat.reduceLT, h0, h1, h5]
      refine WC.test (t := false) (by simp only [go_sem, ↓reduceIte, Nat.reduceEqDiff, Nat.reduceLT]) (fun h => by cases h) (fun _ => WC.exit ?_)
      simp only [nextQ]
      exact hQ2 _ i (by simp only [go_sem, ↓reduceIte, Nat.reduceEqDiff, Nat.reduceLT, h0]) (by simp only [go_sem, ↓reduceIte, Nat.reduceEqDiff, Nat.reduceLT, h1]) (by omega) (by omega) (by omega) hc
  | succ f ih =>
    intro i fr hi hc h0 h1 h5
    have hia : (i : Int) < (a.length : Int) := by omega
    have hib : (i : Int) < (b.length : Int) := by omega
    have hla : i < a.length := by omega
    have hlb : i < b.length := by omega
    have ga : a[i]? = some a[i] := List.getElem?_eq_getElem hla
    have gb : b[i]? = some b[i] := List.getElem?_eq_getElem hlb
    rw [cmp_drop_lt hla hlb] at hc
    refine WC.loop ?_
    unfold A_ref04_Compare_8
    refine WC.seq (WC.seq (WC.ops ?_))
    simp only [A_ref04_Compare_2, hia, hib, go_sem, ↓reduceIte, Nat.reduceEqDiff, Nat.reduceLT, h0, h1, h5]
    refine WC.test (t := true) (by simp only [go_sem, ↓reduceIte, Nat.reduceEqDiff, Nat.reduceLT]) (fun _ => WC.skip ?_) (fun h => by cases h)
    simp only [nextQ]
    refine WC.seq (WC.block (WC.seq (WC.seq (WC.ops ?_))))
    simp only [A_ref04_Compare_3, ga, gb, go_sem, ↓reduceIte, Nat.reduceEqDiff, Nat.reduceLT, h0, h1, h5]
    refine WC.test (by simp only [go_sem, ↓reduceIte, Nat.reduceEqDiff, Nat.reduceLT]; rfl) (fun h => ?_) (fun h => WC.skip ?_)
    · have hlt : a[i] < b[i] := by have := of_decide_eq_true h; exact UInt8.lt_iff_toNat_lt.2 (by omega)
      refine WC.seq (WC.ops ?_)
      simp only [A_ref04_Compare_4, go_sem, ↓reduceIte, Nat.reduceEqDiff, Nat.reduceLT]
      refine WC.ret ?_
      simp only [nextQ, blockQ]
      refine hQ _ ?_
      simp only [go_sem, ↓reduceIte, Nat.reduceEqDiff, Nat.reduceLT]
      rw [hc, if_pos hlt]
    · have hlt : ¬ a[i] < b[i] := by
        have := of_decide_eq_false h
        intro e
        have := UInt8.lt_iff_toNat_lt.1 e
        omega
      simp only [nextQ]
      refine WC.seq (WC.ops ?_)
      simp only [A_ref04_Compare_5, ga, gb, go_sem, ↓reduceIte, Nat.reduceEqDiff, Nat.reduceLT, h0, h1, h5]
      refine WC.test (by simp only [go_sem, ↓reduceIte, Nat.reduceEqDiff, Nat.reduceLT]; rfl) (fun h => ?_) (fun h => WC.skip ?_)
      · have hgt : b[i] < a[i] := by have := of_decide_eq_true h; exact UInt8.lt_iff_toNat_lt.2 (by omega)
        refine WC.seq (WC.ops ?_)
        simp only [A_ref04_Compare_6, go_sem, ↓reduceIte, Nat.reduceEqDiff, Nat.reduceLT]
        refine WC.ret ?_
        simp only [nextQ, blockQ]
        refine hQ _ ?_
        simp only [go_sem, ↓reduceIte, Nat.reduceEqDiff, Nat.reduceLT]
        rw [hc, if_neg hlt, if_pos hgt]
      · have hgt : ¬ b[i] < a[i] := by
          have := of_decide_eq_false h
          intro e
          have := UInt8.lt_iff_toNat_lt.1 e
          omega
        simp only [nextQ, blockQ]
        refine WC.ops ?_
        simp only [A_ref04_Compare_7, go_sem, ↓reduceIte, Nat.reduceEqDiff, Nat.reduceLT, h5]
        rw [IntWalk.i64_in _ (by omega)]
        rw [if_neg hlt, if_neg hgt] at hc
        exact ih (i + 1) _ (by omega) hc (by simp only [go_sem, ↓reduceIte, Nat.reduceEqDiff, Nat.reduceLT, h0]) (by simp only [go_sem, ↓reduceIte, Nat.reduceEqDiff, Nat.reduceLT, h1]) (by simp only [go_sem, ↓reduceIte, Nat.reduceEqDiff, Nat.reduceLT]; rfl)

theorem cmp_end (a b : List UInt8) (i : Nat) (h1 : i ≤ a.length) (h2 : i ≤ b.length) (h3 : i = a.length ∨ i = b.length) : cmpB (a.drop i) (b.drop i) = if a.length < b.length then -1 else if b.length < a.length then 1 else 0 := by
  rcases h3 with rfl | rfl
  · rw [List.drop_length]
    cases hd : b.drop a.length with
    | nil =>
      have := List.drop_eq_nil_iff.1 hd
      rw [if_neg (by omega), if_neg (by omega)]; rfl
    | cons y l =>
      have : a.length < b.length := by
        apply Nat.lt_of_not_le
        intro h
        rw [List.drop_eq_nil_of_le h] at hd; cases hd
      rw [if_pos this]; rfl
  · rw [List.drop_length]
    cases hd : a.drop b.length with
    | nil =>
      have := List.drop_eq_nil_iff.1 hd
      rw [if_neg (by omega), if_neg (by omega)]; rfl
    | cons y l =>
      have : b.length < a.length := by
        apply Nat.lt_of_not_le
        intro h
        rw [List.drop_eq_nil_of_le h] at hd; cases hd
      rw [if_neg (by omega), if_pos this]; rfl

theorem rcompare_runs (a b : List UInt8) (ha : a.length < 2 ^ 63) (hb : b.length < 2 ^ 63) (M : Mem) : Runs D2 F_ref04_Compare [.str a, .str b] M fun v M' => v = .int .i64 (cmpB a b) ∧ M' = M := by
  refine Runs.of (F := A_ref04_Compare) rfl (by rfl) (by rfl) ?_
  unfold A_ref04_Compare
  refine WC.seq (WC.ops ?_)
  simp only [A_ref04_Compare_0, go_sem]
  refine WC.seq (WC.seq (WC.ops ?_))
  simp only [A_ref04_Compare_1, go_sem, ↓reduceIte, Nat.reduceEqDiff, Nat.reduceLT]
  refine WC.block (cmp_loop a b ha hb M ?_ ?_ (min a.length b.length) 0 _ (by omega) rfl (by simp only [go_sem, ↓reduceIte, Nat.reduceEqDiff, Nat.reduceLT]) (by simp only [go_sem, ↓reduceIte, Nat.reduceEqDiff, Nat.reduceLT]) (by simp only [go_sem, ↓reduceIte, Nat.reduceEqDiff, Nat.reduceLT]; rfl))
  · intro fr h
    simp only [go_sem, h]
    exact ⟨trivial, trivial⟩
  · intro fr i h0 h1 l1 l2 l3 hc
    rw [cmp_end a b i l1 l2 l3] at hc
    simp only [go_sem]
    refine WC.seq (WC.seq (WC.ops ?_))
    simp only [A_ref04_Compare_9, go_sem, ↓reduceIte, Nat.reduceEqDiff, Nat.reduceLT, h0, h1]
    refine WC.test (by simp only [go_sem, ↓reduceIte, Nat.reduceEqDiff, Nat.reduceLT]; rfl) (fun h => ?_) (fun h => WC.skip ?_)
    · have hlt : a.length < b.length := by have := of_decide_eq_true h; omega
      refine WC.seq (WC.ops ?_)
      simp only [A_ref04_Compare_10, go_sem, ↓reduceIte, Nat.reduceEqDiff, Nat.reduceLT]
      refine WC.ret ?_
      simp only [go_sem, ↓reduceIte, Nat.reduceEqDiff, Nat.reduceLT]
      rw [hc, if_pos hlt]
      exact ⟨rfl, trivial⟩
    · have hlt : ¬ a.length < b.length := by have := of_decide_eq_false h; omega
      simp only [nextQ]
      refine WC.seq (WC.seq (WC.ops ?_))
      simp only [A_ref04_Compare_11, go_sem, ↓reduceIte, Nat.reduceEqDiff, Nat.reduceLT, h0, h1]
      refine WC.test (by simp only [go_sem, ↓reduceIte, Nat.reduceEqDiff, Nat.reduceLT]; rfl) (fun h => ?_) (fun h => WC.skip ?_)
      · have hgt : b.length < a.length := by have := of_decide_eq_true h; omega
        refine WC.seq (WC.ops ?_)
        simp only [A_ref04_Compare_12, go_sem, ↓reduceIte, Nat.reduceEqDiff, Nat.reduceLT]
        refine WC.ret ?_
        simp only [go_sem, ↓reduceIte, Nat.reduceEqDiff, Nat.reduceLT]
        rw [hc, if_neg hlt, if_pos hgt]
        exact ⟨rfl, trivial⟩
      · have hgt : ¬ b.length < a.length := by have := of_decide_eq_false h; omega
        simp only [nextQ]
        refine WC.seq (WC.ops ?_)
        simp only [A_ref04_Compare_13, go_sem, ↓reduceIte, Nat.reduceEqDiff, Nat.reduceLT]
        refine WC.ret ?_
        simp only [go_sem, ↓reduceIte, Nat.reduceEqDiff, Nat.reduceLT]
        rw [hc, if_neg hlt, if_neg hgt]
        exact ⟨rfl, trivial⟩


theorem ref02_Compare_runs (a b : St) (M : Mem) : Runs D2 F_ref02_Compare [.agg (stC a), .agg (stC b)] M fun v M' => v = .int .i64 (cmpSt a b) ∧ Grew M M' :=
  (rcmp_p (D := D2) rfl a b).mono fun v M' h => ⟨h.1, by rw [h.2]; exact Grew.refl _⟩
theorem ltSt_neg (a b : St) : decide (cmpSt a b < 0) = ltSt a b := by
  have := ltOf_St a b
  unfold ltOf at this
  exact this

theorem ref11_Before_runs (a b : Sb) (ha : a.1.length < 2 ^ 63) (hb : b.1.length < 2 ^ 63) (M : Mem) : Runs D2 F_ref11_Before [.agg (sbC a), .agg (sbC b)] M fun v M' => v = .bool (ltSb a b) ∧ Grew M M' := by
  refine Runs.walk (F := A_ref11_Before) rfl (by rfl) (by rfl) ?_
  unfold A_ref11_Before
  obtain ⟨ka, a1, a2⟩ := a
  obtain ⟨kb, b1, b2⟩ := b
  simp only [sbC]
  simp -dsimp only [↓w_seq, ↓w_ops, ↓w_skip, ↓w_ret, ↓w_exit, ↓w_scope, ↓w_block, ↓w_cond, cond_true', cond_false', ↓t_nil, ↓t_plain, ↓t_guard, ↓t_gagain, ↓t_again, t_val, t_call, g_true, g_false, ga_true, ga_false, a_val, a_call, ↓n_normal, ↓n_ret, ↓n_exit, ↓b_normal, ↓b_ret, ↓b_exit, ↓e_normal, ↓e_ret, e_some, go_sem, ↓reduceIte, Nat.reduceEqDiff, Nat.reduceLT, Nat.reduceSub, A_ref11_Before_0, A_ref11_Before_1, A_ref11_Before_2, Int.lt_irrefl, true_and, and_true, false_and, and_false, and_self, same_two, same_sib, same_spot, vload, vptr, vof, V.cells, Mem.read, rdCells, Mem.get_push, Mem.next_push, Nat.left_eq_add, Nat.add_eq_left, Nat.add_left_cancel_iff, Nat.add_right_cancel_iff, Nat.reduceAdd, Nat.add_zero, Nat.zero_add, Nat.add_assoc, Nat.reduceLeDiff, Nat.reduceBEq, List.length_cons, List.length_nil, List.drop_zero, List.drop_succ_cons, List.take_succ_cons, List.take_zero, List.take_nil, List.drop_nil, List.getElem?_cons_zero, List.getElem?_cons_succ, reduceCtorEq, Nat.succ_ne_self, Nat.one_ne_zero, Nat.le_refl, ne_eq, not_false_eq_true]
  refine call_eq (rcompare_runs ka kb ha hb _) ?_
  have hG : Grew M ((M.push (.cells [.str ka, .int .i64 a1, .int .i64 a2] false)).push (.cells [.str kb, .int .i64 b1, .int .i64 b2] false)) := (Grew.push _ _).trans (Grew.push _ _)
  rcases cmp_three ka kb with h | h | h
  · rw [h]
    have hne : ¬ ka = kb := fun e => by subst e; rw [cmp_self] at h; cases h
    simp -dsimp only [↓w_seq, ↓w_ops, ↓w_skip, ↓w_ret, ↓w_exit, ↓w_scope, ↓w_block, ↓w_cond, cond_true', cond_false', ↓t_nil, ↓t_plain, ↓t_guard, ↓t_gagain, ↓t_again, t_val, t_call, g_true, g_false, ga_true, ga_false, a_val, a_call, ↓n_normal, ↓n_ret, ↓n_exit, ↓b_normal, ↓b_ret, ↓b_exit, ↓e_normal, ↓e_ret, e_some, go_sem, ↓reduceIte, Nat.reduceEqDiff, Nat.reduceLT, Nat.reduceSub, A_ref11_Before_0, A_ref11_Before_1, A_ref11_Before_2, Int.lt_irrefl, true_and, and_true, false_and, and_false, and_self, same_two, same_sib, same_spot, vload, vptr, vof, V.cells, Mem.read, rdCells, Mem.get_push, Mem.next_push, Nat.left_eq_add, Nat.add_eq_left, Nat.add_left_cancel_iff, Nat.add_right_cancel_iff, Nat.reduceAdd, Nat.add_zero, Nat.zero_add, Nat.add_assoc, Nat.reduceLeDiff, Nat.reduceBEq, List.length_cons, List.length_nil, List.drop_zero, List.drop_succ_cons, List.take_succ_cons, List.take_zero, List.take_nil, List.drop_nil, List.getElem?_cons_zero, List.getElem?_cons_succ, reduceCtorEq, Nat.succ_ne_self, Nat.one_ne_zero, Nat.le_refl, ne_eq, not_false_eq_true, Int.reduceLT, Int.reduceNeg, decide_true]
    exact ⟨by simp [ltSb, hne, h], hG⟩
  · rw [h]
    have he := cmp_eq h
    subst he
    simp -dsimp only [↓w_seq, ↓w_ops, ↓w_skip, ↓w_ret, ↓w_exit, ↓w_scope, ↓w_block, ↓w_cond, cond_true', cond_false', ↓t_nil, ↓t_plain, ↓t_guard, ↓t_gagain, ↓t_again, t_val, t_call, g_true, g_false, ga_true, ga_false, a_val, a_call, ↓n_normal, ↓n_ret, ↓n_exit, ↓b_normal, ↓b_ret, ↓b_exit, ↓e_normal, ↓e_ret, e_some, go_sem, ↓reduceIte, Nat.reduceEqDiff, Nat.reduceLT, Nat.reduceSub, A_ref11_Before_0, A_ref11_Before_1, A_ref11_Before_2, Int.lt_irrefl, true_and, and_true, false_and, and_false, and_self, same_two, same_sib, same_spot, vload, vptr, vof, V.cells, Mem.read, rdCells, Mem.get_push, Mem.next_push, Nat.left_eq_add, Nat.add_eq_left, Nat.add_left_cancel_iff, Nat.add_right_cancel_iff, Nat.reduceAdd, Nat.add_zero, Nat.zero_add, Nat.add_assoc, Nat.reduceLeDiff, Nat.reduceBEq, List.length_cons, List.length_nil, List.drop_zero, List.drop_succ_cons, List.take_succ_cons, List.take_zero, List.take_nil, List.drop_nil, List.getElem?_cons_zero, List.getElem?_cons_succ, reduceCtorEq, Nat.succ_ne_self, Nat.one_ne_zero, Nat.le_refl, ne_eq, not_false_eq_true, Int.reduceLT, Int.reduceEq, decide_true, decide_false]
    have := ref02_Compare_runs (a1, a2) (b1, b2) ((M.push (.cells [.str ka, .int .i64 a1, .int .i64 a2] false)).push (.cells [.str ka, .int .i64 b1, .int .i64 b2] false))
    simp only [stC] at this
    refine call_of this ?_
    intro v M2 hv
    rw [hv.1]
    simp -dsimp only [↓w_seq, ↓w_ops, ↓w_skip, ↓w_ret, ↓w_exit, ↓w_scope, ↓w_block, ↓w_cond, cond_true', cond_false', ↓t_nil, ↓t_plain, ↓t_guard, ↓t_gagain, ↓t_again, t_val, t_call, g_true, g_false, ga_true, ga_false, a_val, a_call, ↓n_normal, ↓n_ret, ↓n_exit, ↓b_normal, ↓b_ret, ↓b_exit, ↓e_normal, ↓e_ret, e_some, go_sem, ↓reduceIte, Nat.reduceEqDiff, Nat.reduceLT, Nat.reduceSub, A_ref11_Before_0, A_ref11_Before_1, A_ref11_Before_2]
    refine ⟨?_, hG.trans hv.2⟩
    rw [ltSt_neg]
    simp [ltSb]
  · rw [h]
    have hne : ¬ ka = kb := fun e => by subst e; rw [cmp_self] at h; cases h
    simp -dsimp only [↓w_seq, ↓w_ops, ↓w_skip, ↓w_ret, ↓w_exit, ↓w_scope, ↓w_block, ↓w_cond, cond_true', cond_false', ↓t_nil, ↓t_plain, ↓t_guard, ↓t_gagain, ↓t_again, t_val, t_call, g_true, g_false, ga_true, ga_false, a_val, a_call, ↓n_normal, ↓n_ret, ↓n_exit, ↓b_normal, ↓b_ret, ↓b_exit, ↓e_normal, ↓e_ret, e_some, go_sem, ↓reduceIte, Nat.reduceEqDiff, Nat.reduceLT, Nat.reduceSub, A_ref11_Before_0, A_ref11_Before_1, A_ref11_Before_2, Int.lt_irrefl, true_and, and_true, false_and, and_false, and_self, same_two, same_sib, same_spot, vload, vptr, vof, V.cells, Mem.read, rdCells, Mem.get_push, Mem.next_push, Nat.left_eq_add, Nat.add_eq_left, Nat.add_left_cancel_iff, Nat.add_right_cancel_iff, Nat.reduceAdd, Nat.add_zero, Nat.zero_add, Nat.add_assoc, Nat.reduceLeDiff, Nat.reduceBEq, List.length_cons, List.length_nil, List.drop_zero, List.drop_succ_cons, List.take_succ_cons, List.take_zero, List.take_nil, List.drop_nil, List.getElem?_cons_zero, List.getElem?_cons_succ, reduceCtorEq, Nat.succ_ne_self, Nat.one_ne_zero, Nat.le_refl, ne_eq, not_false_eq_true, Int.reduceLT, Int.reduceEq, decide_true, decide_false]
    exact ⟨by simp [ltSb, hne, h], hG⟩
end Go.Am.Tryz.O


/- Sort; the law's Same. -/
namespace Go.Am.Tryz.O
open Go Go.Am Go.Proofs Go.Sort Go.Shelf
set_option maxRecDepth 100000
set_option linter.unusedSimpArgs false
set_option linter.unusedVariables false

/-- Sort. -/
theorem order_Sort_runs (s : V) (xs : List Sb) {lo : Nat} (hl : (xs.length + 1) * 32 ≤ maxRoom) (M : Mem) (hH : Hold lo M 3 s xs.length (elSb.all xs)) :
    Runs D2 F_order_Sort [s] M fun v M' => Grew M M' ∧ Hold M.next M' 3 v xs.length (elSb.all (isort ltSb xs)) := by
  refine Runs.walk (F := A_order_Sort) rfl (by rfl) (by rfl) ?_
  unfold A_order_Sort
  simp -dsimp only [↓w_seq, ↓w_ops, ↓w_skip, ↓w_ret, ↓w_exit, ↓w_scope, ↓w_block, ↓w_cond, cond_true', cond_false', ↓t_nil, ↓t_plain, ↓t_guard, ↓t_gagain, ↓t_again, t_val, t_call, g_true, g_false, ga_true, ga_false, a_val, a_call, ↓n_normal, ↓n_ret, ↓n_exit, ↓b_normal, ↓b_ret, ↓b_exit, ↓e_normal, ↓e_ret, e_some, go_sem, ↓reduceIte, Nat.reduceEqDiff, Nat.reduceLT, Nat.reduceSub, A_order_Sort_0, A_order_Sort_1, A_order_Sort_2]
  refine call_of (Values_runs s M) ?_
  intro v M1 hv
  rw [hv.1]
  obtain ⟨_, hG, hn, hb⟩ := hv
  have hmx : maxRoom = 17592186044416 := rfl
  have hH1 : Hold lo M1 3 s xs.length (elSb.all xs) := hH.keep (fun c hc => hG.old c (hH.blk_le hc).2.1) hG.next
  have hle : xs.length ≤ maxRoom := by rw [hmx] at hl ⊢; omega
  have hrd := readSl_of (e := elSb) hH1 hle
  have hcell : s.cells = [s] := by
    obtain ⟨a, cap, rfl⟩ := hH.shape
    rfl
  rw [hcell] at hb
  simp -dsimp only [↓w_seq, ↓w_ops, ↓w_skip, ↓w_ret, ↓w_exit, ↓w_scope, ↓w_block, ↓w_cond, cond_true', cond_false', ↓t_nil, ↓t_plain, ↓t_guard, ↓t_gagain, ↓t_again, t_val, t_call, g_true, g_false, ga_true, ga_false, a_val, a_call, ↓n_normal, ↓n_ret, ↓n_exit, ↓b_normal, ↓b_ret, ↓b_exit, ↓e_normal, ↓e_ret, e_some, go_sem, ↓reduceIte, Nat.reduceEqDiff, Nat.reduceLT, Nat.reduceSub, A_order_Sort_0, A_order_Sort_1, A_order_Sort_2]
  cases xs with
  | nil =>
    have hp : pSorted [.fn F_slices_Values_Sib_c1 [] [.ptr (some (M.next, 0))], .fn F_order_Sort_c1 [] []] M1 = some (.flat (.slice none 0 (.exact 0))) := by
      simp only [pSorted, hb, hrd, Option.bind_some, ble_iff, decide_eq_true hl, cond_true, Nat.beq_refl]
    refine call_of (Runs.prim (R := fun v M' => v = .slice none 0 (.exact 0) ∧ M' = M1) rfl (by simp only [hp, Option.map_some, KeepR.res]) ⟨rfl, rfl⟩) ?_
    intro v M2 hv2
    rw [hv2.1, hv2.2]
    simp -dsimp only [↓w_seq, ↓w_ops, ↓w_skip, ↓w_ret, ↓w_exit, ↓w_scope, ↓w_block, ↓w_cond, cond_true', cond_false', ↓t_nil, ↓t_plain, ↓t_guard, ↓t_gagain, ↓t_again, t_val, t_call, g_true, g_false, ga_true, ga_false, a_val, a_call, ↓n_normal, ↓n_ret, ↓n_exit, ↓b_normal, ↓b_ret, ↓b_exit, ↓e_normal, ↓e_ret, e_some, go_sem, ↓reduceIte, Nat.reduceEqDiff, Nat.reduceLT, Nat.reduceSub, A_order_Sort_0, A_order_Sort_1, A_order_Sort_2]
    exact ⟨hG, .nil⟩
  | cons x xs =>
    have hp : pSorted [.fn F_slices_Values_Sib_c1 [] [.ptr (some (M.next, 0))], .fn F_order_Sort_c1 [] []] M1 = some (.row (xs.length + 1) 3 (elSb.all (isort ltSb (x :: xs)))) := by
      simp only [pSorted, hb, hrd, Option.bind_some, ble_iff, decide_eq_true hl, cond_true, Nat.beq_refl]
    refine call_of (Runs.prim (R := fun v M' => v = .slice (some (M1.next, 0)) (xs.length + 1) (.upto 3) ∧ M' = M1.push (.cells (elSb.all (isort ltSb (x :: xs))) false)) rfl (by simp only [hp, Option.map_some, KeepR.res]) ⟨rfl, rfl⟩) ?_
    intro v M2 hv2
    rw [hv2.1, hv2.2]
    simp -dsimp only [↓w_seq, ↓w_ops, ↓w_skip, ↓w_ret, ↓w_exit, ↓w_scope, ↓w_block, ↓w_cond, cond_true', cond_false', ↓t_nil, ↓t_plain, ↓t_guard, ↓t_gagain, ↓t_again, t_val, t_call, g_true, g_false, ga_true, ga_false, a_val, a_call, ↓n_normal, ↓n_ret, ↓n_exit, ↓b_normal, ↓b_ret, ↓b_exit, ↓e_normal, ↓e_ret, e_some, go_sem, ↓reduceIte, Nat.reduceEqDiff, Nat.reduceLT, Nat.reduceSub, A_order_Sort_0, A_order_Sort_1, A_order_Sort_2]
    refine ⟨hG.trans (Grew.push _ _), .row (Mem.get_push_same _ _) ?_ (by omega) (by simp)⟩
    rw [elSb.all_len, isort_len]
    rfl
theorem sl_at {M : Mem} {s : V} {xs : List Sb} (h : SlR elSb M s xs) {i : Nat} (hi : i < xs.length) : ∃ b o cs ro cap, s = .slice (some (b, o)) xs.length cap ∧ M.get b = some (.cells cs ro) ∧ rdCells cs (o + i * 3) 3 = some (sbC xs[i]) ∧ cs[o + i * 3]? = some (.str xs[i].1) ∧ rdCells cs (o + i * 3 + 1) 2 = some (stC xs[i].2) := by
  obtain ⟨a, cap, rfl, h⟩ := h
  rcases h with h | ⟨b, o, cs, ro, rfl, h1, h2⟩
  · subst h; simp at hi
  · have := h2 i hi
    refine ⟨b, o, cs, ro, cap, rfl, h1, this, ?_, ?_⟩
    · exact rd_cell this 0 (by decide)
    · exact rd_part this 1 2 (by decide)

theorem Same_loop (sa sb : V) (xs : List Sb) (hl : xs.length < 2 ^ 62) (M : Mem) (ha : SlR elSb M sa xs) (hb : SlR elSb M sb xs) {Q : AExit → Fr → Mem → Prop} (hE : ∀ fr, Q (.exit 0) fr M) :
    ∀ (f i : Nat) (fr : Fr), i + f = xs.length → fr.rd 0 = sa → fr.rd 1 = sb → fr.rd 5 = .int .i64 (i : Int) → WC D2 41 (.loop A_law11_Same_8) fr M Q := by
  intro f
  induction f with
  | zero =>
    intro i fr hi h0 h1 h5
    refine WC.loop (W_of ?_)
    unfold A_law11_Same_8
    obtain ⟨a, cap, rfl, _⟩ := ha
    have : ¬ (i : Int) < xs.length := by omega
    simp -dsimp only [↓w_seq, ↓w_ops, ↓w_skip, ↓w_ret, ↓w_exit, ↓w_scope, ↓w_block, ↓w_cond, cond_true', cond_false', ↓t_nil, ↓t_plain, ↓t_guard, ↓t_gagain, ↓t_again, t_val, t_call, g_true, g_false, ga_true, ga_false, a_val, a_call, ↓n_normal, ↓n_ret, ↓n_exit, ↓b_normal, ↓b_ret, ↓b_exit, ↓e_normal, ↓e_ret, e_some, go_sem, ↓reduceIte, Nat.reduceEqDiff, Nat.reduceLT, Nat.reduceSub, A_law11_Same_0, A_law11_Same_1, A_law11_Same_2, A_law11_Same_3, A_law11_Same_4, A_law11_Same_5, A_law11_Same_6, A_law11_Same_7, A_law11_Same_9, h0, h1, h5, this, decide_false]
    exact hE _
  | succ f ih =>
    intro i fr hi h0 h1 h5
    refine WC.loop (W_of ?_)
    unfold A_law11_Same_8
    have hil : i < xs.length := by omega
    obtain ⟨b, o, cs, ro, cap, e0, hM, hr3, hr1, hr2⟩ := sl_at ha hil
    obtain ⟨b', o', cs', ro', cap', e0', hM', hr3', hr1', hr2'⟩ := sl_at hb hil
    rw [e0] at h0
    rw [e0'] at h1
    have e1 : (i : Int) < xs.length := by omega
    have e2 : i + 1 ≤ xs.length := by omega
    have h5' : (i : Int) + 1 = ((i + 1 : Nat) : Int) := by omega
    simp -dsimp only [↓w_seq, ↓w_ops, ↓w_skip, ↓w_ret, ↓w_exit, ↓w_scope, ↓w_block, ↓w_cond, cond_true', cond_false', ↓t_nil, ↓t_plain, ↓t_guard, ↓t_gagain, ↓t_again, t_val, t_call, g_true, g_false, ga_true, ga_false, a_val, a_call, ↓n_normal, ↓n_ret, ↓n_exit, ↓b_normal, ↓b_ret, ↓b_exit, ↓e_normal, ↓e_ret, e_some, go_sem, ↓reduceIte, Nat.reduceEqDiff, Nat.reduceLT, Nat.reduceSub, A_law11_Same_0, A_law11_Same_1, A_law11_Same_2, A_law11_Same_3, A_law11_Same_4, A_law11_Same_5, A_law11_Same_6, A_law11_Same_7, A_law11_Same_9, h0, h1, h5, h5', e1, e2, decide_false, decide_true, vload, vptr, hM, hM', Mem.read, hr1, hr1', hr2, hr2', Nat.add_zero, st_same, Bool.not_true, ne_eq, not_true_eq_false, IntWalk.i64_in ((i + 1 : Nat) : Int) (by omega)]
    refine ih (i + 1) _ (by omega) ?_ ?_ ?_
    all_goals simp only [go_sem, ↓reduceIte, Nat.reduceEqDiff, Nat.reduceLT, Nat.reduceSub, h0, h1, e0, e0']

theorem Same_runs (sa sb : V) (xs : List Sb) (hl : xs.length < 2 ^ 62) (M : Mem) (ha : SlR elSb M sa xs) (hb : SlR elSb M sb xs) :
    Runs D2 F_law11_Same [sa, sb] M fun v M' => v = .bool true ∧ M' = M := by
  refine Runs.walk (F := A_law11_Same) rfl (by rfl) (by rfl) ?_
  unfold A_law11_Same
  obtain ⟨a, cap, e0, _⟩ := id ha
  obtain ⟨a', cap', e0', _⟩ := id hb
  simp -dsimp only [↓w_seq, ↓w_ops, ↓w_skip, ↓w_ret, ↓w_exit, ↓w_scope, ↓w_block, ↓w_cond, cond_true', cond_false', ↓t_nil, ↓t_plain, ↓t_guard, ↓t_gagain, ↓t_again, t_val, t_call, g_true, g_false, ga_true, ga_false, a_val, a_call, ↓n_normal, ↓n_ret, ↓n_exit, ↓b_normal, ↓b_ret, ↓b_exit, ↓e_normal, ↓e_ret, e_some, go_sem, ↓reduceIte, Nat.reduceEqDiff, Nat.reduceLT, Nat.reduceSub, A_law11_Same_0, A_law11_Same_1, A_law11_Same_2, A_law11_Same_3, A_law11_Same_4, A_law11_Same_5, A_law11_Same_6, A_law11_Same_7, A_law11_Same_9, e0, e0', ne_eq, not_true_eq_false, decide_false]
  refine Same_loop sa sb xs hl M ha hb ?_ xs.length 0 _ (by omega) ?_ ?_ ?_
  · intro fr
    simp -dsimp only [↓w_seq, ↓w_ops, ↓w_skip, ↓w_ret, ↓w_exit, ↓w_scope, ↓w_block, ↓w_cond, cond_true', cond_false', ↓t_nil, ↓t_plain, ↓t_guard, ↓t_gagain, ↓t_again, t_val, t_call, g_true, g_false, ga_true, ga_false, a_val, a_call, ↓n_normal, ↓n_ret, ↓n_exit, ↓b_normal, ↓b_ret, ↓b_exit, ↓e_normal, ↓e_ret, e_some, go_sem, ↓reduceIte, Nat.reduceEqDiff, Nat.reduceLT, Nat.reduceSub, A_law11_Same_0, A_law11_Same_1, A_law11_Same_2, A_law11_Same_3, A_law11_Same_4, A_law11_Same_5, A_law11_Same_6, A_law11_Same_7, A_law11_Same_9]
    exact ⟨trivial, trivial⟩
  all_goals simp only [go_sem, ↓reduceIte, Nat.reduceEqDiff, Nat.reduceLT, Nat.reduceSub, e0, e0']
  rfl

end Go.Am.Tryz.O


/- The reference's Sort. -/
namespace Go.Am.Tryz.O
open Go Go.Am Go.Proofs Go.Sort Go.Shelf
set_option maxRecDepth 100000
set_option linter.unusedSimpArgs false
set_option linter.unusedVariables false


/-! ### an own slice, or one of no room -/
def HoldE (lo : Nat) (M : Mem) (es : Nat) (s : V) (n : Nat) (cs : List V) : Prop :=
  Hold lo M es s n cs ∨ (n = 0 ∧ cs = [] ∧ ∃ b, s = .slice (some (b, 0)) 0 (.exact 0) ∧ M.get b = some (.cells [] false) ∧ lo ≤ b ∧ b < M.next)
theorem HoldE.keep {lo es n : Nat} {M M' : Mem} {s : V} {cs : List V} (h : HoldE lo M es s n cs) (hk : ∀ b, s.blk = some b → M'.get b = M.get b) (hn : M.next ≤ M'.next) : HoldE lo M' es s n cs := by
  rcases h with h | ⟨rfl, rfl, b, rfl, h1, h2, h3⟩
  · exact .inl (h.keep hk hn)
  · exact .inr ⟨rfl, rfl, b, rfl, (hk b rfl).trans h1, h2, by omega⟩
theorem HoldE.blk_le {lo es n : Nat} {M : Mem} {s : V} {cs : List V} (h : HoldE lo M es s n cs) {b : Nat} (hb : s.blk = some b) : lo ≤ b ∧ b < M.next := by
  rcases h with h | ⟨rfl, rfl, b', rfl, h1, h2, h3⟩
  · exact ⟨(h.blk_le hb).1, (h.blk_le hb).2.1⟩
  · simp only [V.blk, Option.some.injEq] at hb
    subst hb
    exact ⟨h2, h3⟩
theorem HoldE.append {lo es bytes n m : Nat} {M : Mem} {s x : V} {cs new : List V} (h : HoldE lo M es s n cs) (hlo : lo ≤ M.next) (hx : srcLen x = some m) (hc : srcCells es M m x = some new) (hnew : new.length = m * es)
    (hroom : (n + m) * bytes ≤ maxRoom) (hone : allOne new = true) :
    ∃ s' M', vappend es bytes M s x = some (s', M') ∧ HoldE lo M' es s' (n + m) (cs ++ new) ∧ (m ≠ 0 → Hold lo M' es s' (n + m) (cs ++ new)) ∧ M.next ≤ M'.next ∧ (∀ c, c < M.next → s.blk ≠ some c → M'.get c = M.get c) ∧ (s'.blk = s.blk ∨ s'.blk = some M.next) ∧ (m = 0 → s' = s ∧ M' = M) := by
  rcases h with h | ⟨rfl, rfl, b, rfl, h1, h2, h3⟩
  · by_cases hm : m = 0
    · subst hm
      obtain ⟨s', M', e1, e2, e3, e4, e5⟩ := h.append_any hlo hx hc hnew hroom hone
      have : new = [] := List.eq_nil_of_length_eq_zero (by simpa using hnew)
      subst this
      have h0 : vappend es bytes M s x = some (s, M) := by
        cases h with
        | nil => simp only [vappend, hx, hc, Option.bind_some, beq_dec, decide_true, cond_true]
        | row a b c d => simp only [vappend, hx, hc, Option.bind_some, beq_dec, decide_true, cond_true]
      rw [h0] at e1
      cases e1
      exact ⟨s, M, h0, .inl e2, fun hm => absurd rfl hm, Nat.le_refl _, fun _ _ _ => rfl, .inl rfl, fun _ => ⟨rfl, rfl⟩⟩
    · obtain ⟨M', e1, e2, e3, e4⟩ := h.append hlo hx hc hm hnew hroom hone
      exact ⟨_, M', e1, .inl e2, fun _ => e2, by omega, fun c hc1 hc2 => e4 c (by omega) hc2, .inr rfl, fun h => absurd h hm⟩
  · by_cases hm : m = 0
    · subst hm
      have : new = [] := List.eq_nil_of_length_eq_zero (by simpa using hnew)
      subst this
      exact ⟨_, M, by simp only [vappend, hx, hc, Option.bind_some, beq_dec, decide_true, cond_true], .inr ⟨rfl, rfl, b, rfl, h1, h2, h3⟩, fun hm => absurd rfl hm, Nat.le_refl _, fun _ _ _ => rfl, .inl rfl, fun _ => ⟨rfl, rfl⟩⟩
    · have hle : ¬ m ≤ 0 := by omega
      have hH : Hold lo (M.push (.cells new false)) es (.slice (some (M.next, 0)) m (.upto es)) m new := .row (Mem.get_push_same _ _) hnew hlo (by simp)
      refine ⟨.slice (some (M.next, 0)) m (.upto es), M.push (.cells new false), ?_, ?_, fun _ => ?_, by simp, fun c hc _ => Mem.get_push_ne _ _ (by omega), .inr rfl, fun h => absurd h hm⟩
      · rw [Nat.zero_add] at hroom
        simp only [vappend, hx, hc, Option.bind_some, beq_dec, hm, decide_false, cond_false, Nat.zero_add, ble_iff, hle, hroom, decide_true, cond_true, Option.map_some, List.nil_append]
      · rw [Nat.zero_add, List.nil_append]; exact .inl hH
      · rw [Nat.zero_add, List.nil_append]; exact hH

/-- The two parts of a slice. -/
theorem slice_src {lo : Nat} {M : Mem} {so : V} {len : Nat} {cs : List V} (h : Hold lo M 3 so len cs) {n : Nat} (hn : n ≤ len) :
    ∃ s33 s43, vslice 3 so none (some n) none = some s33 ∧ vslice 3 so (some n) none none = some s43 ∧ srcLen s33 = some n ∧ srcLen s43 = some (len - n) ∧
      ∀ M', (∀ b, so.blk = some b → M'.get b = M.get b) → srcCells 3 M' n s33 = some (cs.take (n * 3)) ∧ srcCells 3 M' (len - n) s43 = some (cs.drop (n * 3)) := by
  have hcl := h.len
  cases h with
  | nil =>
    have : n = 0 := by omega
    subst this
    exact ⟨_, _, rfl, rfl, rfl, rfl, fun M' _ => ⟨rfl, rfl⟩⟩
  | row a b c d =>
    rename_i blk
    refine ⟨.slice (some (blk, 0)) n (.upto 3), .slice (some (blk, n * 3)) (len - n) (.upto 3), ?_, ?_, rfl, rfl, fun M' hM => ?_⟩
    · simp only [vslice, Option.getD_some, Option.getD_none, beq_dec, decide_true, cond_true, ble_iff, hn, Nat.zero_le, Nat.zero_mul, Nat.add_zero, Nat.sub_zero]
    · simp only [vslice, Option.getD_some, Option.getD_none, beq_dec, decide_true, cond_true, ble_iff, hn, Nat.le_refl, Nat.zero_add]
    · have hM' := (hM blk rfl).trans a
      constructor
      · simp only [srcCells, beq_dec]
        by_cases h0 : n = 0
        · subst h0; simp
        · rw [decide_eq_false h0]
          simp only [cond_false, Mem.read, hM', rdCells]
          rw [ble_iff, decide_eq_true (by rw [hcl]; omega)]
          simp
      · simp only [srcCells, beq_dec]
        by_cases h0 : len - n = 0
        · rw [decide_eq_true h0]
          simp only [cond_true]
          rw [List.drop_eq_nil_of_le (by rw [hcl]; omega)]
        · rw [decide_eq_false h0]
          simp only [cond_false, Mem.read, hM', rdCells]
          rw [ble_iff, decide_eq_true (by rw [hcl]; omega)]
          simp only [cond_true]
          rw [List.take_of_length_le (by rw [List.length_drop, hcl]; omega)]

theorem sorted_unique : ∀ {l l' : List Sb}, l.Pairwise (fun a b => ltSb b a = false) → l'.Pairwise (fun a b => ltSb b a = false) → l.Perm l' → l = l'
  | [], l', _, _, hp => hp.nil_eq
  | a :: l, [], _, _, hp => absurd hp.length_eq (by simp)
  | a :: l, b :: l', h, h', hp => by
    have hab : a = b := by
      have ha : a ∈ b :: l' := hp.mem_iff.mp (List.mem_cons_self ..)
      have hb : b ∈ a :: l := hp.mem_iff.mpr (List.mem_cons_self ..)
      rcases List.mem_cons.mp ha with e | ha
      · exact e
      rcases List.mem_cons.mp hb with e | hb
      · exact e.symm
      exact tot_Sb _ _ ((List.pairwise_cons.mp h').1 a ha) ((List.pairwise_cons.mp h).1 b hb)
    subst hab
    rw [sorted_unique (List.pairwise_cons.mp h).2 (List.pairwise_cons.mp h').2 (List.Perm.cons_inv hp)]

theorem all_take (xs : List Sb) : ∀ (n : Nat), (elSb.all xs).take (n * 3) = elSb.all (xs.take n) := by
  induction xs with
  | nil => intro n; simp [Elem.all]
  | cons x xs ih =>
    intro n
    cases n with
    | zero => simp [Elem.all]
    | succ n =>
      have h1 : elSb.all (x :: xs) = sbC x ++ elSb.all xs := rfl
      have h2 : elSb.all ((x :: xs).take (n + 1)) = sbC x ++ elSb.all (xs.take n) := rfl
      rw [h1, h2, ← ih n, List.take_append, List.take_of_length_le (by simp [sbC]; omega)]
      congr 2
      simp [sbC]; omega
theorem all_drop (xs : List Sb) : ∀ (n : Nat), (elSb.all xs).drop (n * 3) = elSb.all (xs.drop n) := by
  induction xs with
  | nil => intro n; simp [Elem.all]
  | cons x xs ih =>
    intro n
    cases n with
    | zero => simp
    | succ n =>
      have h1 : elSb.all (x :: xs) = sbC x ++ elSb.all xs := rfl
      rw [h1, List.drop_succ_cons, ← ih n, List.drop_append, List.drop_eq_nil_of_le (by simp [sbC]; omega), List.nil_append]
      congr 1
      simp [sbC]; omega
theorem all_app (xs ys : List Sb) : elSb.all (xs ++ ys) = elSb.all xs ++ elSb.all ys := by simp [Elem.all]

/-- The three appends. -/
theorem three_app {M : Mem} {b1 b2 lo : Nat} {so s33 s43 : V} {os : List Sb} {x : Sb} {n : Nat} (h1 : M.get b1 = some (.cells [] false)) (hb1 : b1 < M.next) (h2 : M.get b2 = some (.cells (sbC x) false)) (hb2 : b2 < M.next)
    (hlo : lo ≤ b1) (hO : Hold lo M 3 so os.length (elSb.all os)) (hn : n ≤ os.length) (hne1 : so.blk ≠ some b1) (hne2 : so.blk ≠ some b2) (hne : b1 ≠ b2)
    (l33 : srcLen s33 = some n) (l43 : srcLen s43 = some (os.length - n)) (hsrc : ∀ M', (∀ b, so.blk = some b → M'.get b = M.get b) → srcCells 3 M' n s33 = some ((elSb.all os).take (n * 3)) ∧ srcCells 3 M' (os.length - n) s43 = some ((elSb.all os).drop (n * 3)))
    (hroom : (os.length + 1) * 32 ≤ maxRoom) :
    ∃ s34 M1 s40 M2 s44 M3, vappend 3 32 M (.slice (some (b1, 0)) 0 (.exact 0)) s33 = some (s34, M1) ∧ vappend 3 32 M1 s34 (.slice (some (b2, 0)) 1 (.exact 1)) = some (s40, M2) ∧ vappend 3 32 M2 s40 s43 = some (s44, M3) ∧
      (∀ c, c < M.next → c ≠ b1 → M1.get c = M.get c) ∧ M.next ≤ M3.next ∧ (∀ c, c < M.next → c ≠ b1 → M3.get c = M.get c) ∧ Hold lo M3 3 s44 (os.length + 1) (elSb.all (os.take n ++ x :: os.drop n)) := by
  have hlen := elSb.all_len os
  have hk : elSb.k = 3 := rfl
  rw [hk] at hlen
  have hbl : ∀ b, so.blk = some b → b < M.next := fun b hb => (hO.blk_le hb).2.1
  have hE0 : HoldE lo M 3 (.slice (some (b1, 0)) 0 (.exact 0)) 0 [] := .inr ⟨rfl, rfl, b1, rfl, h1, hlo, hb1⟩
  have r1 : (0 + n) * 32 ≤ maxRoom := Nat.le_trans (Nat.mul_le_mul_right 32 (show 0 + n ≤ os.length + 1 by omega)) hroom
  have r2 : (0 + n + 1) * 32 ≤ maxRoom := Nat.le_trans (Nat.mul_le_mul_right 32 (show 0 + n + 1 ≤ os.length + 1 by omega)) hroom
  have r3 : (0 + n + 1 + (os.length - n)) * 32 ≤ maxRoom := Nat.le_trans (Nat.mul_le_mul_right 32 (show 0 + n + 1 + (os.length - n) ≤ os.length + 1 by omega)) hroom
  clear hroom
  have t1 : ((elSb.all os).take (n * 3)).length = n * 3 := by rw [List.length_take, hlen]; omega
  have t3 : ((elSb.all os).drop (n * 3)).length = (os.length - n) * 3 := by rw [List.length_drop, hlen]; omega
  have u1 : allOne ((elSb.all os).take (n * 3)) = true := by rw [all_take]; exact elSb.all_one _
  have u3 : allOne ((elSb.all os).drop (n * 3)) = true := by rw [all_drop]; exact elSb.all_one _
  obtain ⟨s34, M1, ha1, hE1, _, hn1, ho1, hbk1, _⟩ := hE0.append (bytes := 32) (by omega) l33 (hsrc M (fun _ _ => rfl)).1 t1 r1 u1
  have ho1' : ∀ c, c < M.next → c ≠ b1 → M1.get c = M.get c := fun c hc hcb => ho1 c hc (fun e => hcb (by simpa [V.blk] using e.symm))
  have hbk1' : s34.blk = some b1 ∨ s34.blk = some M.next := hbk1
  have h2' : M1.get b2 = some (.cells (sbC x) false) := (ho1' b2 hb2 (Ne.symm hne)).trans h2
  obtain ⟨s40, M2, ha2, hE2, _, hn2, ho2, hbk2, _⟩ := hE1.append (bytes := 32) (m := 1) (x := .slice (some (b2, 0)) 1 (.exact 1)) (new := sbC x) (by omega) rfl
    (by
      simp only [srcCells, beq_dec, Nat.one_mul, Nat.reduceEqDiff, decide_false, cond_false]
      exact read_all h2') rfl r2 rfl
  have hbk2' : s40.blk = some b1 ∨ s40.blk = some M.next ∨ s40.blk = some M1.next := by
    rcases hbk2 with e | e
    · rw [e]; rcases hbk1' with e | e
      · exact .inl e
      · exact .inr (.inl e)
    · exact .inr (.inr e)
  have ho2' : ∀ c, c < M.next → c ≠ b1 → M2.get c = M.get c := fun c hc hcb => (ho2 c (by omega) (fun e => by
    rcases hbk1' with h | h
    · rw [h] at e; simp only [Option.some.injEq] at e; exact hcb e.symm
    · rw [h] at e; simp only [Option.some.injEq] at e; omega)).trans (ho1' c hc hcb)
  have hs2 := (hsrc M2 (fun b hb => ho2' b (hbl b hb) (fun e => hne1 (by rw [hb, e])))).2
  obtain ⟨s44, M3, ha3, hE3, hH3, hn3, ho3, hbk3, hz3⟩ := hE2.append (bytes := 32) (by omega) l43 hs2 t3 r3 u3
  have ho3' : ∀ c, c < M.next → c ≠ b1 → M3.get c = M.get c := fun c hc hcb => (ho3 c (by omega) (fun e => by
    rcases hbk2' with h | h | h
    · rw [h] at e; simp only [Option.some.injEq] at e; exact hcb e.symm
    · rw [h] at e; simp only [Option.some.injEq] at e; omega
    · rw [h] at e; simp only [Option.some.injEq] at e; omega)).trans (ho2' c hc hcb)
  refine ⟨s34, M1, s40, M2, s44, M3, ha1, ha2, ha3, ho1', by omega, ho3', ?_⟩
  have hfin : elSb.all (os.take n ++ x :: os.drop n) = [] ++ (elSb.all os).take (n * 3) ++ sbC x ++ (elSb.all os).drop (n * 3) := by
    rw [all_take, all_drop, all_app]
    have : elSb.all (x :: os.drop n) = sbC x ++ elSb.all (os.drop n) := rfl
    rw [this]
    simp
  have hcount : 0 + n + 1 + (os.length - n) = os.length + 1 := by omega
  rw [hcount] at hE3
  rw [hfin]
  rcases hE3 with h | ⟨h, _⟩
  · exact h
  · omega
end Go.Am.Tryz.O


/- The reference's Sort, its loops. -/
namespace Go.Am.Tryz.O
open Go Go.Am Go.Proofs Go.Sort Go.Shelf
set_option maxRecDepth 100000
set_option linter.unusedSimpArgs false
set_option linter.unusedVariables false


/-- Down to the place. -/
theorem place_loop (s so : V) (xs os : List Sb) (i : Nat) (hi : i < xs.length) (hk : ∀ x ∈ xs, x.1.length < 2 ^ 63) (hko : ∀ x ∈ os, x.1.length < 2 ^ 63) (hol : os.length < 2 ^ 62) (M0 : Mem) (hs : SlR elSb M0 s xs) (ho : SlR elSb M0 so os)
    (hlt : ∀ b, s.blk = some b → b < M0.next) (hlto : ∀ b, so.blk = some b → b < M0.next) {Q : AExit → Fr → Mem → Prop}
    (hE : ∀ fr M n, Grew M0 M → n ≤ os.length → (∀ j (h : j < os.length), n ≤ j → ltSb xs[i] os[j] = true) → (∀ k (h : k < os.length), k + 1 = n → ltSb xs[i] os[k] = false) → fr.rd 0 = s → fr.rd 3 = so → fr.rd 4 = .int .i64 (i : Int) → fr.rd 5 = .int .i64 (n : Int) → Q (.exit 2) fr M) :
    ∀ (n : Nat) (fr : Fr) (M : Mem), n ≤ os.length → Grew M0 M → (∀ j (h : j < os.length), n ≤ j → ltSb xs[i] os[j] = true) → fr.rd 0 = s → fr.rd 3 = so → fr.rd 4 = .int .i64 (i : Int) → fr.rd 5 = .int .i64 (n : Int) → WC D2 46 (.loop A_ref11_Sort_7) fr M Q := by
  intro n
  induction n with
  | zero =>
    intro fr M hn hG hj h0 h3 h4 h5
    refine WC.loop (W_of ?_)
    unfold A_ref11_Sort_7
    have e3 : ¬ (0 : Int) < ((0 : Nat) : Int) := by omega
    simp -dsimp only [↓w_seq, ↓w_ops, ↓w_skip, ↓w_ret, ↓w_exit, ↓w_scope, ↓w_block, ↓w_cond, cond_true', cond_false', ↓t_nil, ↓t_plain, ↓t_guard, ↓t_gagain, ↓t_again, t_val, t_call, g_true, g_false, ga_true, ga_false, a_val, a_call, ↓n_normal, ↓n_ret, ↓n_exit, ↓b_normal, ↓b_ret, ↓b_exit, ↓e_normal, ↓e_ret, e_some, go_sem, ↓reduceIte, Nat.reduceEqDiff, Nat.reduceLT, Nat.reduceSub, A_ref11_Sort_0, A_ref11_Sort_1, A_ref11_Sort_2, A_ref11_Sort_3, A_ref11_Sort_4, A_ref11_Sort_5, A_ref11_Sort_6, A_ref11_Sort_8, A_ref11_Sort_9, A_ref11_Sort_11, h0, h3, h4, h5, e3, decide_false]
    refine hE _ _ 0 hG (by omega) hj (fun k h h' => by omega) ?_ ?_ ?_ ?_
    all_goals simp only [go_sem, ↓reduceIte, Nat.reduceEqDiff, Nat.reduceLT, Nat.reduceSub, h0, h3, h4, h5]
  | succ k ih =>
    intro fr M hn hG hj h0 h3 h4 h5
    refine WC.loop (W_of ?_)
    unfold A_ref11_Sort_7
    have hkl : k < os.length := by omega
    have hsM : SlR elSb M s xs := hs.keep fun b hb => hG.old b (hlt b hb)
    have hoM : SlR elSb M so os := ho.keep fun b hb => hG.old b (hlto b hb)
    obtain ⟨b, o, cs, ro, cap, e0, hM, hr3, hr1, hr2⟩ := sl_at hsM hi
    obtain ⟨b', o', cs', ro', cap', e0', hM', hr3', hr1', hr2'⟩ := sl_at hoM hkl
    rw [e0] at h0
    rw [e0'] at h3
    have e3 : (0 : Int) < ((k + 1 : Nat) : Int) := by omega
    have e4 : ((k + 1 : Nat) : Int) - 1 = (k : Int) := by omega
    have e5 : i + 1 ≤ xs.length := by omega
    have e6 : k + 1 ≤ os.length := by omega
    simp -dsimp only [↓w_seq, ↓w_ops, ↓w_skip, ↓w_ret, ↓w_exit, ↓w_scope, ↓w_block, ↓w_cond, cond_true', cond_false', ↓t_nil, ↓t_plain, ↓t_guard, ↓t_gagain, ↓t_again, t_val, t_call, g_true, g_false, ga_true, ga_false, a_val, a_call, ↓n_normal, ↓n_ret, ↓n_exit, ↓b_normal, ↓b_ret, ↓b_exit, ↓e_normal, ↓e_ret, e_some, go_sem, ↓reduceIte, Nat.reduceEqDiff, Nat.reduceLT, Nat.reduceSub, A_ref11_Sort_0, A_ref11_Sort_1, A_ref11_Sort_2, A_ref11_Sort_3, A_ref11_Sort_4, A_ref11_Sort_5, A_ref11_Sort_6, A_ref11_Sort_8, A_ref11_Sort_9, A_ref11_Sort_11, h0, h3, h4, h5, e3, e4, e5, e6, decide_true, vload, vptr, hM, hM', Mem.read, hr3, hr3', Nat.add_zero, IntWalk.i64_in (k : Int) (by omega)]
    refine call_of (ref11_Before_runs xs[i] os[k] (hk _ (List.getElem_mem hi)) (hko _ (List.getElem_mem hkl)) M) ?_
    intro v M1 hv
    rw [hv.1]
    have hG1 := hG.trans hv.2
    cases hq : ltSb xs[i] os[k] with
    | false =>
      simp -dsimp only [↓w_seq, ↓w_ops, ↓w_skip, ↓w_ret, ↓w_exit, ↓w_scope, ↓w_block, ↓w_cond, cond_true', cond_false', ↓t_nil, ↓t_plain, ↓t_guard, ↓t_gagain, ↓t_again, t_val, t_call, g_true, g_false, ga_true, ga_false, a_val, a_call, ↓n_normal, ↓n_ret, ↓n_exit, ↓b_normal, ↓b_ret, ↓b_exit, ↓e_normal, ↓e_ret, e_some, go_sem, ↓reduceIte, Nat.reduceEqDiff, Nat.reduceLT, Nat.reduceSub, A_ref11_Sort_0, A_ref11_Sort_1, A_ref11_Sort_2, A_ref11_Sort_3, A_ref11_Sort_4, A_ref11_Sort_5, A_ref11_Sort_6, A_ref11_Sort_8, A_ref11_Sort_9, A_ref11_Sort_11]
      refine hE _ _ (k + 1) hG1 hn hj (fun k' h h' => ?_) ?_ ?_ ?_ ?_
      · have : k' = k := by omega
        subst this
        exact hq
      all_goals simp only [go_sem, ↓reduceIte, Nat.reduceEqDiff, Nat.reduceLT, Nat.reduceSub, h0, e0, h3, e0', h4, h5]
    | true =>
      simp -dsimp only [↓w_seq, ↓w_ops, ↓w_skip, ↓w_ret, ↓w_exit, ↓w_scope, ↓w_block, ↓w_cond, cond_true', cond_false', ↓t_nil, ↓t_plain, ↓t_guard, ↓t_gagain, ↓t_again, t_val, t_call, g_true, g_false, ga_true, ga_false, a_val, a_call, ↓n_normal, ↓n_ret, ↓n_exit, ↓b_normal, ↓b_ret, ↓b_exit, ↓e_normal, ↓e_ret, e_some, go_sem, ↓reduceIte, Nat.reduceEqDiff, Nat.reduceLT, Nat.reduceSub, A_ref11_Sort_0, A_ref11_Sort_1, A_ref11_Sort_2, A_ref11_Sort_3, A_ref11_Sort_4, A_ref11_Sort_5, A_ref11_Sort_6, A_ref11_Sort_8, A_ref11_Sort_9, A_ref11_Sort_11, h5, e4, IntWalk.i64_in (k : Int) (by omega)]
      refine ih _ M1 (by omega) hG1 (fun j h hj' => ?_) ?_ ?_ ?_ ?_
      · rcases Nat.lt_or_ge k j with h7 | h7
        · exact hj j h (by omega)
        · have : j = k := by omega
          subst this
          exact hq
      all_goals simp only [go_sem, ↓reduceIte, Nat.reduceEqDiff, Nat.reduceLT, Nat.reduceSub, h0, e0, h3, e0', h4]

theorem ins_sortedR {os : List Sb} {x : Sb} {n : Nat} (h : os.Pairwise fun a b => ltSb b a = false) (hn : n ≤ os.length) (hhi : ∀ j (h : j < os.length), n ≤ j → ltSb x os[j] = true) (hlo : ∀ k (h : k < os.length), k + 1 = n → ltSb x os[k] = false) :
    (os.take n ++ x :: os.drop n).Pairwise fun a b => ltSb b a = false := by
  have asym : ∀ a b, ltSb a b = true → ltSb b a = false := fun a b hab => by
    cases hq : ltSb b a with
    | false => rfl
    | true => have := swo_Sb.trans _ _ _ hab hq; rw [swo_Sb.irrefl] at this; cases this
  have hp := h
  rw [List.pairwise_iff_getElem] at hp
  have low : ∀ j (hj : j < os.length), j < n → ltSb x os[j] = false := fun j hj hjn => by
    obtain ⟨k, rfl⟩ : ∃ k, n = k + 1 := ⟨n - 1, by omega⟩
    have hk := hlo k (by omega) rfl
    rcases Nat.lt_or_ge j k with h1 | h1
    · have h2 := hp j k hj (by omega) h1
      cases hq : ltSb x os[j] with
      | false => rfl
      | true =>
        by_cases he : os[j] = os[k]
        · rw [he] at hq; rw [hq] at hk; cases hk
        · have h3 : ltSb os[j] os[k] = true := by
            cases hq2 : ltSb os[j] os[k] with
            | true => rfl
            | false => exact absurd (tot_Sb _ _ hq2 h2) he
          have := swo_Sb.trans _ _ _ hq h3
          rw [this] at hk; cases hk
    · have : j = k := by omega
      subst this
      exact hk
  rw [List.pairwise_append, List.pairwise_cons]
  refine ⟨h.sublist (List.take_sublist ..), ⟨?_, h.sublist (List.drop_sublist ..)⟩, ?_⟩
  · intro y hy
    obtain ⟨i, hi, rfl⟩ := List.mem_iff_getElem.mp hy
    rw [List.getElem_drop]
    exact asym _ _ (hhi _ _ (by omega))
  · intro y hy z hz
    obtain ⟨i, hi, rfl⟩ := List.mem_iff_getElem.mp hy
    rw [List.getElem_take]
    have hi' : i < n := by simp at hi; omega
    have hix : i < os.length := by omega
    rcases List.mem_cons.mp hz with rfl | hz
    · exact low i hix hi'
    · obtain ⟨j, hj, rfl⟩ := List.mem_iff_getElem.mp hz
      rw [List.getElem_drop]
      exact hp i _ hix _ (by omega)

set_option maxHeartbeats 1000000 in
theorem rSort_loop (s : V) (xs : List Sb) (hl : xs.length < 2 ^ 36) (hk : ∀ x ∈ xs, x.1.length < 2 ^ 63) (M0 : Mem) (hs : SlR elSb M0 s xs) (hlt : ∀ b, s.blk = some b → b < M0.next) {Q : AExit → Fr → Mem → Prop}
    (hE : ∀ fr M so, Grew M0 M → fr.rd 3 = so → Hold M0.next M 3 so xs.length (elSb.all (isort ltSb xs)) → Q (.exit 0) fr M) :
    ∀ (f i : Nat) (fr : Fr) (M : Mem) (so : V) (os : List Sb), i + f = xs.length → os.length = i → Grew M0 M → Hold M0.next M 3 so os.length (elSb.all os) → os.Pairwise (fun a b => ltSb b a = false) → os.Perm (xs.take i) → fr.rd 0 = s → fr.rd 3 = so → fr.rd 4 = .int .i64 (i : Int) → WC D2 46 (.loop A_ref11_Sort_10) fr M Q := by
  intro f
  induction f with
  | zero =>
    intro i fr M so os hi hol hG hH hP hperm h0 h3 h4
    refine WC.loop (W_of ?_)
    unfold A_ref11_Sort_10
    obtain ⟨a, cap, e0, _⟩ := id hs
    rw [e0] at h0
    have : ¬ (i : Int) < xs.length := by omega
    simp -dsimp only [↓w_seq, ↓w_ops, ↓w_skip, ↓w_ret, ↓w_exit, ↓w_scope, ↓w_block, ↓w_cond, cond_true', cond_false', ↓t_nil, ↓t_plain, ↓t_guard, ↓t_gagain, ↓t_again, t_val, t_call, g_true, g_false, ga_true, ga_false, a_val, a_call, ↓n_normal, ↓n_ret, ↓n_exit, ↓b_normal, ↓b_ret, ↓b_exit, ↓e_normal, ↓e_ret, e_some, go_sem, ↓reduceIte, Nat.reduceEqDiff, Nat.reduceLT, Nat.reduceSub, A_ref11_Sort_0, A_ref11_Sort_1, A_ref11_Sort_2, A_ref11_Sort_3, A_ref11_Sort_4, A_ref11_Sort_5, A_ref11_Sort_6, A_ref11_Sort_8, A_ref11_Sort_9, A_ref11_Sort_11, h0, h3, h4, this, decide_false]
    have hix : i = xs.length := by omega
    rw [hix, List.take_length] at hperm
    have : os = isort ltSb xs := sorted_unique hP (isort_sorted swo_Sb xs) (hperm.trans (isort_perm ltSb xs).symm)
    refine hE _ _ so hG (by simp only [go_sem, ↓reduceIte, Nat.reduceEqDiff, Nat.reduceLT, Nat.reduceSub, h3]) ?_
    rw [← this, ← hix, ← hol]
    exact hH
  | succ f ih =>
    intro i fr M so os hi hol hG hH hP hperm h0 h3 h4
    refine WC.loop (W_of ?_)
    unfold A_ref11_Sort_10
    have hil : i < xs.length := by omega
    have hsM : SlR elSb M s xs := hs.keep fun b hb => hG.old b (hlt b hb)
    have hoM : SlR elSb M so os := hH.slR (e := elSb)
    obtain ⟨a0, cap0, hsh⟩ := hH.shape
    obtain ⟨b, o, cs, ro, cap, e0, hM, hr3, hr1, hr2⟩ := sl_at hsM hil
    have h0' := h0
    rw [e0] at h0
    have e1 : (i : Int) < xs.length := by omega
    have e2 : i + 1 ≤ xs.length := by omega
    have h5' : (i : Int) + 1 = ((i + 1 : Nat) : Int) := by omega
    have h3' := h3
    rw [hsh] at h3
    simp -dsimp only [↓w_seq, ↓w_ops, ↓w_skip, ↓w_ret, ↓w_exit, ↓w_scope, ↓w_block, ↓w_cond, cond_true', cond_false', ↓t_nil, ↓t_plain, ↓t_guard, ↓t_gagain, ↓t_again, t_val, t_call, g_true, g_false, ga_true, ga_false, a_val, a_call, ↓n_normal, ↓n_ret, ↓n_exit, ↓b_normal, ↓b_ret, ↓b_exit, ↓e_normal, ↓e_ret, e_some, go_sem, ↓reduceIte, Nat.reduceEqDiff, Nat.reduceLT, Nat.reduceSub, A_ref11_Sort_0, A_ref11_Sort_1, A_ref11_Sort_2, A_ref11_Sort_3, A_ref11_Sort_4, A_ref11_Sort_5, A_ref11_Sort_6, A_ref11_Sort_8, A_ref11_Sort_9, A_ref11_Sort_11, h0, h3, h4, e1, decide_true]
    refine place_loop s so xs os i hil hk (fun x hx => hk x (List.mem_of_mem_take (hperm.mem_iff.mp hx))) (by omega) M hsM hoM (fun b hb => Nat.lt_of_lt_of_le (hlt b hb) hG.next) (fun b hb => (hH.blk_le hb).2.1) ?_ os.length _ M (Nat.le_refl _) (Grew.refl M) (fun j h hj => by omega) ?_ ?_ ?_ ?_
    · intro fr1 M1 n hG1 hn hhi hlo g0 g3 g4 g5
      have hH1 : Hold M0.next M1 3 so os.length (elSb.all os) := hH.keep (fun c hc => hG1.old c (hH.blk_le hc).2.1) hG1.next
      have hsM1 : SlR elSb M1 s xs := hsM.keep fun b hb => hG1.old b (Nat.lt_of_lt_of_le (hlt b hb) hG.next)
      have hbM : b < M0.next := hlt b (by rw [e0]; rfl)
      have hM1 : M1.get b = some (.cells cs ro) := (hG1.old b (Nat.lt_of_lt_of_le hbM hG.next)).trans hM
      obtain ⟨s33, s43, v33, v43, l33, l43, hsrc⟩ := slice_src hH1 hn
      have hfill3 : fillCells [.str [], .int .i64 0, .int .i64 0] [(0, 3, .agg (sbC xs[i]))] = some (sbC xs[i]) := rfl
      have q1 : (M1.push (.cells [] false)).get M1.next = some (.cells [] false) := Mem.get_push_same _ _
      have q2 : ((M1.push (.cells [] false)).push (.cells (sbC xs[i]) false)).get (M1.next + 1) = some (.cells (sbC xs[i]) false) := Mem.get_push_same (M1.push _) _
      have qk : ∀ c, c < M1.next → ((M1.push (.cells [] false)).push (.cells (sbC xs[i]) false)).get c = M1.get c := fun c hc => by
        rw [Mem.get_push_ne _ _ (by simp; omega), Mem.get_push_ne _ _ (by omega)]
      have hn1 := hG.next
      have hn2 := hG1.next
      have hbk : ∀ c, so.blk = some c → c < M1.next := fun c hc => (hH1.blk_le hc).2.1
      have hH2 : Hold M0.next ((M1.push (.cells [] false)).push (.cells (sbC xs[i]) false)) 3 so os.length (elSb.all os) := hH1.keep (fun c hc => qk c (hbk c hc)) (by simp; omega)
      obtain ⟨s34, M4, s40, M5, s44, M6, ha1, ha2, ha3, ho4, hn6, ho6, hH6⟩ := three_app (b1 := M1.next) (b2 := M1.next + 1) (x := xs[i]) (n := n) (by rw [Mem.get_push_ne _ _ (by simp)]; exact q1) (by simp; omega) q2 (by simp) (by omega) hH2 hn
        (fun e => by have := hbk _ e; omega) (fun e => by have := hbk _ e; omega) (by omega) l33 l43
        (fun M' hM' => hsrc M' fun c hc => (hM' c hc).trans (qk c (hbk c hc))) (by unfold maxRoom; omega)
      have hb1 : b < M1.next := by omega
      have hM1' : (M1.push (.cells [] false)).get b = some (.cells cs ro) := (Mem.get_push_ne _ _ (by omega)).trans hM1
      have hM4 : M4.get b = some (.cells cs ro) := (ho4 b (by simp; omega) (by omega)).trans ((qk b hb1).trans hM1)
      have hM4' : M4.get (M1.next + 1) = some (.cells (sbC xs[i]) false) := (ho4 _ (by simp) (by omega)).trans q2
      rw [e0] at g0
      simp -dsimp only [↓w_seq, ↓w_ops, ↓w_skip, ↓w_ret, ↓w_exit, ↓w_scope, ↓w_block, ↓w_cond, cond_true', cond_false', ↓t_nil, ↓t_plain, ↓t_guard, ↓t_gagain, ↓t_again, t_val, t_call, g_true, g_false, ga_true, ga_false, a_val, a_call, ↓n_normal, ↓n_ret, ↓n_exit, ↓b_normal, ↓b_ret, ↓b_exit, ↓e_normal, ↓e_ret, e_some, go_sem, ↓reduceIte, Nat.reduceEqDiff, Nat.reduceLT, Nat.reduceSub, A_ref11_Sort_0, A_ref11_Sort_1, A_ref11_Sort_2, A_ref11_Sort_3, A_ref11_Sort_4, A_ref11_Sort_5, A_ref11_Sort_6, A_ref11_Sort_8, A_ref11_Sort_9, A_ref11_Sort_11, g0, g3, g4, g5, e2, fillCells, repl, List.append_nil, decide_true, v33, v43, vload, vptr, hM1', Mem.read, hr3, Nat.add_zero, hfill3, ha1, ha2, ha3, Mem.next_push, Option.map_none, Option.bind_none, Option.bind_some, id_eq]
      have hnl : (os.take n ++ xs[i] :: os.drop n).length = os.length + 1 := by simp; omega
      refine ⟨?_, ?_⟩
      · have w1 : o + i * 3 + 0 = o + i * 3 := rfl
        simp only [List.all_cons, List.all_nil, Bool.and_true, againOk, wantedA, cond_true, go_sem, ↓reduceIte, Nat.reduceEqDiff, Nat.reduceLT, Nat.reduceSub, Nat.reduceLeDiff, decide_true, vload, Mem.read, hM4, hM4', q2, hr3, Nat.reduceAdd, sameCells, V.beq_self, V.beqs_self, Bool.and_self, V.beq]
      · refine ih (i + 1) _ M6 s44 (os.take n ++ xs[i] :: os.drop n) (by omega) (by rw [hnl, hol]) ⟨by simp at hn6; omega, fun c hc => ?_⟩ (by rw [hnl]; exact hH6) (ins_sortedR hP hn hhi hlo) ?_ ?_ ?_ ?_
        · rw [ho6 c (by simp; omega) (by omega), qk c (by omega), hG1.old c (by omega)]
          exact hG.old c hc
        · have h1 : (os.take n ++ xs[i] :: os.drop n).Perm (xs[i] :: (os.take n ++ os.drop n)) := List.perm_middle
          rw [List.take_append_drop] at h1
          rw [List.take_add_one, List.getElem?_eq_getElem hil]
          exact h1.trans (((List.Perm.cons _ hperm)).trans (List.perm_append_comm (l₁ := [xs[i]])))
        all_goals simp only [go_sem, ↓reduceIte, Nat.reduceEqDiff, Nat.reduceLT, Nat.reduceSub, g0, e0, g4, h5', IntWalk.i64_in ((i + 1 : Nat) : Int) (by omega)]
    all_goals simp only [go_sem, ↓reduceIte, Nat.reduceEqDiff, Nat.reduceLT, Nat.reduceSub, h0', h3', h4, hsh, h0, e0]

theorem rSort_runs (s : V) (xs : List Sb) (hl : xs.length < 2 ^ 36) (hk : ∀ x ∈ xs, x.1.length < 2 ^ 63) (M : Mem) (hs : SlR elSb M s xs) (hlt : ∀ b, s.blk = some b → b < M.next) :
    Runs D2 F_ref11_Sort [s] M fun v M' => Grew M M' ∧ Hold M.next M' 3 v xs.length (elSb.all (isort ltSb xs)) := by
  refine Runs.walk (F := A_ref11_Sort) rfl (by rfl) (by rfl) ?_
  unfold A_ref11_Sort
  simp -dsimp only [↓w_seq, ↓w_ops, ↓w_skip, ↓w_ret, ↓w_exit, ↓w_scope, ↓w_block, ↓w_cond, cond_true', cond_false', ↓t_nil, ↓t_plain, ↓t_guard, ↓t_gagain, ↓t_again, t_val, t_call, g_true, g_false, ga_true, ga_false, a_val, a_call, ↓n_normal, ↓n_ret, ↓n_exit, ↓b_normal, ↓b_ret, ↓b_exit, ↓e_normal, ↓e_ret, e_some, go_sem, ↓reduceIte, Nat.reduceEqDiff, Nat.reduceLT, Nat.reduceSub, A_ref11_Sort_0, A_ref11_Sort_1, A_ref11_Sort_2, A_ref11_Sort_3, A_ref11_Sort_4, A_ref11_Sort_5, A_ref11_Sort_6, A_ref11_Sort_8, A_ref11_Sort_9, A_ref11_Sort_11]
  refine rSort_loop s xs hl hk M hs hlt ?_ xs.length 0 _ M (.slice none 0 (.exact 0)) [] (by omega) rfl (Grew.refl _) .nil .nil (by simp) ?_ ?_ ?_
  · intro fr M' so hG h3 hH
    simp -dsimp only [↓w_seq, ↓w_ops, ↓w_skip, ↓w_ret, ↓w_exit, ↓w_scope, ↓w_block, ↓w_cond, cond_true', cond_false', ↓t_nil, ↓t_plain, ↓t_guard, ↓t_gagain, ↓t_again, t_val, t_call, g_true, g_false, ga_true, ga_false, a_val, a_call, ↓n_normal, ↓n_ret, ↓n_exit, ↓b_normal, ↓b_ret, ↓b_exit, ↓e_normal, ↓e_ret, e_some, go_sem, ↓reduceIte, Nat.reduceEqDiff, Nat.reduceLT, Nat.reduceSub, A_ref11_Sort_0, A_ref11_Sort_1, A_ref11_Sort_2, A_ref11_Sort_3, A_ref11_Sort_4, A_ref11_Sort_5, A_ref11_Sort_6, A_ref11_Sort_8, A_ref11_Sort_9, A_ref11_Sort_11, h3]
    exact ⟨hG, hH⟩
  all_goals simp only [go_sem, ↓reduceIte, Nat.reduceEqDiff, Nat.reduceLT, Nat.reduceSub]
  rfl
end Go.Am.Tryz.O


/- No tree: what each function tells of it. -/
namespace Go.Am.Tryz
open Go Go.Am Go.Proofs Go.Sort Go.Shelf
set_option maxRecDepth 100000
set_option linter.unusedSimpArgs false
set_option linter.unusedVariables false

/-- A pointer to no tree, or to one that nobody made. -/
def NoTree (M : Mem) (t : V) : Prop := t = .ptr none ∨ ∃ tc rc, t = .ptr (some (tc, 0)) ∧ tc < M.next ∧ M.get tc = some (.cells [.map none] rc)
theorem NoTree.grew {M M' : Mem} {t : V} (h : NoTree M t) (hG : Grew M M') : NoTree M' t := by
  rcases h with rfl | ⟨tc, rc, rfl, h1, h2⟩
  · exact .inl rfl
  · exact .inr ⟨tc, rc, rfl, Nat.lt_of_lt_of_le h1 hG.next, (hG.old _ h1).trans h2⟩
theorem NoTree.none_ {M : Mem} {t : V} (h : NoTree M t) : Runs D2 F_tree_Tree_none [t] M fun v M' => v = .bool true ∧ M' = M := by
  rcases h with rfl | ⟨tc, rc, rfl, h1, h2⟩
  · exact none_pn rfl
  · exact none_p0 rfl (treeOf_is0 h2)
theorem NoTree.has {M : Mem} {t : V} (h : NoTree M t) (p : St) : Runs D2 F_tree_Tree_Has [t, .agg (stC p)] M fun v M' => v = .bool false ∧ M' = M := by
  rcases h with rfl | ⟨tc, rc, rfl, h1, h2⟩
  · exact Runs.part (g := pHas) rfl rfl
  · exact Runs.part (g := pHas) rfl (by show (treeOf M tc).bind _ = _; rw [treeOf_is0 h2]; rfl)
theorem NoTree.spot {M : Mem} {t : V} (h : NoTree M t) (p : St) : Runs D2 F_tree_Tree_Spot [t, .agg (stC p)] M fun v M' => v = .tup [.agg (spC sp0), .bool false] ∧ M' = M := by
  rcases h with rfl | ⟨tc, rc, rfl, h1, h2⟩
  · exact Runs.part (g := pSpotT) rfl rfl
  · exact Runs.part (g := pSpotT) rfl (by show (treeOf M tc).map _ = _; rw [treeOf_is0 h2]; rfl)
theorem NoTree.within {M : Mem} {t : V} (h : NoTree M t) (p n : St) : Runs D2 F_tree_Tree_Within [t, .agg (stC p), .agg (stC n)] M fun v M' => v = .bool false ∧ M' = M := by
  rcases h with rfl | ⟨tc, rc, rfl, h1, h2⟩
  · exact Runs.part (g := pWithin) rfl rfl
  · exact Runs.part (g := pWithin) rfl (by show (treeOf M tc).bind _ = _; rw [treeOf_is0 h2]; rfl)
theorem NoTree.above {M : Mem} {t : V} (h : NoTree M t) (n : St) : Runs D2 F_tree_Tree_Above [t, .agg (stC n)] M fun v M' => v = .slice none 0 (.exact 0) ∧ M' = M := by
  rcases h with rfl | ⟨tc, rc, rfl, h1, h2⟩
  · exact Runs.prim (v := .slice none 0 (.exact 0)) (M' := M) rfl rfl ⟨rfl, rfl⟩
  · refine Runs.prim (v := .slice none 0 (.exact 0)) (M' := M) rfl ?_ ⟨rfl, rfl⟩
    have e : pAbove [.ptr (some (tc, 0)), .agg (stC n)] M = some (.flat (.slice none 0 (.exact 0))) := by
      show (match M.get tc with
        | some (.cells [.map none] _) => some (KeepR.flat (.slice none 0 (.exact 0)))
        | some (.cells [.map (some bm)] _) => _
        | _ => none) = _
      simp only [h2]
    show ((pAbove [.ptr (some (tc, 0)), .agg (stC n)] M).map fun r => r.res M) = _
    rw [e]
    rfl
theorem NoTree.below {M : Mem} {t : V} (h : NoTree M t) (p : St) : Runs D2 F_tree_Tree_Below [t, .agg (stC p)] M fun v M' => v = .slice none 0 (.exact 0) ∧ Grew M M' := Below_none D2 rfl (by rfl) rfl (by rfl) M t p fun M' hG => (h.grew hG).none_
theorem WT_abs {D : Decls} {n : Nat} {l : List Item} {fr : Fr} {M : Mem} {K : Fr → Mem → Prop} {k : Tg K} (p : Fr → Prop) (hp : p fr) (h : ∀ fr, p fr → WT D n l fr M k) : WT D n l fr M k := h fr hp
end Go.Am.Tryz


/- Own slices, also such as have no room; what is put together out of parts of one. -/
namespace Go.Am
open Go

/-! ### an own slice, or one of no room -/
def HoldE (lo : Nat) (M : Mem) (es : Nat) (s : V) (n : Nat) (cs : List V) : Prop :=
  Hold lo M es s n cs ∨ (n = 0 ∧ cs = [] ∧ ∃ b, s = .slice (some (b, 0)) 0 (.exact 0) ∧ M.get b = some (.cells [] false) ∧ lo ≤ b ∧ b < M.next)
theorem HoldE.keep {lo es n : Nat} {M M' : Mem} {s : V} {cs : List V} (h : HoldE lo M es s n cs) (hk : ∀ b, s.blk = some b → M'.get b = M.get b) (hn : M.next ≤ M'.next) : HoldE lo M' es s n cs := by
  rcases h with h | ⟨rfl, rfl, b, rfl, h1, h2, h3⟩
  · exact .inl (h.keep hk hn)
  · exact .inr ⟨rfl, rfl, b, rfl, (hk b rfl).trans h1, h2, by omega⟩
theorem HoldE.blk_le {lo es n : Nat} {M : Mem} {s : V} {cs : List V} (h : HoldE lo M es s n cs) {b : Nat} (hb : s.blk = some b) : lo ≤ b ∧ b < M.next := by
  rcases h with h | ⟨rfl, rfl, b', rfl, h1, h2, h3⟩
  · exact ⟨(h.blk_le hb).1, (h.blk_le hb).2.1⟩
  · simp only [V.blk, Option.some.injEq] at hb
    subst hb
    exact ⟨h2, h3⟩
theorem HoldE.append {lo es bytes n m : Nat} {M : Mem} {s x : V} {cs new : List V} (h : HoldE lo M es s n cs) (hlo : lo ≤ M.next) (hx : srcLen x = some m) (hc : srcCells es M m x = some new) (hnew : new.length = m * es)
    (hroom : (n + m) * bytes ≤ maxRoom) (hone : allOne new = true) :
    ∃ s' M', vappend es bytes M s x = some (s', M') ∧ HoldE lo M' es s' (n + m) (cs ++ new) ∧ (m ≠ 0 → Hold lo M' es s' (n + m) (cs ++ new)) ∧ M.next ≤ M'.next ∧ (∀ c, c < M.next → s.blk ≠ some c → M'.get c = M.get c) ∧ (s'.blk = s.blk ∨ s'.blk = some M.next) ∧ (m = 0 → s' = s ∧ M' = M) := by
  rcases h with h | ⟨rfl, rfl, b, rfl, h1, h2, h3⟩
  · by_cases hm : m = 0
    · subst hm
      obtain ⟨s', M', e1, e2, e3, e4, e5⟩ := h.append_any hlo hx hc hnew hroom hone
      have : new = [] := List.eq_nil_of_length_eq_zero (by simpa using hnew)
      subst this
      have h0 : vappend es bytes M s x = some (s, M) := by
        cases h with
        | nil => simp only [vappend, hx, hc, Option.bind_some, beq_dec, decide_true, cond_true]
        | row a b c d => simp only [vappend, hx, hc, Option.bind_some, beq_dec, decide_true, cond_true]
      rw [h0] at e1
      cases e1
      exact ⟨s, M, h0, .inl e2, fun hm => absurd rfl hm, Nat.le_refl _, fun _ _ _ => rfl, .inl rfl, fun _ => ⟨rfl, rfl⟩⟩
    · obtain ⟨M', e1, e2, e3, e4⟩ := h.append hlo hx hc hm hnew hroom hone
      exact ⟨_, M', e1, .inl e2, fun _ => e2, by omega, fun c hc1 hc2 => e4 c (by omega) hc2, .inr rfl, fun h => absurd h hm⟩
  · by_cases hm : m = 0
    · subst hm
      have : new = [] := List.eq_nil_of_length_eq_zero (by simpa using hnew)
      subst this
      exact ⟨_, M, by simp only [vappend, hx, hc, Option.bind_some, beq_dec, decide_true, cond_true], .inr ⟨rfl, rfl, b, rfl, h1, h2, h3⟩, fun hm => absurd rfl hm, Nat.le_refl _, fun _ _ _ => rfl, .inl rfl, fun _ => ⟨rfl, rfl⟩⟩
    · have hle : ¬ m ≤ 0 := by omega
      have hH : Hold lo (M.push (.cells new false)) es (.slice (some (M.next, 0)) m (.upto es)) m new := .row (Mem.get_push_same _ _) hnew hlo (by simp)
      refine ⟨.slice (some (M.next, 0)) m (.upto es), M.push (.cells new false), ?_, ?_, fun _ => ?_, by simp, fun c hc _ => Mem.get_push_ne _ _ (by omega), .inr rfl, fun h => absurd h hm⟩
      · rw [Nat.zero_add] at hroom
        simp only [vappend, hx, hc, Option.bind_some, beq_dec, hm, decide_false, cond_false, Nat.zero_add, ble_iff, hle, hroom, decide_true, cond_true, Option.map_some, List.nil_append]
      · rw [Nat.zero_add, List.nil_append]; exact .inl hH
      · rw [Nat.zero_add, List.nil_append]; exact hH


/-- The two parts of a slice. -/
theorem slice_two {lo es : Nat} {M : Mem} {so : V} {len : Nat} {cs : List V} (h : HoldE lo M es so len cs) {i j : Nat} (hi : i ≤ len) (hj : j ≤ len) :
    ∃ s1 s2, vslice es so none (some i) none = some s1 ∧ vslice es so (some j) none none = some s2 ∧ srcLen s1 = some i ∧ srcLen s2 = some (len - j) ∧
      ∀ M', (∀ b, so.blk = some b → M'.get b = M.get b) → srcCells es M' i s1 = some (cs.take (i * es)) ∧ srcCells es M' (len - j) s2 = some (cs.drop (j * es)) := by
  rcases h with h | ⟨rfl, rfl, b, rfl, h1, h2, h3⟩
  · have hcl := h.len
    cases h with
    | nil =>
      have : i = 0 := by omega
      subst this
      have : j = 0 := by omega
      subst this
      exact ⟨.slice none 0 (.exact 0), .slice none 0 (.exact 0), rfl, rfl, rfl, rfl, fun M' _ => ⟨by simp [srcCells], by simp [srcCells]⟩⟩
    | row a b c d =>
      rename_i blk
      refine ⟨.slice (some (blk, 0)) i (.upto es), .slice (some (blk, j * es)) (len - j) (.upto es), ?_, ?_, rfl, rfl, fun M' hM => ?_⟩
      · simp only [vslice, Option.getD_some, Option.getD_none, beq_dec, decide_true, cond_true, ble_iff, hi, Nat.zero_le, Nat.zero_mul, Nat.add_zero, Nat.sub_zero]
      · simp only [vslice, Option.getD_some, Option.getD_none, beq_dec, decide_true, cond_true, ble_iff, hj, Nat.le_refl, Nat.zero_add]
      · have hM' := (hM blk rfl).trans a
        have e1 : i * es ≤ len * es := Nat.mul_le_mul_right es hi
        have e2 : j * es + (len - j) * es = len * es := by rw [← Nat.add_mul]; congr 1; omega
        constructor
        · simp only [srcCells, beq_dec]
          by_cases h0 : i = 0
          · subst h0; simp
          · rw [decide_eq_false h0]
            simp only [cond_false, Mem.read, hM', rdCells]
            rw [ble_iff, decide_eq_true (by rw [hcl]; omega)]
            simp
        · simp only [srcCells, beq_dec]
          by_cases h0 : len - j = 0
          · rw [decide_eq_true h0]
            simp only [cond_true]
            rw [h0, Nat.zero_mul, Nat.add_zero] at e2
            rw [List.drop_eq_nil_of_le (by rw [hcl]; omega)]
          · rw [decide_eq_false h0]
            simp only [cond_false, Mem.read, hM', rdCells]
            rw [ble_iff, decide_eq_true (by rw [hcl]; omega)]
            simp only [cond_true]
            rw [List.take_of_length_le (by rw [List.length_drop, hcl]; omega)]
  · have : i = 0 := by omega
    subst this
    have : j = 0 := by omega
    subst this
    exact ⟨_, _, rfl, rfl, rfl, rfl, fun M' _ => ⟨by simp [srcCells, beq_dec], by simp [srcCells, beq_dec]⟩⟩

theorem Elem.all_take {α : Type} (e : Elem α) : ∀ (L : List α) (i : Nat), (e.all L).take (i * e.k) = e.all (L.take i)
  | [], i => by simp [Elem.all]
  | x :: L, 0 => by simp [Elem.all]
  | x :: L, i + 1 => by
    have ih := Elem.all_take e L i
    have h1 : e.all (x :: L) = e.cv x ++ e.all L := rfl
    have h2 : e.all ((x :: L).take (i + 1)) = e.cv x ++ e.all (L.take i) := rfl
    rw [h1, h2, Nat.add_mul, Nat.one_mul, Nat.add_comm, List.take_append, e.len, List.take_of_length_le (by rw [e.len]; omega), Nat.add_sub_cancel_left, ih]
theorem Elem.all_drop {α : Type} (e : Elem α) : ∀ (L : List α) (i : Nat), (e.all L).drop (i * e.k) = e.all (L.drop i)
  | [], i => by simp [Elem.all]
  | x :: L, 0 => by simp
  | x :: L, i + 1 => by
    have ih := Elem.all_drop e L i
    have h1 : e.all (x :: L) = e.cv x ++ e.all L := rfl
    rw [h1, Nat.add_mul, Nat.one_mul, Nat.add_comm, List.drop_append, e.len, List.drop_eq_nil_of_le (by rw [e.len]; omega), Nat.add_sub_cancel_left, ih]
    rfl
theorem Elem.all_app {α : Type} (e : Elem α) (a b : List α) : e.all (a ++ b) = e.all a ++ e.all b := by simp [Elem.all, List.flatMap_append]

/-- A part, a new one, the other part, put together anew. -/
theorem ins3 {α : Type} (e : Elem α) {bytes n i : Nat} {M : Mem} {s : V} {L : List α} {x : α} (hn : n = L.length) (h : HoldE 0 M e.k s n (e.all L)) (hi : i ≤ n) (hroom : (n + 1) * bytes ≤ maxRoom) :
    ∃ s46 s58 s47 Mc s52 Md s59 Me, vslice e.k s none (some i) none = some s46 ∧ vslice e.k s (some i) none none = some s58 ∧
      vappend e.k bytes ((M.push (.cells [] false)).push (.cells (e.cv x) false)) (.slice (some (M.next, 0)) 0 (.exact 0)) s46 = some (s47, Mc) ∧ vappend e.k bytes Mc s47 (.slice (some (M.next + 1, 0)) 1 (.exact 1)) = some (s52, Md) ∧ vappend e.k bytes Md s52 s58 = some (s59, Me) ∧
      HoldE M.next Me e.k s59 (n + 1) (e.all (L.take i ++ x :: L.drop i)) ∧ Grew M Mc ∧ Grew M Md ∧ Grew M Me ∧ Mc.get (M.next + 1) = some (.cells (e.cv x) false) := by
  have hkp := e.k_pos
  obtain ⟨s46, s58, v1, v2, l1, l2, hsrc⟩ := slice_two h hi hi
  have hG0 : Grew M ((M.push (.cells [] false)).push (.cells (e.cv x) false)) := (Grew.push _ _).trans (Grew.push _ _)
  have hE0 : HoldE M.next ((M.push (.cells [] false)).push (.cells (e.cv x) false)) e.k (.slice (some (M.next, 0)) 0 (.exact 0)) 0 [] :=
    .inr ⟨rfl, rfl, M.next, rfl, by rw [Mem.get_push_ne _ _ (by simp), Mem.get_push_same], Nat.le_refl _, by simp only [Mem.next_push]; omega⟩
  have hx0 : ((M.push (.cells [] false)).push (.cells (e.cv x) false)).get (M.next + 1) = some (.cells (e.cv x) false) := Mem.get_push_same (M.push _) _
  have hnx0 : ((M.push (.cells [] false)).push (.cells (e.cv x) false)).next = M.next + 2 := rfl
  generalize (M.push (.cells [] false)).push (.cells (e.cv x) false) = M0 at *
  have hb0 : ∀ b, s.blk = some b → b < M.next := fun b hb => (h.blk_le hb).2
  have c1 := (hsrc M0 fun b hb => hG0.old b (hb0 b hb)).1
  rw [e.all_take] at c1
  obtain ⟨s47, Mc, a1, a2, a3, a4, a5, a6, a7⟩ := hE0.append (bytes := bytes) (by omega) l1 c1 (by rw [e.all_len, List.length_take, Nat.min_eq_left (by omega)]) (Nat.le_trans (Nat.mul_le_mul_right bytes (by omega)) hroom) (e.all_one _)
  have hGc : Grew M Mc := ⟨by omega, fun c hc => by rw [a5 c (by omega) (fun e => by simp only [V.blk, Option.some.injEq] at e; omega)]; exact hG0.old c hc⟩
  have hxc : Mc.get (M.next + 1) = some (.cells (e.cv x) false) := by rw [a5 _ (by omega) (fun e => by simp only [V.blk, Option.some.injEq] at e; omega)]; exact hx0
  have hxs : srcCells e.k Mc 1 (.slice (some (M.next + 1, 0)) 1 (.exact 1)) = some (e.all [x]) := by
    have : e.all [x] = e.cv x := by simp [Elem.all]
    rw [this]
    have h2 := read_all hxc
    rw [e.len] at h2
    simp only [srcCells, beq_dec, Nat.one_mul, Nat.reduceEqDiff, decide_false, cond_false]
    exact h2
  obtain ⟨s52, Md, d1, d2, d3, d4, d5, d6, d7⟩ := a2.append (bytes := bytes) (by omega) (m := 1) (x := .slice (some (M.next + 1, 0)) 1 (.exact 1)) rfl hxs (by rw [e.all_len]; rfl) (Nat.le_trans (Nat.mul_le_mul_right bytes (by omega)) hroom) (e.all_one _)
  have hs47 : ∀ c, s47.blk = some c → M.next ≤ c := fun c hc => (a2.blk_le hc).1
  have hGd : Grew M Md := ⟨by have := hGc.next; omega, fun c hc => by rw [d5 c (by have := hGc.next; omega) (fun e => by have := hs47 _ e; omega)]; exact hGc.old c hc⟩
  have c3 := (hsrc Md fun b hb => hGd.old b (hb0 b hb)).2
  rw [e.all_drop] at c3
  obtain ⟨s59, Me, f1, f2, f3, f4, f5, f6, f7⟩ := d2.append (bytes := bytes) (by have := hGd.next; omega) l2 c3 (by rw [e.all_len, List.length_drop]; congr 1; omega) (Nat.le_trans (Nat.mul_le_mul_right bytes (by omega)) hroom) (e.all_one _)
  have hs52 : ∀ c, s52.blk = some c → M.next ≤ c := fun c hc => (d2.blk_le hc).1
  have hGe : Grew M Me := ⟨by have := hGd.next; omega, fun c hc => by rw [f5 c (by have := hGd.next; omega) (fun e => by have := hs52 _ e; omega)]; exact hGd.old c hc⟩
  refine ⟨s46, s58, s47, Mc, s52, Md, s59, Me, v1, v2, a1, d1, f1, ?_, hGc, hGd, hGe, hxc⟩
  have e1 : 0 + i + 1 + (n - i) = n + 1 := by omega
  have e2 : [] ++ e.all (L.take i) ++ e.all [x] ++ e.all (L.drop i) = e.all (L.take i ++ x :: L.drop i) := by
    rw [List.nil_append, ← e.all_app, ← e.all_app]
    simp
  rw [e1, e2] at f2
  exact f2
end Go.Am


/- The reference's Above, Within, Below. -/
namespace Go.Am.Tryz
open Go Go.Am Go.Proofs Go.Sort Go.Shelf
set_option maxRecDepth 100000
set_option linter.unusedSimpArgs false
set_option linter.unusedVariables false

theorem HE.of {lo : Nat} {M : Mem} {s : V} {L : Tr} (h : HoldE lo M 5 s L.length (elRow.all L)) : HE M s L := by
  generalize hn : L.length = n at h
  generalize hc : elRow.all L = cs at h
  rcases h with h | ⟨rfl, rfl, b, rfl, h1, h2, h3⟩
  · cases h with
    | nil => exact .inl ⟨List.eq_nil_of_length_eq_zero hn, none, .exact 0, rfl, fun _ => rfl, fun b o e => (by cases e)⟩
    | row h1 h2 h3 h4 =>
      rename_i b
      by_cases hne : L = []
      · refine .inl ⟨hne, some (b, 0), .upto 5, ?_, fun e => (by cases e), fun b' o e => ?_⟩
        · rw [← hn, hne]; rfl
        · cases e; exact h4
      · exact .inr ⟨hne, _, by rw [hn], by rw [hc]; exact h1, h4⟩
  · exact .inl ⟨List.eq_nil_of_length_eq_zero hn, some (b, 0), .exact 0, rfl, fun e => (by cases e), fun b' o e => (by cases e; exact h3)⟩
/-- The reference's tree in memory. -/
structure RefIn (M : Mem) (rc : Nat) (s : V) (L : Tr) : Prop where
  c : M.get rc = some (.cells [s] false)
  rl : rc < M.next
  ho : HoldE 0 M 5 s L.length (elRow.all L)
  ln : L.length ≤ 100000
theorem RefIn.he {M : Mem} {rc : Nat} {s : V} {L : Tr} (h : RefIn M rc s L) : HE M s L := HE.of h.ho
theorem RefIn.keep {M M' : Mem} {rc : Nat} {s : V} {L : Tr} (h : RefIn M rc s L) (h1 : M'.get rc = M.get rc) (h2 : ∀ b, s.blk = some b → M'.get b = M.get b) (hn : M.next ≤ M'.next) : RefIn M' rc s L :=
  ⟨h1.trans h.c, Nat.lt_of_lt_of_le h.rl hn, h.ho.keep h2 hn, h.ln⟩
theorem RefIn.grew {M M' : Mem} {rc : Nat} {s : V} {L : Tr} (h : RefIn M rc s L) (hG : Grew M M') : RefIn M' rc s L :=
  h.keep (hG.old _ h.rl) (fun b hb => hG.old b (h.ho.blk_le hb).2) hG.next
theorem RefIn.rows {M : Mem} {rc : Nat} {s : V} {L : Tr} (h : RefIn M rc s L) : rowsOf M rc = some L := rowsOf_is h.c h.he h.ln

def upR (L : Tr) : Nat → St → List St
  | 0, _ => []
  | f + 1, n => if (findL L n).2 = true then (rowL L (findL L n).1).1 :: upR L f (rowL L (findL L n).1).1 else []
theorem upR_len (L : Tr) : ∀ (f : Nat) (n : St), (upR L f n).length ≤ f
  | 0, _ => Nat.le_refl _
  | f + 1, n => by
    unfold upR
    split
    · have := upR_len L f (rowL L (findL L n).1).1
      simp only [List.length_cons]; omega
    · simp

theorem rAbove_loop (rc b3 : Nat) (s : V) (L : Tr) (M0 : Mem) (h : RefIn M0 rc s L) (hb3 : M0.next ≤ b3) {Q : AExit → Fr → Mem → Prop} (out : List St) (hout : out.length ≤ 100001)
    (hE : ∀ fr M v, Grew M0 M → Hold (b3 + 1) M 2 v out.length (elSt.all out) → fr.rd 5 = v → Q (.exit 0) fr M) (hR : ∀ fr M v, Grew M0 M → Hold (b3 + 1) M 2 v out.length (elSt.all out) → fr.rd 4 = v → Q .ret fr M) :
    ∀ (f k : Nat) (n : St) (acc : List St) (v : V) (fr : Fr) (M : Mem), k + f = L.length + 1 → out = acc ++ upR L f n → Grew M0 M → b3 < M.next → M.get b3 = some (.cells (stC n) false) → Hold (b3 + 1) M 2 v acc.length (elSt.all acc) → fr.rd 0 = .ptr (some (rc, 0)) → fr.rd 3 = .ptr (some (b3, 0)) → fr.rd 5 = v → fr.rd 6 = .int .i64 (k : Int) → WC D2 41 (.loop A_ref10_Tree_Above_10) fr M Q := by
  have hln := h.ln
  intro f
  induction f with
  | zero =>
    intro k n acc v fr M hk ho hG hb hn hH h0 h3 h5 h6
    refine WC.loop (W_of ?_)
    unfold A_ref10_Tree_Above_10
    have hM := (h.grew hG)
    obtain ⟨a, cap, e, _⟩ := hM.he.sl
    have hc := hM.c
    rw [e] at hc
    have : ¬ (k : Int) ≤ L.length := by omega
    simp -dsimp only [↓w_seq, ↓w_ops, ↓w_skip, ↓w_ret, ↓w_exit, ↓w_scope, ↓w_block, ↓w_cond, cond_true', cond_false', ↓t_nil, ↓t_plain, ↓t_guard, ↓t_gagain, ↓t_again, t_val, t_call, g_true, g_false, ga_true, ga_false, a_val, a_call, ↓n_normal, ↓n_ret, ↓n_exit, ↓b_normal, ↓b_ret, ↓b_exit, ↓e_normal, ↓e_ret, e_some, go_sem, ↓reduceIte, Nat.reduceEqDiff, Nat.reduceLT, Nat.reduceSub, A_ref10_Tree_Above_3, h0, h6, vload, vptr, Mem.read, hc, Nat.add_zero, List.getElem?_cons_zero, this, decide_false]
    rw [upR, List.append_nil] at ho
    subst ho
    exact hE _ M v hG hH (by simp only [go_sem, ↓reduceIte, Nat.reduceEqDiff, Nat.reduceLT, Nat.reduceSub, h5])
  | succ f ih =>
    intro k n acc v fr M hk ho hG hb hn hH h0 h3 h5 h6
    refine WC.loop (W_of ?_)
    unfold A_ref10_Tree_Above_10
    have hM := (h.grew hG)
    have hsl := hM.he.sl
    obtain ⟨a, cap, e, _⟩ := id hsl
    have hc := hM.c
    rw [e] at hc
    have e1 : (k : Int) ≤ L.length := by omega
    have h5' : (k : Int) + 1 = ((k + 1 : Nat) : Int) := by omega
    have hrd : ∀ x : St, rdCells (stC x) 0 2 = some (stC x) := fun _ => rfl
    unfold upR at ho
    simp -dsimp only [↓w_seq, ↓w_ops, ↓w_skip, ↓w_ret, ↓w_exit, ↓w_scope, ↓w_block, ↓w_cond, cond_true', cond_false', ↓t_nil, ↓t_plain, ↓t_guard, ↓t_gagain, ↓t_again, t_val, t_call, g_true, g_false, ga_true, ga_false, a_val, a_call, ↓n_normal, ↓n_ret, ↓n_exit, ↓b_normal, ↓b_ret, ↓b_exit, ↓e_normal, ↓e_ret, e_some, go_sem, ↓reduceIte, Nat.reduceEqDiff, Nat.reduceLT, Nat.reduceSub, A_ref10_Tree_Above_3, A_ref10_Tree_Above_4, h0, h3, h6, vload, vptr, Mem.read, hc, hn, hrd, Nat.add_zero, List.getElem?_cons_zero, e1, decide_true]
    cases hf : (findL L n).2 with
    | false =>
      refine call_eq (find_p rfl hM.rows n) ?_
      rw [hf, if_neg (by simp), List.append_nil] at ho
      subst ho
      rw [hf]
      simp -dsimp only [↓w_seq, ↓w_ops, ↓w_skip, ↓w_ret, ↓w_exit, ↓w_scope, ↓w_block, ↓w_cond, cond_true', cond_false', ↓t_nil, ↓t_plain, ↓t_guard, ↓t_gagain, ↓t_again, t_val, t_call, g_true, g_false, ga_true, ga_false, a_val, a_call, ↓n_normal, ↓n_ret, ↓n_exit, ↓b_normal, ↓b_ret, ↓b_exit, ↓e_normal, ↓e_ret, e_some, go_sem, ↓reduceIte, Nat.reduceEqDiff, Nat.reduceLT, Nat.reduceSub, A_ref10_Tree_Above_5, A_ref10_Tree_Above_6, List.getElem?_cons_zero, List.getElem?_cons_succ, Bool.not_false, h5]
      exact hR _ M v hG hH (by simp only [go_sem, ↓reduceIte, Nat.reduceEqDiff, Nat.reduceLT, Nat.reduceSub])
    | true =>
      refine call_eq (find_p rfl hM.rows n) ?_
      rw [hf, if_pos rfl] at ho
      rw [hf]
      have hlt := findL_lt hf
      obtain ⟨b, o, cs, rb, cap', e', hMb, hr5, hr2, hr3, hr22⟩ := row_at hsl hlt
      rw [e] at e'
      simp only [V.slice.injEq, true_and] at e'
      obtain ⟨rfl, rfl⟩ := e'
      have hrl : L[(findL L n).1].2.1 = (rowL L (findL L n).1).1 := by simp [rowL, List.getD_eq_getElem?_getD, List.getElem?_eq_getElem hlt]
      rw [hrl] at hr22
      generalize (rowL L (findL L n).1).1 = p at hr22 ho
      have e2 : (findL L n).1 + 1 ≤ L.length := hlt
      have hcn : ∀ x : St, V.cells (.agg (stC x)) = stC x := fun _ => rfl
      have hw := write_full (vs := stC p) hn rfl rfl
      have hs3 := Mem.get_set_same M b3 (.cells (stC p) false)
      have hG2 : Grew M0 (M.set b3 (.cells (stC p) false)) := hG.upd hb3 (Upd.set _ _ _)
      have hH2 : Hold (b3 + 1) (M.set b3 (.cells (stC p) false)) 2 v acc.length (elSt.all acc) := hH.keep (fun c hc => Mem.get_set_ne _ _ (by have := (hH.blk_le hc).1; omega)) (Nat.le_refl _)
      have hnx : (M.set b3 (.cells (stC p) false)).next = M.next := rfl
      simp -dsimp only [↓w_seq, ↓w_ops, ↓w_skip, ↓w_ret, ↓w_exit, ↓w_scope, ↓w_block, ↓w_cond, cond_true', cond_false', ↓t_nil, ↓t_plain, ↓t_guard, ↓t_gagain, ↓t_again, t_val, t_call, g_true, g_false, ga_true, ga_false, a_val, a_call, ↓n_normal, ↓n_ret, ↓n_exit, ↓b_normal, ↓b_ret, ↓b_exit, ↓e_normal, ↓e_ret, e_some, go_sem, ↓reduceIte, Nat.reduceEqDiff, Nat.reduceLT, Nat.reduceSub, A_ref10_Tree_Above_5, A_ref10_Tree_Above_7, List.getElem?_cons_zero, List.getElem?_cons_succ, Bool.not_true, h0, h3, vload, vptr, Mem.read, hc, hMb, hr22, Nat.add_zero, e2, decide_true, vstore, hcn, stC_len, hw, Nat.reduceEqDiff]
      generalize M.set b3 (.cells (stC p) false) = M1 at *
      have hH3 : Hold (b3 + 1) (M1.push (.cells (stC p) false)) 2 v acc.length (elSt.all acc) := hH2.keep (fun c hc => Mem.get_push_ne _ _ (by have := hH2.blk_le hc; omega)) (by simp)
      have hul := upR_len L f p
      have hal : acc.length + 1 ≤ 100001 := by rw [ho] at hout; simp at hout; omega
      obtain ⟨M4, hap, hH4, hn4, ho4⟩ := hH3.append (bytes := 16) (m := 1) (x := .slice (some (M1.next, 0)) 1 (.exact 1)) (new := stC p) (by simp; omega) rfl
        (by
          have := read_all (Mem.get_push_same M1 (.cells (stC p) false))
          simp only [srcCells, beq_dec, Nat.one_mul, Nat.reduceEqDiff, decide_false, cond_false]
          exact this) (by omega) rfl (by
            have hmx : maxRoom = 17592186044416 := rfl
            omega) rfl
      have hf1 : fillCells [.int .i64 0, .int .i64 0] [(0, 2, .agg (stC p))] = some (stC p) := rfl
      simp -dsimp only [↓w_seq, ↓w_ops, ↓w_skip, ↓w_ret, ↓w_exit, ↓w_scope, ↓w_block, ↓w_cond, cond_true', cond_false', ↓t_nil, ↓t_plain, ↓t_guard, ↓t_gagain, ↓t_again, t_val, t_call, g_true, g_false, ga_true, ga_false, a_val, a_call, ↓n_normal, ↓n_ret, ↓n_exit, ↓b_normal, ↓b_ret, ↓b_exit, ↓e_normal, ↓e_ret, e_some, go_sem, ↓reduceIte, Nat.reduceEqDiff, Nat.reduceLT, Nat.reduceSub, A_ref10_Tree_Above_8, A_ref10_Tree_Above_9, h3, h5, h6, h5', vload, vptr, Mem.read, hs3, hrd, repl, List.append_nil, hf1, hap, IntWalk.i64_in ((k + 1 : Nat) : Int) (by omega)]
      simp only [Mem.next_push] at hH4 hn4 ho4
      refine ih (k + 1) p (acc ++ [p]) (.slice (some (M1.next + 1, 0)) (acc.length + 1) (.upto 2)) _ M4 (by omega) (by rw [ho]; simp) ⟨by have := hG2.next; omega, fun c hc => ?_⟩ (by omega) ?_ ?_ ?_ ?_ ?_ ?_
      · have := hG2.next
        rw [ho4 c (by omega) (fun e => by have := (hH2.blk_le e).1; omega), Mem.get_push_ne _ _ (by omega)]
        exact hG2.old c hc
      · rw [ho4 b3 (by omega) (fun e => by have := (hH2.blk_le e).1; omega), Mem.get_push_ne _ _ (by omega)]
        exact hs3
      · have e2 : elSt.all (acc ++ [p]) = elSt.all acc ++ stC p := by simp [Elem.all, elSt]
        rw [List.length_append, e2]
        exact hH4
      all_goals simp only [go_sem, ↓reduceIte, Nat.reduceEqDiff, Nat.reduceLT, Nat.reduceSub, h0, h3, Mem.next_push]
theorem rAbove_runs (rc : Nat) (s : V) (L : Tr) (n : St) (M : Mem) (h : RefIn M rc s L) : Runs D2 F_ref10_Tree_Above [.ptr (some (rc, 0)), .agg (stC n)] M fun v M' => Grew M M' ∧ Hold M.next M' 2 v (upR L (L.length + 1) n).length (elSt.all (upR L (L.length + 1) n)) := by
  refine R_opq fun R hR => ?_
  refine Runs.walk (F := A_ref10_Tree_Above) rfl (by rfl) (by rfl) ?_
  unfold A_ref10_Tree_Above
  have hcn : V.cells (.agg (stC n)) = stC n := rfl
  have hG := Grew.push M (.cells (stC n) false)
  have g3 : (M.push (.cells (stC n) false)).get M.next = some (.cells (stC n) false) := Mem.get_push_same _ _
  have hnx : (M.push (.cells (stC n) false)).next = M.next + 1 := rfl
  have hln := h.ln
  simp -dsimp only [↓w_seq, ↓w_ops, ↓w_skip, ↓w_ret, ↓w_exit, ↓w_scope, ↓w_block, ↓w_cond, cond_true', cond_false', ↓t_nil, ↓t_plain, ↓t_guard, ↓t_gagain, ↓t_again, t_val, t_call, g_true, g_false, ga_true, ga_false, a_val, a_call, ↓n_normal, ↓n_ret, ↓n_exit, ↓b_normal, ↓b_ret, ↓b_exit, ↓e_normal, ↓e_ret, e_some, go_sem, ↓reduceIte, Nat.reduceEqDiff, Nat.reduceLT, Nat.reduceSub, A_ref10_Tree_Above_0, A_ref10_Tree_Above_1, A_ref10_Tree_Above_2, hcn]
  generalize M.push (.cells (stC n) false) = M1 at *
  refine rAbove_loop rc M.next s L M h (Nat.le_refl _) (upR L (L.length + 1) n) (Nat.le_trans (upR_len L _ n) (by omega)) ?_ ?_ (L.length + 1) 0 n [] (.slice none 0 (.exact 0)) _ M1 (by omega) rfl hG (by omega) g3 .nil ?_ ?_ ?_ ?_
  · intro fr M2 v hG2 hH h5
    simp -dsimp only [↓w_seq, ↓w_ops, ↓w_skip, ↓w_ret, ↓w_exit, ↓w_scope, ↓w_block, ↓w_cond, cond_true', cond_false', ↓t_nil, ↓t_plain, ↓t_guard, ↓t_gagain, ↓t_again, t_val, t_call, g_true, g_false, ga_true, ga_false, a_val, a_call, ↓n_normal, ↓n_ret, ↓n_exit, ↓b_normal, ↓b_ret, ↓b_exit, ↓e_normal, ↓e_ret, e_some, go_sem, ↓reduceIte, Nat.reduceEqDiff, Nat.reduceLT, Nat.reduceSub, A_ref10_Tree_Above_11, h5]
    exact hR _ _ ⟨hG2, hH.lower (by omega)⟩
  · intro fr M2 v hG2 hH h4
    simp -dsimp only [↓w_seq, ↓w_ops, ↓w_skip, ↓w_ret, ↓w_exit, ↓w_scope, ↓w_block, ↓w_cond, cond_true', cond_false', ↓t_nil, ↓t_plain, ↓t_guard, ↓t_gagain, ↓t_again, t_val, t_call, g_true, g_false, ga_true, ga_false, a_val, a_call, ↓n_normal, ↓n_ret, ↓n_exit, ↓b_normal, ↓b_ret, ↓b_exit, ↓e_normal, ↓e_ret, e_some, go_sem, ↓reduceIte, Nat.reduceEqDiff, Nat.reduceLT, Nat.reduceSub, h4]
    exact hR _ _ ⟨hG2, hH.lower (by omega)⟩
  all_goals simp only [go_sem, ↓reduceIte, Nat.reduceEqDiff, Nat.reduceLT, Nat.reduceSub]
  rfl

theorem mem_loop (b4 : Nat) (p : St) (su : V) (up : List St) (M : Mem) (hs : SlR elSt M su up) (hul : up.length ≤ 100001) (h4 : M.get b4 = some (.cells (stC p) false)) {Q : AExit → Fr → Mem → Prop}
    (hE : ∀ fr, p ∉ up → Q (.exit 0) fr M) (hR : ∀ fr, p ∈ up → fr.rd 6 = .bool true → Q .ret fr M) :
    ∀ (f k : Nat) (fr : Fr), k + f = up.length → p ∉ up.take k → fr.rd 4 = .ptr (some (b4, 0)) → fr.rd 9 = su → fr.rd 10 = .int .i64 (k : Int) → WC D2 37 (.loop A_ref10_Tree_Within_12) fr M Q := by
  intro f
  induction f with
  | zero =>
    intro k fr hk hn hf4 h9 h10
    refine WC.loop (W_of ?_)
    unfold A_ref10_Tree_Within_12
    obtain ⟨a, cap, rfl, _⟩ := hs
    have : ¬ (k : Int) < up.length := by omega
    simp -dsimp only [↓w_seq, ↓w_ops, ↓w_skip, ↓w_ret, ↓w_exit, ↓w_scope, ↓w_block, ↓w_cond, cond_true', cond_false', ↓t_nil, ↓t_plain, ↓t_guard, ↓t_gagain, ↓t_again, t_val, t_call, g_true, g_false, ga_true, ga_false, a_val, a_call, ↓n_normal, ↓n_ret, ↓n_exit, ↓b_normal, ↓b_ret, ↓b_exit, ↓e_normal, ↓e_ret, e_some, go_sem, ↓reduceIte, Nat.reduceEqDiff, Nat.reduceLT, Nat.reduceSub, A_ref10_Tree_Within_8, h9, h10, this, decide_false]
    have : k = up.length := by omega
    subst this
    rw [List.take_length] at hn
    exact hE _ hn
  | succ f ih =>
    intro k fr hk hn hf4 h9 h10
    refine WC.loop (W_of ?_)
    unfold A_ref10_Tree_Within_12
    have hil : k < up.length := by omega
    obtain ⟨b, o, cs, ro, cap, rfl, hM, hr⟩ := st_at hs hil
    have e1 : (k : Int) < up.length := by omega
    have e2 : k + 1 ≤ up.length := by omega
    have h5' : (k : Int) + 1 = ((k + 1 : Nat) : Int) := by omega
    have hrd : ∀ x : St, rdCells (stC x) 0 2 = some (stC x) := fun _ => rfl
    by_cases he : up[k] = p
    · simp -dsimp only [↓w_seq, ↓w_ops, ↓w_skip, ↓w_ret, ↓w_exit, ↓w_scope, ↓w_block, ↓w_cond, cond_true', cond_false', ↓t_nil, ↓t_plain, ↓t_guard, ↓t_gagain, ↓t_again, t_val, t_call, g_true, g_false, ga_true, ga_false, a_val, a_call, ↓n_normal, ↓n_ret, ↓n_exit, ↓b_normal, ↓b_ret, ↓b_exit, ↓e_normal, ↓e_ret, e_some, go_sem, ↓reduceIte, Nat.reduceEqDiff, Nat.reduceLT, Nat.reduceSub, A_ref10_Tree_Within_8, A_ref10_Tree_Within_9, A_ref10_Tree_Within_10, hf4, h9, h10, e1, e2, decide_true, vload, vptr, Mem.read, hM, hr, h4, hrd, st_same, he]
      exact hR _ (he ▸ List.getElem_mem hil) (by simp only [go_sem, ↓reduceIte, Nat.reduceEqDiff, Nat.reduceLT, Nat.reduceSub])
    · simp -dsimp only [↓w_seq, ↓w_ops, ↓w_skip, ↓w_ret, ↓w_exit, ↓w_scope, ↓w_block, ↓w_cond, cond_true', cond_false', ↓t_nil, ↓t_plain, ↓t_guard, ↓t_gagain, ↓t_again, t_val, t_call, g_true, g_false, ga_true, ga_false, a_val, a_call, ↓n_normal, ↓n_ret, ↓n_exit, ↓b_normal, ↓b_ret, ↓b_exit, ↓e_normal, ↓e_ret, e_some, go_sem, ↓reduceIte, Nat.reduceEqDiff, Nat.reduceLT, Nat.reduceSub, A_ref10_Tree_Within_8, A_ref10_Tree_Within_9, A_ref10_Tree_Within_11, hf4, h9, h10, e1, e2, decide_true, vload, vptr, Mem.read, hM, hr, h4, hrd, st_same, he, decide_false, h5', IntWalk.i64_in ((k + 1 : Nat) : Int) (by omega)]
      refine ih (k + 1) _ (by omega) ?_ ?_ ?_ ?_
      · rw [List.take_add_one, List.getElem?_eq_getElem hil]
        intro hm
        rcases List.mem_append.mp hm with hm | hm
        · exact hn hm
        · simp only [Option.toList, List.mem_singleton] at hm
          exact he hm.symm
      all_goals simp only [go_sem, ↓reduceIte, Nat.reduceEqDiff, Nat.reduceLT, Nat.reduceSub, hf4, h9]
def withinR (L : Tr) (p n : St) : Bool := (findL L n).2 && (decide (p = n) || decide (p ∈ upR L (L.length + 1) n))
theorem rWithin_runs (rc : Nat) (s : V) (L : Tr) (p n : St) (M : Mem) (h : RefIn M rc s L) : Runs D2 F_ref10_Tree_Within [.ptr (some (rc, 0)), .agg (stC p), .agg (stC n)] M fun v M' => v = .bool (withinR L p n) ∧ Grew M M' := by
  refine R_opq fun R hR => ?_
  refine Runs.walk (F := A_ref10_Tree_Within) rfl (by rfl) (by rfl) ?_
  unfold A_ref10_Tree_Within
  have hcn : ∀ x : St, V.cells (.agg (stC x)) = stC x := fun _ => rfl
  have hrd : ∀ x : St, rdCells (stC x) 0 2 = some (stC x) := fun _ => rfl
  have hG := (Grew.push M (.cells (stC p) false)).trans (Grew.push _ (.cells (stC n) false))
  have g4 : ((M.push (.cells (stC p) false)).push (.cells (stC n) false)).get M.next = some (.cells (stC p) false) := by rw [Mem.get_push_ne _ _ (by simp), Mem.get_push_same]
  have g5 : ((M.push (.cells (stC p) false)).push (.cells (stC n) false)).get (M.next + 1) = some (.cells (stC n) false) := Mem.get_push_same (M.push _) _
  have hnx : ((M.push (.cells (stC p) false)).push (.cells (stC n) false)).next = M.next + 2 := rfl
  simp -dsimp only [↓w_seq, ↓w_ops, ↓w_skip, ↓w_ret, ↓w_exit, ↓w_scope, ↓w_block, ↓w_cond, cond_true', cond_false', ↓t_nil, ↓t_plain, ↓t_guard, ↓t_gagain, ↓t_again, t_val, t_call, g_true, g_false, ga_true, ga_false, a_val, a_call, ↓n_normal, ↓n_ret, ↓n_exit, ↓b_normal, ↓b_ret, ↓b_exit, ↓e_normal, ↓e_ret, e_some, go_sem, ↓reduceIte, Nat.reduceEqDiff, Nat.reduceLT, Nat.reduceSub, A_ref10_Tree_Within_0, A_ref10_Tree_Within_1, hcn, Mem.next_push]
  generalize (M.push (.cells (stC p) false)).push (.cells (stC n) false) = M1 at *
  have h1 := h.grew hG
  simp -dsimp only [↓w_seq, ↓w_ops, ↓w_skip, ↓w_ret, ↓w_exit, ↓w_scope, ↓w_block, ↓w_cond, cond_true', cond_false', ↓t_nil, ↓t_plain, ↓t_guard, ↓t_gagain, ↓t_again, t_val, t_call, g_true, g_false, ga_true, ga_false, a_val, a_call, ↓n_normal, ↓n_ret, ↓n_exit, ↓b_normal, ↓b_ret, ↓b_exit, ↓e_normal, ↓e_ret, e_some, go_sem, ↓reduceIte, Nat.reduceEqDiff, Nat.reduceLT, Nat.reduceSub, vload, vptr, Mem.read, g5, hrd]
  cases hf : (findL L n).2 with
  | false =>
    refine call_eq (find_p rfl h1.rows n) ?_
    rw [hf]
    simp -dsimp only [↓w_seq, ↓w_ops, ↓w_skip, ↓w_ret, ↓w_exit, ↓w_scope, ↓w_block, ↓w_cond, cond_true', cond_false', ↓t_nil, ↓t_plain, ↓t_guard, ↓t_gagain, ↓t_again, t_val, t_call, g_true, g_false, ga_true, ga_false, a_val, a_call, ↓n_normal, ↓n_ret, ↓n_exit, ↓b_normal, ↓b_ret, ↓b_exit, ↓e_normal, ↓e_ret, e_some, go_sem, ↓reduceIte, Nat.reduceEqDiff, Nat.reduceLT, Nat.reduceSub, A_ref10_Tree_Within_2, A_ref10_Tree_Within_3, List.getElem?_cons_zero, List.getElem?_cons_succ, Bool.not_false]
    exact hR _ _ ⟨by rw [withinR, hf]; rfl, hG⟩
  | true =>
    by_cases hpn : p = n
    · refine call_eq (find_p rfl h1.rows n) ?_
      rw [hf]
      simp -dsimp only [↓w_seq, ↓w_ops, ↓w_skip, ↓w_ret, ↓w_exit, ↓w_scope, ↓w_block, ↓w_cond, cond_true', cond_false', ↓t_nil, ↓t_plain, ↓t_guard, ↓t_gagain, ↓t_again, t_val, t_call, g_true, g_false, ga_true, ga_false, a_val, a_call, ↓n_normal, ↓n_ret, ↓n_exit, ↓b_normal, ↓b_ret, ↓b_exit, ↓e_normal, ↓e_ret, e_some, go_sem, ↓reduceIte, Nat.reduceEqDiff, Nat.reduceLT, Nat.reduceSub, A_ref10_Tree_Within_2, A_ref10_Tree_Within_4, A_ref10_Tree_Within_5, List.getElem?_cons_zero, List.getElem?_cons_succ, Bool.not_true, vload, vptr, Mem.read, g4, g5, hrd, st_same, hpn, decide_true]
      exact hR _ _ ⟨by rw [withinR, hf, decide_eq_true hpn]; rfl, hG⟩
    · refine call_eq (find_p rfl h1.rows n) ?_
      rw [hf]
      simp -dsimp only [↓w_seq, ↓w_ops, ↓w_skip, ↓w_ret, ↓w_exit, ↓w_scope, ↓w_block, ↓w_cond, cond_true', cond_false', ↓t_nil, ↓t_plain, ↓t_guard, ↓t_gagain, ↓t_again, t_val, t_call, g_true, g_false, ga_true, ga_false, a_val, a_call, ↓n_normal, ↓n_ret, ↓n_exit, ↓b_normal, ↓b_ret, ↓b_exit, ↓e_normal, ↓e_ret, e_some, go_sem, ↓reduceIte, Nat.reduceEqDiff, Nat.reduceLT, Nat.reduceSub, A_ref10_Tree_Within_2, A_ref10_Tree_Within_4, A_ref10_Tree_Within_6, List.getElem?_cons_zero, List.getElem?_cons_succ, Bool.not_true, vload, vptr, Mem.read, g4, g5, hrd, st_same, hpn, decide_false]
      refine call_of (rAbove_runs rc s L n M1 h1) ?_
      intro v M2 hv
      obtain ⟨hG2, hH⟩ := hv
      have hln := h.ln
      have hsl := Hold.slR hH
      simp -dsimp only [↓w_seq, ↓w_ops, ↓w_skip, ↓w_ret, ↓w_exit, ↓w_scope, ↓w_block, ↓w_cond, cond_true', cond_false', ↓t_nil, ↓t_plain, ↓t_guard, ↓t_gagain, ↓t_again, t_val, t_call, g_true, g_false, ga_true, ga_false, a_val, a_call, ↓n_normal, ↓n_ret, ↓n_exit, ↓b_normal, ↓b_ret, ↓b_exit, ↓e_normal, ↓e_ret, e_some, go_sem, ↓reduceIte, Nat.reduceEqDiff, Nat.reduceLT, Nat.reduceSub, A_ref10_Tree_Within_7]
      refine mem_loop M.next p v (upR L (L.length + 1) n) M2 hsl (Nat.le_trans (upR_len L _ n) (by omega)) ((hG2.old _ (by omega)).trans g4) ?_ ?_ (upR L (L.length + 1) n).length 0 _ (by omega) (by simp) ?_ ?_ ?_
      · intro fr hni
        simp -dsimp only [↓w_seq, ↓w_ops, ↓w_skip, ↓w_ret, ↓w_exit, ↓w_scope, ↓w_block, ↓w_cond, cond_true', cond_false', ↓t_nil, ↓t_plain, ↓t_guard, ↓t_gagain, ↓t_again, t_val, t_call, g_true, g_false, ga_true, ga_false, a_val, a_call, ↓n_normal, ↓n_ret, ↓n_exit, ↓b_normal, ↓b_ret, ↓b_exit, ↓e_normal, ↓e_ret, e_some, go_sem, ↓reduceIte, Nat.reduceEqDiff, Nat.reduceLT, Nat.reduceSub, A_ref10_Tree_Within_13]
        exact hR _ _ ⟨by rw [withinR, hf, decide_eq_false hpn, decide_eq_false hni]; rfl, hG.trans hG2⟩
      · intro fr hin h6
        simp -dsimp only [↓w_seq, ↓w_ops, ↓w_skip, ↓w_ret, ↓w_exit, ↓w_scope, ↓w_block, ↓w_cond, cond_true', cond_false', ↓t_nil, ↓t_plain, ↓t_guard, ↓t_gagain, ↓t_again, t_val, t_call, g_true, g_false, ga_true, ga_false, a_val, a_call, ↓n_normal, ↓n_ret, ↓n_exit, ↓b_normal, ↓b_ret, ↓b_exit, ↓e_normal, ↓e_ret, e_some, go_sem, ↓reduceIte, Nat.reduceEqDiff, Nat.reduceLT, Nat.reduceSub, h6]
        exact hR _ _ ⟨by rw [withinR, hf, decide_eq_false hpn, decide_eq_true hin]; rfl, hG.trans hG2⟩
      all_goals simp only [go_sem, ↓reduceIte, Nat.reduceEqDiff, Nat.reduceLT, Nat.reduceSub]
      rfl
end Go.Am.Tryz


/- The reference's Below and Add. -/
namespace Go.Am.Tryz
open Go Go.Am Go.Proofs Go.Sort Go.Shelf
set_option maxRecDepth 100000
set_option linter.unusedSimpArgs false
set_option linter.unusedVariables false

def belR (L : Tr) (p : St) : List St := (L.filter fun r => decide (r.2.1 = p)).map (·.1)
/-- All but the reference's tree is as it was. -/
structure Keep2 (M : Mem) (rc : Nat) (s : V) (M' : Mem) : Prop where
  next : M.next ≤ M'.next
  old : ∀ c, c < M.next → c ≠ rc → s.blk ≠ some c → M'.get c = M.get c
theorem Keep2.of {M M' : Mem} {rc : Nat} {s : V} (h : Grew M M') : Keep2 M rc s M' := ⟨h.next, fun c hc _ _ => h.old c hc⟩
def addER (L : Tr) (n : St) (s : Spot) : Nat := if (nodeSt n && rightSp s) = false then 1 else if (findL L n).2 = true then 4 else if hasRB L s.1 = false then 3 else if 65536 ≤ L.length then 7 else 0
def addLR (L : Tr) (n : St) (s : Spot) : Tr := if addER L n s = 0 then L.take (findL L n).1 ++ (n, s) :: L.drop (findL L n).1 else L
/-- What the reference's tree comes to. -/
def RefTo (M : Mem) (rc : Nat) (s : V) (M' : Mem) (L' : Tr) : Prop := ∃ s', RefIn M' rc s' L' ∧ (s' = s ∨ ∀ b, s'.blk = some b → M.next ≤ b) ∧ Keep2 M rc s M'
theorem RefTo.same {M M' : Mem} {rc : Nat} {s : V} {L : Tr} (h : RefIn M rc s L) (hG : Grew M M') : RefTo M rc s M' L := ⟨s, h.grew hG, .inl rfl, Keep2.of hG⟩

theorem rnode_p {D : Decls} (hp : D.prim F_ref07_Node = some fun args M => (pOpNode args M).map (·, M)) {M : Mem} (x : St) : Runs D F_ref07_Node [.agg (stC x)] M fun v M' => v = .bool (nodeSt x) ∧ M' = M := Runs.part (g := pOpNode) hp rfl
theorem rspright_p {D : Decls} (hp : D.prim F_ref10_Right = some fun args M => (pRSpRight args M).map (·, M)) {M : Mem} (s : Spot) : Runs D F_ref10_Right [.agg (spC s)] M fun v M' => v = .bool (rightSp s) ∧ M' = M := Runs.part (g := pRSpRight) hp rfl

theorem HoldE.low {lo lo' es n : Nat} {M : Mem} {s : V} {cs : List V} (h : HoldE lo M es s n cs) (hl : lo' ≤ lo) : HoldE lo' M es s n cs := by
  rcases h with h | ⟨a, b, c, d, e, f, g⟩
  · exact .inl (h.lower hl)
  · exact .inr ⟨a, b, c, d, e, Nat.le_trans hl f, g⟩
set_option maxHeartbeats 1000000 in
theorem rAdd10 (rc b4 b5 : Nat) (s : V) (L : Tr) (n : St) (sp : Spot) (M : Mem) (h : RefIn M rc s L) (hl : L.length < 100000) (l4 : b4 < M.next) (l5 : b5 < M.next) (g4 : M.get b4 = some (.cells (stC n) false)) (g5 : M.get b5 = some (.cells (spC sp) false)) (i : Nat) (hi : i ≤ L.length) {K : Fr → Mem → Prop}
    (hK : ∀ fr M', RefTo M rc s M' (L.take i ++ (n, sp) :: L.drop i) → K fr M') (fr : Fr) (h0 : fr.rd 0 = .ptr (some (rc, 0))) (h4 : fr.rd 4 = .ptr (some (b4, 0))) (h5 : fr.rd 5 = .ptr (some (b5, 0))) (h7 : fr.rd 7 = .int .i64 (i : Int)) : WT D2 62 A_ref10_Tree_Add_10 fr M (K := K) ⟨⟩ := by
  have hmx : maxRoom = 17592186044416 := rfl
  have hrn : rdCells (stC n) 0 2 = some (stC n) := rfl
  have hrs : rdCells (spC sp) 0 3 = some (spC sp) := rfl
  obtain ⟨s46, s58, s47, Mc, s52, Md, s59, Me, v1, v2, a1, a2, a3, hHE, hGc, hGd, hGe, hxc⟩ := ins3 elRow (bytes := 48) (i := i) (x := (n, sp)) rfl h.ho hi (by omega)
  have k5 : elRow.k = 5 := rfl
  have kc : elRow.cv (n, sp) = rowC (n, sp) := rfl
  rw [k5] at v1 v2 a1 a2 a3 hHE
  rw [kc] at a1 hxc
  obtain ⟨a, cap, es, _⟩ := h.he.sl
  have hc := h.c
  rw [es] at hc v1 v2
  have hp1 := Grew.push M (.cells [] false)
  have hp2 := hp1.trans (Grew.push _ (.cells (rowC (n, sp)) false))
  have c1 := (hp1.old _ h.rl).trans hc
  have c2 := (hp2.old _ h.rl).trans hc
  have q4 := (hp1.old _ l4).trans g4
  have q5 := (hp1.old _ l5).trans g5
  have cc := (hGc.old _ h.rl).trans hc
  have cd := (hGd.old _ h.rl).trans hc
  have ce := (hGe.old _ h.rl).trans hc
  have p4 := (hGc.old _ l4).trans g4
  have p5 := (hGc.old _ l5).trans g5
  have f0 : fillCells [] [] = some [] := rfl
  have f1 : fillCells [.int .i64 0, .int .i64 0, .int .i64 0, .int .i64 0, .str []] [(0, 2, .agg (stC n)), (2, 3, .agg (spC sp))] = some (rowC (n, sp)) := rfl
  have f2 : fillCells [.int .i64 0, .int .i64 0, .int .i64 0, .int .i64 0, .str []] [(0, 5, .agg (rowC (n, sp)))] = some (rowC (n, sp)) := rfl
  have hx2 : ((M.push (.cells [] false)).push (.cells (rowC (n, sp)) false)).get (M.next + 1) = some (.cells (rowC (n, sp)) false) := Mem.get_push_same (M.push _) _
  simp -dsimp only [↓w_seq, ↓w_ops, ↓w_skip, ↓w_ret, ↓w_exit, ↓w_scope, ↓w_block, ↓w_cond, cond_true', cond_false', ↓t_nil, ↓t_plain, ↓t_guard, ↓t_gagain, ↓t_again, t_val, t_call, g_true, g_false, ga_true, ga_false, a_val, a_call, ↓n_normal, ↓n_ret, ↓n_exit, ↓b_normal, ↓b_ret, ↓b_exit, ↓e_normal, ↓e_ret, e_some, go_sem, ↓reduceIte, Nat.reduceEqDiff, Nat.reduceLT, Nat.reduceSub, A_ref10_Tree_Add_10, h0, h4, h5, h7, vload, vptr, Mem.read, hc, c1, c2, q4, q5, hrn, hrs, Nat.add_zero, List.getElem?_cons_zero, f0, f1, f2, vof, Option.map_some, repl, Mem.next_push, Option.map_none, Option.bind_none, Option.bind_some, id_eq, v1, v2, a1]
  refine ⟨?_, ?_⟩
  · simp only [List.all_cons, List.all_nil, Bool.and_true, againOk, wantedA, cond_true, go_sem, ↓reduceIte, Nat.reduceEqDiff, Nat.reduceLT, Nat.reduceSub, vload, vptr, Mem.read, h4, h5, vof, Option.map_some, Bool.true_and, cc, p4, p5, hx2, hxc, hrn, hrs, sameCells, Nat.add_zero, List.getElem?_cons_zero, Nat.zero_add, V.beq, V.beq_self, V.beqs_self, Bool.and_self, Nat.reduceAdd, Nat.reduceLeDiff, decide_true, cond_true]
  simp -dsimp only [↓w_seq, ↓w_ops, ↓w_skip, ↓w_ret, ↓w_exit, ↓w_scope, ↓w_block, ↓w_cond, cond_true', cond_false', ↓t_nil, ↓t_plain, ↓t_guard, ↓t_gagain, ↓t_again, t_val, t_call, g_true, g_false, ga_true, ga_false, a_val, a_call, ↓n_normal, ↓n_ret, ↓n_exit, ↓b_normal, ↓b_ret, ↓b_exit, ↓e_normal, ↓e_ret, e_some, go_sem, ↓reduceIte, Nat.reduceEqDiff, Nat.reduceLT, Nat.reduceSub, a2, Option.map_some]
  refine ⟨?_, ?_⟩
  · simp only [List.all_cons, List.all_nil, Bool.and_true, againOk, wantedA, cond_true, go_sem, ↓reduceIte, Nat.reduceEqDiff, Nat.reduceLT, Nat.reduceSub, vload, vptr, Mem.read, vof, Option.map_some, Bool.true_and, cd, Nat.add_zero, List.getElem?_cons_zero, Nat.zero_add, V.beq, V.beq_self, V.beqs_self, Bool.and_self, Nat.reduceAdd, Nat.reduceLeDiff, decide_true, cond_true]
  have hsl : ∃ a n c, s59 = .slice a n c := by
    rcases hHE with h | ⟨_, _, b, e, _⟩
    · obtain ⟨a, c, e⟩ := h.shape; exact ⟨a, _, c, e⟩
    · exact ⟨_, _, _, e⟩
  have hone : V.cells s59 = [s59] := by obtain ⟨_, _, _, rfl⟩ := hsl; rfl
  have hone2 : s59.one = true := by obtain ⟨_, _, _, rfl⟩ := hsl; rfl
  have hw := write_one (v := s59) ce (show 0 < 1 by omega) hone2
  simp -dsimp only [↓w_seq, ↓w_ops, ↓w_skip, ↓w_ret, ↓w_exit, ↓w_scope, ↓w_block, ↓w_cond, cond_true', cond_false', ↓t_nil, ↓t_plain, ↓t_guard, ↓t_gagain, ↓t_again, t_val, t_call, g_true, g_false, ga_true, ga_false, a_val, a_call, ↓n_normal, ↓n_ret, ↓n_exit, ↓b_normal, ↓b_ret, ↓b_exit, ↓e_normal, ↓e_ret, e_some, go_sem, ↓reduceIte, Nat.reduceEqDiff, Nat.reduceLT, Nat.reduceSub, a3, Option.map_some, h0, vptr, vof, vstore, hone, List.length_cons, List.length_nil, Nat.zero_add, hw, List.set_cons_zero, Nat.add_zero]
  have hnl : (L.take i ++ (n, sp) :: L.drop i).length = L.length + 1 := by simp; omega
  have hrl := h.rl
  have hbl : ∀ b, s59.blk = some b → M.next ≤ b ∧ b < Me.next := fun b hb => hHE.blk_le hb
  refine hK _ _ ⟨s59, ⟨Mem.get_set_same _ _ _, by rw [Mem.next_set]; have := hGe.next; omega, ?_, by rw [hnl]; omega⟩, .inr fun b hb => (hbl b hb).1, ⟨by rw [Mem.next_set]; exact hGe.next, fun c hc hne _ => (Mem.get_set_ne _ _ hne).trans (hGe.old c hc)⟩⟩
  rw [hnl]
  have hx := hHE.keep (M' := Me.set rc (.cells [s59] false)) (fun b hb => Mem.get_set_ne _ _ (by have := (hbl b hb).1; omega)) (Nat.le_refl _)
  exact HoldE.low hx (Nat.zero_le _)

set_option maxHeartbeats 1000000 in
theorem rAdd_runs (rc : Nat) (s : V) (L : Tr) (n : St) (sp : Spot) (M : Mem) (h : RefIn M rc s L) (hl : L.length < 100000) :
    Runs D2 F_ref10_Tree_Add [.ptr (some (rc, 0)), .agg (stC n), .agg (spC sp)] M fun v M' => v = .int .i64 (addER L n sp : Int) ∧ RefTo M rc s M' (addLR L n sp) := by
  refine R_opq fun R hR => ?_
  refine Runs.walk (F := A_ref10_Tree_Add) rfl (by rfl) (by rfl) ?_
  unfold A_ref10_Tree_Add
  have hcn : V.cells (.agg (stC n)) = stC n := rfl
  have hcs : V.cells (.agg (spC sp)) = spC sp := rfl
  have hrn : rdCells (stC n) 0 2 = some (stC n) := rfl
  have hrs : rdCells (spC sp) 0 3 = some (spC sp) := rfl
  have hrp : rdCells (spC sp) 0 2 = some (stC sp.1) := rfl
  have hG := (Grew.push M (.cells (stC n) false)).trans (Grew.push _ (.cells (spC sp) false))
  have g4 : ((M.push (.cells (stC n) false)).push (.cells (spC sp) false)).get M.next = some (.cells (stC n) false) := by rw [Mem.get_push_ne _ _ (by simp), Mem.get_push_same]
  have g5 : ((M.push (.cells (stC n) false)).push (.cells (spC sp) false)).get (M.next + 1) = some (.cells (spC sp) false) := Mem.get_push_same (M.push _) _
  have hnx : ((M.push (.cells (stC n) false)).push (.cells (spC sp) false)).next = M.next + 2 := rfl
  simp -dsimp only [↓w_seq, ↓w_ops, ↓w_skip, ↓w_ret, ↓w_exit, ↓w_scope, ↓w_block, ↓w_cond, cond_true', cond_false', ↓t_nil, ↓t_plain, ↓t_guard, ↓t_gagain, ↓t_again, t_val, t_call, g_true, g_false, ga_true, ga_false, a_val, a_call, ↓n_normal, ↓n_ret, ↓n_exit, ↓b_normal, ↓b_ret, ↓b_exit, ↓e_normal, ↓e_ret, e_some, go_sem, ↓reduceIte, Nat.reduceEqDiff, Nat.reduceLT, Nat.reduceSub, A_ref10_Tree_Add_0, A_ref10_Tree_Add_1, hcn, hcs, Mem.next_push]
  generalize (M.push (.cells (stC n) false)).push (.cells (spC sp) false) = M1 at *
  have h1 := h.grew hG
  have bad : ∀ e : Nat, addER L n sp = e → e ≠ 0 → R (.int .i64 (e : Int)) M1 := fun e h1' h2 => hR _ _ ⟨by rw [h1'], by rw [addLR, if_neg (by omega)]; exact RefTo.same h hG⟩
  have hfl := findL_le n L
  simp -dsimp only [↓w_seq, ↓w_ops, ↓w_skip, ↓w_ret, ↓w_exit, ↓w_scope, ↓w_block, ↓w_cond, cond_true', cond_false', ↓t_nil, ↓t_plain, ↓t_guard, ↓t_gagain, ↓t_again, t_val, t_call, g_true, g_false, ga_true, ga_false, a_val, a_call, ↓n_normal, ↓n_ret, ↓n_exit, ↓b_normal, ↓b_ret, ↓b_exit, ↓e_normal, ↓e_ret, e_some, go_sem, ↓reduceIte, Nat.reduceEqDiff, Nat.reduceLT, Nat.reduceSub, vload, vptr, Mem.read, g4, hrn]
  refine call_eq (find_p rfl h1.rows n) ?_
  simp -dsimp only [↓w_seq, ↓w_ops, ↓w_skip, ↓w_ret, ↓w_exit, ↓w_scope, ↓w_block, ↓w_cond, cond_true', cond_false', ↓t_nil, ↓t_plain, ↓t_guard, ↓t_gagain, ↓t_again, t_val, t_call, g_true, g_false, ga_true, ga_false, a_val, a_call, ↓n_normal, ↓n_ret, ↓n_exit, ↓b_normal, ↓b_ret, ↓b_exit, ↓e_normal, ↓e_ret, e_some, go_sem, ↓reduceIte, Nat.reduceEqDiff, Nat.reduceLT, Nat.reduceSub, A_ref10_Tree_Add_2, List.getElem?_cons_zero, List.getElem?_cons_succ, vload, vptr, Mem.read, g4, hrn]
  cases e1 : nodeSt n with
  | false =>
    refine call_eq (rnode_p rfl n) ?_
    rw [e1]
    simp -dsimp only [↓w_seq, ↓w_ops, ↓w_skip, ↓w_ret, ↓w_exit, ↓w_scope, ↓w_block, ↓w_cond, cond_true', cond_false', ↓t_nil, ↓t_plain, ↓t_guard, ↓t_gagain, ↓t_again, t_val, t_call, g_true, g_false, ga_true, ga_false, a_val, a_call, ↓n_normal, ↓n_ret, ↓n_exit, ↓b_normal, ↓b_ret, ↓b_exit, ↓e_normal, ↓e_ret, e_some, go_sem, ↓reduceIte, Nat.reduceEqDiff, Nat.reduceLT, Nat.reduceSub, A_ref10_Tree_Add_3, Bool.not_false]
    exact bad 1 (by rw [addER, e1]; rfl) (by decide)
  | true =>
    refine call_eq (rnode_p rfl n) ?_
    rw [e1]
    simp -dsimp only [↓w_seq, ↓w_ops, ↓w_skip, ↓w_ret, ↓w_exit, ↓w_scope, ↓w_block, ↓w_cond, cond_true', cond_false', ↓t_nil, ↓t_plain, ↓t_guard, ↓t_gagain, ↓t_again, t_val, t_call, g_true, g_false, ga_true, ga_false, a_val, a_call, ↓n_normal, ↓n_ret, ↓n_exit, ↓b_normal, ↓b_ret, ↓b_exit, ↓e_normal, ↓e_ret, e_some, go_sem, ↓reduceIte, Nat.reduceEqDiff, Nat.reduceLT, Nat.reduceSub, Bool.not_true, vload, vptr, Mem.read, g5, hrs]
    cases e2 : rightSp sp with
    | false =>
      refine call_eq (rspright_p rfl sp) ?_
      rw [e2]
      simp -dsimp only [↓w_seq, ↓w_ops, ↓w_skip, ↓w_ret, ↓w_exit, ↓w_scope, ↓w_block, ↓w_cond, cond_true', cond_false', ↓t_nil, ↓t_plain, ↓t_guard, ↓t_gagain, ↓t_again, t_val, t_call, g_true, g_false, ga_true, ga_false, a_val, a_call, ↓n_normal, ↓n_ret, ↓n_exit, ↓b_normal, ↓b_ret, ↓b_exit, ↓e_normal, ↓e_ret, e_some, go_sem, ↓reduceIte, Nat.reduceEqDiff, Nat.reduceLT, Nat.reduceSub, A_ref10_Tree_Add_3, Bool.not_false]
      exact bad 1 (by rw [addER, e1, e2]; rfl) (by decide)
    | true =>
      have hb : (nodeSt n && rightSp sp) = true := by rw [e1, e2]; rfl
      cases e3 : (findL L n).2 with
      | true =>
        refine call_eq (rspright_p rfl sp) ?_
        rw [e2]
        simp -dsimp only [↓w_seq, ↓w_ops, ↓w_skip, ↓w_ret, ↓w_exit, ↓w_scope, ↓w_block, ↓w_cond, cond_true', cond_false', ↓t_nil, ↓t_plain, ↓t_guard, ↓t_gagain, ↓t_again, t_val, t_call, g_true, g_false, ga_true, ga_false, a_val, a_call, ↓n_normal, ↓n_ret, ↓n_exit, ↓b_normal, ↓b_ret, ↓b_exit, ↓e_normal, ↓e_ret, e_some, go_sem, ↓reduceIte, Nat.reduceEqDiff, Nat.reduceLT, Nat.reduceSub, Bool.not_true, A_ref10_Tree_Add_4, A_ref10_Tree_Add_5]
        exact bad 4 (by rw [addER, hb, e3]; rfl) (by decide)
      | false =>
        refine call_eq (rspright_p rfl sp) ?_
        rw [e2]
        simp -dsimp only [↓w_seq, ↓w_ops, ↓w_skip, ↓w_ret, ↓w_exit, ↓w_scope, ↓w_block, ↓w_cond, cond_true', cond_false', ↓t_nil, ↓t_plain, ↓t_guard, ↓t_gagain, ↓t_again, t_val, t_call, g_true, g_false, ga_true, ga_false, a_val, a_call, ↓n_normal, ↓n_ret, ↓n_exit, ↓b_normal, ↓b_ret, ↓b_exit, ↓e_normal, ↓e_ret, e_some, go_sem, ↓reduceIte, Nat.reduceEqDiff, Nat.reduceLT, Nat.reduceSub, Bool.not_true, A_ref10_Tree_Add_4, A_ref10_Tree_Add_6, vload, vptr, Mem.read, g5, hrp, Nat.add_zero]
        cases e4 : hasRB L sp.1 with
        | false =>
          refine call_eq (rhas_p rfl h1.rows sp.1) ?_
          rw [e4]
          simp -dsimp only [↓w_seq, ↓w_ops, ↓w_skip, ↓w_ret, ↓w_exit, ↓w_scope, ↓w_block, ↓w_cond, cond_true', cond_false', ↓t_nil, ↓t_plain, ↓t_guard, ↓t_gagain, ↓t_again, t_val, t_call, g_true, g_false, ga_true, ga_false, a_val, a_call, ↓n_normal, ↓n_ret, ↓n_exit, ↓b_normal, ↓b_ret, ↓b_exit, ↓e_normal, ↓e_ret, e_some, go_sem, ↓reduceIte, Nat.reduceEqDiff, Nat.reduceLT, Nat.reduceSub, A_ref10_Tree_Add_7, Bool.not_false]
          exact bad 3 (by rw [addER, hb, e3, e4]; rfl) (by decide)
        | true =>
          obtain ⟨a, cap, es, _⟩ := h1.he.sl
          have hc := h1.c
          have hc' := hc
          rw [es] at hc
          by_cases e5 : 65536 ≤ L.length
          · have e5' : (65536 : Int) ≤ (L.length : Int) := by omega
            refine call_eq (rhas_p rfl h1.rows sp.1) ?_
            rw [e4]
            simp -dsimp only [↓w_seq, ↓w_ops, ↓w_skip, ↓w_ret, ↓w_exit, ↓w_scope, ↓w_block, ↓w_cond, cond_true', cond_false', ↓t_nil, ↓t_plain, ↓t_guard, ↓t_gagain, ↓t_again, t_val, t_call, g_true, g_false, ga_true, ga_false, a_val, a_call, ↓n_normal, ↓n_ret, ↓n_exit, ↓b_normal, ↓b_ret, ↓b_exit, ↓e_normal, ↓e_ret, e_some, go_sem, ↓reduceIte, Nat.reduceEqDiff, Nat.reduceLT, Nat.reduceSub, A_ref10_Tree_Add_8, A_ref10_Tree_Add_9, Bool.not_true, vload, vptr, Mem.read, hc, Nat.add_zero, List.getElem?_cons_zero, e5', decide_true]
            exact bad 7 (by rw [addER, hb, e3, e4, if_pos e5]; rfl) (by decide)
          · have e5' : ¬ (65536 : Int) ≤ (L.length : Int) := by omega
            have e0 : addER L n sp = 0 := by rw [addER, hb, e3, e4, if_neg e5]; rfl
            refine call_eq (rhas_p rfl h1.rows sp.1) ?_
            rw [e4]
            simp -dsimp only [↓w_seq, ↓w_ops, ↓w_skip, ↓w_ret, ↓w_exit, ↓w_scope, ↓w_block, ↓w_cond, cond_true', cond_false', ↓t_nil, ↓t_plain, ↓t_guard, ↓t_gagain, ↓t_again, t_val, t_call, g_true, g_false, ga_true, ga_false, a_val, a_call, ↓n_normal, ↓n_ret, ↓n_exit, ↓b_normal, ↓b_ret, ↓b_exit, ↓e_normal, ↓e_ret, e_some, go_sem, ↓reduceIte, Nat.reduceEqDiff, Nat.reduceLT, Nat.reduceSub, A_ref10_Tree_Add_8, Bool.not_true, vload, vptr, Mem.read, hc, Nat.add_zero, List.getElem?_cons_zero, e5', decide_false]
            refine rAdd10 rc M.next (M.next + 1) s L n sp M1 h1 hl (by omega) (by omega) g4 g5 (findL L n).1 hfl ?_ _ ?_ ?_ ?_ ?_
            · intro fr M2 hto
              simp -dsimp only [↓w_seq, ↓w_ops, ↓w_skip, ↓w_ret, ↓w_exit, ↓w_scope, ↓w_block, ↓w_cond, cond_true', cond_false', ↓t_nil, ↓t_plain, ↓t_guard, ↓t_gagain, ↓t_again, t_val, t_call, g_true, g_false, ga_true, ga_false, a_val, a_call, ↓n_normal, ↓n_ret, ↓n_exit, ↓b_normal, ↓b_ret, ↓b_exit, ↓e_normal, ↓e_ret, e_some, go_sem, ↓reduceIte, Nat.reduceEqDiff, Nat.reduceLT, Nat.reduceSub, A_ref10_Tree_Add_11]
              refine hR _ _ ⟨by rw [e0]; rfl, ?_⟩
              rw [addLR, if_pos e0]
              obtain ⟨s', t1, t2, t3⟩ := hto
              refine ⟨s', t1, ?_, ⟨Nat.le_trans hG.next t3.next, fun c hc' h2 h3 => (t3.old c (Nat.lt_of_lt_of_le hc' hG.next) h2 h3).trans (hG.old c hc')⟩⟩
              rcases t2 with t2 | t2
              · exact .inl t2
              · exact .inr fun b hb => Nat.le_trans hG.next (t2 b hb)
            all_goals simp only [go_sem, ↓reduceIte, Nat.reduceEqDiff, Nat.reduceLT, Nat.reduceSub]
end Go.Am.Tryz

