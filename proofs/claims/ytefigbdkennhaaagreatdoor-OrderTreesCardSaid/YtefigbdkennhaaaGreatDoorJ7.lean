/- The machine and what is proved of its runs, part 7: what each part says stands at its head. -/
import Derived.Test.YtefigbdkennhaaaGreatDoorJ6
import Derived.Test.YtefigbdkennhaaaGreatDoorRows
import Derived.WalkKit
import Derived.ProofKit
import Derived.OpenShut
import Derived.Below
import Derived.LaidMore
import Derived.Stop.Joined
import Derived.SevenTiedAt
set_option linter.unusedSimpArgs false
set_option linter.unusedVariables false
set_option linter.unusedSectionVars false
/- The reference's Move and Drop. -/
namespace Go.Am.Tryz
open Go Go.Am Go.Proofs Go.Sort Go.Shelf
set_option maxRecDepth 100000
set_option linter.unusedSimpArgs false
set_option linter.unusedVariables false

theorem wr_skip : ∀ (a cs : List V) (o : Nat) (vs : List V), wrCells (a ++ cs) (a.length + o) vs = a ++ wrCells cs o vs
  | [], cs, o, vs => by simp
  | x :: a, cs, o, [] => by cases cs <;> simp [wrCells]
  | x :: a, cs, o, v :: vs => by
    have ih := wr_skip a cs o (v :: vs)
    rw [List.length_cons, show a.length + 1 + o = (a.length + o) + 1 by omega, List.cons_append]
    show x :: wrCells (a ++ cs) (a.length + o) (v :: vs) = _
    rw [ih, List.cons_append]
theorem wr_row (L : Tr) (i : Nat) (hi : i < L.length) (s : Spot) : wrCells (elRow.all L) (i * 5 + 2) (spC s) = elRow.all (L.set i (L[i].1, s)) := by
  have e1 : elRow.all L = elRow.all (L.take i) ++ (rowC L[i] ++ elRow.all (L.drop (i + 1))) := by
    have : L = L.take i ++ L[i] :: L.drop (i + 1) := by rw [← List.drop_eq_getElem_cons hi, List.take_append_drop]
    conv => lhs; rw [this]
    rw [elRow.all_app]
    rfl
  have e2 : elRow.all (L.set i (L[i].1, s)) = elRow.all (L.take i) ++ (rowC (L[i].1, s) ++ elRow.all (L.drop (i + 1))) := by
    rw [List.set_eq_take_append_cons_drop, if_pos hi, elRow.all_app]
    rfl
  have hl : (elRow.all (L.take i)).length = i * 5 := by
    have h2 : (elRow.all (L.take i)).length = (L.take i).length * 5 := elRow.all_len _
    rw [h2, List.length_take, Nat.min_eq_left (by omega)]
  rw [e1, e2, ← hl, wr_skip]
  have e3 : ∀ cs : List V, wrCells cs 0 [] = cs := fun cs => by cases cs <;> rfl
  simp only [rowC, stC, spC, List.cons_append, List.nil_append, wrCells, e3]

def moveER (L : Tr) (n : St) (s : Spot) : Nat := if (nodeSt n && rightSp s) = false then 1 else if ((findL L n).2 && hasRB L s.1) = false then 3 else if withinR L n s.1 = true then 41 else 0
def moveLR (L : Tr) (n : St) (s : Spot) : Tr := if moveER L n s = 0 then L.set (findL L n).1 ((L.getD (findL L n).1 ((0, 0), sp0)).1, s) else L
def moveWR (L : Tr) (n : St) (s : Spot) : Spot := if moveER L n s = 0 then rowL L (findL L n).1 else sp0

theorem RefTo.pre {M M1 M' : Mem} {rc : Nat} {s : V} {L' : Tr} (hG : Grew M M1) (h : RefTo M1 rc s M' L') : RefTo M rc s M' L' := by
  obtain ⟨s', t1, t2, t3⟩ := h
  refine ⟨s', t1, ?_, ⟨Nat.le_trans hG.next t3.next, fun c hc' h2 h3 => (t3.old c (Nat.lt_of_lt_of_le hc' hG.next) h2 h3).trans (hG.old c hc')⟩⟩
  rcases t2 with t2 | t2
  · exact .inl t2
  · exact .inr fun b hb => Nat.le_trans hG.next (t2 b hb)
theorem RefTo.set_new {M M' : Mem} {rc b : Nat} {s : V} {L' : Tr} {o : O} (h : RefIn M rc s L') (hb : M.next ≤ b) (hb2 : ∀ c, s.blk = some c → c < M.next) {L : Tr} (h2 : RefTo M rc s M' L) (hb3 : ∀ s', RefIn M' rc s' L → ∀ c, s'.blk = some c → c ≠ b) : RefTo M rc s (M'.set b o) L := by
  obtain ⟨s', t1, t2, t3⟩ := h2
  have hrl := h.rl
  exact ⟨s', t1.keep (Mem.get_set_ne _ _ (by omega)) (fun c hc => Mem.get_set_ne _ _ (hb3 s' t1 c hc)) (Nat.le_refl _), t2, ⟨t3.next, fun c hc h1 h2 => (Mem.get_set_ne _ _ (by omega)).trans (t3.old c hc h1 h2)⟩⟩

set_option maxHeartbeats 1000000 in
theorem rMove_runs (rc : Nat) (s : V) (L : Tr) (n : St) (sp : Spot) (M : Mem) (h : RefIn M rc s L) :
    Runs D2 F_ref10_Tree_Move [.ptr (some (rc, 0)), .agg (stC n), .agg (spC sp)] M fun v M' => v = .tup [.agg (spC (moveWR L n sp)), .int .i64 (moveER L n sp : Int)] ∧ RefTo M rc s M' (moveLR L n sp) := by
  refine R_opq fun R hR => ?_
  refine Runs.walk (F := A_ref10_Tree_Move) rfl (by rfl) (by rfl) ?_
  unfold A_ref10_Tree_Move
  have hcn : V.cells (.agg (stC n)) = stC n := rfl
  have hcs : ∀ s, V.cells (.agg (spC s)) = spC s := fun _ => rfl
  have hrn : rdCells (stC n) 0 2 = some (stC n) := rfl
  have hrs : ∀ s, rdCells (spC s) 0 3 = some (spC s) := fun _ => rfl
  have hrp : rdCells (spC sp) 0 2 = some (stC sp.1) := rfl
  have hG := ((Grew.push M (.cells (stC n) false)).trans (Grew.push _ (.cells (spC sp) false))).trans (Grew.push _ (.cells [.int .i64 0, .int .i64 0, .str []] false))
  have g4 : (((M.push (.cells (stC n) false)).push (.cells (spC sp) false)).push (.cells [.int .i64 0, .int .i64 0, .str []] false)).get M.next = some (.cells (stC n) false) := by rw [Mem.get_push_ne _ _ (by simp; omega), Mem.get_push_ne _ _ (by simp), Mem.get_push_same]
  have g5 : (((M.push (.cells (stC n) false)).push (.cells (spC sp) false)).push (.cells [.int .i64 0, .int .i64 0, .str []] false)).get (M.next + 1) = some (.cells (spC sp) false) := by rw [Mem.get_push_ne _ _ (by simp)]; exact Mem.get_push_same (M.push _) _
  have g6 : (((M.push (.cells (stC n) false)).push (.cells (spC sp) false)).push (.cells [.int .i64 0, .int .i64 0, .str []] false)).get (M.next + 1 + 1) = some (.cells (spC sp0) false) := Mem.get_push_same ((M.push _).push _) _
  have hnx : (((M.push (.cells (stC n) false)).push (.cells (spC sp) false)).push (.cells [.int .i64 0, .int .i64 0, .str []] false)).next = M.next + 3 := rfl
  simp -dsimp only [↓w_seq, ↓w_ops, ↓w_skip, ↓w_ret, ↓w_exit, ↓w_scope, ↓w_block, ↓w_cond, cond_true', cond_false', ↓t_nil, ↓t_plain, ↓t_guard, ↓t_gagain, ↓t_again, t_val, t_call, g_true, g_false, ga_true, ga_false, a_val, a_call, ↓n_normal, ↓n_ret, ↓n_exit, ↓b_normal, ↓b_ret, ↓b_exit, ↓e_normal, ↓e_ret, e_some, go_sem, ↓reduceIte, Nat.reduceEqDiff, Nat.reduceLT, Nat.reduceSub, A_ref10_Tree_Move_0, A_ref10_Tree_Move_1, hcn, hcs, Mem.next_push]
  generalize ((M.push (.cells (stC n) false)).push (.cells (spC sp) false)).push (.cells [.int .i64 0, .int .i64 0, .str []] false) = M1 at *
  have h1 := h.grew hG
  have hfill : fillCells [.int .i64 0, .int .i64 0, .str []] [] = some (spC sp0) := rfl
  have bad : ∀ (M2 : Mem) (e : Nat), Grew M1 M2 → moveER L n sp = e → e ≠ 0 → R (.tup [.agg (spC sp0), .int .i64 (e : Int)]) (M2.set (M.next + 1 + 1) (.cells (spC sp0) false)) := fun M2 e hG2 h1' h2 =>
    hR _ _ ⟨by rw [moveWR, if_neg (by omega), h1'], by rw [moveLR, if_neg (by omega)]; exact RefTo.same h ((hG.trans hG2).upd (b := M.next + 1 + 1) (by omega) (Upd.set M2 _ _))⟩
  have hw0 : ∀ M2, Grew M1 M2 → M2.write (M.next + 1 + 1) 0 (spC sp0) = some (M2.set (M.next + 1 + 1) (.cells (spC sp0) false)) := fun M2 hG2 => write_full (vs := spC sp0) ((hG2.old _ (by omega)).trans g6) rfl rfl
  have hw1 := hw0 M1 (Grew.refl _)
  have hs1 := Mem.get_set_same M1 (M.next + 1 + 1) (.cells (spC sp0) false)
  simp -dsimp only [↓w_seq, ↓w_ops, ↓w_skip, ↓w_ret, ↓w_exit, ↓w_scope, ↓w_block, ↓w_cond, cond_true', cond_false', ↓t_nil, ↓t_plain, ↓t_guard, ↓t_gagain, ↓t_again, t_val, t_call, g_true, g_false, ga_true, ga_false, a_val, a_call, ↓n_normal, ↓n_ret, ↓n_exit, ↓b_normal, ↓b_ret, ↓b_exit, ↓e_normal, ↓e_ret, e_some, go_sem, ↓reduceIte, Nat.reduceEqDiff, Nat.reduceLT, Nat.reduceSub, vload, vptr, Mem.read, g4, hrn]
  refine call_eq (find_p rfl h1.rows n) ?_
  simp -dsimp only [↓w_seq, ↓w_ops, ↓w_skip, ↓w_ret, ↓w_exit, ↓w_scope, ↓w_block, ↓w_cond, cond_true', cond_false', ↓t_nil, ↓t_plain, ↓t_guard, ↓t_gagain, ↓t_again, t_val, t_call, g_true, g_false, ga_true, ga_false, a_val, a_call, ↓n_normal, ↓n_ret, ↓n_exit, ↓b_normal, ↓b_ret, ↓b_exit, ↓e_normal, ↓e_ret, e_some, go_sem, ↓reduceIte, Nat.reduceEqDiff, Nat.reduceLT, Nat.reduceSub, A_ref10_Tree_Move_2, List.getElem?_cons_zero, List.getElem?_cons_succ, vload, vptr, Mem.read, g4, hrn]
  cases e1 : nodeSt n with
  | false =>
    refine call_eq (rnode_p rfl n) ?_
    rw [e1]
    simp -dsimp only [↓w_seq, ↓w_ops, ↓w_skip, ↓w_ret, ↓w_exit, ↓w_scope, ↓w_block, ↓w_cond, cond_true', cond_false', ↓t_nil, ↓t_plain, ↓t_guard, ↓t_gagain, ↓t_again, t_val, t_call, g_true, g_false, ga_true, ga_false, a_val, a_call, ↓n_normal, ↓n_ret, ↓n_exit, ↓b_normal, ↓b_ret, ↓b_exit, ↓e_normal, ↓e_ret, e_some, go_sem, ↓reduceIte, Nat.reduceEqDiff, Nat.reduceLT, Nat.reduceSub, A_ref10_Tree_Move_3, Bool.not_false, hfill, vof, Option.map_some, vstore, hcs, spC_len, hw1, Nat.reduceEqDiff, vload, vptr, Mem.read, hs1, hrs, Option.bind_some, oneOf]
    exact bad M1 1 (Grew.refl _) (by rw [moveER, e1]; rfl) (by decide)
  | true =>
    refine call_eq (rnode_p rfl n) ?_
    rw [e1]
    simp -dsimp only [↓w_seq, ↓w_ops, ↓w_skip, ↓w_ret, ↓w_exit, ↓w_scope, ↓w_block, ↓w_cond, cond_true', cond_false', ↓t_nil, ↓t_plain, ↓t_guard, ↓t_gagain, ↓t_again, t_val, t_call, g_true, g_false, ga_true, ga_false, a_val, a_call, ↓n_normal, ↓n_ret, ↓n_exit, ↓b_normal, ↓b_ret, ↓b_exit, ↓e_normal, ↓e_ret, e_some, go_sem, ↓reduceIte, Nat.reduceEqDiff, Nat.reduceLT, Nat.reduceSub, Bool.not_true, vload, vptr, Mem.read, g5, hrs]
    cases e2 : rightSp sp with
    | false =>
      refine call_eq (rspright_p rfl sp) ?_
      rw [e2]
      simp -dsimp only [↓w_seq, ↓w_ops, ↓w_skip, ↓w_ret, ↓w_exit, ↓w_scope, ↓w_block, ↓w_cond, cond_true', cond_false', ↓t_nil, ↓t_plain, ↓t_guard, ↓t_gagain, ↓t_again, t_val, t_call, g_true, g_false, ga_true, ga_false, a_val, a_call, ↓n_normal, ↓n_ret, ↓n_exit, ↓b_normal, ↓b_ret, ↓b_exit, ↓e_normal, ↓e_ret, e_some, go_sem, ↓reduceIte, Nat.reduceEqDiff, Nat.reduceLT, Nat.reduceSub, A_ref10_Tree_Move_3, Bool.not_false, hfill, vof, Option.map_some, vstore, hcs, spC_len, hw1, Nat.reduceEqDiff, vload, vptr, Mem.read, hs1, hrs, Option.bind_some, oneOf]
      exact bad M1 1 (Grew.refl _) (by rw [moveER, e1, e2]; rfl) (by decide)
    | true =>
      have hb : (nodeSt n && rightSp sp) = true := by rw [e1, e2]; rfl
      cases e3 : (findL L n).2 with
      | false =>
        refine call_eq (rspright_p rfl sp) ?_
        rw [e2]
        simp -dsimp only [↓w_seq, ↓w_ops, ↓w_skip, ↓w_ret, ↓w_exit, ↓w_scope, ↓w_block, ↓w_cond, cond_true', cond_false', ↓t_nil, ↓t_plain, ↓t_guard, ↓t_gagain, ↓t_again, t_val, t_call, g_true, g_false, ga_true, ga_false, a_val, a_call, ↓n_normal, ↓n_ret, ↓n_exit, ↓b_normal, ↓b_ret, ↓b_exit, ↓e_normal, ↓e_ret, e_some, go_sem, ↓reduceIte, Nat.reduceEqDiff, Nat.reduceLT, Nat.reduceSub, Bool.not_true, A_ref10_Tree_Move_4, A_ref10_Tree_Move_5, Bool.not_false, hfill, vof, Option.map_some, vstore, hcs, spC_len, hw1, Nat.reduceEqDiff, vload, vptr, Mem.read, hs1, hrs, Option.bind_some, oneOf]
        exact bad M1 3 (Grew.refl _) (by rw [moveER, hb, e3]; rfl) (by decide)
      | true =>
        refine call_eq (rspright_p rfl sp) ?_
        rw [e2]
        simp -dsimp only [↓w_seq, ↓w_ops, ↓w_skip, ↓w_ret, ↓w_exit, ↓w_scope, ↓w_block, ↓w_cond, cond_true', cond_false', ↓t_nil, ↓t_plain, ↓t_guard, ↓t_gagain, ↓t_again, t_val, t_call, g_true, g_false, ga_true, ga_false, a_val, a_call, ↓n_normal, ↓n_ret, ↓n_exit, ↓b_normal, ↓b_ret, ↓b_exit, ↓e_normal, ↓e_ret, e_some, go_sem, ↓reduceIte, Nat.reduceEqDiff, Nat.reduceLT, Nat.reduceSub, Bool.not_true, A_ref10_Tree_Move_4, vload, vptr, Mem.read, g5, hrp, Nat.add_zero]
        cases e4 : hasRB L sp.1 with
        | false =>
          refine call_eq (rhas_p rfl h1.rows sp.1) ?_
          rw [e4]
          simp -dsimp only [↓w_seq, ↓w_ops, ↓w_skip, ↓w_ret, ↓w_exit, ↓w_scope, ↓w_block, ↓w_cond, cond_true', cond_false', ↓t_nil, ↓t_plain, ↓t_guard, ↓t_gagain, ↓t_again, t_val, t_call, g_true, g_false, ga_true, ga_false, a_val, a_call, ↓n_normal, ↓n_ret, ↓n_exit, ↓b_normal, ↓b_ret, ↓b_exit, ↓e_normal, ↓e_ret, e_some, go_sem, ↓reduceIte, Nat.reduceEqDiff, Nat.reduceLT, Nat.reduceSub, A_ref10_Tree_Move_5, Bool.not_false, hfill, vof, Option.map_some, vstore, hcs, spC_len, hw1, Nat.reduceEqDiff, vload, vptr, Mem.read, hs1, hrs, Option.bind_some, oneOf]
          exact bad M1 3 (Grew.refl _) (by rw [moveER, hb, e3, e4]; rfl) (by decide)
        | true =>
          refine call_eq (rhas_p rfl h1.rows sp.1) ?_
          rw [e4]
          simp -dsimp only [↓w_seq, ↓w_ops, ↓w_skip, ↓w_ret, ↓w_exit, ↓w_scope, ↓w_block, ↓w_cond, cond_true', cond_false', ↓t_nil, ↓t_plain, ↓t_guard, ↓t_gagain, ↓t_again, t_val, t_call, g_true, g_false, ga_true, ga_false, a_val, a_call, ↓n_normal, ↓n_ret, ↓n_exit, ↓b_normal, ↓b_ret, ↓b_exit, ↓e_normal, ↓e_ret, e_some, go_sem, ↓reduceIte, Nat.reduceEqDiff, Nat.reduceLT, Nat.reduceSub, Bool.not_true, A_ref10_Tree_Move_6, vload, vptr, Mem.read, g4, g5, hrn, hrp, Nat.add_zero]
          refine call_of (rWithin_runs rc s L n sp.1 M1 h1) ?_
          intro v M2 hv
          rw [hv.1]
          have hG2 := hv.2
          clear hv
          cases e5 : withinR L n sp.1 with
          | true =>
            have hw2 := hw0 M2 hG2
            have hs2 := Mem.get_set_same M2 (M.next + 1 + 1) (.cells (spC sp0) false)
            simp -dsimp only [↓w_seq, ↓w_ops, ↓w_skip, ↓w_ret, ↓w_exit, ↓w_scope, ↓w_block, ↓w_cond, cond_true', cond_false', ↓t_nil, ↓t_plain, ↓t_guard, ↓t_gagain, ↓t_again, t_val, t_call, g_true, g_false, ga_true, ga_false, a_val, a_call, ↓n_normal, ↓n_ret, ↓n_exit, ↓b_normal, ↓b_ret, ↓b_exit, ↓e_normal, ↓e_ret, e_some, go_sem, ↓reduceIte, Nat.reduceEqDiff, Nat.reduceLT, Nat.reduceSub, A_ref10_Tree_Move_7, hfill, vof, Option.map_some, vstore, hcs, spC_len, hw2, Nat.reduceEqDiff, vload, vptr, Mem.read, hs2, hrs, Option.bind_some, oneOf]
            exact bad M2 41 hG2 (by rw [moveER, hb, e3, e4, e5]; rfl) (by decide)
          | false =>
            have h0 : moveER L n sp = 0 := by rw [moveER, hb, e3, e4, e5]; rfl
            have h2 := h1.grew hG2
            have hlt := findL_lt e3
            have k5 := (hG2.old _ (by omega)).trans g5
            have k6 := (hG2.old _ (by omega)).trans g6
            rcases h2.he with ⟨hnil, _⟩ | ⟨hne, b, es, hMb, hbl⟩
            · exfalso; rw [hnil] at hlt; simp at hlt
            obtain ⟨b', o', cs', rb', cap', es', hMb', hr5, hr2, hr3, hr22⟩ := row_at h2.he.sl hlt
            rw [es] at es'
            simp only [V.slice.injEq, Option.some.injEq, Prod.mk.injEq, true_and] at es'
            obtain ⟨⟨rfl, rfl⟩, rfl⟩ := es'
            rw [hMb] at hMb'
            simp only [Option.some.injEq, O.cells.injEq] at hMb'
            obtain ⟨rfl, rfl⟩ := hMb'
            have hc := h2.c
            rw [es] at hc
            have hrl : L[(findL L n).1].2 = rowL L (findL L n).1 := by simp [rowL, List.getD_eq_getElem?_getD, List.getElem?_eq_getElem hlt]
            rw [hrl, Nat.zero_add] at hr3
            have e2' : (findL L n).1 + 1 ≤ L.length := hlt
            simp -dsimp only [↓w_seq, ↓w_ops, ↓w_skip, ↓w_ret, ↓w_exit, ↓w_scope, ↓w_block, ↓w_cond, cond_true', cond_false', ↓t_nil, ↓t_plain, ↓t_guard, ↓t_gagain, ↓t_again, t_val, t_call, g_true, g_false, ga_true, ga_false, a_val, a_call, ↓n_normal, ↓n_ret, ↓n_exit, ↓b_normal, ↓b_ret, ↓b_exit, ↓e_normal, ↓e_ret, e_some, go_sem, ↓reduceIte, Nat.reduceEqDiff, Nat.reduceLT, Nat.reduceSub]
            refine WT_abs (fun fr => fr.rd 0 = .ptr (some (rc, 0)) ∧ fr.rd 5 = .ptr (some (M.next + 1, 0)) ∧ fr.rd 6 = .ptr (some (M.next + 1 + 1, 0)) ∧ fr.rd 8 = .int .i64 ((findL L n).1 : Int)) ⟨by simp only [go_sem, ↓reduceIte, Nat.reduceEqDiff, Nat.reduceLT, Nat.reduceSub], by simp only [go_sem, ↓reduceIte, Nat.reduceEqDiff, Nat.reduceLT, Nat.reduceSub], by simp only [go_sem, ↓reduceIte, Nat.reduceEqDiff, Nat.reduceLT, Nat.reduceSub], by simp only [go_sem, ↓reduceIte, Nat.reduceEqDiff, Nat.reduceLT, Nat.reduceSub]⟩ ?_
            intro fr hfr
            obtain ⟨f0, f5, f6, f8⟩ := hfr
            have hrow := wr_row L (findL L n).1 hlt sp
            have hL' : (L.getD (findL L n).1 ((0, 0), sp0)).1 = L[(findL L n).1].1 := by simp [List.getD_eq_getElem?_getD, List.getElem?_eq_getElem hlt]
            have hbd : (findL L n).1 * 5 + 2 + 3 ≤ (elRow.all L).length := by
              have : (elRow.all L).length = L.length * 5 := elRow.all_len L
              rw [this]; omega
            generalize hi0 : (findL L n).1 = i at *
            -- the new box
            have hGp := Grew.push M2 (.cells [.int .i64 0, .int .i64 0, .str []] false)
            have w10 := write_full (M := M2.push (.cells [.int .i64 0, .int .i64 0, .str []] false)) (b := M2.next) (vs := spC (rowL L i)) (Mem.get_push_same _ _) rfl rfl
            simp -dsimp only [↓w_seq, ↓w_ops, ↓w_skip, ↓w_ret, ↓w_exit, ↓w_scope, ↓w_block, ↓w_cond, cond_true', cond_false', ↓t_nil, ↓t_plain, ↓t_guard, ↓t_gagain, ↓t_again, t_val, t_call, g_true, g_false, ga_true, ga_false, a_val, a_call, ↓n_normal, ↓n_ret, ↓n_exit, ↓b_normal, ↓b_ret, ↓b_exit, ↓e_normal, ↓e_ret, e_some, go_sem, ↓reduceIte, Nat.reduceEqDiff, Nat.reduceLT, Nat.reduceSub, A_ref10_Tree_Move_8, f0, f8, vload, vptr, vof, Option.map_some, Mem.read, hc, hMb, hr3, e2', decide_true, Nat.add_zero, Nat.zero_add, List.getElem?_cons_zero, vstore, hcs, spC_len, w10, Nat.reduceEqDiff]
            have hG3 : Grew M2 ((M2.push (.cells [.int .i64 0, .int .i64 0, .str []] false)).set M2.next (.cells (spC (rowL L i)) false)) := hGp.upd (Nat.le_refl _) (Upd.set _ _ _)
            have q10 := Mem.get_set_same (M2.push (.cells [.int .i64 0, .int .i64 0, .str []] false)) M2.next (.cells (spC (rowL L i)) false)
            have hn3 : ((M2.push (.cells [.int .i64 0, .int .i64 0, .str []] false)).set M2.next (.cells (spC (rowL L i)) false)).next = M2.next + 1 := rfl
            clear w10 hGp
            generalize (M2.push (.cells [.int .i64 0, .int .i64 0, .str []] false)).set M2.next (.cells (spC (rowL L i)) false) = M3 at *
            have hn2 := hG2.next
            have c3 := (hG3.old _ h2.rl).trans hc
            have b3 := (hG3.old _ hbl).trans hMb
            have k53 := (hG3.old _ (by omega)).trans k5
            have k63 := (hG3.old _ (by omega)).trans k6
            have wb : M3.write b (i * 5 + 2) (spC sp) = some (M3.set b (.cells (elRow.all (L.set i (L[i].1, sp))) false)) := by
              unfold Mem.write
              simp only [b3, spC_len, ble_iff, decide_eq_true hbd, cond_true, hrow]
              rfl
            simp -dsimp only [↓w_seq, ↓w_ops, ↓w_skip, ↓w_ret, ↓w_exit, ↓w_scope, ↓w_block, ↓w_cond, cond_true', cond_false', ↓t_nil, ↓t_plain, ↓t_guard, ↓t_gagain, ↓t_again, t_val, t_call, g_true, g_false, ga_true, ga_false, a_val, a_call, ↓n_normal, ↓n_ret, ↓n_exit, ↓b_normal, ↓b_ret, ↓b_exit, ↓e_normal, ↓e_ret, e_some, go_sem, ↓reduceIte, Nat.reduceEqDiff, Nat.reduceLT, Nat.reduceSub, A_ref10_Tree_Move_9, f0, f5, f8, vload, vptr, vof, Option.map_some, Mem.read, c3, k53, hrs, e2', decide_true, Nat.add_zero, Nat.zero_add, List.getElem?_cons_zero, vstore, hcs, spC_len, wb, Nat.reduceEqDiff]
            have hbM : b < M.next := (h.ho.blk_le (by rw [es]; rfl)).2
            have hlen5 : (elRow.all L).length = L.length * 5 := elRow.all_len L
            have hbrc : b ≠ rc := fun e => by
              rw [e, h2.c] at hMb
              have := congrArg (fun o => match o with | some (O.cells cs _) => cs.length | _ => 0) hMb
              simp only [List.length_cons, List.length_nil] at this
              omega
            have u4 : ∀ c, c ≠ b → (M3.set b (.cells (elRow.all (L.set i (L[i].1, sp))) false)).get c = M3.get c := fun c hc => Mem.get_set_ne _ _ hc
            have s4 := Mem.get_set_same M3 b (.cells (elRow.all (L.set i (L[i].1, sp))) false)
            have n4 : (M3.set b (.cells (elRow.all (L.set i (L[i].1, sp))) false)).next = M3.next := rfl
            generalize M3.set b (.cells (elRow.all (L.set i (L[i].1, sp))) false) = M4 at *
            have q104 := (u4 M2.next (by omega)).trans q10
            have k64 := (u4 (M.next + 1 + 1) (by omega)).trans k63
            have w6 := write_full (vs := spC (rowL L i)) k64 rfl rfl
            simp -dsimp only [↓w_seq, ↓w_ops, ↓w_skip, ↓w_ret, ↓w_exit, ↓w_scope, ↓w_block, ↓w_cond, cond_true', cond_false', ↓t_nil, ↓t_plain, ↓t_guard, ↓t_gagain, ↓t_again, t_val, t_call, g_true, g_false, ga_true, ga_false, a_val, a_call, ↓n_normal, ↓n_ret, ↓n_exit, ↓b_normal, ↓b_ret, ↓b_exit, ↓e_normal, ↓e_ret, e_some, go_sem, ↓reduceIte, Nat.reduceEqDiff, Nat.reduceLT, Nat.reduceSub, A_ref10_Tree_Move_10, vload, vptr, vof, Option.map_some, Mem.read, f6, q104, hrs, Nat.add_zero, Nat.zero_add, vstore, hcs, spC_len, w6, Nat.reduceEqDiff]
            have u5 : ∀ c, c ≠ M.next + 1 + 1 → (M4.set (M.next + 1 + 1) (.cells (spC (rowL L i)) false)).get c = M4.get c := fun c hc => Mem.get_set_ne _ _ hc
            have s5 := Mem.get_set_same M4 (M.next + 1 + 1) (.cells (spC (rowL L i)) false)
            have n5 : (M4.set (M.next + 1 + 1) (.cells (spC (rowL L i)) false)).next = M4.next := rfl
            generalize M4.set (M.next + 1 + 1) (.cells (spC (rowL L i)) false) = M5 at *
            simp -dsimp only [↓w_seq, ↓w_ops, ↓w_skip, ↓w_ret, ↓w_exit, ↓w_scope, ↓w_block, ↓w_cond, cond_true', cond_false', ↓t_nil, ↓t_plain, ↓t_guard, ↓t_gagain, ↓t_again, t_val, t_call, g_true, g_false, ga_true, ga_false, a_val, a_call, ↓n_normal, ↓n_ret, ↓n_exit, ↓b_normal, ↓b_ret, ↓b_exit, ↓e_normal, ↓e_ret, e_some, go_sem, ↓reduceIte, Nat.reduceEqDiff, Nat.reduceLT, Nat.reduceSub, vload, vptr, Mem.read, f6, s5, hrs, Nat.add_zero, Option.bind_some, oneOf]
            have hrl := h.rl
            have hLl : (L.set i (L[i].1, sp)).length = L.length := List.length_set
            refine hR _ _ ⟨by rw [moveWR, if_pos h0, h0]; simp [hi0], ?_⟩
            rw [moveLR, if_pos h0, hi0, hL']
            refine ⟨s, ⟨?_, by omega, ?_, by rw [hLl]; exact h.ln⟩, .inl rfl, ⟨by omega, fun c hc' h1' h2' => ?_⟩⟩
            · rw [u5 rc (by omega), u4 rc (fun e => hbrc e.symm), hG3.old rc h2.rl]
              exact h2.c
            · rw [hLl, es]
              refine .inl (.row ?_ ?_ (Nat.zero_le _) (by omega))
              · rw [u5 b (by omega)]; exact s4
              · have := elRow.all_len (L.set i (L[i].1, sp))
                rw [this, hLl]
                rfl
            · have : c ≠ b := fun e => h2' (by rw [es, e]; rfl)
              rw [u5 c (by omega), u4 c this, hG3.old c (by omega), hG2.old c (by omega), hG.old c hc']
end Go.Am.Tryz


/- Plainly: the reference's rows are the tree's, and each act does on both the same. -/
namespace Go.Am.Tryz
open Go Go.Am Go.Proofs Go.Sort Go.Shelf
set_option maxRecDepth 100000
set_option linter.unusedSimpArgs false
set_option linter.unusedVariables false

def rowsL (l : Tr) : Tr := (nodesL l).map fun n => (n, (getS l n).getD sp0)
def SR (L : Tr) : Prop := L.Pairwise fun a b => ltSt a.1 b.1 = true
theorem cmp_lt {a b : St} : (0 ≤ cmpSt a b) ↔ ltSt a b = false := by
  unfold cmpSt ltSt
  by_cases h : a = b
  · subst h; simp
  · rw [if_neg h]
    by_cases h2 : a.1 < b.1 ∨ a.1 = b.1 ∧ a.2 < b.2
    · rw [if_pos h2]; simp [h2]
    · rw [if_neg h2]; simp [h2]
theorem lt_irrefl (a : St) : ltSt a a = false := swo_St.irrefl a
theorem lt_trans {a b c : St} (h : ltSt a b = true) (h' : ltSt b c = true) : ltSt a c = true := swo_St.trans _ _ _ h h'
theorem lt_asym {a b : St} (h : ltSt a b = true) : ltSt b a = false := by
  cases hq : ltSt b a with
  | false => rfl
  | true => have := lt_trans h hq; rw [lt_irrefl] at this; cases this
theorem lt_total {a b : St} (h : ltSt a b = false) (hne : a ≠ b) : ltSt b a = true := by
  cases hq : ltSt b a with
  | true => rfl
  | false => exact absurd (tot_St _ _ h hq) hne

theorem rows_ext : ∀ {L L' : Tr}, SR L → SR L' → (∀ x, x ∈ L ↔ x ∈ L') → L = L'
  | [], [], _, _, _ => rfl
  | [], b :: L', _, _, h => absurd ((h b).mpr (List.mem_cons_self ..)) (by simp)
  | a :: L, [], _, _, h => absurd ((h a).mp (List.mem_cons_self ..)) (by simp)
  | a :: L, b :: L', hs, hs', h => by
    unfold SR at hs hs'
    rw [List.pairwise_cons] at hs hs'
    have hab : a = b := by
      rcases List.mem_cons.mp ((h a).mp (List.mem_cons_self ..)) with e | ha
      · exact e
      rcases List.mem_cons.mp ((h b).mpr (List.mem_cons_self ..)) with e | hb
      · exact e.symm
      have h1 := hs'.1 a ha
      have h2 := hs.1 b hb
      rw [lt_asym h1] at h2; cases h2
    subst hab
    rw [rows_ext hs.2 hs'.2 fun x => ?_]
    have hna : ∀ (K : Tr), (∀ b ∈ K, ltSt a.1 b.1 = true) → a ∉ K := fun K hK hm => by
      have := hK a hm; rw [lt_irrefl] at this; cases this
    constructor
    · intro hx
      rcases List.mem_cons.mp ((h x).mp (List.mem_cons_of_mem _ hx)) with e | hx'
      · exact absurd (e ▸ hx) (hna L hs.1)
      · exact hx'
    · intro hx
      rcases List.mem_cons.mp ((h x).mpr (List.mem_cons_of_mem _ hx)) with e | hx'
      · exact absurd (e ▸ hx) (hna L' hs'.1)
      · exact hx'

theorem nodes_sorted {l : Tr} (h : (keysS l).Nodup) : (nodesL l).Pairwise fun a b => ltSt a b = true := by
  have h1 := isort_sorted swo_St (keysS l)
  have h2 : (nodesL l).Nodup := (isort_perm ltSt (keysS l)).nodup_iff.mpr h
  unfold nodesL at h2 ⊢
  generalize isort ltSt (keysS l) = ns at h1 h2
  induction ns with
  | nil => exact List.Pairwise.nil
  | cons a ns ih =>
    rw [List.pairwise_cons] at h1 ⊢
    rw [List.nodup_cons] at h2
    exact ⟨fun b hb => lt_total (h1.1 b hb) fun e => h2.1 (e ▸ hb), ih h1.2 h2.2⟩
theorem rows_sorted {l : Tr} (h : (keysS l).Nodup) : SR (rowsL l) := by
  unfold SR rowsL
  rw [List.pairwise_map]
  exact nodes_sorted h
theorem mem_rows {l : Tr} {x : St × Spot} : x ∈ rowsL l ↔ getS l x.1 = some x.2 := by
  unfold rowsL
  rw [List.mem_map]
  constructor
  · rintro ⟨n, hn, rfl⟩
    have := get_mem.mpr (mem_nodes.mp hn)
    cases hg : getS l n with
    | none => rw [hg] at this; cases this
    | some s => rfl
  · intro h
    exact ⟨x.1, mem_nodes.mpr (get_mem.mp (by rw [h]; rfl)), by rw [h]; rfl⟩
theorem rows_len (l : Tr) : (rowsL l).length = l.length := by rw [rowsL, List.length_map, nodes_len]

/-- What find tells of rising rows. -/
theorem find_spec (n : St) : ∀ {L : Tr}, SR L → (∀ x ∈ L.take (findL L n).1, ltSt x.1 n = true) ∧ (∀ x ∈ L.drop (findL L n).1, ltSt x.1 n = false) ∧ ((findL L n).2 = true → ∃ h : (findL L n).1 < L.length, L[(findL L n).1].1 = n) ∧ ((findL L n).2 = false → ∀ x ∈ L, x.1 ≠ n)
  | [], _ => by simp [findL]
  | p :: r, hs => by
    unfold SR at hs
    rw [List.pairwise_cons] at hs
    rw [findL_cons]
    by_cases hc : 0 ≤ cmpSt p.1 n
    · rw [if_pos hc]
      have hp := cmp_lt.mp hc
      have hge : ∀ x ∈ p :: r, ltSt x.1 n = false := fun x hx => by
        rcases List.mem_cons.mp hx with rfl | hx
        · exact hp
        · cases hq : ltSt x.1 n with
          | false => rfl
          | true => have := lt_trans (hs.1 x hx) hq; rw [this] at hp; cases hp
      refine ⟨by simp, by simpa using hge, fun h => ⟨by simp, by simpa using h⟩, fun h x hx e => ?_⟩
      have hpn : p.1 ≠ n := by simpa using h
      rcases List.mem_cons.mp hx with rfl | hx
      · exact hpn e
      · have := hs.1 x hx
        rw [e, hp] at this; cases this
    · rw [if_neg hc]
      have hp : ltSt p.1 n = true := by
        cases hq : ltSt p.1 n with
        | true => rfl
        | false => exact absurd (cmp_lt.mpr hq) hc
      obtain ⟨h1, h2, h3, h4⟩ := find_spec n (L := r) hs.2
      refine ⟨fun x hx => ?_, h2, fun h => ?_, fun h x hx => ?_⟩
      · rw [List.take_succ_cons] at hx
        rcases List.mem_cons.mp hx with rfl | hx
        · exact hp
        · exact h1 x hx
      · obtain ⟨h5, h6⟩ := h3 h
        exact ⟨by simp only [List.length_cons]; omega, h6⟩
      · rcases List.mem_cons.mp hx with rfl | hx
        · intro e; rw [e, lt_irrefl] at hp; cases hp
        · exact h4 h x hx

section
variable {l : Tr} (h : Inv l)
include h
theorem find_is (n : St) : (findL (rowsL l) n).2 = (getS l n).isSome := by
  obtain ⟨_, _, h3, h4⟩ := find_spec n (rows_sorted h.nd)
  cases hf : (findL (rowsL l) n).2 with
  | true =>
    obtain ⟨h5, h6⟩ := h3 hf
    have := mem_rows.mp (List.getElem_mem h5)
    rw [h6] at this
    rw [this]; rfl
  | false =>
    cases hg : getS l n with
    | none => rfl
    | some s => exact absurd rfl (h4 hf (n, s) (mem_rows.mpr hg))
theorem find_at {n : St} {s : Spot} (hg : getS l n = some s) : ∃ hlt : (findL (rowsL l) n).1 < (rowsL l).length, (rowsL l)[(findL (rowsL l) n).1] = (n, s) := by
  obtain ⟨_, _, h3, _⟩ := find_spec n (rows_sorted h.nd)
  obtain ⟨h5, h6⟩ := h3 (by rw [find_is h, hg]; rfl)
  refine ⟨h5, ?_⟩
  have := mem_rows.mp (List.getElem_mem h5)
  rw [h6, hg] at this
  exact Prod.ext h6 (Option.some.inj this).symm
theorem row_is {n : St} {s : Spot} (hg : getS l n = some s) : rowL (rowsL l) (findL (rowsL l) n).1 = s := by
  obtain ⟨h1, h2⟩ := find_at h hg
  simp [rowL, List.getD_eq_getElem?_getD, List.getElem?_eq_getElem h1, h2]
theorem has_is (p : St) : hasRB (rowsL l) p = hasB l p := by
  unfold hasRB hasB
  rw [find_is h]
  congr 1
  unfold placeSt
  cases hn : nodeSt p with
  | true =>
    have h0 := node_pos hn
    have h1 : p ≠ (0, 0) := fun e => by rw [e] at h0; exact absurd h0 (by decide)
    have h2 : p ≠ (0, 1) := fun e => by rw [e] at h0; exact absurd h0 (by decide)
    simp [h1, h2]
  | false => simp
theorem bel_is (p : St) : belR (rowsL l) p = belowL l p := by
  unfold belR belowL rowsL
  rw [List.filter_map, List.map_map]
  have : (Prod.fst ∘ fun n => (n, (getS l n).getD sp0)) = id := rfl
  rw [this, List.map_id]
  rfl
theorem up_is : ∀ (f : Nat) (n : St) (r : List St), PathN l n r → r.length + 1 ≤ f → upR (rowsL l) f n = r
  | 0, n, r, _, hf => by omega
  | f + 1, n, r, hp, hf => by
    unfold upR
    rw [find_is h]
    have h2 := hp.look
    cases hg : getS l n with
    | none => rw [hg] at h2; cases h2; rfl
    | some s =>
      rw [hg] at h2
      obtain ⟨r', rfl, hr⟩ := h2
      rw [if_pos Option.isSome_some, row_is h hg, up_is f s.1 r' hr (by simp only [List.length_cons] at hf; omega)]
theorem upto_is (n : St) : upR (rowsL l) ((rowsL l).length + 1) n = pathOf l n := by
  have hp := h.path n
  exact up_is h _ n _ hp (by rw [rows_len]; have := hp.len; omega)
theorem within_is (p n : St) : withinR (rowsL l) p n = withinB l p n (pathOf l n) := by
  unfold withinR withinB
  rw [find_is h, upto_is h, Bool.or_comm]
theorem addE_is (n : St) (s : Spot) : addER (rowsL l) n s = addE l n s := by
  unfold addER addE
  rw [find_is h, has_is h, rows_len]
theorem moveE_is (n : St) (s : Spot) : moveER (rowsL l) n s = moveE l n s := by
  unfold moveER moveE
  rw [find_is h, has_is h, within_is h]
theorem addL_is (n : St) (s : Spot) : addLR (rowsL l) n s = rowsL (addT l n s) := by
  have hI := h.add n s
  unfold addLR addT at *
  rw [addE_is h]
  split
  · rename_i h0
    rw [if_pos h0] at hI
    obtain ⟨_, _, hg, _⟩ := addE_0 h0
    obtain ⟨h1, h2, _, h4⟩ := find_spec n (rows_sorted h.nd)
    have hne := h4 (by rw [find_is h, hg]; rfl)
    have hs := rows_sorted h.nd
    refine rows_ext ?_ (rows_sorted hI.nd) fun x => ?_
    · unfold SR
      rw [List.pairwise_append, List.pairwise_cons]
      refine ⟨hs.sublist (List.take_sublist _ _), ⟨fun x hx => lt_total (h2 x hx) (hne x (List.mem_of_mem_drop hx)), hs.sublist (List.drop_sublist _ _)⟩, fun x hx y hy => ?_⟩
      rcases List.mem_cons.mp hy with rfl | hy
      · exact h1 x hx
      · exact lt_trans (h1 x hx) (lt_total (h2 y hy) (hne y (List.mem_of_mem_drop hy)))
    · have hx : x ∈ (rowsL l).take (findL (rowsL l) n).1 ++ (n, s) :: (rowsL l).drop (findL (rowsL l) n).1 ↔ x = (n, s) ∨ x ∈ rowsL l := by
        conv => rhs; rw [← List.take_append_drop (findL (rowsL l) n).1 (rowsL l)]
        simp only [List.mem_append, List.mem_cons]
        constructor
        · rintro (h | h | h)
          · exact .inr (.inl h)
          · exact .inl h
          · exact .inr (.inr h)
        · rintro (h | h | h)
          · exact .inr (.inl h)
          · exact .inl h
          · exact .inr (.inr h)
      rw [hx, mem_rows, mem_rows, get_put]
      constructor
      · rintro (rfl | hx)
        · rw [if_pos rfl]
        · rw [if_neg (fun e => by rw [e, hg] at hx; cases hx)]; exact hx
      · intro hx
        by_cases e : x.1 = n
        · rw [if_pos e] at hx
          exact .inl (Prod.ext e (Option.some.inj hx).symm)
        · rw [if_neg e] at hx; exact .inr hx
  · rfl
theorem moveL_is (n : St) (s : Spot) : moveLR (rowsL l) n s = rowsL (moveT l n s) := by
  unfold moveLR moveT
  rw [moveE_is h]
  split
  · rename_i h0
    obtain ⟨_, _, h3, _⟩ := moveE_0 h0
    cases hg : getS l n with
    | none => rw [hg] at h3; cases h3
    | some w =>
      obtain ⟨h5, h6⟩ := find_at h hg
      have hk : keysS (putS l n s) = keysS l := by rw [keys_put, if_pos (get_mem.mp (by rw [hg]; rfl))]
      have hnn : nodesL (putS l n s) = nodesL l := by unfold nodesL; rw [hk]
      have hnd : (nodesL l).Nodup := (isort_perm ltSt (keysS l)).nodup_iff.mpr h.nd
      rw [show ((rowsL l).getD (findL (rowsL l) n).1 ((0, 0), sp0)).1 = n by simp [List.getD_eq_getElem?_getD, List.getElem?_eq_getElem h5, h6]]
      have hlen := rows_len l
      have hi : (nodesL l)[(findL (rowsL l) n).1]'(by rw [nodes_len, ← hlen]; exact h5) = n := by
        have := congrArg Prod.fst h6
        simpa [rowsL] using this
      apply List.ext_getElem
      · rw [List.length_set, rowsL, rowsL, List.length_map, List.length_map, hnn]
      · intro j hj1 hj2
        rw [List.getElem_set]
        rw [List.length_set] at hj1
        have hjn : j < (nodesL l).length := by rw [nodes_len, ← hlen]; exact hj1
        have e2 : (rowsL (putS l n s))[j] = ((nodesL l)[j], (getS (putS l n s) (nodesL l)[j]).getD sp0) := by simp only [rowsL, List.getElem_map, hnn]
        have e1 : (rowsL l)[j] = ((nodesL l)[j], (getS l (nodesL l)[j]).getD sp0) := by simp [rowsL]
        rw [e2, get_put]
        by_cases e : (findL (rowsL l) n).1 = j
        · subst e
          rw [if_pos rfl, hi, if_pos rfl]; rfl
        · rw [if_neg e, e1, if_neg]
          intro e3
          exact e ((List.getElem_inj hnd).mp (hi.trans e3.symm))
  · rfl
end
end Go.Am.Tryz


/- Same: of two lists of stamps; of two of the reference's trees. -/
namespace Go.Am.Tryz
open Go Go.Am Go.Proofs Go.Sort Go.Shelf
set_option maxRecDepth 100000
set_option linter.unusedSimpArgs false
set_option linter.unusedVariables false

end Go.Am.Tryz


/- A machine with more parts does what it did. -/
namespace Go.Am
open Go

structure Decls.le (D D' : Decls) : Prop where
  prim : ∀ f g, D.prim f = some g → D'.prim f = some g
  code : ∀ f F, D.prim f = none → D.code.get f = some F → D'.prim f = none ∧ D'.code.get f = some F
theorem callN_more {D D' : Decls} (h : D.le D') : ∀ (k : Nat), CallLe (callN D k) (callN D' k)
  | 0 => fun f args M r hr => by cases hr
  | k + 1 => fun f args M r hr => by
    simp only [callN] at hr ⊢
    cases hp : D.prim f with
    | some g =>
      rw [hp] at hr
      rw [h.prim f g hp]
      exact hr
    | none =>
      rw [hp] at hr
      simp only at hr
      cases hg : D.code.get f with
      | none => rw [hg] at hr; cases hr
      | some F =>
        rw [hg] at hr
        obtain ⟨h1, h2⟩ := h.code f F hp hg
        rw [h1, h2]
        simp only [Bool.cond_eq_ite] at hr ⊢
        split at hr
        · rename_i hle
          rw [if_pos hle]
          split at hr
          · rename_i fr' M' he
            rw [exec_mono (callN_more h k) (Nat.le_refl _) _ he]
            exact hr
          · rename_i fr' M' he
            rw [exec_mono (callN_more h k) (Nat.le_refl _) _ he]
            exact hr
          · cases hr
        · cases hr
theorem Runs.more {D D' : Decls} (hle : D.le D') {f : FuncId} {args : List V} {M : Mem} {R : V → Mem → Prop} (h : Runs D f args M R) : Runs D' f args M R := by
  obtain ⟨k, v, M', h1, h2⟩ := h
  exact ⟨k, v, M', callN_more hle k _ _ _ _ h1, h2⟩
/-- A part for a function that the machine did not know. -/
theorem Decls.le_addM {D : Decls} {f : FuncId} {g : List V → Mem → Option (V × Mem)} (hp : D.prim f = none) (hc : D.code.get f = none) : D.le (D.addM f g) := by
  refine ⟨fun f' g' h => ?_, fun f' F h hF => ?_⟩
  · simp only [Decls.addM]
    cases hb : Nat.beq f' f with
    | true =>
      have := Nat.eq_of_beq_eq_true hb
      subst this
      rw [hp] at h; cases h
    | false => exact h
  · simp only [Decls.addM]
    cases hb : Nat.beq f' f with
    | true =>
      have := Nat.eq_of_beq_eq_true hb
      subst this
      rw [hc] at hF; cases hF
    | false => exact ⟨h, hF⟩
theorem Decls.le_trans {D D' D'' : Decls} (h : D.le D') (h' : D'.le D'') : D.le D'' :=
  ⟨fun f g hg => h'.prim f g (h.prim f g hg), fun f F hp hc => by obtain ⟨a, b⟩ := h.code f F hp hc; exact h'.code f F a b⟩
end Go.Am


/- The row below a place: the program's and the reference's. -/
namespace Go.Am.Tryz.O
open Go Go.Am Go.Proofs Go.Sort Go.Shelf
set_option maxRecDepth 100000
set_option linter.unusedSimpArgs false
set_option linter.unusedVariables false

/-- What runs on the tree's machine runs here. -/
theorem le2 : Tryz.D2.le D2 :=
  Decls.le_trans (Decls.le_trans (Decls.le_trans (show Tryz.D2.le D1 from Decls.le_addM (f := F_strings_Compare) (g := fun args M => (pCompare args).map (·, M)) rfl (by rfl)) (show D1.le D1s from Decls.le_addM rfl (by rfl))) (show D1s.le D1t from Decls.le_addM rfl (by rfl))) (show D1t.le D2 from Decls.le_addM rfl (by rfl))

def sbAt (l : Tr) (n : St) : Sb := (((getS l n).getD sp0).2, n)
def rowB (l : Tr) (p : St) : List Sb := (belowL l p).map (sbAt l)
theorem oRow_loop (tc bm : Nat) (l : Tr) (ns : List St) (sn : V) (M0 : Mem) (T : TreeIn M0 tc bm l) (hns : SlR elSt M0 sn ns) (hlt : ∀ b, sn.blk = some b → b < M0.next) (hN : (ns.length + 1) * 32 ≤ maxRoom) {Q : AExit → Fr → Mem → Prop}
    (hE : ∀ fr M s, Grew M0 M → Hold M0.next M 3 s (ns.map (sbAt l)).length (elSb.all (ns.map (sbAt l))) → fr.rd 5 = s → Q (.exit 0) fr M) :
    ∀ (f i : Nat) (s : V) (fr : Fr) (M : Mem), i + f = ns.length → Grew M0 M → Hold M0.next M 3 s ((ns.take i).map (sbAt l)).length (elSb.all ((ns.take i).map (sbAt l))) → fr.rd 0 = .ptr (some (tc, 0)) → fr.rd 5 = s → fr.rd 12 = sn → fr.rd 13 = .int .i64 (ns.length : Int) → fr.rd 14 = .int .i64 (i : Int) → WC D2 34 (.loop A_order_Row_8) fr M Q := by
  have hmx : maxRoom = 17592186044416 := rfl
  intro f
  induction f with
  | zero =>
    intro i s fr M hi hG hH h0 h5 h12 h13 h14
    refine WC.loop (W_of ?_)
    unfold A_order_Row_8
    have : ¬ (i : Int) < ns.length := by omega
    simp -dsimp only [↓w_seq, ↓w_ops, ↓w_skip, ↓w_ret, ↓w_exit, ↓w_scope, ↓w_block, ↓w_cond, cond_true', cond_false', ↓t_nil, ↓t_plain, ↓t_guard, ↓t_gagain, ↓t_again, t_val, t_call, g_true, g_false, ga_true, ga_false, a_val, a_call, ↓n_normal, ↓n_ret, ↓n_exit, ↓b_normal, ↓b_ret, ↓b_exit, ↓e_normal, ↓e_ret, e_some, go_sem, ↓reduceIte, Nat.reduceEqDiff, Nat.reduceLT, Nat.reduceSub, A_order_Row_3, h13, h14, this, decide_false]
    have : i = ns.length := by omega
    subst this
    rw [List.take_length] at hH
    exact hE _ _ s hG hH (by simp only [go_sem, ↓reduceIte, Nat.reduceEqDiff, Nat.reduceLT, Nat.reduceSub, h5])
  | succ f ih =>
    intro i s fr M hi hG hH h0 h5 h12 h13 h14
    refine WC.loop (W_of ?_)
    unfold A_order_Row_8
    have hil : i < ns.length := by omega
    have hsM : SlR elSt M sn ns := hns.keep fun b hb => hG.old b (hlt b hb)
    obtain ⟨b, o, cs, ro, cap, rfl, hM, hr⟩ := st_at hsM hil
    have hb : b < M.next := Nat.lt_of_lt_of_le (hlt b rfl) hG.next
    have h1 : (i : Int) < ns.length := by omega
    have h2 : i + 1 ≤ ns.length := by omega
    have h5' : (i : Int) + 1 = ((i + 1 : Nat) : Int) := by omega
    have hw := write_full (M := M.push (.cells [.int .i64 0, .int .i64 0] false)) (b := M.next) (vs := stC ns[i]) (Mem.get_push_same _ _) rfl rfl
    have hrd : ∀ x : St, rdCells (stC x) 0 2 = some (stC x) := fun _ => rfl
    have hn0 := hG.next
    simp -dsimp only [↓w_seq, ↓w_ops, ↓w_skip, ↓w_ret, ↓w_exit, ↓w_scope, ↓w_block, ↓w_cond, cond_true', cond_false', ↓t_nil, ↓t_plain, ↓t_guard, ↓t_gagain, ↓t_again, t_val, t_call, g_true, g_false, ga_true, ga_false, a_val, a_call, ↓n_normal, ↓n_ret, ↓n_exit, ↓b_normal, ↓b_ret, ↓b_exit, ↓e_normal, ↓e_ret, e_some, go_sem, ↓reduceIte, Nat.reduceEqDiff, Nat.reduceLT, Nat.reduceSub, A_order_Row_3, A_order_Row_4, h12, h13, h14, h1, h2, decide_true, vload, vptr, hM, Mem.read, hr, Nat.add_zero, vstore, V.cells, stC_len, hw, Nat.reduceEqDiff]
    have hG1 : Grew M ((M.push (.cells [.int .i64 0, .int .i64 0] false)).set M.next (.cells (stC ns[i]) false)) := (Grew.push M _).upd (Nat.le_refl _) (Upd.set _ _ _)
    have g7 : ((M.push (.cells [.int .i64 0, .int .i64 0] false)).set M.next (.cells (stC ns[i]) false)).get M.next = some (.cells (stC ns[i]) false) := Mem.get_set_same _ _ _
    have hn1 : ((M.push (.cells [.int .i64 0, .int .i64 0] false)).set M.next (.cells (stC ns[i]) false)).next = M.next + 1 := rfl
    clear hw
    generalize (M.push (.cells [.int .i64 0, .int .i64 0] false)).set M.next (.cells (stC ns[i]) false) = M1 at *
    have T1 := (T.grew hG).grew hG1
    simp -dsimp only [↓w_seq, ↓w_ops, ↓w_skip, ↓w_ret, ↓w_exit, ↓w_scope, ↓w_block, ↓w_cond, cond_true', cond_false', ↓t_nil, ↓t_plain, ↓t_guard, ↓t_gagain, ↓t_again, t_val, t_call, g_true, g_false, ga_true, ga_false, a_val, a_call, ↓n_normal, ↓n_ret, ↓n_exit, ↓b_normal, ↓b_ret, ↓b_exit, ↓e_normal, ↓e_ret, e_some, go_sem, ↓reduceIte, Nat.reduceEqDiff, Nat.reduceLT, Nat.reduceSub, A_order_Row_5, h0, vload, vptr, Mem.read, g7, hrd, Nat.add_zero]
    refine call_eq ((spot_p (D := Tryz.D2) rfl T1.of ns[i]).more le2) ?_
    have htk : (ns.take (i + 1)).map (sbAt l) = (ns.take i).map (sbAt l) ++ [sbAt l ns[i]] := by
      rw [List.take_add_one, List.getElem?_eq_getElem hil, List.map_append]; rfl
    have hsb : sbAt l ns[i] = (((getS l ns[i]).getD sp0).2, ns[i]) := rfl
    generalize (getS l ns[i]).getD sp0 = sp at *
    generalize (getS l ns[i]).isSome = ok at *
    generalize ns[i] = n at *
    obtain ⟨sp1, sp2⟩ := sp
    have hw2 := write_full (M := M1.push (.cells [.int .i64 0, .int .i64 0, .str []] false)) (b := M1.next) (vs := spC (sp1, sp2)) (Mem.get_push_same _ _) rfl rfl
    have hcs : V.cells (.agg (spC (sp1, sp2))) = spC (sp1, sp2) := rfl
    have hls : (spC (sp1, sp2)).length = 3 := rfl
    simp -dsimp only [↓w_seq, ↓w_ops, ↓w_skip, ↓w_ret, ↓w_exit, ↓w_scope, ↓w_block, ↓w_cond, cond_true', cond_false', ↓t_nil, ↓t_plain, ↓t_guard, ↓t_gagain, ↓t_again, t_val, t_call, g_true, g_false, ga_true, ga_false, a_val, a_call, ↓n_normal, ↓n_ret, ↓n_exit, ↓b_normal, ↓b_ret, ↓b_exit, ↓e_normal, ↓e_ret, e_some, go_sem, ↓reduceIte, Nat.reduceEqDiff, Nat.reduceLT, Nat.reduceSub, A_order_Row_5, vof, List.getElem?_cons_zero, List.getElem?_cons_succ, Option.map_some, vstore, vptr, hcs, hls, hw2, Nat.reduceEqDiff]
    have hG2 : Grew M1 ((M1.push (.cells [.int .i64 0, .int .i64 0, .str []] false)).set M1.next (.cells (spC (sp1, sp2)) false)) := (Grew.push M1 _).upd (Nat.le_refl _) (Upd.set _ _ _)
    have g8 : ((M1.push (.cells [.int .i64 0, .int .i64 0, .str []] false)).set M1.next (.cells (spC (sp1, sp2)) false)).get M1.next = some (.cells (spC (sp1, sp2)) false) := Mem.get_set_same _ _ _
    have hn2 : ((M1.push (.cells [.int .i64 0, .int .i64 0, .str []] false)).set M1.next (.cells (spC (sp1, sp2)) false)).next = M1.next + 1 := rfl
    clear hw2
    generalize (M1.push (.cells [.int .i64 0, .int .i64 0, .str []] false)).set M1.next (.cells (spC (sp1, sp2)) false) = M2 at *
    have g7' := (hG2.old _ (by omega)).trans g7
    have hH2 : Hold M0.next M2 3 s ((ns.take i).map (sbAt l)).length (elSb.all ((ns.take i).map (sbAt l))) := (hH.keep (fun c hc => hG1.old c (hH.blk_le hc).2.1) hG1.next).keep (fun c hc => hG2.old c (Nat.lt_of_lt_of_le (hH.blk_le hc).2.1 hG1.next)) hG2.next
    have hH3 : Hold M0.next (M2.push (.cells (sbC (sp2, n)) false)) 3 s ((ns.take i).map (sbAt l)).length (elSb.all ((ns.take i).map (sbAt l))) := hH2.keep (fun c hc => Mem.get_push_ne _ _ (by have := (hH2.blk_le hc).2.1; omega)) (by simp)
    have hnl : ((ns.take i).map (sbAt l)).length ≤ i := by rw [List.length_map, List.length_take]; omega
    have hrm : (((ns.take i).map (sbAt l)).length + 1) * 32 ≤ maxRoom := Nat.le_trans (Nat.mul_le_mul_right 32 (by omega)) hN
    obtain ⟨M4, hap, hH4, hn4, ho4⟩ := hH3.append (bytes := 32) (m := 1) (x := .slice (some (M2.next, 0)) 1 (.exact 1)) (new := sbC (sp2, n)) (by simp; omega) rfl
      (by
        have := read_all (Mem.get_push_same M2 (.cells (sbC (sp2, n)) false))
        simp only [srcCells, beq_dec, Nat.one_mul, Nat.reduceEqDiff, decide_false, cond_false]
        exact this) (by omega) rfl hrm rfl
    have hf : fillCells [.str [], .int .i64 0, .int .i64 0] [(0, 1, .str sp2), (1, 2, .agg (stC n))] = some (sbC (sp2, n)) := rfl
    have hf2 : fillCells [.str [], .int .i64 0, .int .i64 0] [(0, 3, .agg (sbC (sp2, n)))] = some (sbC (sp2, n)) := rfl
    have hk : (spC (sp1, sp2))[2]? = some (.str sp2) := rfl
    simp -dsimp only [↓w_seq, ↓w_ops, ↓w_skip, ↓w_ret, ↓w_exit, ↓w_scope, ↓w_block, ↓w_cond, cond_true', cond_false', ↓t_nil, ↓t_plain, ↓t_guard, ↓t_gagain, ↓t_again, t_val, t_call, g_true, g_false, ga_true, ga_false, a_val, a_call, ↓n_normal, ↓n_ret, ↓n_exit, ↓b_normal, ↓b_ret, ↓b_exit, ↓e_normal, ↓e_ret, e_some, go_sem, ↓reduceIte, Nat.reduceEqDiff, Nat.reduceLT, Nat.reduceSub, A_order_Row_6, A_order_Row_7, h5, h14, h5', vload, vptr, Mem.read, g7', g8, hrd, hk, repl, List.append_nil, hf, hf2, hap, Nat.zero_add, IntWalk.i64_in ((i + 1 : Nat) : Int) (by omega)]
    simp only [Mem.next_push] at hH4 hn4 ho4
    have hn1' := hG1.next
    have hn2' := hG2.next
    refine ih (i + 1) (.slice (some (M2.next + 1, 0)) (((ns.take i).map (sbAt l)).length + 1) (.upto 3)) _ M4 (by omega) ⟨by omega, fun c hc => ?_⟩ ?_ ?_ ?_ ?_ ?_ ?_
    · rw [ho4 c (by omega) (fun e => by have := (hH2.blk_le e).1; omega), Mem.get_push_ne _ _ (by omega), hG2.old c (by omega), hG1.old c (by omega)]
      exact hG.old c hc
    · have e1 : (((ns.take i).map (sbAt l)) ++ [sbAt l n]).length = ((ns.take i).map (sbAt l)).length + 1 := by simp
      have e2 : elSb.all (((ns.take i).map (sbAt l)) ++ [sbAt l n]) = elSb.all ((ns.take i).map (sbAt l)) ++ sbC (sp2, n) := by rw [hsb]; simp [Elem.all, elSb]
      rw [htk, e1, e2]
      exact hH4
    all_goals simp only [go_sem, ↓reduceIte, Nat.reduceEqDiff, Nat.reduceLT, Nat.reduceSub, h0, h12, h13, Mem.next_push]

theorem oRow_runs (M : Mem) (tc bm : Nat) (l : Tr) (p : St) (T : TreeIn M tc bm l) (hN : (l.length + 1) * 32 ≤ maxRoom) :
    Runs D2 F_order_Row [.ptr (some (tc, 0)), .agg (stC p)] M fun v M' => Grew M M' ∧ Hold M.next M' 3 v (rowB l p).length (elSb.all (isort ltSb (rowB l p))) := by
  have hmx : maxRoom = 17592186044416 := rfl
  refine R_opq fun R hR => ?_
  refine Runs.walk (F := A_order_Row) rfl (by rfl) (by rfl) ?_
  unfold A_order_Row
  have hcn : V.cells (.agg (stC p)) = stC p := rfl
  have hG := Grew.push M (.cells (stC p) false)
  have g3 : (M.push (.cells (stC p) false)).get M.next = some (.cells (stC p) false) := Mem.get_push_same _ _
  have hn1 : (M.push (.cells (stC p) false)).next = M.next + 1 := rfl
  have hrd : ∀ x : St, rdCells (stC x) 0 2 = some (stC x) := fun _ => rfl
  simp -dsimp only [↓w_seq, ↓w_ops, ↓w_skip, ↓w_ret, ↓w_exit, ↓w_scope, ↓w_block, ↓w_cond, cond_true', cond_false', ↓t_nil, ↓t_plain, ↓t_guard, ↓t_gagain, ↓t_again, t_val, t_call, g_true, g_false, ga_true, ga_false, a_val, a_call, ↓n_normal, ↓n_ret, ↓n_exit, ↓b_normal, ↓b_ret, ↓b_exit, ↓e_normal, ↓e_ret, e_some, go_sem, ↓reduceIte, Nat.reduceEqDiff, Nat.reduceLT, Nat.reduceSub, A_order_Row_0, A_order_Row_1, A_order_Row_2, hcn]
  generalize M.push (.cells (stC p) false) = M1 at *
  simp -dsimp only [↓w_seq, ↓w_ops, ↓w_skip, ↓w_ret, ↓w_exit, ↓w_scope, ↓w_block, ↓w_cond, cond_true', cond_false', ↓t_nil, ↓t_plain, ↓t_guard, ↓t_gagain, ↓t_again, t_val, t_call, g_true, g_false, ga_true, ga_false, a_val, a_call, ↓n_normal, ↓n_ret, ↓n_exit, ↓b_normal, ↓b_ret, ↓b_exit, ↓e_normal, ↓e_ret, e_some, go_sem, ↓reduceIte, Nat.reduceEqDiff, Nat.reduceLT, Nat.reduceSub, vload, Mem.read, g3, hrd, Nat.add_zero]
  refine call_of ((Below_runs M1 tc bm l p (T.grew hG) (by omega)).more le2) ?_
  intro v M2 hv
  obtain ⟨hG2, hH⟩ := hv
  have hsl := Hold.slR hH
  obtain ⟨a, cap, rfl⟩ := hH.shape
  simp -dsimp only [↓w_seq, ↓w_ops, ↓w_skip, ↓w_ret, ↓w_exit, ↓w_scope, ↓w_block, ↓w_cond, cond_true', cond_false', ↓t_nil, ↓t_plain, ↓t_guard, ↓t_gagain, ↓t_again, t_val, t_call, g_true, g_false, ga_true, ga_false, a_val, a_call, ↓n_normal, ↓n_ret, ↓n_exit, ↓b_normal, ↓b_ret, ↓b_exit, ↓e_normal, ↓e_ret, e_some, go_sem, ↓reduceIte, Nat.reduceEqDiff, Nat.reduceLT, Nat.reduceSub]
  have hbl : (belowL l p).length ≤ l.length := by
    rw [← nodes_len l]
    exact List.length_filter_le _ _
  have hrm : ((belowL l p).length + 1) * 32 ≤ maxRoom := Nat.le_trans (Nat.mul_le_mul_right 32 (by omega)) hN
  refine oRow_loop tc bm l (belowL l p) _ M2 ((T.grew hG).grew hG2) hsl (fun b hb => (hH.blk_le hb).2.1) hrm ?_ (belowL l p).length 0 (.slice none 0 (.exact 0)) _ M2 (by omega) (Grew.refl _) ?_ ?_ ?_ ?_ ?_ ?_
  · intro fr M3 s hG3 hH3 h5
    have hrb : (rowB l p).length = (belowL l p).length := by simp [rowB]
    simp -dsimp only [↓w_seq, ↓w_ops, ↓w_skip, ↓w_ret, ↓w_exit, ↓w_scope, ↓w_block, ↓w_cond, cond_true', cond_false', ↓t_nil, ↓t_plain, ↓t_guard, ↓t_gagain, ↓t_again, t_val, t_call, g_true, g_false, ga_true, ga_false, a_val, a_call, ↓n_normal, ↓n_ret, ↓n_exit, ↓b_normal, ↓b_ret, ↓b_exit, ↓e_normal, ↓e_ret, e_some, go_sem, ↓reduceIte, Nat.reduceEqDiff, Nat.reduceLT, Nat.reduceSub, A_order_Row_9, h5]
    refine call_of (order_Sort_runs s (rowB l p) (by rw [hrb]; exact hrm) M3 hH3) ?_
    intro v M4 hv
    simp -dsimp only [↓w_seq, ↓w_ops, ↓w_skip, ↓w_ret, ↓w_exit, ↓w_scope, ↓w_block, ↓w_cond, cond_true', cond_false', ↓t_nil, ↓t_plain, ↓t_guard, ↓t_gagain, ↓t_again, t_val, t_call, g_true, g_false, ga_true, ga_false, a_val, a_call, ↓n_normal, ↓n_ret, ↓n_exit, ↓b_normal, ↓b_ret, ↓b_exit, ↓e_normal, ↓e_ret, e_some, go_sem, ↓reduceIte, Nat.reduceEqDiff, Nat.reduceLT, Nat.reduceSub, A_order_Row_9]
    have h1 := hG.next
    have h2 := hG2.next
    have h3 := hG3.next
    exact hR _ _ ⟨((hG.trans hG2).trans hG3).trans hv.1, hv.2.lower (by omega)⟩
  · rw [List.take_zero]; exact .nil
  all_goals simp only [go_sem, ↓reduceIte, Nat.reduceEqDiff, Nat.reduceLT, Nat.reduceSub]
  rfl
theorem oRow_none (M : Mem) (p : St) : Runs D2 F_order_Row [.ptr none, .agg (stC p)] M fun v M' => (∃ a cap, v = .slice a 0 cap) ∧ Grew M M' := by
  refine R_opq fun R hR => ?_
  refine Runs.walk (F := A_order_Row) rfl (by rfl) (by rfl) ?_
  unfold A_order_Row
  have hcn : V.cells (.agg (stC p)) = stC p := rfl
  have hG := Grew.push M (.cells (stC p) false)
  have g3 : (M.push (.cells (stC p) false)).get M.next = some (.cells (stC p) false) := Mem.get_push_same _ _
  have hrd : ∀ x : St, rdCells (stC x) 0 2 = some (stC x) := fun _ => rfl
  simp -dsimp only [↓w_seq, ↓w_ops, ↓w_skip, ↓w_ret, ↓w_exit, ↓w_scope, ↓w_block, ↓w_cond, cond_true', cond_false', ↓t_nil, ↓t_plain, ↓t_guard, ↓t_gagain, ↓t_again, t_val, t_call, g_true, g_false, ga_true, ga_false, a_val, a_call, ↓n_normal, ↓n_ret, ↓n_exit, ↓b_normal, ↓b_ret, ↓b_exit, ↓e_normal, ↓e_ret, e_some, go_sem, ↓reduceIte, Nat.reduceEqDiff, Nat.reduceLT, Nat.reduceSub, A_order_Row_0, A_order_Row_1, A_order_Row_2, hcn]
  generalize M.push (.cells (stC p) false) = M1 at *
  simp -dsimp only [↓w_seq, ↓w_ops, ↓w_skip, ↓w_ret, ↓w_exit, ↓w_scope, ↓w_block, ↓w_cond, cond_true', cond_false', ↓t_nil, ↓t_plain, ↓t_guard, ↓t_gagain, ↓t_again, t_val, t_call, g_true, g_false, ga_true, ga_false, a_val, a_call, ↓n_normal, ↓n_ret, ↓n_exit, ↓b_normal, ↓b_ret, ↓b_exit, ↓e_normal, ↓e_ret, e_some, go_sem, ↓reduceIte, Nat.reduceEqDiff, Nat.reduceLT, Nat.reduceSub, vload, Mem.read, g3, hrd, Nat.add_zero]
  refine call_of (Below_none D2 rfl (by rfl) rfl (by rfl) M1 (.ptr none) p fun M' _ => (none_pn (D := D2) rfl)) ?_
  intro v M2 hv
  rw [hv.1]
  have hG2 := hv.2
  clear hv
  simp -dsimp only [↓w_seq, ↓w_ops, ↓w_skip, ↓w_ret, ↓w_exit, ↓w_scope, ↓w_block, ↓w_cond, cond_true', cond_false', ↓t_nil, ↓t_plain, ↓t_guard, ↓t_gagain, ↓t_again, t_val, t_call, g_true, g_false, ga_true, ga_false, a_val, a_call, ↓n_normal, ↓n_ret, ↓n_exit, ↓b_normal, ↓b_ret, ↓b_exit, ↓e_normal, ↓e_ret, e_some, go_sem, ↓reduceIte, Nat.reduceEqDiff, Nat.reduceLT, Nat.reduceSub]
  refine WC.loop (W_of ?_)
  unfold A_order_Row_8
  simp -dsimp only [↓w_seq, ↓w_ops, ↓w_skip, ↓w_ret, ↓w_exit, ↓w_scope, ↓w_block, ↓w_cond, cond_true', cond_false', ↓t_nil, ↓t_plain, ↓t_guard, ↓t_gagain, ↓t_again, t_val, t_call, g_true, g_false, ga_true, ga_false, a_val, a_call, ↓n_normal, ↓n_ret, ↓n_exit, ↓b_normal, ↓b_ret, ↓b_exit, ↓e_normal, ↓e_ret, e_some, go_sem, ↓reduceIte, Nat.reduceEqDiff, Nat.reduceLT, Nat.reduceSub, A_order_Row_3, Int.lt_irrefl, decide_false, Int.natCast_zero, A_order_Row_9, Int.ofNat_zero]
  refine call_of (order_Sort_runs (.slice none 0 (.exact 0)) [] (lo := 0) (by decide) M2 .nil) ?_
  intro v M3 hv
  obtain ⟨hG3, hH⟩ := hv
  simp -dsimp only [↓w_seq, ↓w_ops, ↓w_skip, ↓w_ret, ↓w_exit, ↓w_scope, ↓w_block, ↓w_cond, cond_true', cond_false', ↓t_nil, ↓t_plain, ↓t_guard, ↓t_gagain, ↓t_again, t_val, t_call, g_true, g_false, ga_true, ga_false, a_val, a_call, ↓n_normal, ↓n_ret, ↓n_exit, ↓b_normal, ↓b_ret, ↓b_exit, ↓e_normal, ↓e_ret, e_some, go_sem, ↓reduceIte, Nat.reduceEqDiff, Nat.reduceLT, Nat.reduceSub, A_order_Row_9]
  obtain ⟨a, cap, rfl⟩ := hH.shape
  exact hR _ _ ⟨⟨a, cap, rfl⟩, (hG.trans hG2).trans hG3⟩
end Go.Am.Tryz.O


/- The reference's row below a place. -/
namespace Go.Am.Tryz.O
open Go Go.Am Go.Proofs Go.Sort Go.Shelf
set_option maxRecDepth 100000
set_option linter.unusedSimpArgs false
set_option linter.unusedVariables false

def rowR (L : Tr) (p : St) : List Sb := (L.filter fun r => decide (r.2.1 = p)).map fun r => (r.2.2, r.1)
theorem rowR_len (L : Tr) (p : St) : (rowR L p).length ≤ L.length := by
  unfold rowR
  rw [List.length_map]
  exact List.length_filter_le _ _
theorem rowR_is {l : Tr} (hI : Inv l) (p : St) : rowR (rowsL l) p = rowB l p := by
  unfold rowB
  rw [← bel_is hI]
  unfold belR rowR
  rw [List.map_map]
  refine List.map_congr_left fun r hr => ?_
  have h1 := mem_rows.1 ((List.mem_filter.1 hr).1)
  simp only [Function.comp, sbAt, h1, Option.getD_some]

theorem rRow_loop (rc b3 : Nat) (s : V) (L : Tr) (p : St) (M0 : Mem) (h : RefIn M0 rc s L) (l3 : b3 < M0.next) (h3 : M0.get b3 = some (.cells (stC p) false)) {Q : AExit → Fr → Mem → Prop}
    (hE : ∀ fr M v, Grew M0 M → Hold M0.next M 3 v (rowR L p).length (elSb.all (rowR L p)) → fr.rd 5 = v → Q (.exit 0) fr M) :
    ∀ (f i : Nat) (v : V) (fr : Fr) (M : Mem), i + f = L.length → Grew M0 M → Hold M0.next M 3 v (rowR (L.take i) p).length (elSb.all (rowR (L.take i) p)) → fr.rd 0 = .ptr (some (rc, 0)) → fr.rd 3 = .ptr (some (b3, 0)) → fr.rd 5 = v → fr.rd 6 = .int .i64 (i : Int) → WC D2 50 (.loop A_ref11_Row_7) fr M Q := by
  have hln := h.ln
  intro f
  induction f with
  | zero =>
    intro i v fr M hi hG hH h0 hf3 h5 h6
    refine WC.loop (W_of ?_)
    unfold A_ref11_Row_7
    have hM := h.grew hG
    obtain ⟨a, cap, e, _⟩ := hM.he.sl
    have hc := hM.c
    rw [e] at hc
    have : ¬ (i : Int) < L.length := by omega
    simp -dsimp only [↓w_seq, ↓w_ops, ↓w_skip, ↓w_ret, ↓w_exit, ↓w_scope, ↓w_block, ↓w_cond, cond_true', cond_false', ↓t_nil, ↓t_plain, ↓t_guard, ↓t_gagain, ↓t_again, t_val, t_call, g_true, g_false, ga_true, ga_false, a_val, a_call, ↓n_normal, ↓n_ret, ↓n_exit, ↓b_normal, ↓b_ret, ↓b_exit, ↓e_normal, ↓e_ret, e_some, go_sem, ↓reduceIte, Nat.reduceEqDiff, Nat.reduceLT, Nat.reduceSub, A_ref11_Row_3, h0, h6, vload, vptr, Mem.read, hc, Nat.add_zero, List.getElem?_cons_zero, this, decide_false]
    have : i = L.length := by omega
    subst this
    rw [List.take_length] at hH
    exact hE _ M v hG hH (by simp only [go_sem, ↓reduceIte, Nat.reduceEqDiff, Nat.reduceLT, Nat.reduceSub, h5])
  | succ f ih =>
    intro i v fr M hi hG hH h0 hf3 h5 h6
    refine WC.loop (W_of ?_)
    unfold A_ref11_Row_7
    have hil : i < L.length := by omega
    have hM := h.grew hG
    obtain ⟨b, o, cs, rb, cap, e, hMb, hr5, hr2, hr3, hr22⟩ := row_at hM.he.sl hil
    have hr4 : cs[o + i * 5 + 2 + 2]? = some (.str L[i].2.2) := rd_cell hr5 4 (by decide)
    have hc := hM.c
    rw [e] at hc
    have g3 := (hG.old _ l3).trans h3
    have e1 : (i : Int) < L.length := by omega
    have e2 : i + 1 ≤ L.length := by omega
    have h5' : (i : Int) + 1 = ((i + 1 : Nat) : Int) := by omega
    have hrd : ∀ x : St, rdCells (stC x) 0 2 = some (stC x) := fun _ => rfl
    have htk : rowR (L.take (i + 1)) p = rowR (L.take i) p ++ (if L[i].2.1 = p then [(L[i].2.2, L[i].1)] else []) := by
      unfold rowR
      rw [take_snoc L hil, List.filter_append, List.map_append]
      by_cases hp : L[i].2.1 = p <;> simp [hp]
    generalize L[i] = x at *
    have hn0 := hG.next
    by_cases hp : x.2.1 = p
    · rw [if_pos hp] at htk
      rw [hp] at hr22
      have hbl := rowR_len (L.take i) p
      rw [List.length_take] at hbl
      have hH3 : Hold M0.next (M.push (.cells (sbC (x.2.2, x.1)) false)) 3 v (rowR (L.take i) p).length (elSb.all (rowR (L.take i) p)) := hH.keep (fun c hc => Mem.get_push_ne _ _ (by have := hH.blk_le hc; omega)) (by simp)
      obtain ⟨M4, hap, hH4, hn4, ho4⟩ := hH3.append (bytes := 32) (m := 1) (x := .slice (some (M.next, 0)) 1 (.exact 1)) (new := sbC (x.2.2, x.1)) (by simp; omega) rfl
        (by
          have := read_all (Mem.get_push_same M (.cells (sbC (x.2.2, x.1)) false))
          simp only [srcCells, beq_dec, Nat.one_mul, Nat.reduceEqDiff, decide_false, cond_false]
          exact this) (by omega) rfl (by
            have hmx : maxRoom = 17592186044416 := rfl
            omega) rfl
      have hf : fillCells [.str [], .int .i64 0, .int .i64 0] [(0, 1, .str x.2.2), (1, 2, .agg (stC x.1))] = some (sbC (x.2.2, x.1)) := rfl
      have hf2 : fillCells [.str [], .int .i64 0, .int .i64 0] [(0, 3, .agg (sbC (x.2.2, x.1)))] = some (sbC (x.2.2, x.1)) := rfl
      simp -dsimp only [↓w_seq, ↓w_ops, ↓w_skip, ↓w_ret, ↓w_exit, ↓w_scope, ↓w_block, ↓w_cond, cond_true', cond_false', ↓t_nil, ↓t_plain, ↓t_guard, ↓t_gagain, ↓t_again, t_val, t_call, g_true, g_false, ga_true, ga_false, a_val, a_call, ↓n_normal, ↓n_ret, ↓n_exit, ↓b_normal, ↓b_ret, ↓b_exit, ↓e_normal, ↓e_ret, e_some, go_sem, ↓reduceIte, Nat.reduceEqDiff, Nat.reduceLT, Nat.reduceSub, A_ref11_Row_3, A_ref11_Row_4, A_ref11_Row_5, A_ref11_Row_6, h0, hf3, h5, h6, vload, vptr, Mem.read, hc, hMb, g3, hr2, hr22, hr4, hrd, Nat.add_zero, List.getElem?_cons_zero, e1, e2, decide_true, st_same, repl, List.append_nil, hf, hf2, hap, h5', IntWalk.i64_in ((i + 1 : Nat) : Int) (by omega)]
      simp only [Mem.next_push] at hH4 hn4 ho4
      refine ih (i + 1) (.slice (some (M.next + 1, 0)) ((rowR (L.take i) p).length + 1) (.upto 3)) _ M4 (by omega) ⟨by omega, fun c hc => ?_⟩ ?_ ?_ ?_ ?_ ?_
      · rw [ho4 c (by omega) (fun e => by have := (hH.blk_le e).1; omega), Mem.get_push_ne _ _ (by omega)]
        exact hG.old c hc
      · have e3 : elSb.all (rowR (L.take i) p ++ [(x.2.2, x.1)]) = elSb.all (rowR (L.take i) p) ++ sbC (x.2.2, x.1) := by simp [Elem.all, elSb]
        rw [htk, List.length_append, e3]
        exact hH4
      all_goals simp only [go_sem, ↓reduceIte, Nat.reduceEqDiff, Nat.reduceLT, Nat.reduceSub, h0, hf3, Mem.next_push]
    · rw [if_neg hp, List.append_nil] at htk
      simp -dsimp only [↓w_seq, ↓w_ops, ↓w_skip, ↓w_ret, ↓w_exit, ↓w_scope, ↓w_block, ↓w_cond, cond_true', cond_false', ↓t_nil, ↓t_plain, ↓t_guard, ↓t_gagain, ↓t_again, t_val, t_call, g_true, g_false, ga_true, ga_false, a_val, a_call, ↓n_normal, ↓n_ret, ↓n_exit, ↓b_normal, ↓b_ret, ↓b_exit, ↓e_normal, ↓e_ret, e_some, go_sem, ↓reduceIte, Nat.reduceEqDiff, Nat.reduceLT, Nat.reduceSub, A_ref11_Row_3, A_ref11_Row_4, A_ref11_Row_6, h0, hf3, h6, vload, vptr, Mem.read, hc, hMb, g3, hr22, hrd, Nat.add_zero, List.getElem?_cons_zero, e1, e2, decide_true, st_same, hp, decide_false, h5', IntWalk.i64_in ((i + 1 : Nat) : Int) (by omega)]
      refine ih (i + 1) v _ M (by omega) hG (by rw [htk]; exact hH) ?_ ?_ ?_ ?_
      all_goals simp only [go_sem, ↓reduceIte, Nat.reduceEqDiff, Nat.reduceLT, Nat.reduceSub, h0, hf3, h5]
theorem rRow_runs (rc : Nat) (s : V) (L : Tr) (p : St) (M : Mem) (h : RefIn M rc s L) (hk : ∀ x ∈ L, x.2.2.length < 2 ^ 63) :
    Runs D2 F_ref11_Row [.ptr (some (rc, 0)), .agg (stC p)] M fun v M' => Grew M M' ∧ Hold M.next M' 3 v (rowR L p).length (elSb.all (isort ltSb (rowR L p))) := by
  refine R_opq fun R hR => ?_
  refine Runs.walk (F := A_ref11_Row) rfl (by rfl) (by rfl) ?_
  unfold A_ref11_Row
  have hcn : V.cells (.agg (stC p)) = stC p := rfl
  have hG := Grew.push M (.cells (stC p) false)
  have g3 : (M.push (.cells (stC p) false)).get M.next = some (.cells (stC p) false) := Mem.get_push_same _ _
  have hnx : (M.push (.cells (stC p) false)).next = M.next + 1 := rfl
  simp -dsimp only [↓w_seq, ↓w_ops, ↓w_skip, ↓w_ret, ↓w_exit, ↓w_scope, ↓w_block, ↓w_cond, cond_true', cond_false', ↓t_nil, ↓t_plain, ↓t_guard, ↓t_gagain, ↓t_again, t_val, t_call, g_true, g_false, ga_true, ga_false, a_val, a_call, ↓n_normal, ↓n_ret, ↓n_exit, ↓b_normal, ↓b_ret, ↓b_exit, ↓e_normal, ↓e_ret, e_some, go_sem, ↓reduceIte, Nat.reduceEqDiff, Nat.reduceLT, Nat.reduceSub, A_ref11_Row_0, A_ref11_Row_1, A_ref11_Row_2, hcn]
  generalize M.push (.cells (stC p) false) = M1 at *
  refine rRow_loop rc M.next s L p M1 (h.grew hG) (by omega) g3 ?_ L.length 0 (.slice none 0 (.exact 0)) _ M1 (by omega) (Grew.refl _) ?_ ?_ ?_ ?_ ?_
  · intro fr M2 v hG2 hH h5
    have hl := rowR_len L p
    have hln := h.ln
    simp -dsimp only [↓w_seq, ↓w_ops, ↓w_skip, ↓w_ret, ↓w_exit, ↓w_scope, ↓w_block, ↓w_cond, cond_true', cond_false', ↓t_nil, ↓t_plain, ↓t_guard, ↓t_gagain, ↓t_again, t_val, t_call, g_true, g_false, ga_true, ga_false, a_val, a_call, ↓n_normal, ↓n_ret, ↓n_exit, ↓b_normal, ↓b_ret, ↓b_exit, ↓e_normal, ↓e_ret, e_some, go_sem, ↓reduceIte, Nat.reduceEqDiff, Nat.reduceLT, Nat.reduceSub, A_ref11_Row_8, h5]
    have hsl : SlR elSb M2 v (rowR L p) := Go.Am.Hold.slR (e := elSb) hH
    refine call_of (rSort_runs v (rowR L p) (by omega) (fun x hx => ?_) M2 hsl (fun b hb => (hH.blk_le hb).2.1)) ?_
    · unfold rowR at hx
      obtain ⟨r, hr, e⟩ := List.mem_map.1 hx
      rw [← e]
      exact hk r ((List.mem_filter.1 hr).1)
    intro w M3 hv
    simp -dsimp only [↓w_seq, ↓w_ops, ↓w_skip, ↓w_ret, ↓w_exit, ↓w_scope, ↓w_block, ↓w_cond, cond_true', cond_false', ↓t_nil, ↓t_plain, ↓t_guard, ↓t_gagain, ↓t_again, t_val, t_call, g_true, g_false, ga_true, ga_false, a_val, a_call, ↓n_normal, ↓n_ret, ↓n_exit, ↓b_normal, ↓b_ret, ↓b_exit, ↓e_normal, ↓e_ret, e_some, go_sem, ↓reduceIte, Nat.reduceEqDiff, Nat.reduceLT, Nat.reduceSub, A_ref11_Row_8]
    have h1 := hG.next
    have h2 := hG2.next
    exact hR _ _ ⟨(hG.trans hG2).trans hv.1, hv.2.lower (by omega)⟩
  · exact .nil
  all_goals simp only [go_sem, ↓reduceIte, Nat.reduceEqDiff, Nat.reduceLT, Nat.reduceSub]
  rfl
end Go.Am.Tryz.O


/- The law OrderTrees: its acts on both trees. -/
namespace Go.Am.Tryz.O
open Go Go.Am Go.Proofs Go.Sort Go.Shelf
set_option maxRecDepth 100000
set_option linter.unusedSimpArgs false
set_option linter.unusedVariables false

/-- A tree and the reference's, apart in memory. -/
structure TR (M : Mem) (tc bm rc : Nat) (s : V) (l : Tr) : Prop where
  T : TreeIn M tc bm l
  r : RefIn M rc s (rowsL l)
  d1 : rc ≠ tc
  d2 : rc ≠ bm
  d3 : s.blk ≠ some tc
  d4 : s.blk ≠ some bm
theorem TR.grew {M M' : Mem} {tc bm rc : Nat} {s : V} {l : Tr} (h : TR M tc bm rc s l) (hG : Grew M M') : TR M' tc bm rc s l := ⟨h.T.grew hG, h.r.grew hG, h.d1, h.d2, h.d3, h.d4⟩
/-- What a step comes to. -/
def StepTo (M : Mem) (tc bm rc : Nat) (s : V) (M' : Mem) (l' : Tr) : Prop := ∃ s', TR M' tc bm rc s' l' ∧ (s' = s ∨ ∀ b, s'.blk = some b → M.next ≤ b) ∧ M.next ≤ M'.next ∧ ∀ c, c < M.next → c ≠ bm → c ≠ rc → s.blk ≠ some c → M'.get c = M.get c
theorem StepTo.same {M M' : Mem} {tc bm rc : Nat} {s : V} {l : Tr} (h : TR M tc bm rc s l) (hG : Grew M M') : StepTo M tc bm rc s M' l := ⟨s, h.grew hG, .inl rfl, hG.next, fun c hc _ _ _ => hG.old c hc⟩
/-- The one changed, then the other. -/
theorem StepTo.both {M M1 M2 M3 : Mem} {tc bm rc : Nat} {s : V} {l l' : Tr} (h : TR M tc bm rc s l) (h1 : M.next ≤ M1.next) (o1 : ∀ c, c < M.next → c ≠ bm → M1.get c = M.get c) (hT : TreeIn M1 tc bm l') (hr : RefTo M1 rc s M2 (rowsL l')) (hG : Grew M2 M3) : StepTo M tc bm rc s M3 l' := by
  obtain ⟨s', t1, t2, t3⟩ := hr
  have htl := h.T.tl
  have hbl := h.T.bl
  have hs' : ∀ b, s'.blk = some b → (s' = s ∧ s.blk = some b) ∨ M.next ≤ b := fun b hb => by
    rcases t2 with e | t2
    · exact .inl ⟨e, e ▸ hb⟩
    · exact .inr (Nat.le_trans h1 (t2 b hb))
  have hT2 : TreeIn M2 tc bm l' := ⟨(t3.old _ hT.tl h.d1.symm h.d3).trans hT.c, (t3.old _ hT.bl h.d2.symm h.d4).trans hT.m, Nat.lt_of_lt_of_le hT.tl t3.next, Nat.lt_of_lt_of_le hT.bl t3.next⟩
  refine ⟨s', ⟨hT2.grew hG, t1.grew hG, h.d1, h.d2, fun e => ?_, fun e => ?_⟩, ?_, Nat.le_trans h1 (Nat.le_trans t3.next hG.next), fun c hc a1 a2 a3 => ?_⟩
  · rcases hs' _ e with ⟨_, e2⟩ | e2
    · exact h.d3 e2
    · omega
  · rcases hs' _ e with ⟨_, e2⟩ | e2
    · exact h.d4 e2
    · omega
  · rcases t2 with e | t2
    · exact .inl e
    · exact .inr fun b hb => Nat.le_trans h1 (t2 b hb)
  · rw [hG.old c (Nat.lt_of_lt_of_le hc (Nat.le_trans h1 t3.next)), t3.old c (Nat.lt_of_lt_of_le hc h1) a2 a3]
    exact o1 c hc a1
theorem StepTo.pre {M M1 M' : Mem} {tc bm rc : Nat} {s : V} {l' : Tr} (hG : Grew M M1) (h : StepTo M1 tc bm rc s M' l') : StepTo M tc bm rc s M' l' := by
  obtain ⟨s', t1, t2, t3, t4⟩ := h
  refine ⟨s', t1, ?_, Nat.le_trans hG.next t3, fun c hc a1 a2 a3 => (t4 c (Nat.lt_of_lt_of_le hc hG.next) a1 a2 a3).trans (hG.old c hc)⟩
  rcases t2 with e | t2
  · exact .inl e
  · exact .inr fun b hb => Nat.le_trans hG.next (t2 b hb)


def doO (l : Tr) (a : Act) : Tr := if a.1 = 0 then addT l a.2.1 a.2.2 else if a.1 = 1 then moveT l a.2.1 a.2.2 else l
def actsO (acts : List Act) : Tr := acts.foldl doO []
theorem actsO_snoc (acts : List Act) (a : Act) : actsO (acts ++ [a]) = doO (actsO acts) a := by simp [actsO]
theorem doO_is (l : Tr) (a : Act) : doO l a = if a.1 = 2 then l else doT l a := by
  unfold doO doT
  by_cases h0 : a.1 = 0
  · simp [h0]
  by_cases h1 : a.1 = 1
  · simp [h1]
  by_cases h2 : a.1 = 2
  · simp [h2]
  simp [h0, h1, h2]
def KeysOk (l : Tr) : Prop := ∀ n s, getS l n = some s → s.2.length ≤ 24
theorem right_key {s : Spot} (h : rightSp s = true) : s.2.length ≤ 24 := by
  unfold rightSp rightK at h
  simp only [Bool.and_eq_true, decide_eq_true_eq] at h
  exact h.2.2.1
theorem KeysOk.put {l : Tr} (h : KeysOk l) {n : St} {s : Spot} (hs : rightSp s = true) : KeysOk (putS l n s) := fun m x hx => by
  rw [get_put] at hx
  split at hx
  · cases hx; exact right_key hs
  · exact h m x hx
theorem KeysOk.do {l : Tr} (h : KeysOk l) (a : Act) : KeysOk (doO l a) := by
  unfold doO addT moveT
  split
  · split
    · rename_i e; exact h.put (addE_0 e).2.1
    · exact h
  · split
    · split
      · rename_i e; exact h.put (moveE_0 e).2.1
      · exact h
    · exact h
structure GoodO (l : Tr) : Prop where
  inv : Inv l
  key : KeysOk l
theorem goodO (acts : List Act) : GoodO (actsO acts) ∧ (actsO acts).length ≤ acts.length := by
  have : ∀ (acts : List Act) (l : Tr) (n : Nat), GoodO l → l.length ≤ n → GoodO (acts.foldl doO l) ∧ (acts.foldl doO l).length ≤ n + acts.length := by
    intro acts
    induction acts with
    | nil => intro l n h hn; exact ⟨h, hn⟩
    | cons a acts ih =>
      intro l n h hn
      have hd : GoodO (doO l a) := ⟨by rw [doO_is]; split; exact h.inv; exact h.inv.act a, h.key.do a⟩
      have hl : (doO l a).length ≤ n + 1 := by
        rw [doO_is]
        split
        · omega
        · exact Nat.le_trans (act_len l a) (by omega)
      have := ih (doO l a) (n + 1) hd hl
      refine ⟨this.1, Nat.le_trans this.2 (by simp; omega)⟩
  have := this acts [] 0 ⟨inv_nil, fun n s h => by cases h⟩ (Nat.le_refl _)
  exact ⟨this.1, by simpa [actsO] using this.2⟩
theorem KeysOk.rows {l : Tr} (h : KeysOk l) : ∀ x ∈ rowsL l, x.2.2.length < 2 ^ 63 := fun x hx => Nat.lt_of_le_of_lt (h x.1 x.2 (mem_rows.1 hx)) (by decide)

theorem act_kind {cs : List V} {p : Nat} {a : Act} (h : rdCells cs p 6 = some (actC a)) : cs[p]? = some (.int .i64 a.1) ∧ rdCells cs (p + 1) 2 = some (stC a.2.1) ∧ rdCells cs (p + 3) 2 = some (stC a.2.2.1) :=
  ⟨rd_cell h 0 (by decide), rd_part h 1 2 (by decide), rd_part h 3 2 (by decide)⟩
/-- Where the law stands. -/
structure LSO (M0 M : Mem) (tc bm rc : Nat) (s : V) (l : Tr) : Prop where
  old : ∀ c, c < M0.next → M.get c = M0.get c
  next : M0.next ≤ M.next
  A : TR M tc bm rc s l
  bt : M0.next ≤ bm
  br : M0.next ≤ rc
  bs : ∀ c, s.blk = some c → M0.next ≤ c
theorem LSO.step {M0 M M' : Mem} {tc bm rc : Nat} {s : V} {l l' : Tr} (h : LSO M0 M tc bm rc s l) (ht : StepTo M tc bm rc s M' l') : ∃ s', LSO M0 M' tc bm rc s' l' := by
  obtain ⟨s', t1, t2, t3, t4⟩ := ht
  have hbt := h.bt
  have hbr := h.br
  refine ⟨s', fun c hc => ?_, Nat.le_trans h.next t3, t1, h.bt, h.br, fun c hc => ?_⟩
  · rw [t4 c (Nat.lt_of_lt_of_le hc h.next) (by omega) (by omega) (fun e => by have := h.bs c e; omega)]
    exact h.old c hc
  · rcases t2 with e | t2
    · exact h.bs c (e ▸ hc)
    · exact Nat.le_trans h.next (t2 c hc)

theorem take_nextO (acts : List Act) {i : Nat} (h : i < acts.length) : actsO (acts.take (i + 1)) = doO (actsO (acts.take i)) acts[i] := by
  rw [take_snoc acts h, actsO_snoc]

set_option maxHeartbeats 1000000 in
theorem acts_loop (s1 : V) (acts : List Act) (M0 : Mem) (hs : SlR elAct M0 s1 acts) (hlt : ∀ b, s1.blk = some b → acts ≠ [] → b < M0.next) (hlen : acts.length ≤ 150) (hg : isG M0 = true) (hn2 : 2 ≤ M0.next) (tc bm rc b3 : Nat) {x4 : V} {Q : AExit → Fr → Mem → Prop}
    (hE : ∀ fr M s, LSO M0 M tc bm rc s (actsO acts) → fr.rd 0 = s1 → fr.rd 3 = .ptr (some (b3, 0)) → fr.rd 5 = .ptr (some (tc, 0)) → fr.rd 6 = .ptr (some (rc, 0)) → (∀ o, b3 < M0.next → M0.get b3 = some o → M.get b3 = some o) → Q (.exit 0) fr M) :
    ∀ (f i : Nat) (s : V) (fr : Fr) (M : Mem), i + f = acts.length → LSO M0 M tc bm rc s (actsO (acts.take i)) → fr.rd 0 = s1 → fr.rd 3 = .ptr (some (b3, 0)) → fr.rd 5 = .ptr (some (tc, 0)) → fr.rd 6 = .ptr (some (rc, 0)) → fr.rd 7 = .int .i64 (i : Int) → WC D2 112 (.loop A_law11_OrderTrees_16) fr M Q := by
  intro f
  induction f with
  | zero =>
    intro i s fr M hi h h0 h3 h5 h6 h7
    refine WC.loop (W_of ?_)
    unfold A_law11_OrderTrees_16
    obtain ⟨a, cap, rfl, _⟩ := hs
    have : ¬ (i : Int) < acts.length := by omega
    simp -dsimp only [↓w_seq, ↓w_ops, ↓w_skip, ↓w_ret, ↓w_exit, ↓w_scope, ↓w_block, ↓w_cond, cond_true', cond_false', ↓t_nil, ↓t_plain, ↓t_guard, ↓t_gagain, ↓t_again, t_val, t_call, g_true, g_false, ga_true, ga_false, a_val, a_call, ↓n_normal, ↓n_ret, ↓n_exit, ↓b_normal, ↓b_ret, ↓b_exit, ↓e_normal, ↓e_ret, e_some, go_sem, ↓reduceIte, Nat.reduceEqDiff, Nat.reduceLT, Nat.reduceSub, A_law11_OrderTrees_8, h0, h7, this, decide_false]
    have : i = acts.length := by omega
    subst this
    rw [List.take_length] at h
    exact hE _ M s h (by simp only [go_sem, ↓reduceIte, Nat.reduceEqDiff, Nat.reduceLT, Nat.reduceSub, h0]) (by simp only [go_sem, ↓reduceIte, Nat.reduceEqDiff, Nat.reduceLT, Nat.reduceSub, h3]) (by simp only [go_sem, ↓reduceIte, Nat.reduceEqDiff, Nat.reduceLT, Nat.reduceSub, h5]) (by simp only [go_sem, ↓reduceIte, Nat.reduceEqDiff, Nat.reduceLT, Nat.reduceSub, h6]) (fun o hb ho => (h.old _ hb).trans ho)
  | succ f ih =>
    intro i s fr M hi h h0 h3 h5 h6 h7
    refine WC.loop (W_of ?_)
    unfold A_law11_OrderTrees_16
    have e1 : i < acts.length := by omega
    obtain ⟨b, o, cs, ro, cap, rfl, hM, hr, _⟩ := act_at hs e1
    have hbl := hlt b rfl (by intro h; subst h; simp at e1)
    have hM' : M.get b = some (.cells cs ro) := (h.old b hbl).trans hM
    obtain ⟨r0, r1, _⟩ := act_kind hr
    have r3 : rdCells cs (o + i * 6 + 3) 3 = some (spC acts[i].2.2) := rd_part hr 3 3 (by decide)
    have e1' : (i : Int) < acts.length := by omega
    have e2 : i + 1 ≤ acts.length := by omega
    have h5' : (i : Int) + 1 = ((i + 1 : Nat) : Int) := by omega
    have hg1 := goodO (acts.take i)
    have hI := hg1.1.inv
    have hl : (actsO (acts.take i)).length ≤ 150 := by have := hg1.2; rw [List.length_take] at this; omega
    have htk := take_nextO acts e1
    generalize actsO (acts.take i) = l at *
    generalize acts[i] = x at *
    obtain ⟨k, n, sp⟩ := x
    have hgM : isG M = true := isG_keep hg hn2 h.old
    have hnM : 2 ≤ M.next := Nat.le_trans hn2 h.next
    have hln := rows_len l
    have own := h.A
    by_cases k0 : k = 0
    · have hd : doO l (k, n, sp) = addT l n sp := by unfold doO; exact if_pos k0
      have k1 : ¬ (0 : Int) = 1 := by decide
      rw [hd] at htk
      rw [k0] at r0
      simp -dsimp only [↓w_seq, ↓w_ops, ↓w_skip, ↓w_ret, ↓w_exit, ↓w_scope, ↓w_block, ↓w_cond, cond_true', cond_false', ↓t_nil, ↓t_plain, ↓t_guard, ↓t_gagain, ↓t_again, t_val, t_call, g_true, g_false, ga_true, ga_false, a_val, a_call, ↓n_normal, ↓n_ret, ↓n_exit, ↓b_normal, ↓b_ret, ↓b_exit, ↓e_normal, ↓e_ret, e_some, go_sem, ↓reduceIte, Nat.reduceEqDiff, Nat.reduceLT, Nat.reduceSub, A_law11_OrderTrees_8, A_law11_OrderTrees_9, h0, h7, e1', e2, decide_true, vload, vptr, Mem.read, hM', r0, Nat.add_zero]
      simp -dsimp only [↓w_seq, ↓w_ops, ↓w_skip, ↓w_ret, ↓w_exit, ↓w_scope, ↓w_block, ↓w_cond, cond_true', cond_false', ↓t_nil, ↓t_plain, ↓t_guard, ↓t_gagain, ↓t_again, t_val, t_call, g_true, g_false, ga_true, ga_false, a_val, a_call, ↓n_normal, ↓n_ret, ↓n_exit, ↓b_normal, ↓b_ret, ↓b_exit, ↓e_normal, ↓e_ret, e_some, go_sem, ↓reduceIte, Nat.reduceEqDiff, Nat.reduceLT, Nat.reduceSub, A_law11_OrderTrees_10, h0, h5, h7, e2, decide_true, vload, vptr, Mem.read, hM', r1, r3, Nat.add_zero]
      refine callA_by (k := ⟨⟩) (l' := ⟨⟩) (g' := ⟨⟩) (own_p rfl sp) ?_
      intro v M1 hv
      rw [hv.1, hv.2]
      clear hv
      refine ⟨?_, ?_⟩
      · simp only [List.all_cons, List.all_nil, Bool.and_true, againOk, wantedA, cond_true, go_sem, ↓reduceIte, Nat.reduceEqDiff, Nat.reduceLT, Nat.reduceSub, vload, vptr, Mem.read, hM', r1, r3, sameCells, Nat.zero_add, Nat.add_zero, V.beq, V.beq_self, V.beqs_self, Bool.and_self, Nat.reduceAdd, Nat.reduceLeDiff, decide_true, cond_true]
      simp -dsimp only [↓w_seq, ↓w_ops, ↓w_skip, ↓w_ret, ↓w_exit, ↓w_scope, ↓w_block, ↓w_cond, cond_true', cond_false', ↓t_nil, ↓t_plain, ↓t_guard, ↓t_gagain, ↓t_again, t_val, t_call, g_true, g_false, ga_true, ga_false, a_val, a_call, ↓n_normal, ↓n_ret, ↓n_exit, ↓b_normal, ↓b_ret, ↓b_exit, ↓e_normal, ↓e_ret, e_some, go_sem, ↓reduceIte, Nat.reduceEqDiff, Nat.reduceLT, Nat.reduceSub]
      refine call_of ((Add_runs M tc bm l n sp own.T hgM hnM).more le2) ?_
      intro v M2 hv
      have hC := hv.2.1
      have hT := hv.2.2
      clear hv
      have hM2 := (hC.old _ (Nat.lt_of_lt_of_le hbl h.next) (by have := h.bt; omega)).trans hM'
      have hr2 : RefIn M2 rc s (rowsL l) := own.r.keep (hC.old _ own.r.rl own.d2) (fun c hc => hC.old c (own.r.ho.blk_le hc).2 (fun e => own.d4 (e ▸ hc))) hC.next
      simp -dsimp only [↓w_seq, ↓w_ops, ↓w_skip, ↓w_ret, ↓w_exit, ↓w_scope, ↓w_block, ↓w_cond, cond_true', cond_false', ↓t_nil, ↓t_plain, ↓t_guard, ↓t_gagain, ↓t_again, t_val, t_call, g_true, g_false, ga_true, ga_false, a_val, a_call, ↓n_normal, ↓n_ret, ↓n_exit, ↓b_normal, ↓b_ret, ↓b_exit, ↓e_normal, ↓e_ret, e_some, go_sem, ↓reduceIte, Nat.reduceEqDiff, Nat.reduceLT, Nat.reduceSub, A_law11_OrderTrees_11, h0, h6, h7, e2, decide_true, vload, vptr, Mem.read, hM2, r1, r3, Nat.add_zero]
      refine call_of ((rAdd_runs rc s (rowsL l) n sp M2 hr2 (by rw [hln]; omega)).more le2) ?_
      intro w M3 hv
      have hto := hv.2
      rw [addL_is hI] at hto
      clear hv
      obtain ⟨s', hS⟩ := h.step (StepTo.both own hC.next hC.old hT hto (Grew.refl _))
      have hM3 := (hS.old b hbl).trans hM
      simp -dsimp only [↓w_seq, ↓w_ops, ↓w_skip, ↓w_ret, ↓w_exit, ↓w_scope, ↓w_block, ↓w_cond, cond_true', cond_false', ↓t_nil, ↓t_plain, ↓t_guard, ↓t_gagain, ↓t_again, t_val, t_call, g_true, g_false, ga_true, ga_false, a_val, a_call, ↓n_normal, ↓n_ret, ↓n_exit, ↓b_normal, ↓b_ret, ↓b_exit, ↓e_normal, ↓e_ret, e_some, go_sem, ↓reduceIte, Nat.reduceEqDiff, Nat.reduceLT, Nat.reduceSub, A_law11_OrderTrees_12, A_law11_OrderTrees_15, h0, h7, e2, decide_true, decide_false, k1, vload, vptr, Mem.read, hM3, r0, Nat.add_zero, h5', IntWalk.i64_in ((i + 1 : Nat) : Int) (by omega)]
      refine ih (i + 1) s' _ M3 (by omega) (by rw [htk]; exact hS) ?_ ?_ ?_ ?_ ?_
      all_goals simp only [go_sem, ↓reduceIte, Nat.reduceEqDiff, Nat.reduceLT, Nat.reduceSub, h0, h3, h5, h6]
    · by_cases k1 : k = 1
      · have hd : doO l (k, n, sp) = moveT l n sp := by unfold doO; rw [if_neg k0]; exact if_pos k1
        have k1' : ¬ (1 : Int) = 0 := by decide
        rw [hd] at htk
        rw [k1] at r0
        simp -dsimp only [↓w_seq, ↓w_ops, ↓w_skip, ↓w_ret, ↓w_exit, ↓w_scope, ↓w_block, ↓w_cond, cond_true', cond_false', ↓t_nil, ↓t_plain, ↓t_guard, ↓t_gagain, ↓t_again, t_val, t_call, g_true, g_false, ga_true, ga_false, a_val, a_call, ↓n_normal, ↓n_ret, ↓n_exit, ↓b_normal, ↓b_ret, ↓b_exit, ↓e_normal, ↓e_ret, e_some, go_sem, ↓reduceIte, Nat.reduceEqDiff, Nat.reduceLT, Nat.reduceSub, A_law11_OrderTrees_8, A_law11_OrderTrees_9, A_law11_OrderTrees_12, h0, h7, e1', e2, decide_true, decide_false, k1', vload, vptr, Mem.read, hM', r0, Nat.add_zero]
        simp -dsimp only [↓w_seq, ↓w_ops, ↓w_skip, ↓w_ret, ↓w_exit, ↓w_scope, ↓w_block, ↓w_cond, cond_true', cond_false', ↓t_nil, ↓t_plain, ↓t_guard, ↓t_gagain, ↓t_again, t_val, t_call, g_true, g_false, ga_true, ga_false, a_val, a_call, ↓n_normal, ↓n_ret, ↓n_exit, ↓b_normal, ↓b_ret, ↓b_exit, ↓e_normal, ↓e_ret, e_some, go_sem, ↓reduceIte, Nat.reduceEqDiff, Nat.reduceLT, Nat.reduceSub, A_law11_OrderTrees_13, h0, h5, h7, e2, decide_true, vload, vptr, Mem.read, hM', r1, r3, Nat.add_zero]
        refine callA_by (k := ⟨⟩) (l' := ⟨⟩) (g' := ⟨⟩) (own_p rfl sp) ?_
        intro v M1 hv
        rw [hv.1, hv.2]
        clear hv
        refine ⟨?_, ?_⟩
        · simp only [List.all_cons, List.all_nil, Bool.and_true, againOk, wantedA, cond_true, go_sem, ↓reduceIte, Nat.reduceEqDiff, Nat.reduceLT, Nat.reduceSub, vload, vptr, Mem.read, hM', r1, r3, sameCells, Nat.zero_add, Nat.add_zero, V.beq, V.beq_self, V.beqs_self, Bool.and_self, Nat.reduceAdd, Nat.reduceLeDiff, decide_true, cond_true]
        simp -dsimp only [↓w_seq, ↓w_ops, ↓w_skip, ↓w_ret, ↓w_exit, ↓w_scope, ↓w_block, ↓w_cond, cond_true', cond_false', ↓t_nil, ↓t_plain, ↓t_guard, ↓t_gagain, ↓t_again, t_val, t_call, g_true, g_false, ga_true, ga_false, a_val, a_call, ↓n_normal, ↓n_ret, ↓n_exit, ↓b_normal, ↓b_ret, ↓b_exit, ↓e_normal, ↓e_ret, e_some, go_sem, ↓reduceIte, Nat.reduceEqDiff, Nat.reduceLT, Nat.reduceSub]
        refine call_of ((Move_runs M tc bm l n sp own.T hgM hnM hI).more le2) ?_
        intro v M2 hv
        have hC := hv.2.1
        have hT := hv.2.2
        clear hv
        have hM2 := (hC.old _ (Nat.lt_of_lt_of_le hbl h.next) (by have := h.bt; omega)).trans hM'
        have hr2 : RefIn M2 rc s (rowsL l) := own.r.keep (hC.old _ own.r.rl own.d2) (fun c hc => hC.old c (own.r.ho.blk_le hc).2 (fun e => own.d4 (e ▸ hc))) hC.next
        simp -dsimp only [↓w_seq, ↓w_ops, ↓w_skip, ↓w_ret, ↓w_exit, ↓w_scope, ↓w_block, ↓w_cond, cond_true', cond_false', ↓t_nil, ↓t_plain, ↓t_guard, ↓t_gagain, ↓t_again, t_val, t_call, g_true, g_false, ga_true, ga_false, a_val, a_call, ↓n_normal, ↓n_ret, ↓n_exit, ↓b_normal, ↓b_ret, ↓b_exit, ↓e_normal, ↓e_ret, e_some, go_sem, ↓reduceIte, Nat.reduceEqDiff, Nat.reduceLT, Nat.reduceSub, A_law11_OrderTrees_14, h0, h6, h7, e2, decide_true, vload, vptr, Mem.read, hM2, r1, r3, Nat.add_zero]
        refine call_of ((rMove_runs rc s (rowsL l) n sp M2 hr2).more le2) ?_
        intro w M3 hv
        have hto := hv.2
        rw [moveL_is hI] at hto
        clear hv
        obtain ⟨s', hS⟩ := h.step (StepTo.both own hC.next hC.old hT hto (Grew.refl _))
        have hM3 := (hS.old b hbl).trans hM
        simp -dsimp only [↓w_seq, ↓w_ops, ↓w_skip, ↓w_ret, ↓w_exit, ↓w_scope, ↓w_block, ↓w_cond, cond_true', cond_false', ↓t_nil, ↓t_plain, ↓t_guard, ↓t_gagain, ↓t_again, t_val, t_call, g_true, g_false, ga_true, ga_false, a_val, a_call, ↓n_normal, ↓n_ret, ↓n_exit, ↓b_normal, ↓b_ret, ↓b_exit, ↓e_normal, ↓e_ret, e_some, go_sem, ↓reduceIte, Nat.reduceEqDiff, Nat.reduceLT, Nat.reduceSub, A_law11_OrderTrees_15, h7, h5', IntWalk.i64_in ((i + 1 : Nat) : Int) (by omega)]
        refine ih (i + 1) s' _ M3 (by omega) (by rw [htk]; exact hS) ?_ ?_ ?_ ?_ ?_
        all_goals simp only [go_sem, ↓reduceIte, Nat.reduceEqDiff, Nat.reduceLT, Nat.reduceSub, h0, h3, h5, h6]
      · have hd : doO l (k, n, sp) = l := by unfold doO; rw [if_neg k0, if_neg k1]
        rw [hd] at htk
        simp -dsimp only [↓w_seq, ↓w_ops, ↓w_skip, ↓w_ret, ↓w_exit, ↓w_scope, ↓w_block, ↓w_cond, cond_true', cond_false', ↓t_nil, ↓t_plain, ↓t_guard, ↓t_gagain, ↓t_again, t_val, t_call, g_true, g_false, ga_true, ga_false, a_val, a_call, ↓n_normal, ↓n_ret, ↓n_exit, ↓b_normal, ↓b_ret, ↓b_exit, ↓e_normal, ↓e_ret, e_some, go_sem, ↓reduceIte, Nat.reduceEqDiff, Nat.reduceLT, Nat.reduceSub, A_law11_OrderTrees_8, A_law11_OrderTrees_9, A_law11_OrderTrees_12, A_law11_OrderTrees_15, h0, h7, e1', e2, decide_true, decide_false, k0, k1, vload, vptr, Mem.read, hM', r0, Nat.add_zero, h5', IntWalk.i64_in ((i + 1 : Nat) : Int) (by omega)]
        refine ih (i + 1) s _ M (by omega) (by rw [htk]; exact h) ?_ ?_ ?_ ?_ ?_
        all_goals simp only [go_sem, ↓reduceIte, Nat.reduceEqDiff, Nat.reduceLT, Nat.reduceSub, h0, h3, h5, h6]
end Go.Am.Tryz.O


/- The law OrderTrees answers true. -/
namespace Go.Am.Tryz.O
open Go Go.Am Go.Proofs Go.Sort Go.Shelf
set_option maxRecDepth 100000
set_option linter.unusedSimpArgs false
set_option linter.unusedVariables false

theorem isort_key {xs : List Sb} : (isort ltSb xs).length = xs.length := isort_len ltSb xs
/-- A row of siblings in memory. -/
def SlB (M : Mem) (v : V) (xs : List Sb) : Prop := SlR elSb M v xs ∧ ∀ b, v.blk = some b → b < M.next
theorem SlB.grew {M M' : Mem} {v : V} {xs : List Sb} (h : SlB M v xs) (hG : Grew M M') : SlB M' v xs := ⟨h.1.keep fun b hb => hG.old b (h.2 b hb), fun b hb => Nat.lt_of_lt_of_le (h.2 b hb) hG.next⟩
theorem SlB.of {lo : Nat} {M : Mem} {v : V} {xs : List Sb} (h : Hold lo M 3 v xs.length (elSb.all xs)) : SlB M v xs := ⟨Go.Am.Hold.slR (e := elSb) h, fun b hb => (h.blk_le hb).2.1⟩
theorem oRow_b (M : Mem) (tc bm : Nat) (l : Tr) (p : St) (T : TreeIn M tc bm l) (hN : l.length ≤ 1000) :
    Runs D2 F_order_Row [.ptr (some (tc, 0)), .agg (stC p)] M fun v M' => Grew M M' ∧ SlB M' v (isort ltSb (rowB l p)) :=
  (oRow_runs M tc bm l p T (by have hmx : maxRoom = 17592186044416 := rfl; omega)).mono fun v M' h => ⟨h.1, .of (lo := M.next) (by rw [isort_key]; exact h.2)⟩
theorem rRow_b (M : Mem) (rc : Nat) (s : V) (l : Tr) (p : St) (h : RefIn M rc s (rowsL l)) (hI : GoodO l) :
    Runs D2 F_ref11_Row [.ptr (some (rc, 0)), .agg (stC p)] M fun v M' => Grew M M' ∧ SlB M' v (isort ltSb (rowB l p)) :=
  (rRow_runs rc s (rowsL l) p M h hI.key.rows).mono fun v M' h => by
    rw [rowR_is hI.inv] at h
    exact ⟨h.1, .of (lo := M.next) (by rw [isort_key]; exact h.2)⟩
theorem same_b (M : Mem) (v w : V) (xs : List Sb) (hl : xs.length ≤ 1000) (hv : SlB M v xs) (hw : SlB M w xs) : Runs D2 F_law11_Same [v, w] M fun v M' => v = .bool true ∧ M' = M :=
  Same_runs v w xs (by omega) M hv.1 hw.1
theorem rowB_len {l : Tr} {p : St} (h : l.length ≤ 1000) : (isort ltSb (rowB l p)).length ≤ 1000 := by
  rw [isort_key, rowB, List.length_map]
  refine Nat.le_trans (List.length_filter_le _ _) ?_
  rw [nodes_len]; exact h

theorem callT_abs {D : Decls} {n : Nat} {f : FuncId} {args : List V} {dst : Option Nat} {fr : Fr} {M : Mem} {l : List Item} {l' : Tg l} {K : Fr → Mem → Prop} {k : Tg K} (P : Fr → Prop) (h : P fr) (hk : ∀ fr, P fr → callT D n f args dst fr M l' k) : callT D n f args dst fr M l' k := hk fr h
set_option maxHeartbeats 1000000 in
theorem trees_end (M : Mem) (tc bm rc b3 : Nat) (s : V) (l : Tr) (p : St) (h : TR M tc bm rc s l) (hI : GoodO l) (hl : l.length ≤ 1000) (hb : M.get b3 = some (.cells (stC p) false)) (lb : b3 < M.next) {K : Fr → Mem → Prop} (hK : ∀ fr M, fr.rd 4 = .bool true → K fr M)
    (fr : Fr) (f3 : fr.rd 3 = .ptr (some (b3, 0))) (f5 : fr.rd 5 = .ptr (some (tc, 0))) (f6 : fr.rd 6 = .ptr (some (rc, 0))) (f8 : fr.rd 8 = .ptr none) :
    WT D2 112 A_law11_OrderTrees_18 fr M (K := K) ⟨⟩ := by
  have hrd : ∀ x : St, rdCells (stC x) 0 2 = some (stC x) := fun _ => rfl
  have f0 : fillCells [.int .i64 0, .int .i64 0] [] = some (stC (0, 0)) := rfl
  simp -dsimp only [↓w_seq, ↓w_ops, ↓w_skip, ↓w_ret, ↓w_exit, ↓w_scope, ↓w_block, ↓w_cond, cond_true', cond_false', ↓t_nil, ↓t_plain, ↓t_guard, ↓t_gagain, ↓t_again, t_val, t_call, g_true, g_false, ga_true, ga_false, a_val, a_call, ↓n_normal, ↓n_ret, ↓n_exit, ↓b_normal, ↓b_ret, ↓b_exit, ↓e_normal, ↓e_ret, e_some, go_sem, ↓reduceIte, Nat.reduceEqDiff, Nat.reduceLT, Nat.reduceSub, A_law11_OrderTrees_18, f3, f5, f6, f8, vload, Mem.read, hb, hrd, Nat.zero_add, Nat.add_zero]
  refine callA_by (k := ⟨⟩) (l' := ⟨⟩) (g' := ⟨⟩) (oRow_b M tc bm l p h.T hl) ?_
  intro v M1 hv
  obtain ⟨hG1, hS1⟩ := hv
  have hb1 := (hG1.old _ lb).trans hb
  refine ⟨?_, ?_⟩
  · simp only [List.all_cons, List.all_nil, Bool.and_true, againOk, wantedA, cond_true, go_sem, ↓reduceIte, Nat.reduceEqDiff, Nat.reduceLT, Nat.reduceSub, f3, vof, Option.map_some, vload, vptr, Mem.read, hb1, hrd, sameCells, Nat.zero_add, V.beq, V.beq_self, V.beqs_self, Bool.and_self, Nat.reduceAdd, Nat.reduceLeDiff, decide_true, cond_true]
  simp -dsimp only [↓w_seq, ↓w_ops, ↓w_skip, ↓w_ret, ↓w_exit, ↓w_scope, ↓w_block, ↓w_cond, cond_true', cond_false', ↓t_nil, ↓t_plain, ↓t_guard, ↓t_gagain, ↓t_again, t_val, t_call, g_true, g_false, ga_true, ga_false, a_val, a_call, ↓n_normal, ↓n_ret, ↓n_exit, ↓b_normal, ↓b_ret, ↓b_exit, ↓e_normal, ↓e_ret, e_some, go_sem, ↓reduceIte, Nat.reduceEqDiff, Nat.reduceLT, Nat.reduceSub]
  refine call_of (rRow_b M1 rc s l p (h.r.grew hG1) hI) ?_
  intro w M2 hv
  obtain ⟨hG2, hS2⟩ := hv
  simp -dsimp only [↓w_seq, ↓w_ops, ↓w_skip, ↓w_ret, ↓w_exit, ↓w_scope, ↓w_block, ↓w_cond, cond_true', cond_false', ↓t_nil, ↓t_plain, ↓t_guard, ↓t_gagain, ↓t_again, t_val, t_call, g_true, g_false, ga_true, ga_false, a_val, a_call, ↓n_normal, ↓n_ret, ↓n_exit, ↓b_normal, ↓b_ret, ↓b_exit, ↓e_normal, ↓e_ret, e_some, go_sem, ↓reduceIte, Nat.reduceEqDiff, Nat.reduceLT, Nat.reduceSub]
  refine call_eq (same_b M2 v w _ (rowB_len hl) (hS1.grew hG2) hS2) ?_
  have hG12 := hG1.trans hG2
  simp -dsimp only [↓w_seq, ↓w_ops, ↓w_skip, ↓w_ret, ↓w_exit, ↓w_scope, ↓w_block, ↓w_cond, cond_true', cond_false', ↓t_nil, ↓t_plain, ↓t_guard, ↓t_gagain, ↓t_again, t_val, t_call, g_true, g_false, ga_true, ga_false, a_val, a_call, ↓n_normal, ↓n_ret, ↓n_exit, ↓b_normal, ↓b_ret, ↓b_exit, ↓e_normal, ↓e_ret, e_some, go_sem, ↓reduceIte, Nat.reduceEqDiff, Nat.reduceLT, Nat.reduceSub, f0, vof, f5, f6, Option.map_some]
  refine call_of (oRow_b M2 tc bm l (0, 0) (h.T.grew hG12) hl) ?_
  intro v2 M3 hv
  obtain ⟨hG3, hS3⟩ := hv
  simp -dsimp only [↓w_seq, ↓w_ops, ↓w_skip, ↓w_ret, ↓w_exit, ↓w_scope, ↓w_block, ↓w_cond, cond_true', cond_false', ↓t_nil, ↓t_plain, ↓t_guard, ↓t_gagain, ↓t_again, t_val, t_call, g_true, g_false, ga_true, ga_false, a_val, a_call, ↓n_normal, ↓n_ret, ↓n_exit, ↓b_normal, ↓b_ret, ↓b_exit, ↓e_normal, ↓e_ret, e_some, go_sem, ↓reduceIte, Nat.reduceEqDiff, Nat.reduceLT, Nat.reduceSub]
  refine call_of (rRow_b M3 rc s l (0, 0) (h.r.grew (hG12.trans hG3)) hI) ?_
  intro w2 M4 hv
  obtain ⟨hG4, hS4⟩ := hv
  simp -dsimp only [↓w_seq, ↓w_ops, ↓w_skip, ↓w_ret, ↓w_exit, ↓w_scope, ↓w_block, ↓w_cond, cond_true', cond_false', ↓t_nil, ↓t_plain, ↓t_guard, ↓t_gagain, ↓t_again, t_val, t_call, g_true, g_false, ga_true, ga_false, a_val, a_call, ↓n_normal, ↓n_ret, ↓n_exit, ↓b_normal, ↓b_ret, ↓b_exit, ↓e_normal, ↓e_ret, e_some, go_sem, ↓reduceIte, Nat.reduceEqDiff, Nat.reduceLT, Nat.reduceSub]
  refine call_eq (same_b M4 v2 w2 _ (rowB_len hl) (hS3.grew hG4) hS4) ?_
  have hG14 := (hG12.trans hG3).trans hG4
  have hb4 := (hG14.old _ lb).trans hb
  simp -dsimp only [↓w_seq, ↓w_ops, ↓w_skip, ↓w_ret, ↓w_exit, ↓w_scope, ↓w_block, ↓w_cond, cond_true', cond_false', ↓t_nil, ↓t_plain, ↓t_guard, ↓t_gagain, ↓t_again, t_val, t_call, g_true, g_false, ga_true, ga_false, a_val, a_call, ↓n_normal, ↓n_ret, ↓n_exit, ↓b_normal, ↓b_ret, ↓b_exit, ↓e_normal, ↓e_ret, e_some, go_sem, ↓reduceIte, Nat.reduceEqDiff, Nat.reduceLT, Nat.reduceSub, f3, f8, vload, Mem.read, hb4, hrd, Nat.zero_add, Nat.add_zero]
  refine callT_abs (fun fr => fr.rd 105 = .bool true) ?_ ?_
  · simp only [go_sem, ↓reduceIte, Nat.reduceEqDiff, Nat.reduceLT, Nat.reduceSub]
  clear f3 f5 f6 f8 fr
  intro fr h105
  refine call_of (oRow_none M4 p) ?_
  intro v3 M5 hv
  have hv1 := hv.1
  clear hv
  obtain ⟨a, hv1⟩ := hv1
  obtain ⟨cap, hv1⟩ := hv1
  rw [hv1]
  simp -dsimp only [↓w_seq, ↓w_ops, ↓w_skip, ↓w_ret, ↓w_exit, ↓w_scope, ↓w_block, ↓w_cond, cond_true', cond_false', ↓t_nil, ↓t_plain, ↓t_guard, ↓t_gagain, ↓t_again, t_val, t_call, g_true, g_false, ga_true, ga_false, a_val, a_call, ↓n_normal, ↓n_ret, ↓n_exit, ↓b_normal, ↓b_ret, ↓b_exit, ↓e_normal, ↓e_ret, e_some, go_sem, ↓reduceIte, Nat.reduceEqDiff, Nat.reduceLT, Nat.reduceSub, h105, Int.natCast_zero, Int.ofNat_zero, decide_true]
  exact hK _ _ (by simp only [go_sem, ↓reduceIte, Nat.reduceEqDiff, Nat.reduceLT, Nat.reduceSub])

theorem order_trees_runs (s : V) (acts : List Act) (p : St) (M0 : Mem) (hs : SlR elAct M0 s acts) (hk : ∀ x ∈ acts, x.2.2.2.length < 2 ^ 63) (hlt : ∀ b, s.blk = some b → acts ≠ [] → b < M0.next) (hg : isG M0 = true) (hn : 2 ≤ M0.next) (hsl : ∀ b, s.blk = some b → b < M0.next) :
    Runs D2 F_law11_OrderTrees [s, .agg (stC p)] M0 fun v _ => v = .bool true := by
  refine R_opq fun R hR => ?_
  refine Runs.walk (F := A_law11_OrderTrees) rfl (by rfl) (by rfl) ?_
  unfold A_law11_OrderTrees
  have hcn : V.cells (.agg (stC p)) = stC p := rfl
  have hG := Grew.push M0 (.cells (stC p) false)
  have g3 : (M0.push (.cells (stC p) false)).get M0.next = some (.cells (stC p) false) := Mem.get_push_same _ _
  have hnx : (M0.push (.cells (stC p) false)).next = M0.next + 1 := rfl
  simp -dsimp only [↓w_seq, ↓w_ops, ↓w_skip, ↓w_ret, ↓w_exit, ↓w_scope, ↓w_block, ↓w_cond, cond_true', cond_false', ↓t_nil, ↓t_plain, ↓t_guard, ↓t_gagain, ↓t_again, t_val, t_call, g_true, g_false, ga_true, ga_false, a_val, a_call, ↓n_normal, ↓n_ret, ↓n_exit, ↓b_normal, ↓b_ret, ↓b_exit, ↓e_normal, ↓e_ret, e_some, go_sem, ↓reduceIte, Nat.reduceEqDiff, Nat.reduceLT, Nat.reduceSub, A_law11_OrderTrees_0, A_law11_OrderTrees_1, hcn]
  generalize M0.push (.cells (stC p) false) = M1 at *
  have hs1 : SlR elAct M1 s acts := hs.keep fun b hb => hG.old b (hsl b hb)
  have hg1 : isG M1 = true := isG_keep hg hn hG.old
  refine call_of ((Long_runs s acts M1 hs1 hk).more le2) ?_
  intro v M hv
  obtain ⟨⟨b, hb, hL⟩, hM⟩ := hv
  rw [hb, hM]
  clear hb hM
  cases b with
  | true =>
    simp -dsimp only [↓w_seq, ↓w_ops, ↓w_skip, ↓w_ret, ↓w_exit, ↓w_scope, ↓w_block, ↓w_cond, cond_true', cond_false', ↓t_nil, ↓t_plain, ↓t_guard, ↓t_gagain, ↓t_again, t_val, t_call, g_true, g_false, ga_true, ga_false, a_val, a_call, ↓n_normal, ↓n_ret, ↓n_exit, ↓b_normal, ↓b_ret, ↓b_exit, ↓e_normal, ↓e_ret, e_some, go_sem, ↓reduceIte, Nat.reduceEqDiff, Nat.reduceLT, Nat.reduceSub, A_law11_OrderTrees_2]
    refine call_eq (knows_p hg1) ?_
    simp -dsimp only [↓w_seq, ↓w_ops, ↓w_skip, ↓w_ret, ↓w_exit, ↓w_scope, ↓w_block, ↓w_cond, cond_true', cond_false', ↓t_nil, ↓t_plain, ↓t_guard, ↓t_gagain, ↓t_again, t_val, t_call, g_true, g_false, ga_true, ga_false, a_val, a_call, ↓n_normal, ↓n_ret, ↓n_exit, ↓b_normal, ↓b_ret, ↓b_exit, ↓e_normal, ↓e_ret, e_some, go_sem, ↓reduceIte, Nat.reduceEqDiff, Nat.reduceLT, Nat.reduceSub]
    exact hR _ _ rfl
  | false =>
    have hL := hL rfl
    simp -dsimp only [↓w_seq, ↓w_ops, ↓w_skip, ↓w_ret, ↓w_exit, ↓w_scope, ↓w_block, ↓w_cond, cond_true', cond_false', ↓t_nil, ↓t_plain, ↓t_guard, ↓t_gagain, ↓t_again, t_val, t_call, g_true, g_false, ga_true, ga_false, a_val, a_call, ↓n_normal, ↓n_ret, ↓n_exit, ↓b_normal, ↓b_ret, ↓b_exit, ↓e_normal, ↓e_ret, e_some, go_sem, ↓reduceIte, Nat.reduceEqDiff, Nat.reduceLT, Nat.reduceSub, A_law11_OrderTrees_3]
    refine call_of (New_runs D2 rfl (by rfl) M1) ?_
    intro v M2 hv
    rw [hv.1]
    obtain ⟨_, hG2, hT⟩ := hv
    have f1 : fillCells [.slice none 0 (.exact 0)] [] = some [.slice none 0 (.exact 0)] := rfl
    have hca : V.cells (.agg [.slice none 0 (.exact 0)]) = [.slice none 0 (.exact 0)] := rfl
    simp -dsimp only [↓w_seq, ↓w_ops, ↓w_skip, ↓w_ret, ↓w_exit, ↓w_scope, ↓w_block, ↓w_cond, cond_true', cond_false', ↓t_nil, ↓t_plain, ↓t_guard, ↓t_gagain, ↓t_again, t_val, t_call, g_true, g_false, ga_true, ga_false, a_val, a_call, ↓n_normal, ↓n_ret, ↓n_exit, ↓b_normal, ↓b_ret, ↓b_exit, ↓e_normal, ↓e_ret, e_some, go_sem, ↓reduceIte, Nat.reduceEqDiff, Nat.reduceLT, Nat.reduceSub, A_law11_OrderTrees_4, A_law11_OrderTrees_5, f1, hca, vof, nil_ptr, nil_ptr', Option.map_some]
    have hG3 := Grew.push M2 (.cells [.slice none 0 (.exact 0)] false)
    have g6 : (M2.push (.cells [.slice none 0 (.exact 0)] false)).get M2.next = some (.cells [.slice none 0 (.exact 0)] false) := Mem.get_push_same _ _
    have hnx3 : (M2.push (.cells [.slice none 0 (.exact 0)] false)).next = M2.next + 1 := rfl
    generalize M2.push (.cells [.slice none 0 (.exact 0)] false) = M3 at *
    have hG13 := hG2.trans hG3
    refine call_eq (knows_p (isG_keep hg1 (by omega) hG13.old)) ?_
    simp -dsimp only [↓w_seq, ↓w_ops, ↓w_skip, ↓w_ret, ↓w_exit, ↓w_scope, ↓w_block, ↓w_cond, cond_true', cond_false', ↓t_nil, ↓t_plain, ↓t_guard, ↓t_gagain, ↓t_again, t_val, t_call, g_true, g_false, ga_true, ga_false, a_val, a_call, ↓n_normal, ↓n_ret, ↓n_exit, ↓b_normal, ↓b_ret, ↓b_exit, ↓e_normal, ↓e_ret, e_some, go_sem, ↓reduceIte, Nat.reduceEqDiff, Nat.reduceLT, Nat.reduceSub, Bool.not_true, A_law11_OrderTrees_6, A_law11_OrderTrees_7]
    have n1 := hG2.next
    have n2 := hT.tl
    have hR0 : RefIn M3 M2.next (.slice none 0 (.exact 0)) (rowsL []) := by
      have e : rowsL [] = [] := List.eq_nil_of_length_eq_zero (rows_len [])
      rw [e]
      exact ⟨g6, by omega, .inl .nil, by simp⟩
    have hbn : ∀ c, ¬ (V.slice none 0 (.exact 0)).blk = some c := fun c h => by cases h
    have hS : LSO M1 M3 (M1.next + 1) M1.next M2.next (.slice none 0 (.exact 0)) (actsO (acts.take 0)) :=
      ⟨hG13.old, hG13.next, ⟨hT.grew hG3, hR0, by omega, by omega, hbn _, hbn _⟩, Nat.le_refl _, n1, fun c hc => absurd hc (hbn c)⟩
    refine acts_loop s acts M1 hs1 (fun b hb _ => Nat.lt_of_lt_of_le (hsl b hb) hG.next) hL hg1 (by omega) (M1.next + 1) M1.next M2.next M0.next (x4 := .undef) ?_ acts.length 0 _ _ M3 (by omega) hS ?_ ?_ ?_ ?_ ?_
    · intro fr M4 s4 hS4 h0 h3 h5 h6 hkeep
      have hgo := goodO acts
      simp -dsimp only [↓w_seq, ↓w_ops, ↓w_skip, ↓w_ret, ↓w_exit, ↓w_scope, ↓w_block, ↓w_cond, cond_true', cond_false', ↓t_nil, ↓t_plain, ↓t_guard, ↓t_gagain, ↓t_again, t_val, t_call, g_true, g_false, ga_true, ga_false, a_val, a_call, ↓n_normal, ↓n_ret, ↓n_exit, ↓b_normal, ↓b_ret, ↓b_exit, ↓e_normal, ↓e_ret, e_some, go_sem, ↓reduceIte, Nat.reduceEqDiff, Nat.reduceLT, Nat.reduceSub, A_law11_OrderTrees_17]
      refine trees_end M4 (M1.next + 1) M1.next M2.next M0.next s4 (actsO acts) p hS4.A hgo.1 (by have := hgo.2; omega) (hkeep _ (by omega) g3) (by have := hS4.next; omega) (K := _) ?_ _ ?_ ?_ ?_ ?_
      · intro fr M5 h4
        simp -dsimp only [↓w_seq, ↓w_ops, ↓w_skip, ↓w_ret, ↓w_exit, ↓w_scope, ↓w_block, ↓w_cond, cond_true', cond_false', ↓t_nil, ↓t_plain, ↓t_guard, ↓t_gagain, ↓t_again, t_val, t_call, g_true, g_false, ga_true, ga_false, a_val, a_call, ↓n_normal, ↓n_ret, ↓n_exit, ↓b_normal, ↓b_ret, ↓b_exit, ↓e_normal, ↓e_ret, e_some, go_sem, ↓reduceIte, Nat.reduceEqDiff, Nat.reduceLT, Nat.reduceSub, h4]
        exact hR _ _ rfl
      all_goals simp only [go_sem, ↓reduceIte, Nat.reduceEqDiff, Nat.reduceLT, Nat.reduceSub, h3, h5, h6]
    all_goals simp only [go_sem, ↓reduceIte, Nat.reduceEqDiff, Nat.reduceLT, Nat.reduceSub]
    rfl
end Go.Am.Tryz.O


/- What the condition on the program's two listed variables gives; slices of acts handed in. -/
set_option linter.unusedSimpArgs false
set_option linter.unusedVariables false
namespace Go.Proofs.YtefigbdkennhaaaGreatDoor.laid
open Go.ChangeShapes Go.WideShapes Go.ChangeAt Go.RowKit

theorem own : ownKnob Tryz.prog.godebug = none := by kernel_rfl
theorem gRoot : Tryz.prog.globalNamed "diorama/op.root" = some 0 := by kernel_rfl
theorem gTrash : Tryz.prog.globalNamed "diorama/op.trash" = some 1 := by kernel_rfl
theorem tRoot : (Tryz.prog.globals[0]?).map (·.type) = some 24 := by kernel_rfl
theorem tTrash : (Tryz.prog.globals[1]?).map (·.type) = some 24 := by kernel_rfl
abbrev two : List (String × DataW Unit) := [("diorama/op.root", Rows.laid_diorama_op_root), ("diorama/op.trash", Rows.laid_diorama_op_trash)]

/-- The door's own heap meets the condition. -/
theorem door_met (os : Os) (args : Array Value) : laidMetH Tryz.prog two ((World.doorLaid Tryz.prog 400 os).forCall (fun _ _ => 0) ⟨#[], args, []⟩).memory :=
  laidMetH_of_parts3 (fuel := 8) (laidMet_of_run' 8 (by kernel_rfl) (by kernel_rfl)) (by kernel_rfl) (by kernel_rfl)

theorem stamp_read {W : World} {fuel : Nat} {cs : List Value} {p : List MemPlace} {a b : Int} (h : DataW.trod (fun _ => ()) Tryz.prog W 0 (fun _ => true) false fuel 24 cs = some (.agg [.lit (.int .i64 a), .lit (.int .i64 b)], p)) :
    cs = [.int .i64 a, .int .i64 b] := by
  obtain ⟨y0, y1, n, hx, hl, h0, h1⟩ := trod_struct2 Tryz.underlying24 h
  have c29 : Tryz.prog.cellsOf 24 = 2 := by kernel_rfl
  have c3 : Tryz.prog.cellsOf 3 = 1 := by kernel_rfl
  rw [c29] at hl
  simp only [c3] at h0 h1
  obtain ⟨k0, e0, f0, _⟩ := DataW.trod_int Tryz.underlying3 h0
  obtain ⟨k1, e1, f1, _⟩ := DataW.trod_int Tryz.underlying3 h1
  match cs, hl with
  | [c, d], _ =>
    simp at e0 e1
    subst e0 e1 f0 f1
    simp only [Prod.mk.injEq, DataW.agg.injEq, List.cons.injEq, DataW.lit.injEq, Lit.int.injEq, true_and, and_true] at hx
    obtain ⟨⟨rfl, rfl⟩, _⟩ := hx
    rfl
/-- What the condition gives: the two variables' rows. -/
theorem of_laid {W : World} (h : laidMetH Tryz.prog two W) : ∃ k0 k1, Go.Am.Env.ok [(Go.Am.Tryz.stC (0, 0), 0, 0, k0), (Go.Am.Tryz.stC (0, 1), 1, 0, k1)] W := by
  rw [MakeChecks.laidMetH_plain _ _ _ (by kernel_rfl)] at h
  obtain ⟨ps, ⟨g0, t0, cs0, f0, p0, q0, hg0, ht0, hv0, hd0, ⟨g1, t1, cs1, f1, p1, q1, hg1, ht1, hv1, hd1, _, _⟩, _⟩, _, _⟩ := h
  obtain rfl := Option.some.inj (gRoot.symm.trans hg0)
  obtain rfl := Option.some.inj (gTrash.symm.trans hg1)
  obtain rfl := Option.some.inj (tRoot.symm.trans ht0)
  obtain rfl := Option.some.inj (tTrash.symm.trans ht1)
  have r0 := stamp_read hd0
  have r1 := stamp_read hd1
  have key : ∀ (n : String) (g : Nat) (cs : Array Value) (x : Go.Am.Tryz.St), Tryz.prog.globalNamed n = some g → W.var? Tryz.prog n = some cs → cs.toList = [.int .i64 x.1, .int .i64 x.2] →
      ∃ arr elem fz, W.heap[g]? = some (.cells arr elem fz) ∧ (∀ E, Go.Am.CR E (Go.Am.Tryz.stC x) arr 0) ∧ 0 + arr.size = arr.size ∧ arr.size = 2 := by
    intro n g cs x hg hv hl
    simp only [World.var?, hg, Option.bind_some] at hv
    split at hv
    · rename_i arr elem fz hh
      cases hv
      refine ⟨_, elem, fz, hh, fun E i v hi => ?_, Nat.zero_add _, by rw [← Array.length_toList, hl]; rfl⟩
      have e : ∀ j, cs[j]? = ([Value.int .i64 x.1, Value.int .i64 x.2] : List Value)[j]? := fun j => by rw [← hl, Array.getElem?_toList]
      rw [Nat.zero_add, e]
      match i, hi with
      | 0, hi => cases hi; exact ⟨_, rfl, .int _ _⟩
      | 1, hi => cases hi; exact ⟨_, rfl, .int _ _⟩
    · cases hv
  obtain ⟨a0, el0, fz0, h1, h2, h3, s0⟩ := key _ 0 cs0 (0, 0) gRoot hv0 r0
  obtain ⟨a1, el1, fz1, i1, i2, i3, s1⟩ := key _ 1 cs1 (0, 1) gTrash hv1 r1
  refine ⟨a0.size, a1.size, fun x hx => ?_⟩
  simp only [List.mem_cons, List.not_mem_nil, or_false] at hx
  rcases hx with rfl | rfl
  · exact ⟨a0, el0, fz0, h1, h2, h3⟩
  · exact ⟨a1, el1, fz1, i1, i2, i3⟩
theorem env_cons {l l' : Go.Am.Env} {W : World} (h : Go.Am.Env.ok l W) (h' : Go.Am.Env.ok l' W) : Go.Am.Env.ok (l ++ l') W := fun x hx => by
  rcases List.mem_append.mp hx with hx | hx
  · exact h x hx
  · exact h' x hx

abbrev actK : List Go.Am.CK := [.int .i64, .int .i64, .int .i64, .int .i64, .int .i64, .str]
theorem act_fit (cs : List Value) (h : Go.Am.Fits actK cs) : ∃ x : Go.Am.Tryz.Act, Go.Am.Tryz.elAct.enc x = cs := by
  obtain ⟨v0, r0, e0, h0, h⟩ := h.cons_of
  obtain ⟨v1, r1, e1, h1, h⟩ := h.cons_of
  obtain ⟨v2, r2, e2, h2, h⟩ := h.cons_of
  obtain ⟨v3, r3, e3, h3, h⟩ := h.cons_of
  obtain ⟨v4, r4, e4, h4, h⟩ := h.cons_of
  obtain ⟨v5, r5, e5, h5, h⟩ := h.cons_of
  have e6 := h.nil_of
  obtain ⟨n0, g0, _⟩ := h0
  obtain ⟨n1, g1, _⟩ := h1
  obtain ⟨n2, g2, _⟩ := h2
  obtain ⟨n3, g3, _⟩ := h3
  obtain ⟨n4, g4, _⟩ := h4
  obtain ⟨s, g5, _⟩ := h5
  rw [e0, e1, e2, e3, e4, e5, e6, g0, g1, g2, g3, g4, g5]
  exact ⟨(n0, (n1, n2), ((n3, n4), s.data.toList)), rfl⟩
theorem act_key (x : Go.Am.Tryz.Act) (h : Go.Am.Fits actK (Go.Am.Tryz.elAct.enc x)) : x.2.2.2.length < 2 ^ 63 := by
  obtain ⟨s, e, hs⟩ := h.2.2.2.2.2.1
  have e' := Value.string.inj e
  rw [← e'] at hs
  have : maxLen = 2 ^ 63 - 1 := rfl
  have h2 : ByteArray.size ⟨x.2.2.2.toArray⟩ = x.2.2.2.length := by simp [ByteArray.size]
  omega
theorem shape36 : Go.Am.shape Tryz.prog 6 36 = some actK := by kernel_rfl
theorem cells36 : Tryz.prog.cellsOf 36 = Go.Am.Tryz.elAct.k := by kernel_rfl
theorem under22 : Tryz.prog.underlying 22 = some (.slice 36) := Tryz.underlying22
theorem glob_at {k0 k1 : Nat} {l : Go.Am.Env} : ∀ x, Go.Am.Tryz.gl0 x = true → ∃ k, Go.Am.Env.emb ((Go.Am.Tryz.stC (0, 0), 0, 0, k0) :: (Go.Am.Tryz.stC (0, 1), 1, 0, k1) :: l) x = some (x, 0, k) := fun x hx => by
  rcases Go.Am.Tryz.gl_two hx with rfl | rfl
  · exact ⟨k0, rfl⟩
  · exact ⟨k1, rfl⟩
theorem glob_is {k0 k1 : Nat} {l : Go.Am.Env} : Go.Am.Tryz.isG (Go.Am.Env.mem ((Go.Am.Tryz.stC (0, 0), 0, 0, k0) :: (Go.Am.Tryz.stC (0, 1), 1, 0, k1) :: l)) = true :=
  Go.Am.Tryz.isG_mk (by rw [Go.Am.Env.get_mem]; rfl) (by rw [Go.Am.Env.get_mem]; rfl)
/-- A slice of acts in memory behind the two variables. -/
theorem acts_at {k0 k1 c o k cap len : Nat} {xs : List Go.Am.Tryz.Act} {l : Go.Am.Env} (hlc : len ≤ cap) (hxl : xs.length = cap) :
    Go.Am.SlR Go.Am.Tryz.elAct (Go.Am.Env.mem ((Go.Am.Tryz.stC (0, 0), 0, 0, k0) :: (Go.Am.Tryz.stC (0, 1), 1, 0, k1) :: (Go.Am.Tryz.elAct.all xs, c, o, k) :: l)) (.slice (some (2, 0)) len (.exact cap)) (xs.take len) := by
  refine ⟨some (2, 0), .exact cap, by rw [List.length_take, hxl, Nat.min_eq_left hlc], .inr ⟨2, 0, Go.Am.Tryz.elAct.all xs, true, rfl, by rw [Go.Am.Env.get_mem]; rfl, fun i hi => ?_⟩⟩
  rw [Nat.zero_add, List.getElem_take]
  exact Go.Am.Tryz.elAct.rd xs i (by rw [List.length_take] at hi; omega)
end Go.Proofs.YtefigbdkennhaaaGreatDoor.laid


