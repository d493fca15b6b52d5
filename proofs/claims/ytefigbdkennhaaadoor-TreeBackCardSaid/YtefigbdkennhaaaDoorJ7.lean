/- The machine and what is proved of its runs, part 7: what each part says stands at its head. -/
import Derived.Test.YtefigbdkennhaaaDoorJ6
import Derived.Shelf.SlMaps.Clone
import Derived.Test.YtefigbdkennhaaaDoorRows
import Derived.WalkKit
import Derived.ProofKit
import Derived.OpenShut
import Derived.Below
import Derived.LaidMore
import Derived.Stop.Joined
import Derived.SevenTiedAt
set_option linter.unusedSimpArgs false
set_option linter.unusedVariables false
set_option linter.unusedSectionVars false
/- maps.Clone of a tree's map as a part, by the kit's contract; Tree.Clone. -/
namespace Go.Proofs
open Go.Shelf
def Tryd.cloneT_ren : Go.Shelf.Ren := ⟨fun | 5 => 51 | 7 => 78 | n => n, fun | 23 => 63 | 25 => 29 | 3 => 38 | n => n, fun n => n⟩
theorem Tryd.cloneT : Go.Proofs.SlLaysW.n5 Tryd.prog Tryd.cloneT_ren := {
  mixed := by kernel_rfl
  f5 := ⟨Tryd.f51.name, by decide, Tryd.func51.trans (congrArg some (by kernel_rfl))⟩
  f7 := Tryd.func78.trans (congrArg some (by kernel_rfl))
  t4 := Tryd.underlying4
  a4 := Tryd.isAgg4
  z4 := Tryd.sizeOf4
  v4 := Tryd.zeroValue4
  t20 := Tryd.underlying20
  a20 := Tryd.isAgg20
  z20 := Tryd.sizeOf20
  v20 := Tryd.zeroValue20
  t23 := Tryd.underlying63
  a23 := Tryd.isAgg63
  z23 := Tryd.sizeOf63
  v23 := Tryd.zeroValue63 }
end Go.Proofs
namespace Go.Am.Tryd
open Go Go.Am Go.Proofs Go.Sort Go.Shelf
set_option maxRecDepth 100000
set_option linter.unusedSimpArgs false
set_option linter.unusedVariables false

def pClone (args : List V) (M : Mem) : Option (V × Mem) :=
  match args with
  | [.map (some b)] => (match M.get b with
    | some (.map es) => some (.map (some M.next), M.push (.map es))
    | _ => none)
  | _ => none
theorem pClone_ok : CallOK Tryd.prog gl0 fun f' args M => if f' = F_maps_Clone_Stamp_Spot then pClone args M else none := by
  intro f' args M v M' he
  simp only at he
  split at he
  · rename_i e
    subst e
    unfold pClone at he
    split at he
    · rename_i b
      split at he
      · rename_i es hb
        cases he
        refine ⟨⟨_, Tryd.func51, (by kernel_rfl), (by kernel_rfl)⟩, fun E w args' hR hG hA => ?_⟩
        generalize hq : args'.toList = q at hA
        cases hA with
        | cons h1 t =>
          cases t
          cases h1 with
          | map hE =>
            rename_i c d k
            obtain rfl : args' = #[.map (some c)] := by cases args'; simp_all
            obtain ⟨o, ho, hor⟩ := hR.at_ b c d k hE
            rw [hb] at ho
            cases ho
            obtain ⟨ents, clock, hx, hER, hborn⟩ := hor
            have hc := AnyW.maps_Clone Tryd.cloneT c ents clock w hx
            refine hc.mono fun e w' ⟨he, hw⟩ => ?_
            subst hw
            have hle := Emb.more_le (x := (w.heap.size, 0, 0)) (hR.fresh (Nat.le_refl M.next))
            obtain ⟨r1, r2⟩ := hR.alloc (o := .map es) (x := .map ents clock) (k := 0) ⟨ents, clock, rfl, ⟨hER.1.mono hle, hER.2.mono hle⟩, hborn⟩
            exact ⟨_, _, he, .map (Emb.more_same _ _ _), r1, r2⟩
      · cases he
    · cases he
  · cases he
def D3a : Decls := D2.addM F_maps_Clone_Stamp_Spot pClone
theorem dok3a : DOK Tryd.prog gl0 D3a := dok2.addM pClone_ok
theorem le3a : D2.le D3a := Decls.le_addM rfl (by rfl)

theorem Clone_runs (D : Decls) (hle : D3a.le D) (M : Mem) (tc bm : Nat) (l : Tr) (T : TreeIn M tc bm l) : Runs D F_tree_Tree_Clone [.ptr (some (tc, 0))] M fun v M' => v = .ptr (some (M.next + 1, 0)) ∧ Grew M M' ∧ TreeIn M' (M.next + 1) M.next l := by
  refine Runs.more hle ?_
  refine R_opq fun R hR => ?_
  refine Runs.walk (F := A_tree_Tree_Clone) rfl (by rfl) (by rfl) ?_
  unfold A_tree_Tree_Clone
  simp -dsimp only [↓w_seq, ↓w_ops, ↓w_skip, ↓w_ret, ↓w_exit, ↓w_scope, ↓w_block, ↓w_cond, cond_true', cond_false', ↓t_nil, ↓t_plain, ↓t_guard, ↓t_gagain, ↓t_again, t_val, t_call, g_true, g_false, ga_true, ga_false, a_val, a_call, ↓n_normal, ↓n_ret, ↓n_exit, ↓b_normal, ↓b_ret, ↓b_exit, ↓e_normal, ↓e_ret, e_some, go_sem, ↓reduceIte, Nat.reduceEqDiff, Nat.reduceLT, Nat.reduceSub, A_tree_Tree_Clone_0, A_tree_Tree_Clone_1]
  refine call_eq ((none_p (D := D2) rfl T.of).more le3a) ?_
  simp -dsimp only [↓w_seq, ↓w_ops, ↓w_skip, ↓w_ret, ↓w_exit, ↓w_scope, ↓w_block, ↓w_cond, cond_true', cond_false', ↓t_nil, ↓t_plain, ↓t_guard, ↓t_gagain, ↓t_again, t_val, t_call, g_true, g_false, ga_true, ga_false, a_val, a_call, ↓n_normal, ↓n_ret, ↓n_exit, ↓b_normal, ↓b_ret, ↓b_exit, ↓e_normal, ↓e_ret, e_some, go_sem, ↓reduceIte, Nat.reduceEqDiff, Nat.reduceLT, Nat.reduceSub, A_tree_Tree_Clone_3, vload, vptr, Mem.read, T.c, Nat.add_zero, List.getElem?_cons_zero]
  refine call_of (S := fun v M1 => v = .map (some M.next) ∧ M1 = M.push (.map (encM l))) (Runs.prim (v := .map (some M.next)) (M' := M.push (.map (encM l))) rfl (by simp only [pClone, T.m]) ⟨rfl, rfl⟩) ?_
  intro v M1 hv
  rw [hv.1, hv.2]
  clear hv
  have hf : fillCells [.map none] [(0, 1, .map (some M.next))] = some [.map (some M.next)] := rfl
  have hG := (Grew.push M (.map (encM l))).trans (Grew.push _ (.cells [.map (some M.next)] false))
  simp -dsimp only [↓w_seq, ↓w_ops, ↓w_skip, ↓w_ret, ↓w_exit, ↓w_scope, ↓w_block, ↓w_cond, cond_true', cond_false', ↓t_nil, ↓t_plain, ↓t_guard, ↓t_gagain, ↓t_again, t_val, t_call, g_true, g_false, ga_true, ga_false, a_val, a_call, ↓n_normal, ↓n_ret, ↓n_exit, ↓b_normal, ↓b_ret, ↓b_exit, ↓e_normal, ↓e_ret, e_some, go_sem, ↓reduceIte, Nat.reduceEqDiff, Nat.reduceLT, Nat.reduceSub, hf, vof, Option.map_some, V.cells, Mem.next_push]
  exact hR _ _ ⟨rfl, hG, Mem.get_push_same (M.push _) _, by rw [Mem.get_push_ne _ _ (by simp), Mem.get_push_same], by simp only [Mem.next_push]; omega, by simp only [Mem.next_push]; omega⟩
end Go.Am.Tryd

/- maps.Equal of two trees' maps, as a part. -/
namespace Go.Am.Tryd
open Go Go.Am Go.Proofs Go.Sort Go.Shelf
set_option maxRecDepth 100000
set_option linter.unusedSimpArgs false
set_option linter.unusedVariables false

theorem sp_same (a b : Spot) : vsame ⟨true, [.int .i64, .int .i64, .str]⟩ (.agg (spC a)) (.agg (spC b)) = some (decide (a = b)) := by
  obtain ⟨⟨a1, a2⟩, a3⟩ := a
  obtain ⟨⟨b1, b2⟩, b3⟩ := b
  simp only [spC]
  rw [same_spot]
  simp [Prod.ext_iff, and_assoc]

/-- Do two maps tell the same of the first one's keys? -/
def eqB (l l' : Tr) : Bool := decide (l.length = l'.length) && (keysS l).all fun x => decide (getS l' x = getS l x)

theorem enc_at {l : Tr} (hn : (keysS l).Nodup) {i : Nat} {kv : V × V} (h : (encM l)[i]? = some kv) : ∃ x s, kv = (.agg (stC x), .agg (spC s)) ∧ x = (keysS l).getD i (0, 0) ∧ getS l x = some s ∧ x ∈ keysS l := by
  simp only [encM, List.getElem?_map, Option.map_eq_some_iff] at h
  obtain ⟨p, h1, rfl⟩ := h
  have hm := List.mem_of_getElem? h1
  refine ⟨p.1, p.2, rfl, ?_, get_of_in hn hm, List.mem_map_of_mem (f := (·.1)) hm⟩
  simp [keysS, List.getD_eq_getElem?_getD, h1]

set_option maxHeartbeats 2000000 in
theorem Equal_loop (it b1 b2 : Nat) (l l' : Tr) (hnd : (keysS l).Nodup) (ents : List MapEntry) (clock : Nat) (hl : ents.length = (keysS l).length) (hborn : Born ents clock) (M0 : Mem)
    (hb1 : M0.get b1 = some (.rmap (encM l) ents clock)) (hb2 : mapAt M0 b2 = some (encM l')) (l1 : b1 < M0.next) (l2 : b2 < M0.next) (hn1 : b1 ≠ it) (hn2 : b2 ≠ it)
    (Q : XQ) (hQ : ∀ fr M, (∀ x ∈ keysS l, getS l' x = getS l x) → (∀ c, c < M0.next → c ≠ it → M.get c = M0.get c) → Q (.exit 0) fr M) (hQx : ∀ fr M, (∃ x ∈ keysS l, getS l' x ≠ getS l x) → (∀ c, c < M0.next → c ≠ it → M.get c = M0.get c) → fr.rd 4 = .bool false → Q .ret fr M) :
    ∀ (f : Nat) (idx rest : List Nat) (seen : Array Nat) (pre : List St) (fr : Fr) (M : Mem), rest.length = f → Came ents (keysS l) seen pre idx rest → (∀ x ∈ pre, getS l' x = getS l x) → (∀ c, c < M0.next → c ≠ it → M.get c = M0.get c) → M0.next ≤ M.next → it < M0.next → M.get it = some (.mapIter (some b1) clock seen clock) → fr.rd 1 = .map (some b2) → fr.rd 15 = .ptr (some (it, 0)) →
    roundsX (WX Tryd.prog gl0 34 X_maps_Equal_Stamp_Spot_9 false) (f + 1) fr M Q := by
  intro f
  induction f with
  | zero =>
    intro idx rest seen pre fr M hf hC hpre hk hn hlt hit h1 h15
    rw [rounds_x_succ]
    refine xw_of ?_
    unfold X_maps_Equal_Stamp_Spot_9
    simp -dsimp only [↓x_seq', ↓x_ops, ↓x_skip, ↓x_ret, ↓x_exit, ↓x_block', ↓x_cond', cond_true', cond_false', ↓i_nil, ↓i_plain, ↓i_guard, xs_val, xs_call, xs_yield, xg_true, xg_false, ↓n_normal, ↓n_ret, ↓n_exit, ↓b_normal, ↓b_ret, ↓b_exit, ↓xe_normal, ↓xe_ret, e_some, yieldOf, go_sem, ↓reduceIte, Nat.reduceEqDiff, Nat.reduceLT, Nat.reduceSub, X_maps_Equal_Stamp_Spot_4]
    refine i_next (it := it) (b := b1) (clock := clock) (seen := seen) (show fr.rd 15 = _ from h15) hit ((hk _ l1 hn1).trans hb1) ?_ ?_
    · intro hfil
      simp -dsimp only [↓x_seq', ↓x_ops, ↓x_skip, ↓x_ret, ↓x_exit, ↓x_block', ↓x_cond', cond_true', cond_false', ↓i_nil, ↓i_plain, ↓i_guard, xs_val, xs_call, xs_yield, xg_true, xg_false, ↓n_normal, ↓n_ret, ↓n_exit, ↓b_normal, ↓b_ret, ↓b_exit, ↓xe_normal, ↓xe_ret, e_some, yieldOf, go_sem, ↓reduceIte, Nat.reduceEqDiff, Nat.reduceLT, Nat.reduceSub, List.getElem?_cons_zero]
      exact hQ _ _ (fun x hx => hpre x ((hC.done hborn hl hfil).mem_iff.mpr hx)) hk
    · intro i e kv hi hne hkv
      have := (hC.step hl hi hne).1
      rw [List.eq_nil_of_length_eq_zero hf] at this
      cases this
  | succ f ih =>
    intro idx rest seen pre fr M hf hC hpre hk hn hlt hit h1 h15
    rw [rounds_x_succ]
    refine xw_of ?_
    unfold X_maps_Equal_Stamp_Spot_9
    simp -dsimp only [↓x_seq', ↓x_ops, ↓x_skip, ↓x_ret, ↓x_exit, ↓x_block', ↓x_cond', cond_true', cond_false', ↓i_nil, ↓i_plain, ↓i_guard, xs_val, xs_call, xs_yield, xg_true, xg_false, ↓n_normal, ↓n_ret, ↓n_exit, ↓b_normal, ↓b_ret, ↓b_exit, ↓xe_normal, ↓xe_ret, e_some, yieldOf, go_sem, ↓reduceIte, Nat.reduceEqDiff, Nat.reduceLT, Nat.reduceSub, X_maps_Equal_Stamp_Spot_4]
    refine i_next (it := it) (b := b1) (clock := clock) (seen := seen) (show fr.rd 15 = _ from h15) hit ((hk _ l1 hn1).trans hb1) ?_ ?_
    · intro hfil
      simp -dsimp only [↓x_seq', ↓x_ops, ↓x_skip, ↓x_ret, ↓x_exit, ↓x_block', ↓x_cond', cond_true', cond_false', ↓i_nil, ↓i_plain, ↓i_guard, xs_val, xs_call, xs_yield, xg_true, xg_false, ↓n_normal, ↓n_ret, ↓n_exit, ↓b_normal, ↓b_ret, ↓b_exit, ↓xe_normal, ↓xe_ret, e_some, yieldOf, go_sem, ↓reduceIte, Nat.reduceEqDiff, Nat.reduceLT, Nat.reduceSub, List.getElem?_cons_zero]
      exact hQ _ _ (fun x hx => hpre x ((hC.done hborn hl hfil).mem_iff.mpr hx)) hk
    · intro i e kv hi hne hkv
      obtain ⟨hir, hC'⟩ := hC.step hl hi hne
      obtain ⟨x, s, hkv2, hx, hgx, hxm⟩ := enc_at hnd hkv
      rw [← hx] at hC'
      rw [hkv2] at hkv ⊢
      have hit1 : (M.set it (.mapIter (some b1) clock (seen.push e.born) clock)).get it = some (.mapIter (some b1) clock (seen.push e.born) clock) := Mem.get_set_same _ _ _
      have hk1 : ∀ c, c < M0.next → c ≠ it → (M.set it (.mapIter (some b1) clock (seen.push e.born) clock)).get c = M0.get c := fun c hc hne => (Mem.get_set_ne _ _ hne).trans (hk c hc hne)
      have hnn : (M.set it (.mapIter (some b1) clock (seen.push e.born) clock)).next = M.next := rfl
      generalize M.set it (.mapIter (some b1) clock (seen.push e.born) clock) = M1 at *
      simp -dsimp only [↓x_seq', ↓x_ops, ↓x_skip, ↓x_ret, ↓x_exit, ↓x_block', ↓x_cond', cond_true', cond_false', ↓i_nil, ↓i_plain, ↓i_guard, xs_val, xs_call, xs_yield, xg_true, xg_false, ↓n_normal, ↓n_ret, ↓n_exit, ↓b_normal, ↓b_ret, ↓b_exit, ↓xe_normal, ↓xe_ret, e_some, yieldOf, go_sem, ↓reduceIte, Nat.reduceEqDiff, Nat.reduceLT, Nat.reduceSub, List.getElem?_cons_zero, X_maps_Equal_Stamp_Spot_5]
      refine i_entry (it := it) (b := b1) (since := clock) (clock := clock) (seen := seen.push e.born) (by simp only [go_sem, ↓reduceIte, Nat.reduceEqDiff, Nat.reduceLT, Nat.reduceSub, h15]) hit1 ((hk1 _ l1 hn1).trans hb1) i e _ hi (by simp) hkv ?_
      have hcn : V.cells (.agg (stC x)) = stC x := rfl
      have hcs : ∀ s, V.cells (.agg (spC s)) = spC s := fun _ => rfl
      have w5 := write_full (M := (M1.push (.cells [.int .i64 0, .int .i64 0] false)).push (.cells [.int .i64 0, .int .i64 0, .str []] false)) (b := M1.next) (cs := [.int .i64 0, .int .i64 0]) (vs := stC x) (by rw [Mem.get_push_ne _ _ (by simp)]; exact Mem.get_push_same _ _) rfl rfl
      have w6 := write_full (M := ((M1.push (.cells [.int .i64 0, .int .i64 0] false)).push (.cells [.int .i64 0, .int .i64 0, .str []] false)).set M1.next (.cells (stC x) false)) (b := M1.next + 1) (cs := [.int .i64 0, .int .i64 0, .str []]) (vs := spC s) (by rw [Mem.get_set_ne _ _ (by omega)]; exact Mem.get_push_same (M1.push _) _) rfl rfl
      simp -dsimp only [↓x_seq', ↓x_ops, ↓x_skip, ↓x_ret, ↓x_exit, ↓x_block', ↓x_cond', cond_true', cond_false', ↓i_nil, ↓i_plain, ↓i_guard, xs_val, xs_call, xs_yield, xg_true, xg_false, ↓n_normal, ↓n_ret, ↓n_exit, ↓b_normal, ↓b_ret, ↓b_exit, ↓xe_normal, ↓xe_ret, e_some, yieldOf, go_sem, ↓reduceIte, Nat.reduceEqDiff, Nat.reduceLT, Nat.reduceSub, List.getElem?_cons_zero, List.getElem?_cons_succ, Mem.next_push, vstore, hcn, hcs, stC_len, spC_len, w5, w6, Nat.reduceEqDiff]
      have q5 : ((((M1.push (.cells [.int .i64 0, .int .i64 0] false)).push (.cells [.int .i64 0, .int .i64 0, .str []] false)).set M1.next (.cells (stC x) false)).set (M1.next + 1) (.cells (spC s) false)).get M1.next = some (.cells (stC x) false) := by rw [Mem.get_set_ne _ _ (by omega), Mem.get_set_same]
      have q6 : ((((M1.push (.cells [.int .i64 0, .int .i64 0] false)).push (.cells [.int .i64 0, .int .i64 0, .str []] false)).set M1.next (.cells (stC x) false)).set (M1.next + 1) (.cells (spC s) false)).get (M1.next + 1) = some (.cells (spC s) false) := Mem.get_set_same _ _ _
      have qk : ∀ c, c < M1.next → ((((M1.push (.cells [.int .i64 0, .int .i64 0] false)).push (.cells [.int .i64 0, .int .i64 0, .str []] false)).set M1.next (.cells (stC x) false)).set (M1.next + 1) (.cells (spC s) false)).get c = M1.get c := fun c hc => by rw [Mem.get_set_ne _ _ (by omega), Mem.get_set_ne _ _ (by omega), Mem.get_push_ne _ _ (by simp; omega), Mem.get_push_ne _ _ (by omega)]
      have qn : ((((M1.push (.cells [.int .i64 0, .int .i64 0] false)).push (.cells [.int .i64 0, .int .i64 0, .str []] false)).set M1.next (.cells (stC x) false)).set (M1.next + 1) (.cells (spC s) false)).next = M1.next + 2 := rfl
      clear w5 w6
      generalize (((M1.push (.cells [.int .i64 0, .int .i64 0] false)).push (.cells [.int .i64 0, .int .i64 0, .str []] false)).set M1.next (.cells (stC x) false)).set (M1.next + 1) (.cells (spC s) false) = M2 at *
      have hm2 : mapAt M2 b2 = some (encM l') := mapAt_keep hb2 ((qk _ (by omega)).trans (hk1 _ l2 hn2))
      have hlk := look_is hm2 x
      have hrn : rdCells (stC x) 0 2 = some (stC x) := rfl
      have hrs : ∀ s, rdCells (spC s) 0 3 = some (spC s) := fun _ => rfl
      have w7 := write_full (M := M2.push (.cells [.int .i64 0, .int .i64 0, .str []] false)) (b := M2.next) (vs := spC ((getS l' x).getD sp0)) (Mem.get_push_same _ _) rfl rfl
      simp -dsimp only [↓x_seq', ↓x_ops, ↓x_skip, ↓x_ret, ↓x_exit, ↓x_block', ↓x_cond', cond_true', cond_false', ↓i_nil, ↓i_plain, ↓i_guard, xs_val, xs_call, xs_yield, xg_true, xg_false, ↓n_normal, ↓n_ret, ↓n_exit, ↓b_normal, ↓b_ret, ↓b_exit, ↓xe_normal, ↓xe_ret, e_some, yieldOf, go_sem, ↓reduceIte, Nat.reduceEqDiff, Nat.reduceLT, Nat.reduceSub, X_maps_Equal_Stamp_Spot_6, h1, vload, vptr, Mem.read, q5, hrn, hlk, vof, lookV_parts, List.getElem?_cons_zero, List.getElem?_cons_succ, vstore, hcs, spC_len, w7, Nat.reduceEqDiff]
      have p6 : ((M2.push (.cells [.int .i64 0, .int .i64 0, .str []] false)).set M2.next (.cells (spC ((getS l' x).getD sp0)) false)).get (M1.next + 1) = some (.cells (spC s) false) := by rw [Mem.get_set_ne _ _ (by omega), Mem.get_push_ne _ _ (by omega)]; exact q6
      have p7 : ((M2.push (.cells [.int .i64 0, .int .i64 0, .str []] false)).set M2.next (.cells (spC ((getS l' x).getD sp0)) false)).get M2.next = some (.cells (spC ((getS l' x).getD sp0)) false) := Mem.get_set_same _ _ _
      have pk : ∀ c, c < M1.next → ((M2.push (.cells [.int .i64 0, .int .i64 0, .str []] false)).set M2.next (.cells (spC ((getS l' x).getD sp0)) false)).get c = M1.get c := fun c hc => by rw [Mem.get_set_ne _ _ (by omega), Mem.get_push_ne _ _ (by omega)]; exact qk c hc
      have pn : ((M2.push (.cells [.int .i64 0, .int .i64 0, .str []] false)).set M2.next (.cells (spC ((getS l' x).getD sp0)) false)).next = M1.next + 3 := by rw [Mem.next_set, Mem.next_push, qn]
      clear w7
      generalize (M2.push (.cells [.int .i64 0, .int .i64 0, .str []] false)).set M2.next (.cells (spC ((getS l' x).getD sp0)) false) = M3 at *
      have hkeep : ∀ c, c < M0.next → c ≠ it → M3.get c = M0.get c := fun c hc hne => (pk c (by omega)).trans (hk1 c hc hne)
      cases hs : getS l' x with
      | none =>
        simp -dsimp only [↓x_seq', ↓x_ops, ↓x_skip, ↓x_ret, ↓x_exit, ↓x_block', ↓x_cond', cond_true', cond_false', ↓i_nil, ↓i_plain, ↓i_guard, xs_val, xs_call, xs_yield, xg_true, xg_false, ↓n_normal, ↓n_ret, ↓n_exit, ↓b_normal, ↓b_ret, ↓b_exit, ↓xe_normal, ↓xe_ret, e_some, yieldOf, go_sem, ↓reduceIte, Nat.reduceEqDiff, Nat.reduceLT, Nat.reduceSub, X_maps_Equal_Stamp_Spot_7, X_maps_Equal_Stamp_Spot_8, Option.isSome_none, Bool.not_false]
        exact hQx _ _ ⟨x, hxm, by rw [hs, hgx]; simp⟩ hkeep (by simp only [go_sem, ↓reduceIte, Nat.reduceEqDiff, Nat.reduceLT, Nat.reduceSub])
      | some s' =>
        rw [hs] at p7
        by_cases hss : s = s'
        · simp -dsimp only [↓x_seq', ↓x_ops, ↓x_skip, ↓x_ret, ↓x_exit, ↓x_block', ↓x_cond', cond_true', cond_false', ↓i_nil, ↓i_plain, ↓i_guard, xs_val, xs_call, xs_yield, xg_true, xg_false, ↓n_normal, ↓n_ret, ↓n_exit, ↓b_normal, ↓b_ret, ↓b_exit, ↓xe_normal, ↓xe_ret, e_some, yieldOf, go_sem, ↓reduceIte, Nat.reduceEqDiff, Nat.reduceLT, Nat.reduceSub, X_maps_Equal_Stamp_Spot_7, X_maps_Equal_Stamp_Spot_8, Option.isSome_some, Bool.not_true, vload, vptr, Mem.read, p6, p7, hrs, Option.getD_some, sp_same, hss, decide_true]
          have hpre2 : ∀ y ∈ pre ++ [x], getS l' y = getS l y := fun y hy => by
            rcases List.mem_append.mp hy with hy | hy
            · exact hpre y hy
            · simp only [List.mem_singleton] at hy
              rw [hy, hs, hgx, hss]
          have hf2 : (rest.erase i).length = f := by rw [List.length_erase_of_mem hir]; omega
          have hit3 := (pk it (by omega)).trans hit1
          have hn3 : M0.next ≤ M3.next := by omega
          have ih2 := fun fr => ih (idx ++ [i]) (rest.erase i) (seen.push e.born) (pre ++ [x]) fr M3 hf2 hC' hpre2 hkeep hn3 hlt hit3
          refine ih2 _ ?_ ?_
          all_goals simp only [go_sem, ↓reduceIte, Nat.reduceEqDiff, Nat.reduceLT, Nat.reduceSub, h1, h15]
        · simp -dsimp only [↓x_seq', ↓x_ops, ↓x_skip, ↓x_ret, ↓x_exit, ↓x_block', ↓x_cond', cond_true', cond_false', ↓i_nil, ↓i_plain, ↓i_guard, xs_val, xs_call, xs_yield, xg_true, xg_false, ↓n_normal, ↓n_ret, ↓n_exit, ↓b_normal, ↓b_ret, ↓b_exit, ↓xe_normal, ↓xe_ret, e_some, yieldOf, go_sem, ↓reduceIte, Nat.reduceEqDiff, Nat.reduceLT, Nat.reduceSub, X_maps_Equal_Stamp_Spot_7, X_maps_Equal_Stamp_Spot_8, Option.isSome_some, Bool.not_true, vload, vptr, Mem.read, p6, p7, hrs, Option.getD_some, sp_same, hss, decide_false, Bool.not_false]
          exact hQx _ _ ⟨x, hxm, by rw [hs, hgx]; intro h; exact hss (Option.some.inj h).symm⟩ hkeep (by simp only [go_sem, ↓reduceIte, Nat.reduceEqDiff, Nat.reduceLT, Nat.reduceSub])

theorem Equal_runs (M : Mem) (b1 b2 : Nat) (l l' : Tr) (hnd : (keysS l).Nodup) (ents : List MapEntry) (clock : Nat) (hl : ents.length = (keysS l).length) (hborn : Born ents clock)
    (hb1 : M.get b1 = some (.rmap (encM l) ents clock)) (hb2 : mapAt M b2 = some (encM l')) (l1 : b1 < M.next) (l2 : b2 < M.next) :
    XP F_maps_Equal_Stamp_Spot [.map (some b1), .map (some b2)] M fun v M' => v = .bool (eqB l l') ∧ ∀ c, c < M.next → M'.get c = M.get c := by
  refine XR_opq fun R hR => ?_
  refine XRuns.walk mixed Tryd.func54 b_maps_Equal_Stamp_Spot n_maps_Equal_Stamp_Spot r_maps_Equal_Stamp_Spot (by rfl) ?_
  unfold X_maps_Equal_Stamp_Spot
  have hm1 : mapAt M b1 = some (encM l) := by unfold mapAt; rw [hb1]
  by_cases hln : l.length = l'.length
  · have hlni : (l.length : Int) = (l'.length : Int) := by omega
    simp -dsimp only [↓x_seq', ↓x_ops, ↓x_skip, ↓x_ret, ↓x_exit, ↓x_block', ↓x_cond', cond_true', cond_false', ↓i_nil, ↓i_plain, ↓i_guard, xs_val, xs_call, xs_yield, xg_true, xg_false, ↓n_normal, ↓n_ret, ↓n_exit, ↓b_normal, ↓b_ret, ↓b_exit, ↓xe_normal, ↓xe_ret, e_some, yieldOf, go_sem, ↓reduceIte, Nat.reduceEqDiff, Nat.reduceLT, Nat.reduceSub, X_maps_Equal_Stamp_Spot_0, X_maps_Equal_Stamp_Spot_1, X_maps_Equal_Stamp_Spot_3, enc_lenI hm1, enc_lenI hb2, hlni, ne_eq, not_true_eq_false, decide_false]
    refine i_range (b := b1) (clock := clock) (by simp only [go_sem, ↓reduceIte, Nat.reduceEqDiff, Nat.reduceLT, Nat.reduceSub]) hb1 ?_
    have hit : (M.push (.mapIter (some b1) clock #[] clock)).get M.next = some (.mapIter (some b1) clock #[] clock) := Mem.get_push_same _ _
    have hp : ∀ c, c < M.next → (M.push (.mapIter (some b1) clock #[] clock)).get c = M.get c := fun c hc => Mem.get_push_ne _ _ (by omega)
    have hnx : (M.push (.mapIter (some b1) clock #[] clock)).next = M.next + 1 := rfl
    simp -dsimp only [↓x_seq', ↓x_ops, ↓x_skip, ↓x_ret, ↓x_exit, ↓x_block', ↓x_cond', cond_true', cond_false', ↓i_nil, ↓i_plain, ↓i_guard, xs_val, xs_call, xs_yield, xg_true, xg_false, ↓n_normal, ↓n_ret, ↓n_exit, ↓b_normal, ↓b_ret, ↓b_exit, ↓xe_normal, ↓xe_ret, e_some, yieldOf, go_sem, ↓reduceIte, Nat.reduceEqDiff, Nat.reduceLT, Nat.reduceSub]
    refine ⟨(keysS l).length + 1, Equal_loop M.next b1 b2 l l' hnd ents clock hl hborn _ ((hp _ l1).trans hb1) (mapAt_keep hb2 (hp _ l2)) (by omega) (by omega) (by omega) (by omega) _ ?_ ?_ (keysS l).length [] (List.range (keysS l).length) #[] [] _ _ (by simp) ⟨by simp, rfl, rfl⟩ (fun x hx => by cases hx) (fun _ _ _ => rfl) (Nat.le_refl _) (by omega) hit ?_ ?_⟩
    · intro fr M' hall hk
      simp -dsimp only [↓x_seq', ↓x_ops, ↓x_skip, ↓x_ret, ↓x_exit, ↓x_block', ↓x_cond', cond_true', cond_false', ↓i_nil, ↓i_plain, ↓i_guard, xs_val, xs_call, xs_yield, xg_true, xg_false, ↓n_normal, ↓n_ret, ↓n_exit, ↓b_normal, ↓b_ret, ↓b_exit, ↓xe_normal, ↓xe_ret, e_some, yieldOf, go_sem, ↓reduceIte, Nat.reduceEqDiff, Nat.reduceLT, Nat.reduceSub, X_maps_Equal_Stamp_Spot_10]
      refine hR _ _ ⟨?_, fun c hc => (hk c (by omega) (by omega)).trans (hp c hc)⟩
      rw [eqB, decide_eq_true hln, Bool.true_and, List.all_eq_true.mpr fun x hx => decide_eq_true (hall x hx)]
    · intro fr M' hex hk h4
      simp -dsimp only [↓x_seq', ↓x_ops, ↓x_skip, ↓x_ret, ↓x_exit, ↓x_block', ↓x_cond', cond_true', cond_false', ↓i_nil, ↓i_plain, ↓i_guard, xs_val, xs_call, xs_yield, xg_true, xg_false, ↓n_normal, ↓n_ret, ↓n_exit, ↓b_normal, ↓b_ret, ↓b_exit, ↓xe_normal, ↓xe_ret, e_some, yieldOf, go_sem, ↓reduceIte, Nat.reduceEqDiff, Nat.reduceLT, Nat.reduceSub, h4]
      refine hR _ _ ⟨?_, fun c hc => (hk c (by omega) (by omega)).trans (hp c hc)⟩
      obtain ⟨x, hx, hne⟩ := hex
      have : (keysS l).all (fun x => decide (getS l' x = getS l x)) = false := by
        rw [List.all_eq_false]
        exact ⟨x, hx, by simpa using hne⟩
      rw [eqB, this, Bool.and_false]
    all_goals simp only [go_sem, ↓reduceIte, Nat.reduceEqDiff, Nat.reduceLT, Nat.reduceSub]
  · have hlni : ¬ (l.length : Int) = (l'.length : Int) := by omega
    simp -dsimp only [↓x_seq', ↓x_ops, ↓x_skip, ↓x_ret, ↓x_exit, ↓x_block', ↓x_cond', cond_true', cond_false', ↓i_nil, ↓i_plain, ↓i_guard, xs_val, xs_call, xs_yield, xg_true, xg_false, ↓n_normal, ↓n_ret, ↓n_exit, ↓b_normal, ↓b_ret, ↓b_exit, ↓xe_normal, ↓xe_ret, e_some, yieldOf, go_sem, ↓reduceIte, Nat.reduceEqDiff, Nat.reduceLT, Nat.reduceSub, X_maps_Equal_Stamp_Spot_0, X_maps_Equal_Stamp_Spot_1, X_maps_Equal_Stamp_Spot_2, enc_lenI hm1, enc_lenI hb2, hlni, ne_eq, not_false_eq_true, decide_true]
    exact hR _ _ ⟨by rw [eqB, decide_eq_false hln, Bool.false_and], fun _ _ => rfl⟩

def pEqual (args : List V) (M : Mem) : Option KeepR :=
  match args with
  | [.map (some b1), .map (some b2)] => (match M.get b1, M.get b2 with
    | some (.map es), some (.map es') => (decM es).bind fun l => (decM es').bind fun l' => cond (decide (keysS l).Nodup) (some (.flat (.bool (eqB l l')))) none
    | _, _ => none)
  | _ => none
theorem pEqual_ok : CallOK Tryd.prog gl0 fun f' args M => if f' = F_maps_Equal_Stamp_Spot then (pEqual args M).map fun r => r.res M else none := by
  refine callOK_keep ⟨_, Tryd.func54, (by kernel_rfl), (by kernel_rfl)⟩ ?_
  intro args M r h hwf
  unfold pEqual at h
  split at h
  · rename_i b1 b2
    split at h
    · rename_i es es' hb1 hb2
      simp only [Option.bind_eq_some_iff] at h
      obtain ⟨l, hl, l', hl', h⟩ := h
      obtain ⟨hnd, h⟩ := cond_some h
      have hnd := of_decide_eq_true hnd
      cases h
      have e1 := decM_is hl
      have e2 := decM_is hl'
      subst e1 e2
      refine ⟨[b1], fun E w us hR hA b hb => ?_, fun Mz hz => ?_⟩
      · simp only [List.mem_singleton] at hb
        subst hb
        refine ⟨⟨_, hb1⟩, ?_⟩
        cases hA with
        | cons h1 t => cases h1 with
          | map hE => exact ⟨_, hE⟩
      · obtain ⟨es'', ents, clock, hz1, hz2, hz3, hz4⟩ := hz.at_ b1 (by simp)
        rw [hb1] at hz1
        cases hz1
        have lt1 := lt_of_get hwf hb1
        have lt2 := lt_of_get hwf hb2
        rw [← hz.next] at lt1 lt2
        have hm2 : mapAt Mz b2 = some (encM l') := by
          by_cases e : b2 = b1
          · subst e
            rw [hb1] at hb2
            simp only [Option.some.injEq, O.map.injEq] at hb2
            unfold mapAt
            rw [hz2]
            simp only [hb2]
          · unfold mapAt
            rw [hz.other b2 (by simpa using e), hb2]
        refine (Equal_runs Mz b1 b2 l l' hnd ents clock (by rw [hz3, enc_len, keys_len]) hz4 hz2 hm2 lt1 lt2).mono ?_
        intro v M' hv
        exact ⟨fun c hc => hv.2 c (by rw [hz.next]; exact hc), rfl, hv.1⟩
    · cases h
  · cases h
def D3 : Decls := D3a.addM F_maps_Equal_Stamp_Spot (fun args M => (pEqual args M).map fun r => r.res M)
theorem dok3 : DOK Tryd.prog gl0 D3 := dok3a.addM pEqual_ok
theorem le3b : D3a.le D3 := Decls.le_addM rfl (by rfl)
theorem le3 : D2.le D3 := Decls.le_trans le3a le3b

theorem Same_runs (M : Mem) (tc bm uc um : Nat) (l l' : Tr) (T : TreeIn M tc bm l) (U : TreeIn M uc um l') (hnd : (keysS l).Nodup) : Runs D3 F_tree_Tree_Same [.ptr (some (tc, 0)), .ptr (some (uc, 0))] M fun v M' => v = .bool (eqB l l') ∧ M' = M := by
  refine R_opq fun R hR => ?_
  refine Runs.walk (F := A_tree_Tree_Same) rfl (by rfl) (by rfl) ?_
  unfold A_tree_Tree_Same
  simp -dsimp only [↓w_seq, ↓w_ops, ↓w_skip, ↓w_ret, ↓w_exit, ↓w_scope, ↓w_block, ↓w_cond, cond_true', cond_false', ↓t_nil, ↓t_plain, ↓t_guard, ↓t_gagain, ↓t_again, t_val, t_call, g_true, g_false, ga_true, ga_false, a_val, a_call, ↓n_normal, ↓n_ret, ↓n_exit, ↓b_normal, ↓b_ret, ↓b_exit, ↓e_normal, ↓e_ret, e_some, go_sem, ↓reduceIte, Nat.reduceEqDiff, Nat.reduceLT, Nat.reduceSub, A_tree_Tree_Same_0, A_tree_Tree_Same_1]
  refine call_eq ((none_p (D := D2) rfl T.of).more le3) ?_
  simp -dsimp only [↓w_seq, ↓w_ops, ↓w_skip, ↓w_ret, ↓w_exit, ↓w_scope, ↓w_block, ↓w_cond, cond_true', cond_false', ↓t_nil, ↓t_plain, ↓t_guard, ↓t_gagain, ↓t_again, t_val, t_call, g_true, g_false, ga_true, ga_false, a_val, a_call, ↓n_normal, ↓n_ret, ↓n_exit, ↓b_normal, ↓b_ret, ↓b_exit, ↓e_normal, ↓e_ret, e_some, go_sem, ↓reduceIte, Nat.reduceEqDiff, Nat.reduceLT, Nat.reduceSub, Bool.not_false]
  refine call_eq ((none_p (D := D2) rfl U.of).more le3) ?_
  simp -dsimp only [↓w_seq, ↓w_ops, ↓w_skip, ↓w_ret, ↓w_exit, ↓w_scope, ↓w_block, ↓w_cond, cond_true', cond_false', ↓t_nil, ↓t_plain, ↓t_guard, ↓t_gagain, ↓t_again, t_val, t_call, g_true, g_false, ga_true, ga_false, a_val, a_call, ↓n_normal, ↓n_ret, ↓n_exit, ↓b_normal, ↓b_ret, ↓b_exit, ↓e_normal, ↓e_ret, e_some, go_sem, ↓reduceIte, Nat.reduceEqDiff, Nat.reduceLT, Nat.reduceSub, Bool.not_false, vload, vptr, Mem.read, T.c, U.c, Nat.add_zero, List.getElem?_cons_zero]
  refine call_eq (Runs.prim (v := .bool (eqB l l')) (M' := M) rfl (by
    simp only [pEqual, T.m, U.m, decM_enc, Option.bind_some, decide_eq_true hnd, cond_true, Option.map_some]
    rfl) ⟨rfl, rfl⟩) ?_
  simp -dsimp only [↓w_seq, ↓w_ops, ↓w_skip, ↓w_ret, ↓w_exit, ↓w_scope, ↓w_block, ↓w_cond, cond_true', cond_false', ↓t_nil, ↓t_plain, ↓t_guard, ↓t_gagain, ↓t_again, t_val, t_call, g_true, g_false, ga_true, ga_false, a_val, a_call, ↓n_normal, ↓n_ret, ↓n_exit, ↓b_normal, ↓b_ret, ↓b_exit, ↓e_normal, ↓e_ret, e_some, go_sem, ↓reduceIte, Nat.reduceEqDiff, Nat.reduceLT, Nat.reduceSub]
  exact hR _ _ ⟨rfl, rfl⟩
theorem eqB_self {l : Tr} : eqB l l = true := by
  rw [eqB, decide_eq_true rfl, Bool.true_and, List.all_eq_true]
  exact fun x _ => decide_eq_true rfl
end Go.Am.Tryd

/- The law TreeBack answers true. -/
namespace Go.Am.Tryd
open Go Go.Am Go.Proofs Go.Sort Go.Shelf
set_option maxRecDepth 100000
set_option linter.unusedSimpArgs false
set_option linter.unusedVariables false

/-! ### plainly: back to where it was -/
theorem put_put (n : St) (s w : Spot) : ∀ l : Tr, putS (putS l n s) n w = putS l n w
  | [] => by simp [putS]
  | p :: r => by
    by_cases h : n = p.1
    · simp [putS, h]
    · simp only [putS, h, if_false, put_put n s w r]
theorem put_get {n : St} {w : Spot} : ∀ {l : Tr}, getS l n = some w → putS l n w = l
  | [], h => by cases h
  | p :: r, h => by
    unfold getS at h
    unfold putS
    by_cases e : n = p.1
    · rw [if_pos e] at h ⊢
      cases h
      rw [e]
    · rw [if_neg e] at h ⊢
      rw [put_get h]
theorem del_put {n : St} {s : Spot} : ∀ {l : Tr}, getS l n = none → delS (putS l n s) n = l
  | [], _ => by simp [putS, delS]
  | p :: r, h => by
    unfold getS at h
    unfold putS
    by_cases e : n = p.1
    · rw [if_pos e] at h; cases h
    · rw [if_neg e] at h ⊢
      rw [delS, if_neg e, del_put h]
def RightT (l : Tr) : Prop := ∀ n s, getS l n = some s → rightSp s = true
theorem RightT.put {l : Tr} (h : RightT l) {n : St} {s : Spot} (hs : rightSp s = true) : RightT (putS l n s) := fun m t hm => by
  rw [get_put] at hm
  split at hm
  · cases hm; exact hs
  · exact h m t hm
theorem RightT.act {l : Tr} (h : RightT l) (hI : Inv l) (a : Act) : RightT (doT l a) := by
  unfold doT addT moveT dropT
  split
  · split
    · rename_i h0
      exact h.put (addE_0 h0).2.1
    · exact h
  · split
    · split
      · rename_i h0
        exact h.put (moveE_0 h0).2.1
      · exact h
    · split
      · split
        · intro m t hm
          rw [get_del _ _ _ hI.nd] at hm
          split at hm
          · cases hm
          · exact h m t hm
        · exact h
      · exact h
theorem right_acts (acts : List Act) : RightT (actsT acts) := by
  unfold actsT
  have : ∀ (acts : List Act) (l : Tr), Inv l → RightT l → RightT (acts.foldl doT l) := by
    intro acts
    induction acts with
    | nil => exact fun l _ h => h
    | cons a acts ih => exact fun l hI h => ih _ (hI.act a) (h.act hI a)
  exact this acts [] inv_nil fun _ _ h => by cases h
theorem P_hasB {l : Tr} {p : St} (h : hasP l p) : hasB l p = true := by
  unfold hasB
  rcases h with h | h | h
  · rw [h]; rfl
  · rw [h]
    have : (placeSt (0, 0) && !nodeSt (0, 0)) = true := by decide
    rw [this, Bool.or_true]
  · rw [h]
    have : (placeSt (0, 1) && !nodeSt (0, 1)) = true := by decide
    rw [this, Bool.or_true]

/-- A move that was done, the other way round. -/
theorem move_back {l : Tr} (hI : Inv l) (hR : RightT l) {n : St} {s : Spot} (h0 : moveE l n s = 0) : moveE (putS l n s) n ((getS l n).getD sp0) = 0 ∧ moveW (putS l n s) n ((getS l n).getD sp0) = s ∧ moveT (putS l n s) n ((getS l n).getD sp0) = l := by
  obtain ⟨h1, _, h3, _, _⟩ := moveE_0 h0
  cases hg : getS l n with
  | none => rw [hg] at h3; cases h3
  | some w =>
    simp only [Option.getD_some]
    have hgn : getS (putS l n s) n = some s := by rw [get_put, if_pos rfl]
    have hm : ∀ m, m ≠ n → getS (putS l n s) m = getS l m := fun m hm => by rw [get_put, if_neg hm]
    have hp := hI.path n
    have hl := hp.look
    rw [hg] at hl
    obtain ⟨r, e, hr⟩ := hl
    have hni := hp.not_mem
    rw [e] at hni
    have hr2 := path_same hm hr hni
    have hwn : w.1 ≠ n := fun e => hni (by rw [e]; exact List.mem_cons_self ..)
    have hP : hasP (putS l n s) w.1 := by
      rcases hI.par n w hg with h | h
      · exact .inl (by rw [hm _ hwn]; exact h)
      · exact .inr h
    have e0 : moveE (putS l n s) n w = 0 := by
      unfold moveE
      rw [h1, hR n w hg, hgn, P_hasB hP, ← hr2.eq]
      have : withinB (putS l n s) n w.1 r = false := by
        unfold withinB
        rw [decide_eq_false (fun h => hni (List.mem_cons_of_mem _ h)), decide_eq_false (fun h => hwn h.symm)]
        simp
      rw [this]
      rfl
    refine ⟨e0, ?_, ?_⟩
    · rw [moveW, if_pos e0, hgn]; rfl
    · rw [moveT, if_pos e0, put_put, put_get hg]
/-- What was added, dropped. -/
theorem add_back {l : Tr} (hI : Inv l) {n : St} {s : Spot} (h0 : addE l n s = 0) : dropE (putS l n s) n = 0 ∧ dropW (putS l n s) n = s ∧ dropT (putS l n s) n = l := by
  obtain ⟨h1, _, h3, h4, _⟩ := addE_0 h0
  have hgn : getS (putS l n s) n = some s := by rw [get_put, if_pos rfl]
  have hno := hI.no_up (node_pos h1) h3 (hasB_P h4)
  have hb : belowL (putS l n s) n = [] := by
    cases hbe : belowL (putS l n s) n with
    | nil => rfl
    | cons m r =>
      exfalso
      obtain ⟨t, ht, e⟩ := mem_below.mp (show m ∈ belowL (putS l n s) n by rw [hbe]; exact List.mem_cons_self ..)
      rw [get_put] at ht
      split at ht
      · cases ht
        exact hno (by rw [e]; exact List.mem_cons_self ..)
      · have hpar := hI.par m t ht
        rw [e] at hpar
        have := hI.no_up (node_pos h1) h3 hpar
        exact this (List.mem_cons_self ..)
  have e0 : dropE (putS l n s) n = 0 := by
    unfold dropE
    rw [hgn, hb]
    rfl
  refine ⟨e0, ?_, ?_⟩
  · rw [dropW, if_pos e0, hgn]; rfl
  · rw [dropT, if_pos e0, del_put h3]

theorem doK_loop (tc bm : Nat) (acts : List Act) (s : V) (M0 : Mem) (hs : SlR elAct M0 s acts) (hlt : ∀ b, s.blk = some b → acts ≠ [] → b < M0.next) (hg : isG M0 = true) (hn : 2 ≤ M0.next) (hL : acts.length ≤ 150) {Q : AExit → Fr → Mem → Prop} {x3 : V}
    (hE : ∀ fr M, LS M0 M tc bm (actsT acts) → fr.rd 3 = x3 → fr.rd 5 = .ptr (some (tc, 0)) → Q (.exit 0) fr M) :
    ∀ (f i : Nat) (fr : Fr) (M : Mem), i + f = acts.length → LS M0 M tc bm (actsT (acts.take i)) → fr.rd 0 = s → fr.rd 3 = x3 → fr.rd 5 = .ptr (some (tc, 0)) → fr.rd 6 = .int .i64 (i : Int) → WC D3 107 (.loop A_law10_TreeBack_10) fr M Q := by
  intro f
  induction f with
  | zero =>
    intro i fr M hi hS h0 h3 h5 h6
    refine WC.loop (W_of ?_)
    unfold A_law10_TreeBack_10
    obtain ⟨a, cap, rfl, _⟩ := hs
    have : ¬ (i : Int) < acts.length := by omega
    simp -dsimp only [↓w_seq, ↓w_ops, ↓w_skip, ↓w_ret, ↓w_exit, ↓w_scope, ↓w_block, ↓w_cond, cond_true', cond_false', ↓t_nil, ↓t_plain, ↓t_guard, ↓t_gagain, ↓t_again, t_val, t_call, g_true, g_false, ga_true, ga_false, a_val, a_call, ↓n_normal, ↓n_ret, ↓n_exit, ↓b_normal, ↓b_ret, ↓b_exit, ↓e_normal, ↓e_ret, e_some, go_sem, ↓reduceIte, Nat.reduceEqDiff, Nat.reduceLT, Nat.reduceSub, A_law10_TreeBack_7, h0, h6, this, decide_false]
    have : i = acts.length := by omega
    subst this
    rw [List.take_length] at hS
    exact hE _ _ hS (by simp only [go_sem, ↓reduceIte, Nat.reduceEqDiff, Nat.reduceLT, Nat.reduceSub, h3]) (by simp only [go_sem, ↓reduceIte, Nat.reduceEqDiff, Nat.reduceLT, Nat.reduceSub, h5])
  | succ f ih =>
    intro i fr M hi hS h0 h3 h5 h6
    refine WC.loop (W_of ?_)
    unfold A_law10_TreeBack_10
    have hil : i < acts.length := by omega
    obtain ⟨b, o, cs, ro, cap, rfl, hM, hr, _⟩ := act_at hs hil
    have hM' : M.get b = some (.cells cs ro) := (hS.old b (hlt b rfl (by intro h; subst h; simp at hil))).trans hM
    have e1 : (i : Int) < acts.length := by omega
    have e2 : i + 1 ≤ acts.length := by omega
    have h5' : (i : Int) + 1 = ((i + 1 : Nat) : Int) := by omega
    simp -dsimp only [↓w_seq, ↓w_ops, ↓w_skip, ↓w_ret, ↓w_exit, ↓w_scope, ↓w_block, ↓w_cond, cond_true', cond_false', ↓t_nil, ↓t_plain, ↓t_guard, ↓t_gagain, ↓t_again, t_val, t_call, g_true, g_false, ga_true, ga_false, a_val, a_call, ↓n_normal, ↓n_ret, ↓n_exit, ↓b_normal, ↓b_ret, ↓b_exit, ↓e_normal, ↓e_ret, e_some, go_sem, ↓reduceIte, Nat.reduceEqDiff, Nat.reduceLT, Nat.reduceSub, A_law10_TreeBack_7, A_law10_TreeBack_8, h0, h5, h6, e1, e2, decide_true, vload, vptr, Mem.read, hM', hr]
    refine call_of (Runs.more le3 (do_runs M tc bm _ acts[i] hS.T (hS.g hg hn) (Nat.le_trans hn hS.next) (inv_acts _) (room_small (by have := len_acts (acts.take i); rw [List.length_take] at this; omega)))) ?_
    intro v M2 hv
    simp -dsimp only [↓w_seq, ↓w_ops, ↓w_skip, ↓w_ret, ↓w_exit, ↓w_scope, ↓w_block, ↓w_cond, cond_true', cond_false', ↓t_nil, ↓t_plain, ↓t_guard, ↓t_gagain, ↓t_again, t_val, t_call, g_true, g_false, ga_true, ga_false, a_val, a_call, ↓n_normal, ↓n_ret, ↓n_exit, ↓b_normal, ↓b_ret, ↓b_exit, ↓e_normal, ↓e_ret, e_some, go_sem, ↓reduceIte, Nat.reduceEqDiff, Nat.reduceLT, Nat.reduceSub, A_law10_TreeBack_9, h6, h5', IntWalk.i64_in ((i + 1 : Nat) : Int) (by omega)]
    refine ih (i + 1) _ M2 (by omega) ?_ ?_ ?_ ?_ ?_
    · rw [take_snoc acts hil, acts_snoc]
      exact hS.chg hv.1 hv.2
    all_goals simp only [go_sem, ↓reduceIte, Nat.reduceEqDiff, Nat.reduceLT, Nat.reduceSub, h0, h3, h5]


/-! ### the walk -/
structure BK (M : Mem) (tc bm uc um b3 : Nat) (l lu : Tr) (a : Act) : Prop where
  T : TreeIn M tc bm l
  U : TreeIn M uc um lu
  b : M.get b3 = some (.cells (actC a) false)
  bl : b3 < M.next
  ne1 : uc ≠ bm
  ne2 : um ≠ bm
  ne3 : b3 ≠ bm
  g : isG M = true
  n2 : 2 ≤ M.next
  bm2 : 2 ≤ bm
theorem BK.grew {M M' : Mem} {tc bm uc um b3 : Nat} {l lu : Tr} {a : Act} (h : BK M tc bm uc um b3 l lu a) (hG : Grew M M') : BK M' tc bm uc um b3 l lu a :=
  ⟨h.T.grew hG, h.U.grew hG, (hG.old _ h.bl).trans h.b, Nat.lt_of_lt_of_le h.bl hG.next, h.ne1, h.ne2, h.ne3, isG_keep h.g h.n2 hG.old, Nat.le_trans h.n2 hG.next, h.bm2⟩
theorem BK.chg {M M' : Mem} {tc bm uc um b3 : Nat} {l l' lu : Tr} {a : Act} (h : BK M tc bm uc um b3 l lu a) (hC : Chg M bm M') (hT : TreeIn M' tc bm l') : BK M' tc bm uc um b3 l' lu a :=
  ⟨hT, ⟨(hC.old _ h.U.tl h.ne1).trans h.U.c, (hC.old _ h.U.bl h.ne2).trans h.U.m, Nat.lt_of_lt_of_le h.U.tl hC.next, Nat.lt_of_lt_of_le h.U.bl hC.next⟩, (hC.old _ h.bl h.ne3).trans h.b, Nat.lt_of_lt_of_le h.bl hC.next, h.ne1, h.ne2, h.ne3,
    isG_mk ((hC.old 0 (by have := h.n2; omega) (by have := h.bm2; omega)).trans (isG_is h.g).1) ((hC.old 1 (by have := h.n2; omega) (by have := h.bm2; omega)).trans (isG_is h.g).2), Nat.le_trans h.n2 hC.next, h.bm2⟩
theorem BK.new {M : Mem} {tc bm uc um b3 b' : Nat} {l lu : Tr} {a : Act} {o : O} (h : BK M tc bm uc um b3 l lu a) (h1 : b' ≠ tc) (h2 : b' ≠ bm) (h3 : b' ≠ uc) (h4 : b' ≠ um) (h5 : b' ≠ b3) (h6 : 2 ≤ b') : BK (M.set b' o) tc bm uc um b3 l lu a :=
  ⟨⟨(Mem.get_set_ne _ _ h1.symm).trans h.T.c, (Mem.get_set_ne _ _ h2.symm).trans h.T.m, h.T.tl, h.T.bl⟩, ⟨(Mem.get_set_ne _ _ h3.symm).trans h.U.c, (Mem.get_set_ne _ _ h4.symm).trans h.U.m, h.U.tl, h.U.bl⟩, (Mem.get_set_ne _ _ h5.symm).trans h.b, h.bl, h.ne1, h.ne2, h.ne3,
    isG_mk ((Mem.get_set_ne _ _ (by omega)).trans (isG_is h.g).1) ((Mem.get_set_ne _ _ (by omega)).trans (isG_is h.g).2), h.n2, h.bm2⟩
theorem BK.push_set {M M' : Mem} {tc bm uc um b3 : Nat} {l lu : Tr} {a : Act} {o : O} (h : BK M tc bm uc um b3 l lu a) {M1 : Mem} {lu' l' : Tr} (h' : BK M1 tc bm uc um b3 l' lu' a) : BK (M1.set M.next o) tc bm uc um b3 l' lu' a :=
  h'.new (by have := h.T.tl; omega) (by have := h.T.bl; omega) (by have := h.U.tl; omega) (by have := h.U.bl; omega) (by have := h.bl; omega) h.n2

theorem back12 (tc bm uc um b3 : Nat) (l lu : Tr) (n : St) (s : Spot) (k : Int) (M : Mem) (h : BK M tc bm uc um b3 l lu (k, n, s)) (hI : Inv l) {K : Fr → Mem → Prop}
    (hK : ∀ fr M' b8, BK M' tc bm uc um b3 (moveT l n s) lu (k, n, s) → M'.get b8 = some (.cells (spC (moveW l n s)) false) → b8 < M'.next → fr.rd 3 = .ptr (some (b3, 0)) → fr.rd 5 = .ptr (some (tc, 0)) → fr.rd 7 = .ptr (some (uc, 0)) → fr.rd 8 = .ptr (some (b8, 0)) → fr.rd 9 = .int .i64 (moveE l n s : Int) → K fr M')
    (fr : Fr) (h3 : fr.rd 3 = .ptr (some (b3, 0))) (h5 : fr.rd 5 = .ptr (some (tc, 0))) (h7 : fr.rd 7 = .ptr (some (uc, 0))) : WT D3 107 A_law10_TreeBack_12 fr M (K := K) ⟨⟩ := by
  have r1 : rdCells (actC (k, n, s)) 1 2 = some (stC n) := rfl
  have r3 : rdCells (actC (k, n, s)) 3 3 = some (spC s) := rfl
  have hcs : ∀ s, V.cells (.agg (spC s)) = spC s := fun _ => rfl
  have hb := h.b
  have hp := h.grew (Grew.push M (.cells [.int .i64 0, .int .i64 0, .str []] false))
  have hMp := hp.b
  have g8 : (M.push (.cells [.int .i64 0, .int .i64 0, .str []] false)).get M.next = some (.cells (spC sp0) false) := Mem.get_push_same _ _
  have hnp : (M.push (.cells [.int .i64 0, .int .i64 0, .str []] false)).next = M.next + 1 := rfl
  simp -dsimp only [↓w_seq, ↓w_ops, ↓w_skip, ↓w_ret, ↓w_exit, ↓w_scope, ↓w_block, ↓w_cond, cond_true', cond_false', ↓t_nil, ↓t_plain, ↓t_guard, ↓t_gagain, ↓t_again, t_val, t_call, g_true, g_false, ga_true, ga_false, a_val, a_call, ↓n_normal, ↓n_ret, ↓n_exit, ↓b_normal, ↓b_ret, ↓b_exit, ↓e_normal, ↓e_ret, e_some, go_sem, ↓reduceIte, Nat.reduceEqDiff, Nat.reduceLT, Nat.reduceSub, A_law10_TreeBack_12, h3, h5, vload, vptr, Mem.read, hb, r1, r3, Nat.zero_add]
  generalize M.push (.cells [.int .i64 0, .int .i64 0, .str []] false) = Mp at *
  refine callA_by (k := ⟨⟩) (l' := ⟨⟩) (g' := ⟨⟩) ((own_p (D := D2) rfl s).more le3) ?_
  intro v M2 hv
  rw [hv.1, hv.2]
  clear hv
  refine ⟨?_, ?_⟩
  · simp only [List.all_cons, List.all_nil, Bool.and_true, againOk, wantedA, cond_true, go_sem, ↓reduceIte, Nat.reduceEqDiff, Nat.reduceLT, Nat.reduceSub, vload, vptr, Mem.read, hMp, g8, r1, sameCells, Nat.zero_add, V.beq, V.beq_self, V.beqs_self, Bool.and_self, Nat.reduceAdd, Nat.reduceLeDiff, decide_true, cond_true]
  simp -dsimp only [↓w_seq, ↓w_ops, ↓w_skip, ↓w_ret, ↓w_exit, ↓w_scope, ↓w_block, ↓w_cond, cond_true', cond_false', ↓t_nil, ↓t_plain, ↓t_guard, ↓t_gagain, ↓t_again, t_val, t_call, g_true, g_false, ga_true, ga_false, a_val, a_call, ↓n_normal, ↓n_ret, ↓n_exit, ↓b_normal, ↓b_ret, ↓b_exit, ↓e_normal, ↓e_ret, e_some, go_sem, ↓reduceIte, Nat.reduceEqDiff, Nat.reduceLT, Nat.reduceSub]
  refine callA_by (k := ⟨⟩) (l' := ⟨⟩) (g' := ⟨⟩) ((Move_runs Mp tc bm l n s hp.T hp.g hp.n2 hI).more le3) ?_
  intro v M2 hv
  rw [hv.1]
  have hC := hv.2.1
  have hT2 := hv.2.2
  clear hv
  have hbm := h.T.bl
  have g82 := (hC.old _ (by omega) (by omega)).trans g8
  refine ⟨?_, ?_⟩
  · simp only [List.all_cons, List.all_nil, Bool.and_true, againOk, wantedA, cond_true, go_sem, ↓reduceIte, Nat.reduceEqDiff, Nat.reduceLT, Nat.reduceSub, g82, g8, sameCells, Nat.zero_add, V.beq, V.beq_self, V.beqs_self, Bool.and_self, Nat.reduceAdd, Nat.reduceLeDiff, decide_true, cond_true]
  have hw := write_full (vs := spC (moveW l n s)) g82 rfl rfl
  have h2 := h.push_set (o := .cells (spC (moveW l n s)) false) (M' := M2) (hp.chg hC hT2)
  have hs := Mem.get_set_same M2 M.next (.cells (spC (moveW l n s)) false)
  have hlt : M.next < (M2.set M.next (.cells (spC (moveW l n s)) false)).next := by have := hC.next; rw [Mem.next_set]; omega
  simp -dsimp only [↓w_seq, ↓w_ops, ↓w_skip, ↓w_ret, ↓w_exit, ↓w_scope, ↓w_block, ↓w_cond, cond_true', cond_false', ↓t_nil, ↓t_plain, ↓t_guard, ↓t_gagain, ↓t_again, t_val, t_call, g_true, g_false, ga_true, ga_false, a_val, a_call, ↓n_normal, ↓n_ret, ↓n_exit, ↓b_normal, ↓b_ret, ↓b_exit, ↓e_normal, ↓e_ret, e_some, go_sem, ↓reduceIte, Nat.reduceEqDiff, Nat.reduceLT, Nat.reduceSub, List.getElem?_cons_zero, List.getElem?_cons_succ, vstore, hcs, spC_len, hw, Nat.reduceEqDiff]
  refine hK _ _ _ h2 hs hlt ?_ ?_ ?_ ?_ ?_
  all_goals simp only [go_sem, ↓reduceIte, Nat.reduceEqDiff, Nat.reduceLT, Nat.reduceSub, h3, h5, h7]

theorem back14 (tc bm uc um b3 b8 : Nat) (l lu : Tr) (n : St) (s w : Spot) (k : Int) (M : Mem) (h : BK M tc bm uc um b3 l lu (k, n, s)) (h8 : M.get b8 = some (.cells (spC w) false)) (hI : Inv l) {K : Fr → Mem → Prop}
    (hK : ∀ fr M' b10, BK M' tc bm uc um b3 (moveT l n w) lu (k, n, s) → M'.get b10 = some (.cells (spC (moveW l n w)) false) → fr.rd 3 = .ptr (some (b3, 0)) → fr.rd 5 = .ptr (some (tc, 0)) → fr.rd 7 = .ptr (some (uc, 0)) → fr.rd 10 = .ptr (some (b10, 0)) → fr.rd 11 = .int .i64 (moveE l n w : Int) → K fr M')
    (fr : Fr) (h3 : fr.rd 3 = .ptr (some (b3, 0))) (h5 : fr.rd 5 = .ptr (some (tc, 0))) (h7 : fr.rd 7 = .ptr (some (uc, 0))) (hf8 : fr.rd 8 = .ptr (some (b8, 0))) : WT D3 107 A_law10_TreeBack_14 fr M (K := K) ⟨⟩ := by
  have r1 : rdCells (actC (k, n, s)) 1 2 = some (stC n) := rfl
  have hrs : ∀ s, rdCells (spC s) 0 3 = some (spC s) := fun _ => rfl
  have hcs : ∀ s, V.cells (.agg (spC s)) = spC s := fun _ => rfl
  have hb := h.b
  simp -dsimp only [↓w_seq, ↓w_ops, ↓w_skip, ↓w_ret, ↓w_exit, ↓w_scope, ↓w_block, ↓w_cond, cond_true', cond_false', ↓t_nil, ↓t_plain, ↓t_guard, ↓t_gagain, ↓t_again, t_val, t_call, g_true, g_false, ga_true, ga_false, a_val, a_call, ↓n_normal, ↓n_ret, ↓n_exit, ↓b_normal, ↓b_ret, ↓b_exit, ↓e_normal, ↓e_ret, e_some, go_sem, ↓reduceIte, Nat.reduceEqDiff, Nat.reduceLT, Nat.reduceSub, A_law10_TreeBack_14, h3, h5, hf8, vload, vptr, Mem.read, hb, h8, hrs, r1, Nat.zero_add]
  refine call_of ((Move_runs M tc bm l n w h.T h.g h.n2 hI).more le3) ?_
  intro v M2 hv
  rw [hv.1]
  have h2 := h.chg hv.2.1 hv.2.2
  clear hv
  have hw := write_full (M := M2.push (.cells [.int .i64 0, .int .i64 0, .str []] false)) (b := M2.next) (vs := spC (moveW l n w)) (Mem.get_push_same _ _) rfl rfl
  have h4 := h2.push_set (o := .cells (spC (moveW l n w)) false) (M' := M2) (h2.grew (Grew.push M2 (.cells [.int .i64 0, .int .i64 0, .str []] false)))
  have hs := Mem.get_set_same (M2.push (.cells [.int .i64 0, .int .i64 0, .str []] false)) M2.next (.cells (spC (moveW l n w)) false)
  simp -dsimp only [↓w_seq, ↓w_ops, ↓w_skip, ↓w_ret, ↓w_exit, ↓w_scope, ↓w_block, ↓w_cond, cond_true', cond_false', ↓t_nil, ↓t_plain, ↓t_guard, ↓t_gagain, ↓t_again, t_val, t_call, g_true, g_false, ga_true, ga_false, a_val, a_call, ↓n_normal, ↓n_ret, ↓n_exit, ↓b_normal, ↓b_ret, ↓b_exit, ↓e_normal, ↓e_ret, e_some, go_sem, ↓reduceIte, Nat.reduceEqDiff, Nat.reduceLT, Nat.reduceSub, List.getElem?_cons_zero, List.getElem?_cons_succ, vstore, hcs, spC_len, hw, Nat.reduceEqDiff]
  refine hK _ _ _ h4 hs ?_ ?_ ?_ ?_ ?_
  all_goals simp only [go_sem, ↓reduceIte, Nat.reduceEqDiff, Nat.reduceLT, Nat.reduceSub, h3, h5, h7]

theorem back20 (tc bm uc um b3 : Nat) (l lu : Tr) (n : St) (s : Spot) (k : Int) (M : Mem) (h : BK M tc bm uc um b3 l lu (k, n, s)) (hN : (l.length + 1) * 16 ≤ maxRoom) {K : Fr → Mem → Prop}
    (hK : ∀ fr M' b12, BK M' tc bm uc um b3 (dropT l n) lu (k, n, s) → M'.get b12 = some (.cells (spC (dropW l n)) false) → fr.rd 3 = .ptr (some (b3, 0)) → fr.rd 5 = .ptr (some (tc, 0)) → fr.rd 7 = .ptr (some (uc, 0)) → fr.rd 12 = .ptr (some (b12, 0)) → fr.rd 13 = .int .i64 (dropE l n : Int) → K fr M')
    (fr : Fr) (h3 : fr.rd 3 = .ptr (some (b3, 0))) (h5 : fr.rd 5 = .ptr (some (tc, 0))) (h7 : fr.rd 7 = .ptr (some (uc, 0))) : WT D3 107 A_law10_TreeBack_20 fr M (K := K) ⟨⟩ := by
  have r1 : rdCells (actC (k, n, s)) 1 2 = some (stC n) := rfl
  have hcs : ∀ s, V.cells (.agg (spC s)) = spC s := fun _ => rfl
  have hb := h.b
  simp -dsimp only [↓w_seq, ↓w_ops, ↓w_skip, ↓w_ret, ↓w_exit, ↓w_scope, ↓w_block, ↓w_cond, cond_true', cond_false', ↓t_nil, ↓t_plain, ↓t_guard, ↓t_gagain, ↓t_again, t_val, t_call, g_true, g_false, ga_true, ga_false, a_val, a_call, ↓n_normal, ↓n_ret, ↓n_exit, ↓b_normal, ↓b_ret, ↓b_exit, ↓e_normal, ↓e_ret, e_some, go_sem, ↓reduceIte, Nat.reduceEqDiff, Nat.reduceLT, Nat.reduceSub, A_law10_TreeBack_20, h3, h5, vload, vptr, Mem.read, hb, r1, Nat.zero_add]
  refine call_of ((Drop_runs M tc bm l n h.T hN).more le3) ?_
  intro v M2 hv
  rw [hv.1]
  have h2 := h.chg hv.2.1 hv.2.2
  clear hv
  have hw := write_full (M := M2.push (.cells [.int .i64 0, .int .i64 0, .str []] false)) (b := M2.next) (vs := spC (dropW l n)) (Mem.get_push_same _ _) rfl rfl
  have h4 := h2.push_set (o := .cells (spC (dropW l n)) false) (M' := M2) (h2.grew (Grew.push M2 (.cells [.int .i64 0, .int .i64 0, .str []] false)))
  have hs := Mem.get_set_same (M2.push (.cells [.int .i64 0, .int .i64 0, .str []] false)) M2.next (.cells (spC (dropW l n)) false)
  simp -dsimp only [↓w_seq, ↓w_ops, ↓w_skip, ↓w_ret, ↓w_exit, ↓w_scope, ↓w_block, ↓w_cond, cond_true', cond_false', ↓t_nil, ↓t_plain, ↓t_guard, ↓t_gagain, ↓t_again, t_val, t_call, g_true, g_false, ga_true, ga_false, a_val, a_call, ↓n_normal, ↓n_ret, ↓n_exit, ↓b_normal, ↓b_ret, ↓b_exit, ↓e_normal, ↓e_ret, e_some, go_sem, ↓reduceIte, Nat.reduceEqDiff, Nat.reduceLT, Nat.reduceSub, List.getElem?_cons_zero, List.getElem?_cons_succ, vstore, hcs, spC_len, hw, Nat.reduceEqDiff]
  refine hK _ _ _ h4 hs ?_ ?_ ?_ ?_ ?_
  all_goals simp only [go_sem, ↓reduceIte, Nat.reduceEqDiff, Nat.reduceLT, Nat.reduceSub, h3, h5, h7]

theorem back15 (b3 b10 : Nat) (n : St) (s : Spot) (k : Int) (M : Mem) (hb : M.get b3 = some (.cells (actC (k, n, s)) false)) (h10 : M.get b10 = some (.cells (spC s) false)) {K : Fr → Mem → Prop} {x5 x7 : V}
    (hK : ∀ fr, fr.rd 3 = .ptr (some (b3, 0)) → fr.rd 5 = x5 → fr.rd 7 = x7 → fr.rd 73 = .bool false → K fr M)
    (fr : Fr) (h3 : fr.rd 3 = .ptr (some (b3, 0))) (h5 : fr.rd 5 = x5) (h7 : fr.rd 7 = x7) (hf10 : fr.rd 10 = .ptr (some (b10, 0))) (h11 : fr.rd 11 = .int .i64 0) : WT D3 107 A_law10_TreeBack_15 fr M (K := K) ⟨⟩ := by
  have r3 : rdCells (actC (k, n, s)) 3 3 = some (spC s) := rfl
  have hrs : ∀ s, rdCells (spC s) 0 3 = some (spC s) := fun _ => rfl
  simp -dsimp only [↓w_seq, ↓w_ops, ↓w_skip, ↓w_ret, ↓w_exit, ↓w_scope, ↓w_block, ↓w_cond, cond_true', cond_false', ↓t_nil, ↓t_plain, ↓t_guard, ↓t_gagain, ↓t_again, t_val, t_call, g_true, g_false, ga_true, ga_false, a_val, a_call, ↓n_normal, ↓n_ret, ↓n_exit, ↓b_normal, ↓b_ret, ↓b_exit, ↓e_normal, ↓e_ret, e_some, go_sem, ↓reduceIte, Nat.reduceEqDiff, Nat.reduceLT, Nat.reduceSub, A_law10_TreeBack_15, h11]
  refine call_eq ((num_p M 0).more le3) ?_
  simp -dsimp only [↓w_seq, ↓w_ops, ↓w_skip, ↓w_ret, ↓w_exit, ↓w_scope, ↓w_block, ↓w_cond, cond_true', cond_false', ↓t_nil, ↓t_plain, ↓t_guard, ↓t_gagain, ↓t_again, t_val, t_call, g_true, g_false, ga_true, ga_false, a_val, a_call, ↓n_normal, ↓n_ret, ↓n_exit, ↓b_normal, ↓b_ret, ↓b_exit, ↓e_normal, ↓e_ret, e_some, go_sem, ↓reduceIte, Nat.reduceEqDiff, Nat.reduceLT, Nat.reduceSub, ne_eq, not_true_eq_false, decide_false, h3, hf10, vload, vptr, Mem.read, hb, h10, hrs, r3, Nat.zero_add]
  refine callA_by (k := ⟨⟩) (l' := ⟨⟩) (g' := ⟨⟩) ((own_p (D := D2) rfl s).more le3) ?_
  intro v M2 hv
  rw [hv.1, hv.2]
  clear hv
  refine ⟨?_, ?_⟩
  · simp only [List.all_cons, List.all_nil, Bool.and_true, againOk, wantedA, cond_true, go_sem, ↓reduceIte, Nat.reduceEqDiff, Nat.reduceLT, Nat.reduceSub, vload, vptr, Mem.read, hf10, h10, hrs, sameCells, Nat.zero_add, V.beq, V.beq_self, V.beqs_self, Bool.and_self, Nat.reduceAdd, Nat.reduceLeDiff, decide_true, cond_true, Bool.not_false]
  simp -dsimp only [↓w_seq, ↓w_ops, ↓w_skip, ↓w_ret, ↓w_exit, ↓w_scope, ↓w_block, ↓w_cond, cond_true', cond_false', ↓t_nil, ↓t_plain, ↓t_guard, ↓t_gagain, ↓t_again, t_val, t_call, g_true, g_false, ga_true, ga_false, a_val, a_call, ↓n_normal, ↓n_ret, ↓n_exit, ↓b_normal, ↓b_ret, ↓b_exit, ↓e_normal, ↓e_ret, e_some, go_sem, ↓reduceIte, Nat.reduceEqDiff, Nat.reduceLT, Nat.reduceSub, sp_same, decide_true, Bool.not_true]
  refine hK _ ?_ ?_ ?_ ?_
  all_goals simp only [go_sem, ↓reduceIte, Nat.reduceEqDiff, Nat.reduceLT, Nat.reduceSub, h3, h5, h7]
theorem back21 (b3 b12 : Nat) (n : St) (s : Spot) (k : Int) (M : Mem) (hb : M.get b3 = some (.cells (actC (k, n, s)) false)) (h12 : M.get b12 = some (.cells (spC s) false)) {K : Fr → Mem → Prop} {x5 x7 : V}
    (hK : ∀ fr, fr.rd 3 = .ptr (some (b3, 0)) → fr.rd 5 = x5 → fr.rd 7 = x7 → fr.rd 103 = .bool false → K fr M)
    (fr : Fr) (h3 : fr.rd 3 = .ptr (some (b3, 0))) (h5 : fr.rd 5 = x5) (h7 : fr.rd 7 = x7) (hf12 : fr.rd 12 = .ptr (some (b12, 0))) (h13 : fr.rd 13 = .int .i64 0) : WT D3 107 A_law10_TreeBack_21 fr M (K := K) ⟨⟩ := by
  have r3 : rdCells (actC (k, n, s)) 3 3 = some (spC s) := rfl
  have hrs : ∀ s, rdCells (spC s) 0 3 = some (spC s) := fun _ => rfl
  simp -dsimp only [↓w_seq, ↓w_ops, ↓w_skip, ↓w_ret, ↓w_exit, ↓w_scope, ↓w_block, ↓w_cond, cond_true', cond_false', ↓t_nil, ↓t_plain, ↓t_guard, ↓t_gagain, ↓t_again, t_val, t_call, g_true, g_false, ga_true, ga_false, a_val, a_call, ↓n_normal, ↓n_ret, ↓n_exit, ↓b_normal, ↓b_ret, ↓b_exit, ↓e_normal, ↓e_ret, e_some, go_sem, ↓reduceIte, Nat.reduceEqDiff, Nat.reduceLT, Nat.reduceSub, A_law10_TreeBack_21, h13]
  refine call_eq ((num_p M 0).more le3) ?_
  simp -dsimp only [↓w_seq, ↓w_ops, ↓w_skip, ↓w_ret, ↓w_exit, ↓w_scope, ↓w_block, ↓w_cond, cond_true', cond_false', ↓t_nil, ↓t_plain, ↓t_guard, ↓t_gagain, ↓t_again, t_val, t_call, g_true, g_false, ga_true, ga_false, a_val, a_call, ↓n_normal, ↓n_ret, ↓n_exit, ↓b_normal, ↓b_ret, ↓b_exit, ↓e_normal, ↓e_ret, e_some, go_sem, ↓reduceIte, Nat.reduceEqDiff, Nat.reduceLT, Nat.reduceSub, ne_eq, not_true_eq_false, decide_false, h3, hf12, vload, vptr, Mem.read, hb, h12, hrs, r3, Nat.zero_add]
  refine callA_by (k := ⟨⟩) (l' := ⟨⟩) (g' := ⟨⟩) ((own_p (D := D2) rfl s).more le3) ?_
  intro v M2 hv
  rw [hv.1, hv.2]
  clear hv
  refine ⟨?_, ?_⟩
  · simp only [List.all_cons, List.all_nil, Bool.and_true, againOk, wantedA, cond_true, go_sem, ↓reduceIte, Nat.reduceEqDiff, Nat.reduceLT, Nat.reduceSub, vload, vptr, Mem.read, hf12, h12, hrs, sameCells, Nat.zero_add, V.beq, V.beq_self, V.beqs_self, Bool.and_self, Nat.reduceAdd, Nat.reduceLeDiff, decide_true, cond_true, Bool.not_false]
  simp -dsimp only [↓w_seq, ↓w_ops, ↓w_skip, ↓w_ret, ↓w_exit, ↓w_scope, ↓w_block, ↓w_cond, cond_true', cond_false', ↓t_nil, ↓t_plain, ↓t_guard, ↓t_gagain, ↓t_again, t_val, t_call, g_true, g_false, ga_true, ga_false, a_val, a_call, ↓n_normal, ↓n_ret, ↓n_exit, ↓b_normal, ↓b_ret, ↓b_exit, ↓e_normal, ↓e_ret, e_some, go_sem, ↓reduceIte, Nat.reduceEqDiff, Nat.reduceLT, Nat.reduceSub, sp_same, decide_true, Bool.not_true]
  refine hK _ ?_ ?_ ?_ ?_
  all_goals simp only [go_sem, ↓reduceIte, Nat.reduceEqDiff, Nat.reduceLT, Nat.reduceSub, h3, h5, h7]
end Go.Am.Tryd

/- The law TreeBack answers true: the whole. -/
namespace Go.Am.Tryd
open Go Go.Am Go.Proofs Go.Sort Go.Shelf
set_option maxRecDepth 100000
set_option linter.unusedSimpArgs false
set_option linter.unusedVariables false

theorem moveT_of {l : Tr} {n : St} {s : Spot} (h : moveE l n s ≠ 0) : moveT l n s = l := by rw [moveT, if_neg h]
theorem addT_of {l : Tr} {n : St} {s : Spot} (h : addE l n s ≠ 0) : addT l n s = l := by rw [addT, if_neg h]

/-- From the second half on: the tree as it was. -/
theorem back_rest (tc bm uc um b3 : Nat) (l : Tr) (hI : Inv l) (hl : l.length ≤ 150) (n : St) (s : Spot) (k : Int) (M : Mem) (h : BK M tc bm uc um b3 l l (k, n, s)) {R : V → Mem → Prop} (hR : ∀ M, R (.bool true) M) (fr : Fr) (h3 : fr.rd 3 = .ptr (some (b3, 0))) (h5 : fr.rd 5 = .ptr (some (tc, 0))) (h7 : fr.rd 7 = .ptr (some (uc, 0))) :
    W D3 107 (.seq (.seq (.ops A_law10_TreeBack_17) (.cond (r 77) (.seq (.ops A_law10_TreeBack_18) .ret) .skip)) (.seq (.seq (.ops A_law10_TreeBack_19) (.cond (r 86) (.seq (.ops A_law10_TreeBack_20) (.seq (.ops A_law10_TreeBack_21) (.cond (r 103) (.seq (.ops A_law10_TreeBack_22) .ret) .skip))) .skip)) (.seq (.ops A_law10_TreeBack_23) .ret))) fr M (Q := endQ [.tmp 4] R) ⟨⟩ := by
  have r1 : rdCells (actC (k, n, s)) 1 2 = some (stC n) := rfl
  have r3 : rdCells (actC (k, n, s)) 3 3 = some (spC s) := rfl
  have hb := h.b
  simp -dsimp only [↓w_seq, ↓w_ops, ↓w_skip, ↓w_ret, ↓w_exit, ↓w_scope, ↓w_block, ↓w_cond, cond_true', cond_false', ↓t_nil, ↓t_plain, ↓t_guard, ↓t_gagain, ↓t_again, t_val, t_call, g_true, g_false, ga_true, ga_false, a_val, a_call, ↓n_normal, ↓n_ret, ↓n_exit, ↓b_normal, ↓b_ret, ↓b_exit, ↓e_normal, ↓e_ret, e_some, go_sem, ↓reduceIte, Nat.reduceEqDiff, Nat.reduceLT, Nat.reduceSub, A_law10_TreeBack_17, h5, h7]
  refine call_eq (Same_runs M tc bm uc um l l h.T h.U hI.nd) ?_
  rw [eqB_self]
  simp -dsimp only [↓w_seq, ↓w_ops, ↓w_skip, ↓w_ret, ↓w_exit, ↓w_scope, ↓w_block, ↓w_cond, cond_true', cond_false', ↓t_nil, ↓t_plain, ↓t_guard, ↓t_gagain, ↓t_again, t_val, t_call, g_true, g_false, ga_true, ga_false, a_val, a_call, ↓n_normal, ↓n_ret, ↓n_exit, ↓b_normal, ↓b_ret, ↓b_exit, ↓e_normal, ↓e_ret, e_some, go_sem, ↓reduceIte, Nat.reduceEqDiff, Nat.reduceLT, Nat.reduceSub, Bool.not_true]
  refine WT_abs (fun fr => fr.rd 3 = .ptr (some (b3, 0)) ∧ fr.rd 5 = .ptr (some (tc, 0)) ∧ fr.rd 7 = .ptr (some (uc, 0))) ⟨by simp only [go_sem, ↓reduceIte, Nat.reduceEqDiff, Nat.reduceLT, Nat.reduceSub, h3], by simp only [go_sem, ↓reduceIte, Nat.reduceEqDiff, Nat.reduceLT, Nat.reduceSub, h5], by simp only [go_sem, ↓reduceIte, Nat.reduceEqDiff, Nat.reduceLT, Nat.reduceSub, h7]⟩ ?_
  clear h3 h5 h7 fr
  intro fr hfr
  obtain ⟨h3, h5, h7⟩ := hfr
  simp -dsimp only [↓w_seq, ↓w_ops, ↓w_skip, ↓w_ret, ↓w_exit, ↓w_scope, ↓w_block, ↓w_cond, cond_true', cond_false', ↓t_nil, ↓t_plain, ↓t_guard, ↓t_gagain, ↓t_again, t_val, t_call, g_true, g_false, ga_true, ga_false, a_val, a_call, ↓n_normal, ↓n_ret, ↓n_exit, ↓b_normal, ↓b_ret, ↓b_exit, ↓e_normal, ↓e_ret, e_some, go_sem, ↓reduceIte, Nat.reduceEqDiff, Nat.reduceLT, Nat.reduceSub, A_law10_TreeBack_19, h3, h5, vload, vptr, Mem.read, hb, r1, r3, Nat.zero_add]
  refine callA_by (k := ⟨⟩) (l' := ⟨⟩) (g' := ⟨⟩) ((own_p (D := D2) rfl s).more le3) ?_
  intro v M2 hv
  rw [hv.1, hv.2]
  clear hv
  refine ⟨?_, ?_⟩
  · simp only [List.all_cons, List.all_nil, Bool.and_true, againOk, wantedA, cond_true, go_sem, ↓reduceIte, Nat.reduceEqDiff, Nat.reduceLT, Nat.reduceSub, vload, vptr, Mem.read, hb, r1, sameCells, Nat.zero_add, V.beq, V.beq_self, V.beqs_self, Bool.and_self, Nat.reduceAdd, Nat.reduceLeDiff, decide_true, cond_true]
  simp -dsimp only [↓w_seq, ↓w_ops, ↓w_skip, ↓w_ret, ↓w_exit, ↓w_scope, ↓w_block, ↓w_cond, cond_true', cond_false', ↓t_nil, ↓t_plain, ↓t_guard, ↓t_gagain, ↓t_again, t_val, t_call, g_true, g_false, ga_true, ga_false, a_val, a_call, ↓n_normal, ↓n_ret, ↓n_exit, ↓b_normal, ↓b_ret, ↓b_exit, ↓e_normal, ↓e_ret, e_some, go_sem, ↓reduceIte, Nat.reduceEqDiff, Nat.reduceLT, Nat.reduceSub]
  refine call_of ((Add_runs M tc bm l n s h.T h.g h.n2).more le3) ?_
  intro v M3 hv
  rw [hv.1]
  have hB := h.chg hv.2.1 hv.2.2
  clear hv
  simp -dsimp only [↓w_seq, ↓w_ops, ↓w_skip, ↓w_ret, ↓w_exit, ↓w_scope, ↓w_block, ↓w_cond, cond_true', cond_false', ↓t_nil, ↓t_plain, ↓t_guard, ↓t_gagain, ↓t_again, t_val, t_call, g_true, g_false, ga_true, ga_false, a_val, a_call, ↓n_normal, ↓n_ret, ↓n_exit, ↓b_normal, ↓b_ret, ↓b_exit, ↓e_normal, ↓e_ret, e_some, go_sem, ↓reduceIte, Nat.reduceEqDiff, Nat.reduceLT, Nat.reduceSub]
  refine call_eq ((num_p M3 (addE l n s : Int)).more le3) ?_
  have fin : ∀ (fr : Fr) (M : Mem), BK M tc bm uc um b3 l l (k, n, s) → fr.rd 5 = .ptr (some (tc, 0)) → fr.rd 7 = .ptr (some (uc, 0)) → WT D3 107 A_law10_TreeBack_23 fr M (K := nextQ (fun fr M => W D3 107 .ret fr M (Q := endQ [.tmp 4] R) ⟨⟩) (endQ [.tmp 4] R) .normal) ⟨⟩ := by
    intro fr M hB h5 h7
    simp -dsimp only [↓w_seq, ↓w_ops, ↓w_skip, ↓w_ret, ↓w_exit, ↓w_scope, ↓w_block, ↓w_cond, cond_true', cond_false', ↓t_nil, ↓t_plain, ↓t_guard, ↓t_gagain, ↓t_again, t_val, t_call, g_true, g_false, ga_true, ga_false, a_val, a_call, ↓n_normal, ↓n_ret, ↓n_exit, ↓b_normal, ↓b_ret, ↓b_exit, ↓e_normal, ↓e_ret, e_some, go_sem, ↓reduceIte, Nat.reduceEqDiff, Nat.reduceLT, Nat.reduceSub, A_law10_TreeBack_23, h5, h7]
    refine call_eq (Same_runs M tc bm uc um l l hB.T hB.U hI.nd) ?_
    rw [eqB_self]
    simp -dsimp only [↓w_seq, ↓w_ops, ↓w_skip, ↓w_ret, ↓w_exit, ↓w_scope, ↓w_block, ↓w_cond, cond_true', cond_false', ↓t_nil, ↓t_plain, ↓t_guard, ↓t_gagain, ↓t_again, t_val, t_call, g_true, g_false, ga_true, ga_false, a_val, a_call, ↓n_normal, ↓n_ret, ↓n_exit, ↓b_normal, ↓b_ret, ↓b_exit, ↓e_normal, ↓e_ret, e_some, go_sem, ↓reduceIte, Nat.reduceEqDiff, Nat.reduceLT, Nat.reduceSub]
    exact hR _
  by_cases h0 : addE l n s = 0
  · have hz : ((0 : Nat) : Int) = 0 := rfl
    rw [h0]
    simp -dsimp only [↓w_seq, ↓w_ops, ↓w_skip, ↓w_ret, ↓w_exit, ↓w_scope, ↓w_block, ↓w_cond, cond_true', cond_false', ↓t_nil, ↓t_plain, ↓t_guard, ↓t_gagain, ↓t_again, t_val, t_call, g_true, g_false, ga_true, ga_false, a_val, a_call, ↓n_normal, ↓n_ret, ↓n_exit, ↓b_normal, ↓b_ret, ↓b_exit, ↓e_normal, ↓e_ret, e_some, go_sem, ↓reduceIte, Nat.reduceEqDiff, Nat.reduceLT, Nat.reduceSub, hz, decide_true]
    rw [addT, if_pos h0] at hB
    obtain ⟨d1, d2, d3⟩ := add_back hI h0
    refine back20 tc bm uc um b3 (putS l n s) l n s k M3 hB (room_small (by have := put_len n s l; omega)) ?_ _ ?_ ?_ ?_
    · intro fr4 M4 b12 hB4 g12 j3 j5 j7 j12 j13
      rw [d3] at hB4
      rw [d2] at g12
      rw [d1] at j13
      simp -dsimp only [↓w_seq, ↓w_ops, ↓w_skip, ↓w_ret, ↓w_exit, ↓w_scope, ↓w_block, ↓w_cond, cond_true', cond_false', ↓t_nil, ↓t_plain, ↓t_guard, ↓t_gagain, ↓t_again, t_val, t_call, g_true, g_false, ga_true, ga_false, a_val, a_call, ↓n_normal, ↓n_ret, ↓n_exit, ↓b_normal, ↓b_ret, ↓b_exit, ↓e_normal, ↓e_ret, e_some, go_sem, ↓reduceIte, Nat.reduceEqDiff, Nat.reduceLT, Nat.reduceSub]
      refine back21 b3 b12 n s k M4 hB4.b g12 (x5 := .ptr (some (tc, 0))) (x7 := .ptr (some (uc, 0))) ?_ fr4 j3 j5 j7 j12 j13
      intro fr5 i3 i5 i7 i103
      simp -dsimp only [↓w_seq, ↓w_ops, ↓w_skip, ↓w_ret, ↓w_exit, ↓w_scope, ↓w_block, ↓w_cond, cond_true', cond_false', ↓t_nil, ↓t_plain, ↓t_guard, ↓t_gagain, ↓t_again, t_val, t_call, g_true, g_false, ga_true, ga_false, a_val, a_call, ↓n_normal, ↓n_ret, ↓n_exit, ↓b_normal, ↓b_ret, ↓b_exit, ↓e_normal, ↓e_ret, e_some, go_sem, ↓reduceIte, Nat.reduceEqDiff, Nat.reduceLT, Nat.reduceSub, i103]
      exact fin fr5 M4 hB4 i5 i7
    all_goals simp only [go_sem, ↓reduceIte, Nat.reduceEqDiff, Nat.reduceLT, Nat.reduceSub, h3, h5, h7]
  · have hz : ¬ (addE l n s : Int) = 0 := by omega
    simp -dsimp only [↓w_seq, ↓w_ops, ↓w_skip, ↓w_ret, ↓w_exit, ↓w_scope, ↓w_block, ↓w_cond, cond_true', cond_false', ↓t_nil, ↓t_plain, ↓t_guard, ↓t_gagain, ↓t_again, t_val, t_call, g_true, g_false, ga_true, ga_false, a_val, a_call, ↓n_normal, ↓n_ret, ↓n_exit, ↓b_normal, ↓b_ret, ↓b_exit, ↓e_normal, ↓e_ret, e_some, go_sem, ↓reduceIte, Nat.reduceEqDiff, Nat.reduceLT, Nat.reduceSub, hz, decide_false]
    rw [addT_of h0] at hB
    refine fin _ M3 hB ?_ ?_
    all_goals simp only [go_sem, ↓reduceIte, Nat.reduceEqDiff, Nat.reduceLT, Nat.reduceSub, h5, h7]

theorem tree_back_runs (s0 : V) (acts : List Act) (a : Act) (M0 : Mem) (hs : SlR elAct M0 s0 acts) (hk : ∀ x ∈ acts, x.2.2.2.length < 2 ^ 63) (hka : a.2.2.2.length < 2 ^ 63) (hlt : ∀ b, s0.blk = some b → acts ≠ [] → b < M0.next) (hg : isG M0 = true) (hn : 2 ≤ M0.next) :
    Runs D3 F_law10_TreeBack [s0, .agg (actC a)] M0 fun v _ => v = .bool true := by
  refine R_opq fun R hR => ?_
  refine Runs.walk (F := A_law10_TreeBack) rfl (by rfl) (by rfl) ?_
  unfold A_law10_TreeBack
  have hca : V.cells (.agg (actC a)) = actC a := rfl
  have r6 : rdCells (actC a) 0 6 = some (actC a) := rfl
  have f6 : fillCells [.int .i64 0, .int .i64 0, .int .i64 0, .int .i64 0, .int .i64 0, .str []] [(0, 6, .agg (actC a))] = some (actC a) := rfl
  have g1 : (M0.push (.cells (actC a) false)).get M0.next = some (.cells (actC a) false) := Mem.get_push_same _ _
  have hG1 := Grew.push M0 (.cells (actC a) false)
  have hn1 : (M0.push (.cells (actC a) false)).next = M0.next + 1 := rfl
  simp -dsimp only [↓w_seq, ↓w_ops, ↓w_skip, ↓w_ret, ↓w_exit, ↓w_scope, ↓w_block, ↓w_cond, cond_true', cond_false', ↓t_nil, ↓t_plain, ↓t_guard, ↓t_gagain, ↓t_again, t_val, t_call, g_true, g_false, ga_true, ga_false, a_val, a_call, ↓n_normal, ↓n_ret, ↓n_exit, ↓b_normal, ↓b_ret, ↓b_exit, ↓e_normal, ↓e_ret, e_some, go_sem, ↓reduceIte, Nat.reduceEqDiff, Nat.reduceLT, Nat.reduceSub, A_law10_TreeBack_0, hca]
  generalize M0.push (.cells (actC a) false) = M1 at *
  have hlt1 : ∀ b, s0.blk = some b → acts ≠ [] → b < M1.next := fun b hb hne => by have := hlt b hb hne; omega
  have hs1 : SlR elAct M1 s0 acts := by
    by_cases hne : acts = []
    · subst hne
      obtain ⟨x, cap, e, _⟩ := hs
      exact ⟨x, cap, e, .inl rfl⟩
    · exact hs.keep fun b hb => hG1.old b (hlt b hb hne)
  have hgg1 : isG M1 = true := isG_keep hg hn hG1.old
  have hnn1 : 2 ≤ M1.next := Nat.le_trans hn hG1.next
  simp -dsimp only [↓w_seq, ↓w_ops, ↓w_skip, ↓w_ret, ↓w_exit, ↓w_scope, ↓w_block, ↓w_cond, cond_true', cond_false', ↓t_nil, ↓t_plain, ↓t_guard, ↓t_gagain, ↓t_again, t_val, t_call, g_true, g_false, ga_true, ga_false, a_val, a_call, ↓n_normal, ↓n_ret, ↓n_exit, ↓b_normal, ↓b_ret, ↓b_exit, ↓e_normal, ↓e_ret, e_some, go_sem, ↓reduceIte, Nat.reduceEqDiff, Nat.reduceLT, Nat.reduceSub, A_law10_TreeBack_1]
  refine call_of ((Long_runs s0 acts M1 hs1 hk).more le3) ?_
  intro v M hv
  obtain ⟨⟨b, hb, hL⟩, hM⟩ := hv
  rw [hb, hM]
  clear hb hM
  cases b with
  | true =>
    simp -dsimp only [↓w_seq, ↓w_ops, ↓w_skip, ↓w_ret, ↓w_exit, ↓w_scope, ↓w_block, ↓w_cond, cond_true', cond_false', ↓t_nil, ↓t_plain, ↓t_guard, ↓t_gagain, ↓t_again, t_val, t_call, g_true, g_false, ga_true, ga_false, a_val, a_call, ↓n_normal, ↓n_ret, ↓n_exit, ↓b_normal, ↓b_ret, ↓b_exit, ↓e_normal, ↓e_ret, e_some, go_sem, ↓reduceIte, Nat.reduceEqDiff, Nat.reduceLT, Nat.reduceSub, A_law10_TreeBack_2]
    refine call_eq ((knows_p hgg1).more le3) ?_
    simp -dsimp only [↓w_seq, ↓w_ops, ↓w_skip, ↓w_ret, ↓w_exit, ↓w_scope, ↓w_block, ↓w_cond, cond_true', cond_false', ↓t_nil, ↓t_plain, ↓t_guard, ↓t_gagain, ↓t_again, t_val, t_call, g_true, g_false, ga_true, ga_false, a_val, a_call, ↓n_normal, ↓n_ret, ↓n_exit, ↓b_normal, ↓b_ret, ↓b_exit, ↓e_normal, ↓e_ret, e_some, go_sem, ↓reduceIte, Nat.reduceEqDiff, Nat.reduceLT, Nat.reduceSub]
    exact hR _ _ rfl
  | false =>
    have hL := hL rfl
    simp -dsimp only [↓w_seq, ↓w_ops, ↓w_skip, ↓w_ret, ↓w_exit, ↓w_scope, ↓w_block, ↓w_cond, cond_true', cond_false', ↓t_nil, ↓t_plain, ↓t_guard, ↓t_gagain, ↓t_again, t_val, t_call, g_true, g_false, ga_true, ga_false, a_val, a_call, ↓n_normal, ↓n_ret, ↓n_exit, ↓b_normal, ↓b_ret, ↓b_exit, ↓e_normal, ↓e_ret, e_some, go_sem, ↓reduceIte, Nat.reduceEqDiff, Nat.reduceLT, Nat.reduceSub, vload, vptr, Mem.read, g1, r6, f6, vof, Option.map_some, repl, List.append_nil]
    have g2 : (M1.push (.cells (actC a) false)).get M1.next = some (.cells (actC a) false) := Mem.get_push_same _ _
    have hG2 := Grew.push M1 (.cells (actC a) false)
    generalize M1.push (.cells (actC a) false) = M2 at *
    have hsa : SlR elAct M2 (.slice (some (M1.next, 0)) 1 (.exact 1)) [a] := ⟨_, _, rfl, .inr ⟨_, 0, _, false, rfl, g2, fun j hj => by
      have : j = 0 := by simpa using hj
      subst this
      rfl⟩⟩
    refine call_of ((Long_runs _ [a] M2 hsa (fun x hx => by simp only [List.mem_singleton] at hx; rw [hx]; exact hka)).more le3) ?_
    intro v M hv
    obtain ⟨⟨b, hb, _⟩, hM⟩ := hv
    rw [hb, hM]
    clear hb hM
    have hgg2 : isG M2 = true := isG_keep hgg1 hnn1 hG2.old
    cases b with
    | true =>
      simp -dsimp only [↓w_seq, ↓w_ops, ↓w_skip, ↓w_ret, ↓w_exit, ↓w_scope, ↓w_block, ↓w_cond, cond_true', cond_false', ↓t_nil, ↓t_plain, ↓t_guard, ↓t_gagain, ↓t_again, t_val, t_call, g_true, g_false, ga_true, ga_false, a_val, a_call, ↓n_normal, ↓n_ret, ↓n_exit, ↓b_normal, ↓b_ret, ↓b_exit, ↓e_normal, ↓e_ret, e_some, go_sem, ↓reduceIte, Nat.reduceEqDiff, Nat.reduceLT, Nat.reduceSub, A_law10_TreeBack_2]
      refine call_eq ((knows_p hgg2).more le3) ?_
      simp -dsimp only [↓w_seq, ↓w_ops, ↓w_skip, ↓w_ret, ↓w_exit, ↓w_scope, ↓w_block, ↓w_cond, cond_true', cond_false', ↓t_nil, ↓t_plain, ↓t_guard, ↓t_gagain, ↓t_again, t_val, t_call, g_true, g_false, ga_true, ga_false, a_val, a_call, ↓n_normal, ↓n_ret, ↓n_exit, ↓b_normal, ↓b_ret, ↓b_exit, ↓e_normal, ↓e_ret, e_some, go_sem, ↓reduceIte, Nat.reduceEqDiff, Nat.reduceLT, Nat.reduceSub]
      exact hR _ _ rfl
    | false =>
      simp -dsimp only [↓w_seq, ↓w_ops, ↓w_skip, ↓w_ret, ↓w_exit, ↓w_scope, ↓w_block, ↓w_cond, cond_true', cond_false', ↓t_nil, ↓t_plain, ↓t_guard, ↓t_gagain, ↓t_again, t_val, t_call, g_true, g_false, ga_true, ga_false, a_val, a_call, ↓n_normal, ↓n_ret, ↓n_exit, ↓b_normal, ↓b_ret, ↓b_exit, ↓e_normal, ↓e_ret, e_some, go_sem, ↓reduceIte, Nat.reduceEqDiff, Nat.reduceLT, Nat.reduceSub, A_law10_TreeBack_3]
      refine call_of ((New_runs D2 rfl (by rfl) M2).more le3) ?_
      intro v M3 hv
      rw [hv.1]
      obtain ⟨_, hG, hT⟩ := hv
      have hlt2 : ∀ b, s0.blk = some b → acts ≠ [] → b < M2.next := fun b hb hne => Nat.lt_of_lt_of_le (hlt1 b hb hne) hG2.next
      have hs2 : SlR elAct M2 s0 acts := by
        by_cases hne : acts = []
        · subst hne
          obtain ⟨x, cap, e, _⟩ := hs1
          exact ⟨x, cap, e, .inl rfl⟩
        · exact hs1.keep fun b hb => hG2.old b (hlt1 b hb hne)
      have hnn2 : 2 ≤ M2.next := Nat.le_trans hnn1 hG2.next
      have hS : LS M2 M3 (M2.next + 1) M2.next (actsT (acts.take 0)) := ⟨hG.old, hG.next, hT, Nat.le_refl _⟩
      simp -dsimp only [↓w_seq, ↓w_ops, ↓w_skip, ↓w_ret, ↓w_exit, ↓w_scope, ↓w_block, ↓w_cond, cond_true', cond_false', ↓t_nil, ↓t_plain, ↓t_guard, ↓t_gagain, ↓t_again, t_val, t_call, g_true, g_false, ga_true, ga_false, a_val, a_call, ↓n_normal, ↓n_ret, ↓n_exit, ↓b_normal, ↓b_ret, ↓b_exit, ↓e_normal, ↓e_ret, e_some, go_sem, ↓reduceIte, Nat.reduceEqDiff, Nat.reduceLT, Nat.reduceSub, A_law10_TreeBack_4, nil_ptr, nil_ptr', Option.map_some]
      refine call_eq ((knows_p (hS.g hgg2 hnn2)).more le3) ?_
      simp -dsimp only [↓w_seq, ↓w_ops, ↓w_skip, ↓w_ret, ↓w_exit, ↓w_scope, ↓w_block, ↓w_cond, cond_true', cond_false', ↓t_nil, ↓t_plain, ↓t_guard, ↓t_gagain, ↓t_again, t_val, t_call, g_true, g_false, ga_true, ga_false, a_val, a_call, ↓n_normal, ↓n_ret, ↓n_exit, ↓b_normal, ↓b_ret, ↓b_exit, ↓e_normal, ↓e_ret, e_some, go_sem, ↓reduceIte, Nat.reduceEqDiff, Nat.reduceLT, Nat.reduceSub, Bool.not_true, A_law10_TreeBack_6]
      refine doK_loop (M2.next + 1) M2.next acts s0 M2 hs2 hlt2 hgg2 hnn2 hL (x3 := .ptr (some (M0.next, 0))) ?_ acts.length 0 _ M3 (by omega) hS ?_ ?_ ?_ ?_
      · intro fr M4 hS4 h3 h5
        have hlen := len_acts acts
        have hI := inv_acts acts
        have hRt := right_acts acts
        generalize actsT acts = l at hS4 hlen hI hRt
        obtain ⟨k, n, s⟩ := a
        simp -dsimp only [↓w_seq, ↓w_ops, ↓w_skip, ↓w_ret, ↓w_exit, ↓w_scope, ↓w_block, ↓w_cond, cond_true', cond_false', ↓t_nil, ↓t_plain, ↓t_guard, ↓t_gagain, ↓t_again, t_val, t_call, g_true, g_false, ga_true, ga_false, a_val, a_call, ↓n_normal, ↓n_ret, ↓n_exit, ↓b_normal, ↓b_ret, ↓b_exit, ↓e_normal, ↓e_ret, e_some, go_sem, ↓reduceIte, Nat.reduceEqDiff, Nat.reduceLT, Nat.reduceSub, A_law10_TreeBack_11, h5]
        refine call_of (Clone_runs D3 le3b M4 _ _ l hS4.T) ?_
        intro v M5 hv
        rw [hv.1]
        obtain ⟨_, hG5, hU⟩ := hv
        have hb3 : M0.next < M2.next := by have := hG2.next; omega
        have hbl := hS4.T.bl
        have hB : BK M5 (M2.next + 1) M2.next (M4.next + 1) M4.next M0.next l l (k, n, s) :=
          ⟨hS4.T.grew hG5, hU, (hG5.old _ (by have := hS4.next; omega)).trans ((hS4.old _ hb3).trans ((hG2.old _ (by omega)).trans g1)), by have := hS4.next; have := hG5.next; omega, by omega, by omega, by omega, isG_keep (hS4.g hgg2 hnn2) (Nat.le_trans hnn2 hS4.next) hG5.old, Nat.le_trans (Nat.le_trans hnn2 hS4.next) hG5.next, hnn2⟩
        simp -dsimp only [↓w_seq, ↓w_ops, ↓w_skip, ↓w_ret, ↓w_exit, ↓w_scope, ↓w_block, ↓w_cond, cond_true', cond_false', ↓t_nil, ↓t_plain, ↓t_guard, ↓t_gagain, ↓t_again, t_val, t_call, g_true, g_false, ga_true, ga_false, a_val, a_call, ↓n_normal, ↓n_ret, ↓n_exit, ↓b_normal, ↓b_ret, ↓b_exit, ↓e_normal, ↓e_ret, e_some, go_sem, ↓reduceIte, Nat.reduceEqDiff, Nat.reduceLT, Nat.reduceSub]
        refine back12 _ _ _ _ _ l l n s k M5 hB hI ?_ _ ?_ ?_ ?_
        · intro fr6 M6 b8 hB6 g8 hb8 j3 j5 j7 j8 j9
          simp -dsimp only [↓w_seq, ↓w_ops, ↓w_skip, ↓w_ret, ↓w_exit, ↓w_scope, ↓w_block, ↓w_cond, cond_true', cond_false', ↓t_nil, ↓t_plain, ↓t_guard, ↓t_gagain, ↓t_again, t_val, t_call, g_true, g_false, ga_true, ga_false, a_val, a_call, ↓n_normal, ↓n_ret, ↓n_exit, ↓b_normal, ↓b_ret, ↓b_exit, ↓e_normal, ↓e_ret, e_some, go_sem, ↓reduceIte, Nat.reduceEqDiff, Nat.reduceLT, Nat.reduceSub, A_law10_TreeBack_13, j9]
          refine call_eq ((num_p M6 (moveE l n s : Int)).more le3) ?_
          by_cases h0 : moveE l n s = 0
          · obtain ⟨d1, d2, d3⟩ := move_back hI hRt h0
            have hz : ((0 : Nat) : Int) = 0 := rfl
            rw [moveW, if_pos h0] at g8
            rw [moveT, if_pos h0] at hB6
            rw [h0]
            simp -dsimp only [↓w_seq, ↓w_ops, ↓w_skip, ↓w_ret, ↓w_exit, ↓w_scope, ↓w_block, ↓w_cond, cond_true', cond_false', ↓t_nil, ↓t_plain, ↓t_guard, ↓t_gagain, ↓t_again, t_val, t_call, g_true, g_false, ga_true, ga_false, a_val, a_call, ↓n_normal, ↓n_ret, ↓n_exit, ↓b_normal, ↓b_ret, ↓b_exit, ↓e_normal, ↓e_ret, e_some, go_sem, ↓reduceIte, Nat.reduceEqDiff, Nat.reduceLT, Nat.reduceSub, hz, decide_true]
            refine back14 _ _ _ _ _ b8 (putS l n s) l n s ((getS l n).getD sp0) k M6 hB6 g8 (by have := hI.move n s; rwa [moveT, if_pos h0] at this) ?_ _ ?_ ?_ ?_ ?_
            · intro fr7 M7 b10 hB7 g10 i3 i5 i7 i10 i11
              rw [d3] at hB7
              rw [d2] at g10
              rw [d1] at i11
              simp -dsimp only [↓w_seq, ↓w_ops, ↓w_skip, ↓w_ret, ↓w_exit, ↓w_scope, ↓w_block, ↓w_cond, cond_true', cond_false', ↓t_nil, ↓t_plain, ↓t_guard, ↓t_gagain, ↓t_again, t_val, t_call, g_true, g_false, ga_true, ga_false, a_val, a_call, ↓n_normal, ↓n_ret, ↓n_exit, ↓b_normal, ↓b_ret, ↓b_exit, ↓e_normal, ↓e_ret, e_some, go_sem, ↓reduceIte, Nat.reduceEqDiff, Nat.reduceLT, Nat.reduceSub]
              refine back15 _ b10 n s k M7 hB7.b g10 (x5 := .ptr (some (M2.next + 1, 0))) (x7 := .ptr (some (M4.next + 1, 0))) ?_ fr7 i3 i5 i7 i10 i11
              intro fr8 q3 q5 q7 q73
              simp -dsimp only [↓w_seq, ↓w_ops, ↓w_skip, ↓w_ret, ↓w_exit, ↓w_scope, ↓w_block, ↓w_cond, cond_true', cond_false', ↓t_nil, ↓t_plain, ↓t_guard, ↓t_gagain, ↓t_again, t_val, t_call, g_true, g_false, ga_true, ga_false, a_val, a_call, ↓n_normal, ↓n_ret, ↓n_exit, ↓b_normal, ↓b_ret, ↓b_exit, ↓e_normal, ↓e_ret, e_some, go_sem, ↓reduceIte, Nat.reduceEqDiff, Nat.reduceLT, Nat.reduceSub, q73]
              have hb0 := back_rest (M2.next + 1) M2.next (M4.next + 1) M4.next M0.next l hI (by omega) n s k M7 hB7 (R := R) (fun M => hR _ M rfl) fr8 q3 q5 q7
              simp -dsimp only [↓w_seq, ↓w_ops, ↓w_skip, ↓w_ret, ↓w_exit, ↓w_scope, ↓w_block, ↓w_cond, cond_true', cond_false', ↓t_nil, ↓t_plain, ↓t_guard, ↓t_gagain, ↓t_again, t_val, t_call, g_true, g_false, ga_true, ga_false, a_val, a_call, ↓n_normal, ↓n_ret, ↓n_exit, ↓b_normal, ↓b_ret, ↓b_exit, ↓e_normal, ↓e_ret, e_some, go_sem, ↓reduceIte, Nat.reduceEqDiff, Nat.reduceLT, Nat.reduceSub] at hb0
              exact hb0
            all_goals simp only [go_sem, ↓reduceIte, Nat.reduceEqDiff, Nat.reduceLT, Nat.reduceSub, j3, j5, j7, j8]
          · have hz : ¬ (moveE l n s : Int) = 0 := by omega
            rw [moveT_of h0] at hB6
            simp -dsimp only [↓w_seq, ↓w_ops, ↓w_skip, ↓w_ret, ↓w_exit, ↓w_scope, ↓w_block, ↓w_cond, cond_true', cond_false', ↓t_nil, ↓t_plain, ↓t_guard, ↓t_gagain, ↓t_again, t_val, t_call, g_true, g_false, ga_true, ga_false, a_val, a_call, ↓n_normal, ↓n_ret, ↓n_exit, ↓b_normal, ↓b_ret, ↓b_exit, ↓e_normal, ↓e_ret, e_some, go_sem, ↓reduceIte, Nat.reduceEqDiff, Nat.reduceLT, Nat.reduceSub, hz, decide_false]
            have hb0 := fun fr => back_rest (M2.next + 1) M2.next (M4.next + 1) M4.next M0.next l hI (by omega) n s k M6 hB6 (R := R) (fun M => hR _ M rfl) fr
            simp -dsimp only [↓w_seq, ↓w_ops, ↓w_skip, ↓w_ret, ↓w_exit, ↓w_scope, ↓w_block, ↓w_cond, cond_true', cond_false', ↓t_nil, ↓t_plain, ↓t_guard, ↓t_gagain, ↓t_again, t_val, t_call, g_true, g_false, ga_true, ga_false, a_val, a_call, ↓n_normal, ↓n_ret, ↓n_exit, ↓b_normal, ↓b_ret, ↓b_exit, ↓e_normal, ↓e_ret, e_some, go_sem, ↓reduceIte, Nat.reduceEqDiff, Nat.reduceLT, Nat.reduceSub] at hb0
            refine hb0 _ ?_ ?_ ?_
            all_goals simp only [go_sem, ↓reduceIte, Nat.reduceEqDiff, Nat.reduceLT, Nat.reduceSub, j3, j5, j7]
        all_goals simp only [go_sem, ↓reduceIte, Nat.reduceEqDiff, Nat.reduceLT, Nat.reduceSub, h3, h5]
      all_goals simp only [go_sem, ↓reduceIte, Nat.reduceEqDiff, Nat.reduceLT, Nat.reduceSub]
      rfl
end Go.Am.Tryd

/- What the condition on the program's two listed variables gives; slices of acts handed in. -/
set_option linter.unusedSimpArgs false
set_option linter.unusedVariables false
namespace Go.Proofs.YtefigbdkennhaaaDoor.laid
open Go.ChangeShapes Go.WideShapes Go.ChangeAt Go.RowKit

theorem own : ownKnob Tryd.prog.godebug = none := by kernel_rfl
theorem gRoot : Tryd.prog.globalNamed "diorama/op.root" = some 0 := by kernel_rfl
theorem gTrash : Tryd.prog.globalNamed "diorama/op.trash" = some 1 := by kernel_rfl
theorem tRoot : (Tryd.prog.globals[0]?).map (·.type) = some 29 := by kernel_rfl
theorem tTrash : (Tryd.prog.globals[1]?).map (·.type) = some 29 := by kernel_rfl
abbrev two : List (String × DataW Unit) := [("diorama/op.root", Rows.laid_diorama_op_root), ("diorama/op.trash", Rows.laid_diorama_op_trash)]

/-- The door's own heap meets the condition. -/
theorem door_met (os : Os) (args : Array Value) : laidMetH Tryd.prog two ((World.doorLaid Tryd.prog 400 os).forCall (fun _ _ => 0) ⟨#[], args, []⟩).memory :=
  laidMetH_of_parts3 (fuel := 8) (laidMet_of_run' 8 (by kernel_rfl) (by kernel_rfl)) (by kernel_rfl) (by kernel_rfl)

theorem stamp_read {W : World} {fuel : Nat} {cs : List Value} {p : List MemPlace} {a b : Int} (h : DataW.trod (fun _ => ()) Tryd.prog W 0 (fun _ => true) false fuel 29 cs = some (.agg [.lit (.int .i64 a), .lit (.int .i64 b)], p)) :
    cs = [.int .i64 a, .int .i64 b] := by
  obtain ⟨y0, y1, n, hx, hl, h0, h1⟩ := trod_struct2 Tryd.underlying29 h
  have c29 : Tryd.prog.cellsOf 29 = 2 := by kernel_rfl
  have c3 : Tryd.prog.cellsOf 3 = 1 := by kernel_rfl
  rw [c29] at hl
  simp only [c3] at h0 h1
  obtain ⟨k0, e0, f0, _⟩ := DataW.trod_int Tryd.underlying3 h0
  obtain ⟨k1, e1, f1, _⟩ := DataW.trod_int Tryd.underlying3 h1
  match cs, hl with
  | [c, d], _ =>
    simp at e0 e1
    subst e0 e1 f0 f1
    simp only [Prod.mk.injEq, DataW.agg.injEq, List.cons.injEq, DataW.lit.injEq, Lit.int.injEq, true_and, and_true] at hx
    obtain ⟨⟨rfl, rfl⟩, _⟩ := hx
    rfl
/-- What the condition gives: the two variables' rows. -/
theorem of_laid {W : World} (h : laidMetH Tryd.prog two W) : ∃ k0 k1, Go.Am.Env.ok [(Go.Am.Tryd.stC (0, 0), 0, 0, k0), (Go.Am.Tryd.stC (0, 1), 1, 0, k1)] W := by
  rw [MakeChecks.laidMetH_plain _ _ _ (by kernel_rfl)] at h
  obtain ⟨ps, ⟨g0, t0, cs0, f0, p0, q0, hg0, ht0, hv0, hd0, ⟨g1, t1, cs1, f1, p1, q1, hg1, ht1, hv1, hd1, _, _⟩, _⟩, _, _⟩ := h
  obtain rfl := Option.some.inj (gRoot.symm.trans hg0)
  obtain rfl := Option.some.inj (gTrash.symm.trans hg1)
  obtain rfl := Option.some.inj (tRoot.symm.trans ht0)
  obtain rfl := Option.some.inj (tTrash.symm.trans ht1)
  have r0 := stamp_read hd0
  have r1 := stamp_read hd1
  have key : ∀ (n : String) (g : Nat) (cs : Array Value) (x : Go.Am.Tryd.St), Tryd.prog.globalNamed n = some g → W.var? Tryd.prog n = some cs → cs.toList = [.int .i64 x.1, .int .i64 x.2] →
      ∃ arr elem fz, W.heap[g]? = some (.cells arr elem fz) ∧ (∀ E, Go.Am.CR E (Go.Am.Tryd.stC x) arr 0) ∧ 0 + arr.size = arr.size ∧ arr.size = 2 := by
    intro n g cs x hg hv hl
    simp only [World.var?, hg, Option.bind_some] at hv
    split at hv
    · rename_i arr elem fz hh
      cases hv
      refine ⟨_, elem, fz, hh, fun E i v hi => ?_, Nat.zero_add _, by rw [← Array.length_toList, hl]; rfl⟩
      have e : ∀ j, cs[j]? = ([Value.int .i64 x.1, Value.int .i64 x.2] : List Value)[j]? := fun j => by rw [← hl, Array.getElem?_toList]
      rw [Nat.zero_add, e]
      match i, hi with
      | 0, hi => cases hi; exact ⟨_, rfl, .int _ _⟩
      | 1, hi => cases hi; exact ⟨_, rfl, .int _ _⟩
    · cases hv
  obtain ⟨a0, el0, fz0, h1, h2, h3, s0⟩ := key _ 0 cs0 (0, 0) gRoot hv0 r0
  obtain ⟨a1, el1, fz1, i1, i2, i3, s1⟩ := key _ 1 cs1 (0, 1) gTrash hv1 r1
  refine ⟨a0.size, a1.size, fun x hx => ?_⟩
  simp only [List.mem_cons, List.not_mem_nil, or_false] at hx
  rcases hx with rfl | rfl
  · exact ⟨a0, el0, fz0, h1, h2, h3⟩
  · exact ⟨a1, el1, fz1, i1, i2, i3⟩
theorem env_cons {l l' : Go.Am.Env} {W : World} (h : Go.Am.Env.ok l W) (h' : Go.Am.Env.ok l' W) : Go.Am.Env.ok (l ++ l') W := fun x hx => by
  rcases List.mem_append.mp hx with hx | hx
  · exact h x hx
  · exact h' x hx

abbrev actK : List Go.Am.CK := [.int .i64, .int .i64, .int .i64, .int .i64, .int .i64, .str]
theorem act_fit (cs : List Value) (h : Go.Am.Fits actK cs) : ∃ x : Go.Am.Tryd.Act, Go.Am.Tryd.elAct.enc x = cs := by
  obtain ⟨v0, r0, e0, h0, h⟩ := h.cons_of
  obtain ⟨v1, r1, e1, h1, h⟩ := h.cons_of
  obtain ⟨v2, r2, e2, h2, h⟩ := h.cons_of
  obtain ⟨v3, r3, e3, h3, h⟩ := h.cons_of
  obtain ⟨v4, r4, e4, h4, h⟩ := h.cons_of
  obtain ⟨v5, r5, e5, h5, h⟩ := h.cons_of
  have e6 := h.nil_of
  obtain ⟨n0, g0, _⟩ := h0
  obtain ⟨n1, g1, _⟩ := h1
  obtain ⟨n2, g2, _⟩ := h2
  obtain ⟨n3, g3, _⟩ := h3
  obtain ⟨n4, g4, _⟩ := h4
  obtain ⟨s, g5, _⟩ := h5
  rw [e0, e1, e2, e3, e4, e5, e6, g0, g1, g2, g3, g4, g5]
  exact ⟨(n0, (n1, n2), ((n3, n4), s.data.toList)), rfl⟩
theorem act_key (x : Go.Am.Tryd.Act) (h : Go.Am.Fits actK (Go.Am.Tryd.elAct.enc x)) : x.2.2.2.length < 2 ^ 63 := by
  obtain ⟨s, e, hs⟩ := h.2.2.2.2.2.1
  have e' := Value.string.inj e
  rw [← e'] at hs
  have : maxLen = 2 ^ 63 - 1 := rfl
  have h2 : ByteArray.size ⟨x.2.2.2.toArray⟩ = x.2.2.2.length := by simp [ByteArray.size]
  omega
theorem shape33 : Go.Am.shape Tryd.prog 6 33 = some actK := by kernel_rfl
theorem cells33 : Tryd.prog.cellsOf 33 = Go.Am.Tryd.elAct.k := by kernel_rfl
theorem under22 : Tryd.prog.underlying 22 = some (.slice 33) := Tryd.underlying22
theorem glob_at {k0 k1 : Nat} {l : Go.Am.Env} : ∀ x, Go.Am.Tryd.gl0 x = true → ∃ k, Go.Am.Env.emb ((Go.Am.Tryd.stC (0, 0), 0, 0, k0) :: (Go.Am.Tryd.stC (0, 1), 1, 0, k1) :: l) x = some (x, 0, k) := fun x hx => by
  rcases Go.Am.Tryd.gl_two hx with rfl | rfl
  · exact ⟨k0, rfl⟩
  · exact ⟨k1, rfl⟩
theorem glob_is {k0 k1 : Nat} {l : Go.Am.Env} : Go.Am.Tryd.isG (Go.Am.Env.mem ((Go.Am.Tryd.stC (0, 0), 0, 0, k0) :: (Go.Am.Tryd.stC (0, 1), 1, 0, k1) :: l)) = true :=
  Go.Am.Tryd.isG_mk (by rw [Go.Am.Env.get_mem]; rfl) (by rw [Go.Am.Env.get_mem]; rfl)
/-- A slice of acts in memory behind the two variables. -/
theorem acts_at {k0 k1 c o k cap len : Nat} {xs : List Go.Am.Tryd.Act} {l : Go.Am.Env} (hlc : len ≤ cap) (hxl : xs.length = cap) :
    Go.Am.SlR Go.Am.Tryd.elAct (Go.Am.Env.mem ((Go.Am.Tryd.stC (0, 0), 0, 0, k0) :: (Go.Am.Tryd.stC (0, 1), 1, 0, k1) :: (Go.Am.Tryd.elAct.all xs, c, o, k) :: l)) (.slice (some (2, 0)) len (.exact cap)) (xs.take len) := by
  refine ⟨some (2, 0), .exact cap, by rw [List.length_take, hxl, Nat.min_eq_left hlc], .inr ⟨2, 0, Go.Am.Tryd.elAct.all xs, true, rfl, by rw [Go.Am.Env.get_mem]; rfl, fun i hi => ?_⟩⟩
  rw [Nat.zero_add, List.getElem_take]
  exact Go.Am.Tryd.elAct.rd xs i (by rw [List.length_take] at hi; omega)
end Go.Proofs.YtefigbdkennhaaaDoor.laid

