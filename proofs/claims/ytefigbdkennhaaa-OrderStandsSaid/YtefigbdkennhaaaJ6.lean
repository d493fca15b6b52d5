/- The machine and what is proved of its runs, part 6: what each part says stands at its head. -/
import Derived.Test.YtefigbdkennhaaaJ5
import Derived.Deep.Slices
import Derived.Below
set_option linter.unusedSimpArgs false
set_option linter.unusedVariables false
set_option linter.unusedSectionVars false
/- A key beside a place: gap, Key. -/
namespace Go.Am.Try
open Go Go.Am Go.Proofs Go.Sort Go.Shelf
set_option maxRecDepth 100000
set_option linter.unusedSimpArgs false
set_option linter.unusedVariables false

/-- Each ahead of the next. -/
def RowP (xs : List Sb) : Prop := ∀ j (h : j + 1 < xs.length), ltSb xs[j] xs[j + 1] = true
def sb0 : Sb := ([], 0, 0)
def kA (xs : List Sb) (at_ : Int) : List UInt8 := if 0 < at_ then (xs.getD (at_ - 1).toNat sb0).1 else []
def kB (xs : List Sb) (at_ : Int) : List UInt8 := if at_ < xs.length then (xs.getD at_.toNat sb0).1 else []

theorem gap_loop (s : V) (xs : List Sb) (hl : xs.length < 2 ^ 62) (M0 : Mem) (hs : SlR elSb M0 s xs) (hlt : ∀ b, s.blk = some b → xs ≠ [] → b < M0.next) {Q : AExit → Fr → Mem → Prop} (x1 x2 : V)
    (hR : ∀ fr M, Grew M0 M → ¬ RowP xs → fr.rd 6 = .int .i64 1 → Q .ret fr M) (hE : ∀ fr M, Grew M0 M → RowP xs → fr.rd 0 = s → fr.rd 1 = x1 → fr.rd 2 = x2 → Q (.exit 0) fr M) :
    ∀ (f i : Nat) (fr : Fr) (M : Mem), i + f = xs.length → Grew M0 M → (∀ j (h : j + 1 < xs.length), j + 1 < i → ltSb xs[j] xs[j + 1] = true) → fr.rd 0 = s → fr.rd 1 = x1 → fr.rd 2 = x2 → fr.rd 11 = .int .i64 (xs.length : Int) → fr.rd 12 = .int .i64 (i : Int) → WC D2 73 (.loop A_order_gap_7) fr M Q := by
  intro f
  induction f with
  | zero =>
    intro i fr M hi hG hp h0 h1 h2 h11 h12
    refine WC.loop (W_of ?_)
    unfold A_order_gap_7
    have : ¬ (i : Int) < xs.length := by omega
    simp -dsimp only [↓w_seq, ↓w_ops, ↓w_skip, ↓w_ret, ↓w_exit, ↓w_scope, ↓w_block, ↓w_cond, cond_true', cond_false', ↓t_nil, ↓t_plain, ↓t_guard, ↓t_again, t_val, t_call, g_true, g_false, a_val, a_call, ↓n_normal, ↓n_ret, ↓n_exit, ↓b_normal, ↓b_ret, ↓b_exit, ↓e_normal, ↓e_ret, e_some, go_sem, ↓reduceIte, Nat.reduceEqDiff, Nat.reduceLT, Nat.reduceSub, A_order_gap_0, A_order_gap_1, A_order_gap_2, A_order_gap_3, A_order_gap_4, A_order_gap_5, A_order_gap_6, A_order_gap_8, A_order_gap_9, A_order_gap_10, A_order_gap_11, A_order_gap_12, A_order_gap_13, A_order_gap_14, A_order_gap_15, A_order_gap_16, A_order_gap_17, h0, h1, h2, h11, h12, this, decide_false]
    refine hE _ _ hG (fun j h => hp j h (by omega)) ?_ ?_ ?_
    all_goals simp only [go_sem, ↓reduceIte, Nat.reduceEqDiff, Nat.reduceLT, Nat.reduceSub, h0, h1, h2]
  | succ f ih =>
    intro i fr M hi hG hp h0 h1 h2 h11 h12
    refine WC.loop (W_of ?_)
    unfold A_order_gap_7
    have hil : i < xs.length := by omega
    have hsM : SlR elSb M s xs := hs.keep fun b hb => hG.old b (hlt b hb (by intro h; subst h; simp at hil))
    have e1 : (i : Int) < xs.length := by omega
    have e2 : i + 1 ≤ xs.length := by omega
    have h5' : (i : Int) + 1 = ((i + 1 : Nat) : Int) := by omega
    cases i with
    | zero =>
      have e3 : ¬ (0 : Int) < ((0 : Nat) : Int) := by omega
      simp -dsimp only [↓w_seq, ↓w_ops, ↓w_skip, ↓w_ret, ↓w_exit, ↓w_scope, ↓w_block, ↓w_cond, cond_true', cond_false', ↓t_nil, ↓t_plain, ↓t_guard, ↓t_again, t_val, t_call, g_true, g_false, a_val, a_call, ↓n_normal, ↓n_ret, ↓n_exit, ↓b_normal, ↓b_ret, ↓b_exit, ↓e_normal, ↓e_ret, e_some, go_sem, ↓reduceIte, Nat.reduceEqDiff, Nat.reduceLT, Nat.reduceSub, A_order_gap_0, A_order_gap_1, A_order_gap_2, A_order_gap_3, A_order_gap_4, A_order_gap_5, A_order_gap_6, A_order_gap_8, A_order_gap_9, A_order_gap_10, A_order_gap_11, A_order_gap_12, A_order_gap_13, A_order_gap_14, A_order_gap_15, A_order_gap_16, A_order_gap_17, h0, h1, h2, h11, h12, e1, e3, decide_false, decide_true, IntWalk.i64_in (((0 : Nat) : Int) + 1) (by omega)]
      refine ih 1 _ M (by omega) hG (fun j h hj => by omega) ?_ ?_ ?_ ?_ ?_
      all_goals simp only [go_sem, ↓reduceIte, Nat.reduceEqDiff, Nat.reduceLT, Nat.reduceSub, h0, h1, h2, h11, h5']
    | succ k =>
      have hkl : k < xs.length := by omega
      obtain ⟨b, o, cs, ro, cap, e0, hM, hr3, hr1, hr2⟩ := sl_at hsM hil
      obtain ⟨b', o', cs', ro', cap', e0', hM', hr3', hr1', hr2'⟩ := sl_at hsM hkl
      rw [e0] at e0'
      simp only [V.slice.injEq, Option.some.injEq, Prod.mk.injEq, true_and] at e0'
      obtain ⟨⟨rfl, rfl⟩, rfl⟩ := e0'
      rw [hM] at hM'
      simp only [Option.some.injEq, O.cells.injEq] at hM'
      obtain ⟨rfl, rfl⟩ := hM'
      have e3 : (0 : Int) < ((k + 1 : Nat) : Int) := by omega
      have e4 : ((k + 1 : Nat) : Int) - 1 = (k : Int) := by omega
      have e5 : k + 1 + 1 ≤ xs.length := by omega
      have e6 : k + 1 ≤ xs.length := by omega
      rw [e0] at h0
      simp -dsimp only [↓w_seq, ↓w_ops, ↓w_skip, ↓w_ret, ↓w_exit, ↓w_scope, ↓w_block, ↓w_cond, cond_true', cond_false', ↓t_nil, ↓t_plain, ↓t_guard, ↓t_again, t_val, t_call, g_true, g_false, a_val, a_call, ↓n_normal, ↓n_ret, ↓n_exit, ↓b_normal, ↓b_ret, ↓b_exit, ↓e_normal, ↓e_ret, e_some, go_sem, ↓reduceIte, Nat.reduceEqDiff, Nat.reduceLT, Nat.reduceSub, A_order_gap_0, A_order_gap_1, A_order_gap_2, A_order_gap_3, A_order_gap_4, A_order_gap_5, A_order_gap_6, A_order_gap_8, A_order_gap_9, A_order_gap_10, A_order_gap_11, A_order_gap_12, A_order_gap_13, A_order_gap_14, A_order_gap_15, A_order_gap_16, A_order_gap_17, h0, h1, h2, h11, h12, e1, e3, e4, e5, e6, decide_false, decide_true, vload, vptr, hM, Mem.read, hr3, hr3', Nat.add_zero, IntWalk.i64_in (k : Int) (by omega)]
      refine call_of (before_runs xs[k] xs[k + 1] M) ?_
      intro v M1 hv
      rw [hv.1, bef_is]
      have hG1 := hG.trans hv.2
      cases hq : ltSb xs[k] xs[k + 1] with
      | false =>
        simp -dsimp only [↓w_seq, ↓w_ops, ↓w_skip, ↓w_ret, ↓w_exit, ↓w_scope, ↓w_block, ↓w_cond, cond_true', cond_false', ↓t_nil, ↓t_plain, ↓t_guard, ↓t_again, t_val, t_call, g_true, g_false, a_val, a_call, ↓n_normal, ↓n_ret, ↓n_exit, ↓b_normal, ↓b_ret, ↓b_exit, ↓e_normal, ↓e_ret, e_some, go_sem, ↓reduceIte, Nat.reduceEqDiff, Nat.reduceLT, Nat.reduceSub, A_order_gap_0, A_order_gap_1, A_order_gap_2, A_order_gap_3, A_order_gap_4, A_order_gap_5, A_order_gap_6, A_order_gap_8, A_order_gap_9, A_order_gap_10, A_order_gap_11, A_order_gap_12, A_order_gap_13, A_order_gap_14, A_order_gap_15, A_order_gap_16, A_order_gap_17]
        refine hR _ _ hG1 (fun h => by rw [h k hil] at hq; cases hq) (by simp only [go_sem, ↓reduceIte, Nat.reduceEqDiff, Nat.reduceLT, Nat.reduceSub])
      | true =>
        simp -dsimp only [↓w_seq, ↓w_ops, ↓w_skip, ↓w_ret, ↓w_exit, ↓w_scope, ↓w_block, ↓w_cond, cond_true', cond_false', ↓t_nil, ↓t_plain, ↓t_guard, ↓t_again, t_val, t_call, g_true, g_false, a_val, a_call, ↓n_normal, ↓n_ret, ↓n_exit, ↓b_normal, ↓b_ret, ↓b_exit, ↓e_normal, ↓e_ret, e_some, go_sem, ↓reduceIte, Nat.reduceEqDiff, Nat.reduceLT, Nat.reduceSub, A_order_gap_0, A_order_gap_1, A_order_gap_2, A_order_gap_3, A_order_gap_4, A_order_gap_5, A_order_gap_6, A_order_gap_8, A_order_gap_9, A_order_gap_10, A_order_gap_11, A_order_gap_12, A_order_gap_13, A_order_gap_14, A_order_gap_15, A_order_gap_16, A_order_gap_17, h12, IntWalk.i64_in (((k + 1 : Nat) : Int) + 1) (by omega)]
        refine ih (k + 1 + 1) _ M1 (by omega) hG1 (fun j h hj => ?_) ?_ ?_ ?_ ?_ ?_
        · rcases Nat.lt_or_ge (j + 1) (k + 1) with h7 | h7
          · exact hp j h h7
          · have : j = k := by omega
            subst this
            exact hq
        all_goals simp only [go_sem, ↓reduceIte, Nat.reduceEqDiff, Nat.reduceLT, Nat.reduceSub, h0, e0, h1, h2, h11, h5']

theorem kA_zero (xs : List Sb) : kA xs ((0 : Nat) : Int) = [] := by simp [kA]
theorem kA_succ (xs : List Sb) (k : Nat) (h : k < xs.length) : kA xs ((k + 1 : Nat) : Int) = xs[k].1 := by
  unfold kA
  rw [if_pos (by omega)]
  have : (((k + 1 : Nat) : Int) - 1).toNat = k := by omega
  rw [this, List.getD_eq_getElem?_getD, List.getElem?_eq_getElem h]
  rfl
theorem kB_lt (xs : List Sb) (k : Nat) (h : k < xs.length) : kB xs (k : Int) = xs[k].1 := by
  unfold kB
  rw [if_pos (by omega)]
  have : ((k : Nat) : Int).toNat = k := by omega
  rw [this, List.getD_eq_getElem?_getD, List.getElem?_eq_getElem h]
  rfl
theorem kB_end (xs : List Sb) : kB xs (xs.length : Int) = [] := by
  unfold kB
  rw [if_neg (by omega)]

set_option maxHeartbeats 1000000 in
theorem gap_runs (s : V) (xs : List Sb) (hl : xs.length < 2 ^ 62) (at_ : Int) (f : FuncId) (p : V) (M : Mem) (hs : SlR elSb M s xs) (hlt : ∀ b, s.blk = some b → xs ≠ [] → b < M.next) {R : V → Mem → Prop}
    (hbad : ∀ M', Grew M M' → (¬ RowP xs ∨ at_ < 0 ∨ (xs.length : Int) < at_) → R (.int .i64 1) M')
    (heq : ∀ M', Grew M M' → RowP xs → 0 < at_ → at_ < xs.length → kA xs at_ = kB xs at_ → R (.int .i64 32) M')
    (hdo : ∀ M', Grew M M' → RowP xs → 0 ≤ at_ → at_ ≤ xs.length → (0 < at_ → at_ < xs.length → kA xs at_ ≠ kB xs at_) → Runs D2 f [.str (kA xs at_), .str (kB xs at_), p] M' R) :
    Runs D2 F_order_gap [s, .int .i64 at_, .fn f [] [p]] M R := by
  refine Runs.walk (F := A_order_gap) rfl (by rfl) (by rfl) ?_
  unfold A_order_gap
  obtain ⟨a0, cap, e0, _⟩ := id hs
  simp -dsimp only [↓w_seq, ↓w_ops, ↓w_skip, ↓w_ret, ↓w_exit, ↓w_scope, ↓w_block, ↓w_cond, cond_true', cond_false', ↓t_nil, ↓t_plain, ↓t_guard, ↓t_again, t_val, t_call, g_true, g_false, a_val, a_call, ↓n_normal, ↓n_ret, ↓n_exit, ↓b_normal, ↓b_ret, ↓b_exit, ↓e_normal, ↓e_ret, e_some, go_sem, ↓reduceIte, Nat.reduceEqDiff, Nat.reduceLT, Nat.reduceSub, A_order_gap_0, A_order_gap_1, A_order_gap_2, A_order_gap_3, A_order_gap_4, A_order_gap_5, A_order_gap_6, A_order_gap_8, A_order_gap_9, A_order_gap_10, A_order_gap_11, A_order_gap_12, A_order_gap_13, A_order_gap_14, A_order_gap_15, A_order_gap_16, A_order_gap_17, e0]
  rw [← e0]
  refine gap_loop s xs hl M hs hlt (.int .i64 at_) (.fn f [] [p]) ?_ ?_ xs.length 0 _ M (by omega) (Grew.refl M) (fun j h hj => by omega) ?_ ?_ ?_ ?_ ?_
  · intro fr M' hG hr h6
    simp -dsimp only [↓w_seq, ↓w_ops, ↓w_skip, ↓w_ret, ↓w_exit, ↓w_scope, ↓w_block, ↓w_cond, cond_true', cond_false', ↓t_nil, ↓t_plain, ↓t_guard, ↓t_again, t_val, t_call, g_true, g_false, a_val, a_call, ↓n_normal, ↓n_ret, ↓n_exit, ↓b_normal, ↓b_ret, ↓b_exit, ↓e_normal, ↓e_ret, e_some, go_sem, ↓reduceIte, Nat.reduceEqDiff, Nat.reduceLT, Nat.reduceSub, A_order_gap_0, A_order_gap_1, A_order_gap_2, A_order_gap_3, A_order_gap_4, A_order_gap_5, A_order_gap_6, A_order_gap_8, A_order_gap_9, A_order_gap_10, A_order_gap_11, A_order_gap_12, A_order_gap_13, A_order_gap_14, A_order_gap_15, A_order_gap_16, A_order_gap_17, h6]
    exact hbad _ hG (.inl hr)
  · intro fr M' hG hr h0 h1 h2
    rw [e0] at h0
    by_cases g1 : at_ < 0
    · simp -dsimp only [↓w_seq, ↓w_ops, ↓w_skip, ↓w_ret, ↓w_exit, ↓w_scope, ↓w_block, ↓w_cond, cond_true', cond_false', ↓t_nil, ↓t_plain, ↓t_guard, ↓t_again, t_val, t_call, g_true, g_false, a_val, a_call, ↓n_normal, ↓n_ret, ↓n_exit, ↓b_normal, ↓b_ret, ↓b_exit, ↓e_normal, ↓e_ret, e_some, go_sem, ↓reduceIte, Nat.reduceEqDiff, Nat.reduceLT, Nat.reduceSub, A_order_gap_0, A_order_gap_1, A_order_gap_2, A_order_gap_3, A_order_gap_4, A_order_gap_5, A_order_gap_6, A_order_gap_8, A_order_gap_9, A_order_gap_10, A_order_gap_11, A_order_gap_12, A_order_gap_13, A_order_gap_14, A_order_gap_15, A_order_gap_16, A_order_gap_17, h0, h1, h2, g1, decide_true]
      exact hbad _ hG (.inr (.inl g1))
    by_cases g2 : (xs.length : Int) < at_
    · simp -dsimp only [↓w_seq, ↓w_ops, ↓w_skip, ↓w_ret, ↓w_exit, ↓w_scope, ↓w_block, ↓w_cond, cond_true', cond_false', ↓t_nil, ↓t_plain, ↓t_guard, ↓t_again, t_val, t_call, g_true, g_false, a_val, a_call, ↓n_normal, ↓n_ret, ↓n_exit, ↓b_normal, ↓b_ret, ↓b_exit, ↓e_normal, ↓e_ret, e_some, go_sem, ↓reduceIte, Nat.reduceEqDiff, Nat.reduceLT, Nat.reduceSub, A_order_gap_0, A_order_gap_1, A_order_gap_2, A_order_gap_3, A_order_gap_4, A_order_gap_5, A_order_gap_6, A_order_gap_8, A_order_gap_9, A_order_gap_10, A_order_gap_11, A_order_gap_12, A_order_gap_13, A_order_gap_14, A_order_gap_15, A_order_gap_16, A_order_gap_17, h0, h1, h2, g1, g2, decide_true, decide_false]
      exact hbad _ hG (.inr (.inr g2))
    obtain ⟨n, rfl⟩ := Int.eq_ofNat_of_zero_le (by omega : 0 ≤ at_)
    have hsM : SlR elSb M' s xs := by
      rcases Nat.eq_zero_or_pos xs.length with hz | hz
      · have : xs = [] := List.eq_nil_of_length_eq_zero hz
        subst this
        exact ⟨a0, cap, e0, .inl rfl⟩
      · exact hs.keep fun b hb => hG.old b (hlt b hb (by intro h; subst h; simp at hz))
    cases n with
    | zero =>
      have e3 : ¬ (0 : Int) < ((0 : Nat) : Int) := by omega
      by_cases g3 : 0 < xs.length
      · obtain ⟨b, o, cs, ro, cap', e0', hM, hr3, hr1, hr2⟩ := sl_at hsM g3
        rw [e0] at e0'
        simp only [V.slice.injEq, true_and] at e0'
        obtain ⟨rfl, rfl⟩ := e0'
        have g4 : ((0 : Nat) : Int) < xs.length := by omega
        simp only [Nat.zero_mul, Nat.add_zero] at hr1
        have g5 : 0 + 1 ≤ xs.length := by omega
        have := hdo M' hG hr (by omega) (by omega) (fun h => by omega)
        rw [kA_zero, kB_lt _ _ g3] at this
        simp -dsimp only [↓w_seq, ↓w_ops, ↓w_skip, ↓w_ret, ↓w_exit, ↓w_scope, ↓w_block, ↓w_cond, cond_true', cond_false', ↓t_nil, ↓t_plain, ↓t_guard, ↓t_again, t_val, t_call, g_true, g_false, a_val, a_call, ↓n_normal, ↓n_ret, ↓n_exit, ↓b_normal, ↓b_ret, ↓b_exit, ↓e_normal, ↓e_ret, e_some, go_sem, ↓reduceIte, Nat.reduceEqDiff, Nat.reduceLT, Nat.reduceSub, A_order_gap_0, A_order_gap_1, A_order_gap_2, A_order_gap_3, A_order_gap_4, A_order_gap_5, A_order_gap_6, A_order_gap_8, A_order_gap_9, A_order_gap_10, A_order_gap_11, A_order_gap_12, A_order_gap_13, A_order_gap_14, A_order_gap_15, A_order_gap_16, A_order_gap_17, h0, h1, h2, g1, g2, e3, g4, g5, decide_true, decide_false, vload, vptr, hM, Mem.read, hr1, Nat.add_zero]
        refine call_of this ?_
        intro v M2 hv
        simp -dsimp only [↓w_seq, ↓w_ops, ↓w_skip, ↓w_ret, ↓w_exit, ↓w_scope, ↓w_block, ↓w_cond, cond_true', cond_false', ↓t_nil, ↓t_plain, ↓t_guard, ↓t_again, t_val, t_call, g_true, g_false, a_val, a_call, ↓n_normal, ↓n_ret, ↓n_exit, ↓b_normal, ↓b_ret, ↓b_exit, ↓e_normal, ↓e_ret, e_some, go_sem, ↓reduceIte, Nat.reduceEqDiff, Nat.reduceLT, Nat.reduceSub, A_order_gap_0, A_order_gap_1, A_order_gap_2, A_order_gap_3, A_order_gap_4, A_order_gap_5, A_order_gap_6, A_order_gap_8, A_order_gap_9, A_order_gap_10, A_order_gap_11, A_order_gap_12, A_order_gap_13, A_order_gap_14, A_order_gap_15, A_order_gap_16, A_order_gap_17]
        exact hv
      · have g4 : ¬ ((0 : Nat) : Int) < xs.length := by omega
        have := hdo M' hG hr (by omega) (by omega) (fun h => by omega)
        have hz : xs = [] := List.eq_nil_of_length_eq_zero (by omega)
        rw [kA_zero, show kB xs ((0 : Nat) : Int) = [] from by subst hz; exact kB_end []] at this
        simp -dsimp only [↓w_seq, ↓w_ops, ↓w_skip, ↓w_ret, ↓w_exit, ↓w_scope, ↓w_block, ↓w_cond, cond_true', cond_false', ↓t_nil, ↓t_plain, ↓t_guard, ↓t_again, t_val, t_call, g_true, g_false, a_val, a_call, ↓n_normal, ↓n_ret, ↓n_exit, ↓b_normal, ↓b_ret, ↓b_exit, ↓e_normal, ↓e_ret, e_some, go_sem, ↓reduceIte, Nat.reduceEqDiff, Nat.reduceLT, Nat.reduceSub, A_order_gap_0, A_order_gap_1, A_order_gap_2, A_order_gap_3, A_order_gap_4, A_order_gap_5, A_order_gap_6, A_order_gap_8, A_order_gap_9, A_order_gap_10, A_order_gap_11, A_order_gap_12, A_order_gap_13, A_order_gap_14, A_order_gap_15, A_order_gap_16, A_order_gap_17, h0, h1, h2, g1, g2, e3, g4, decide_true, decide_false]
        refine call_of this ?_
        intro v M2 hv
        simp -dsimp only [↓w_seq, ↓w_ops, ↓w_skip, ↓w_ret, ↓w_exit, ↓w_scope, ↓w_block, ↓w_cond, cond_true', cond_false', ↓t_nil, ↓t_plain, ↓t_guard, ↓t_again, t_val, t_call, g_true, g_false, a_val, a_call, ↓n_normal, ↓n_ret, ↓n_exit, ↓b_normal, ↓b_ret, ↓b_exit, ↓e_normal, ↓e_ret, e_some, go_sem, ↓reduceIte, Nat.reduceEqDiff, Nat.reduceLT, Nat.reduceSub, A_order_gap_0, A_order_gap_1, A_order_gap_2, A_order_gap_3, A_order_gap_4, A_order_gap_5, A_order_gap_6, A_order_gap_8, A_order_gap_9, A_order_gap_10, A_order_gap_11, A_order_gap_12, A_order_gap_13, A_order_gap_14, A_order_gap_15, A_order_gap_16, A_order_gap_17]
        exact hv
    | succ k =>
      have hkl : k < xs.length := by omega
      obtain ⟨b, o, cs, ro, cap', e0', hM, hr3, hr1, hr2⟩ := sl_at hsM hkl
      rw [e0] at e0'
      simp only [V.slice.injEq, true_and] at e0'
      obtain ⟨rfl, rfl⟩ := e0'
      have e3 : (0 : Int) < ((k + 1 : Nat) : Int) := by omega
      have e4 : ((k + 1 : Nat) : Int) - 1 = (k : Int) := by omega
      have e6 : k + 1 ≤ xs.length := by omega
      by_cases g3 : k + 1 < xs.length
      · obtain ⟨b', o', cs', ro', cap'', e0'', hM', hr3', hr1', hr2'⟩ := sl_at hsM g3
        rw [e0] at e0''
        simp only [V.slice.injEq, Option.some.injEq, Prod.mk.injEq, true_and] at e0''
        obtain ⟨⟨rfl, rfl⟩, rfl⟩ := e0''
        rw [hM] at hM'
        simp only [Option.some.injEq, O.cells.injEq] at hM'
        obtain ⟨rfl, rfl⟩ := hM'
        have g4 : ((k + 1 : Nat) : Int) < xs.length := by omega
        have g5 : k + 1 + 1 ≤ xs.length := by omega
        by_cases g6 : xs[k].1 = xs[k + 1].1
        · have := heq M' hG hr (by omega) g4 (by rw [kA_succ _ _ hkl, kB_lt _ _ g3, g6])
          simp -dsimp only [↓w_seq, ↓w_ops, ↓w_skip, ↓w_ret, ↓w_exit, ↓w_scope, ↓w_block, ↓w_cond, cond_true', cond_false', ↓t_nil, ↓t_plain, ↓t_guard, ↓t_again, t_val, t_call, g_true, g_false, a_val, a_call, ↓n_normal, ↓n_ret, ↓n_exit, ↓b_normal, ↓b_ret, ↓b_exit, ↓e_normal, ↓e_ret, e_some, go_sem, ↓reduceIte, Nat.reduceEqDiff, Nat.reduceLT, Nat.reduceSub, A_order_gap_0, A_order_gap_1, A_order_gap_2, A_order_gap_3, A_order_gap_4, A_order_gap_5, A_order_gap_6, A_order_gap_8, A_order_gap_9, A_order_gap_10, A_order_gap_11, A_order_gap_12, A_order_gap_13, A_order_gap_14, A_order_gap_15, A_order_gap_16, A_order_gap_17, h0, h1, h2, g1, g2, e3, e4, e6, g4, g5, g6, decide_true, decide_false, vload, vptr, hM, Mem.read, hr1, hr1', Nat.add_zero, IntWalk.i64_in (k : Int) (by omega)]
          exact this
        · have := hdo M' hG hr (by omega) (by omega) (fun _ _ => by rw [kA_succ _ _ hkl, kB_lt _ _ g3]; exact g6)
          rw [kA_succ _ _ hkl, kB_lt _ _ g3] at this
          simp -dsimp only [↓w_seq, ↓w_ops, ↓w_skip, ↓w_ret, ↓w_exit, ↓w_scope, ↓w_block, ↓w_cond, cond_true', cond_false', ↓t_nil, ↓t_plain, ↓t_guard, ↓t_again, t_val, t_call, g_true, g_false, a_val, a_call, ↓n_normal, ↓n_ret, ↓n_exit, ↓b_normal, ↓b_ret, ↓b_exit, ↓e_normal, ↓e_ret, e_some, go_sem, ↓reduceIte, Nat.reduceEqDiff, Nat.reduceLT, Nat.reduceSub, A_order_gap_0, A_order_gap_1, A_order_gap_2, A_order_gap_3, A_order_gap_4, A_order_gap_5, A_order_gap_6, A_order_gap_8, A_order_gap_9, A_order_gap_10, A_order_gap_11, A_order_gap_12, A_order_gap_13, A_order_gap_14, A_order_gap_15, A_order_gap_16, A_order_gap_17, h0, h1, h2, g1, g2, e3, e4, e6, g4, g5, g6, decide_true, decide_false, vload, vptr, hM, Mem.read, hr1, hr1', Nat.add_zero, IntWalk.i64_in (k : Int) (by omega)]
          refine call_of this ?_
          intro v M2 hv
          simp -dsimp only [↓w_seq, ↓w_ops, ↓w_skip, ↓w_ret, ↓w_exit, ↓w_scope, ↓w_block, ↓w_cond, cond_true', cond_false', ↓t_nil, ↓t_plain, ↓t_guard, ↓t_again, t_val, t_call, g_true, g_false, a_val, a_call, ↓n_normal, ↓n_ret, ↓n_exit, ↓b_normal, ↓b_ret, ↓b_exit, ↓e_normal, ↓e_ret, e_some, go_sem, ↓reduceIte, Nat.reduceEqDiff, Nat.reduceLT, Nat.reduceSub, A_order_gap_0, A_order_gap_1, A_order_gap_2, A_order_gap_3, A_order_gap_4, A_order_gap_5, A_order_gap_6, A_order_gap_8, A_order_gap_9, A_order_gap_10, A_order_gap_11, A_order_gap_12, A_order_gap_13, A_order_gap_14, A_order_gap_15, A_order_gap_16, A_order_gap_17]
          exact hv
      · have hk1 : k + 1 = xs.length := by omega
        have g4 : ¬ ((k + 1 : Nat) : Int) < xs.length := by omega
        have := hdo M' hG hr (by omega) (by omega) (fun _ h => by omega)
        rw [kA_succ _ _ hkl, show kB xs ((k + 1 : Nat) : Int) = [] from by rw [hk1]; exact kB_end xs] at this
        simp -dsimp only [↓w_seq, ↓w_ops, ↓w_skip, ↓w_ret, ↓w_exit, ↓w_scope, ↓w_block, ↓w_cond, cond_true', cond_false', ↓t_nil, ↓t_plain, ↓t_guard, ↓t_again, t_val, t_call, g_true, g_false, a_val, a_call, ↓n_normal, ↓n_ret, ↓n_exit, ↓b_normal, ↓b_ret, ↓b_exit, ↓e_normal, ↓e_ret, e_some, go_sem, ↓reduceIte, Nat.reduceEqDiff, Nat.reduceLT, Nat.reduceSub, A_order_gap_0, A_order_gap_1, A_order_gap_2, A_order_gap_3, A_order_gap_4, A_order_gap_5, A_order_gap_6, A_order_gap_8, A_order_gap_9, A_order_gap_10, A_order_gap_11, A_order_gap_12, A_order_gap_13, A_order_gap_14, A_order_gap_15, A_order_gap_16, A_order_gap_17, h0, h1, h2, g1, g2, e3, e4, e6, g4, decide_true, decide_false, vload, vptr, hM, Mem.read, hr1, Nat.add_zero, IntWalk.i64_in (k : Int) (by omega)]
        refine call_of this ?_
        intro v M2 hv
        simp -dsimp only [↓w_seq, ↓w_ops, ↓w_skip, ↓w_ret, ↓w_exit, ↓w_scope, ↓w_block, ↓w_cond, cond_true', cond_false', ↓t_nil, ↓t_plain, ↓t_guard, ↓t_again, t_val, t_call, g_true, g_false, a_val, a_call, ↓n_normal, ↓n_ret, ↓n_exit, ↓b_normal, ↓b_ret, ↓b_exit, ↓e_normal, ↓e_ret, e_some, go_sem, ↓reduceIte, Nat.reduceEqDiff, Nat.reduceLT, Nat.reduceSub, A_order_gap_0, A_order_gap_1, A_order_gap_2, A_order_gap_3, A_order_gap_4, A_order_gap_5, A_order_gap_6, A_order_gap_8, A_order_gap_9, A_order_gap_10, A_order_gap_11, A_order_gap_12, A_order_gap_13, A_order_gap_14, A_order_gap_15, A_order_gap_16, A_order_gap_17]
        exact hv
  all_goals simp only [go_sem, ↓reduceIte, Nat.reduceEqDiff, Nat.reduceLT, Nat.reduceSub]
  all_goals rfl
end Go.Am.Try

/- order.Key. -/
namespace Go.Am.Try
open Go Go.Am Go.Proofs Go.Sort Go.Shelf
set_option maxRecDepth 100000
set_option linter.unusedSimpArgs false
set_option linter.unusedVariables false

theorem Key_c1_runs (a b : List UInt8) (hb : b.length < 2 ^ 63) (c : Nat) (x : V) (M : Mem) (hc : c < M.next) (hM : M.get c = some (.cells [x] false)) :
    Runs D2 F_order_Key_c1 [.str a, .str b, .ptr (some (c, 0))] M fun v M' => v = .int .i64 (btwE a b).2 ∧ M.next ≤ M'.next ∧ M'.get c = some (.cells [.str (btwE a b).1] false) ∧ ∀ d, d < M.next → d ≠ c → M'.get d = M.get d := by
  refine Runs.walk (F := A_order_Key_c1) rfl (by rfl) (by rfl) ?_
  unfold A_order_Key_c1
  simp -dsimp only [↓w_seq, ↓w_ops, ↓w_skip, ↓w_ret, ↓w_exit, ↓w_scope, ↓w_block, ↓w_cond, cond_true', cond_false', ↓t_nil, ↓t_plain, ↓t_guard, ↓t_again, t_val, t_call, g_true, g_false, a_val, a_call, ↓n_normal, ↓n_ret, ↓n_exit, ↓b_normal, ↓b_ret, ↓b_exit, ↓e_normal, ↓e_ret, e_some, go_sem, ↓reduceIte, Nat.reduceEqDiff, Nat.reduceLT, Nat.reduceSub, A_order_Key_c1_0, A_order_Key_c1_1, A_order_Key_c1_2]
  refine call_of (between_runs a b hb M) ?_
  intro v M1 hv
  rw [hv.1, btwV_is]
  have hG := hv.2
  have hM1 : M1.get c = some (.cells [x] false) := (hG.old c hc).trans hM
  have hw := write_one (v := .str (btwE a b).1) hM1 (show 0 < 1 by omega) rfl
  simp -dsimp only [↓w_seq, ↓w_ops, ↓w_skip, ↓w_ret, ↓w_exit, ↓w_scope, ↓w_block, ↓w_cond, cond_true', cond_false', ↓t_nil, ↓t_plain, ↓t_guard, ↓t_again, t_val, t_call, g_true, g_false, a_val, a_call, ↓n_normal, ↓n_ret, ↓n_exit, ↓b_normal, ↓b_ret, ↓b_exit, ↓e_normal, ↓e_ret, e_some, go_sem, ↓reduceIte, Nat.reduceEqDiff, Nat.reduceLT, Nat.reduceSub, A_order_Key_c1_0, A_order_Key_c1_1, A_order_Key_c1_2, List.getElem?_cons_zero, List.getElem?_cons_succ, vstore, V.cells, List.length_cons, List.length_nil, Nat.zero_add, hw, List.set_cons_zero]
  have hu := Upd.set M1 c (.cells [.str (btwE a b).1] false)
  exact ⟨trivial, by rw [hu.next]; exact hG.next, hu.at_, fun d hd hne => (hu.other d hne).trans (hG.old d hd)⟩

open Classical in
/-- What Key answers. -/
noncomputable def keyK (xs : List Sb) (at_ : Int) : List UInt8 × Int :=
  if ¬ RowP xs ∨ at_ < 0 ∨ (xs.length : Int) < at_ then ([], 1) else if 0 < at_ ∧ at_ < xs.length ∧ kA xs at_ = kB xs at_ then ([], 32) else btwE (kA xs at_) (kB xs at_)

theorem kB_len (xs : List Sb) (hk : ∀ x ∈ xs, x.1.length < 2 ^ 63) (at_ : Int) : (kB xs at_).length < 2 ^ 63 := by
  unfold kB
  split
  · rw [List.getD_eq_getElem?_getD]
    cases h : xs[at_.toNat]? with
    | none => simp [sb0]
    | some x => exact hk x (List.mem_of_getElem? h)
  · simp

theorem Key_runs (s : V) (xs : List Sb) (hl : xs.length < 2 ^ 62) (hk : ∀ x ∈ xs, x.1.length < 2 ^ 63) (at_ : Int) (M : Mem) (hs : SlR elSb M s xs) (hlt : ∀ b, s.blk = some b → xs ≠ [] → b < M.next) :
    Runs D2 F_order_Key [s, .int .i64 at_] M fun v M' => v = .tup [.str (keyK xs at_).1, .int .i64 (keyK xs at_).2] ∧ Grew M M' := by
  refine Runs.walk (F := A_order_Key) rfl (by rfl) (by rfl) ?_
  unfold A_order_Key
  simp -dsimp only [↓w_seq, ↓w_ops, ↓w_skip, ↓w_ret, ↓w_exit, ↓w_scope, ↓w_block, ↓w_cond, cond_true', cond_false', ↓t_nil, ↓t_plain, ↓t_guard, ↓t_again, t_val, t_call, g_true, g_false, a_val, a_call, ↓n_normal, ↓n_ret, ↓n_exit, ↓b_normal, ↓b_ret, ↓b_exit, ↓e_normal, ↓e_ret, e_some, go_sem, ↓reduceIte, Nat.reduceEqDiff, Nat.reduceLT, Nat.reduceSub, A_order_Key_0, A_order_Key_1, A_order_Key_2]
  have g0 : Grew M (M.push (.cells [.str []] false)) := Grew.push _ _
  have hM1 : (M.push (.cells [.str []] false)).get M.next = some (.cells [.str []] false) := Mem.get_push_same _ _
  have hn1 : (M.push (.cells [.str []] false)).next = M.next + 1 := rfl
  generalize M.push (.cells [.str []] false) = M1 at *
  have hs1 : SlR elSb M1 s xs := by
    obtain ⟨a0, cap, e0, h⟩ := id hs
    rcases h with h | h
    · exact ⟨a0, cap, e0, .inl h⟩
    · by_cases hz : xs = []
      · exact ⟨a0, cap, e0, .inl hz⟩
      · exact hs.keep fun b hb => g0.old b (hlt b hb hz)
  refine call_of (S := fun v M' => v = .int .i64 (keyK xs at_).2 ∧ M1.next ≤ M'.next ∧ M'.get M.next = some (.cells [.str (keyK xs at_).1] false) ∧ ∀ d, d < M.next → M'.get d = M.get d) (gap_runs s xs hl at_ F_order_Key_c1 (.ptr (some (M.next, 0))) M1 hs1 (fun b hb hz => by have := hlt b hb hz; omega) ?_ ?_ ?_) ?_
  · intro M' hG h
    have : keyK xs at_ = ([], 1) := by unfold keyK; rw [if_pos h]
    rw [this]
    exact ⟨rfl, hG.next, (hG.old _ (by omega)).trans hM1, fun d hd => (hG.old d (by omega)).trans (g0.old d hd)⟩
  · intro M' hG h1 h2 h3 h4
    have : keyK xs at_ = ([], 32) := by unfold keyK; rw [if_neg (by rintro (h | h | h); exact h h1; omega; omega), if_pos ⟨h2, h3, h4⟩]
    rw [this]
    exact ⟨rfl, hG.next, (hG.old _ (by omega)).trans hM1, fun d hd => (hG.old d (by omega)).trans (g0.old d hd)⟩
  · intro M' hG h1 h2 h3 h4
    have : keyK xs at_ = btwE (kA xs at_) (kB xs at_) := by unfold keyK; rw [if_neg (by rintro (h | h | h); exact h h1; omega; omega), if_neg (fun h => h4 h.1 h.2.1 h.2.2)]
    rw [this]
    have hnx := hG.next
    refine (Key_c1_runs _ _ (kB_len xs hk at_) M.next _ M' (by omega) ((hG.old _ (by omega)).trans hM1)).mono ?_
    intro v M2 hv
    exact ⟨hv.1, by have := hv.2.1; omega, hv.2.2.1, fun d hd => ((hv.2.2.2 d (by omega) (by omega)).trans (hG.old d (by omega))).trans (g0.old d hd)⟩
  · intro v M2 hv
    rw [hv.1]
    obtain ⟨_, hn2, hM2, ho2⟩ := hv
    have hw := write_one (v := .str (keyK xs at_).1) hM2 (show 0 < 1 by omega) rfl
    simp -dsimp only [↓w_seq, ↓w_ops, ↓w_skip, ↓w_ret, ↓w_exit, ↓w_scope, ↓w_block, ↓w_cond, cond_true', cond_false', ↓t_nil, ↓t_plain, ↓t_guard, ↓t_again, t_val, t_call, g_true, g_false, a_val, a_call, ↓n_normal, ↓n_ret, ↓n_exit, ↓b_normal, ↓b_ret, ↓b_exit, ↓e_normal, ↓e_ret, e_some, go_sem, ↓reduceIte, Nat.reduceEqDiff, Nat.reduceLT, Nat.reduceSub, A_order_Key_0, A_order_Key_1, A_order_Key_2, vload, hM2, List.getElem?_cons_zero, vstore, V.cells, List.length_cons, List.length_nil, Nat.zero_add, hw, List.set_cons_zero]
    have hu := Upd.set M2 M.next (.cells [.str (keyK xs at_).1] false)
    generalize M2.set M.next _ = M3 at hu
    simp -dsimp only [↓w_seq, ↓w_ops, ↓w_skip, ↓w_ret, ↓w_exit, ↓w_scope, ↓w_block, ↓w_cond, cond_true', cond_false', ↓t_nil, ↓t_plain, ↓t_guard, ↓t_again, t_val, t_call, g_true, g_false, a_val, a_call, ↓n_normal, ↓n_ret, ↓n_exit, ↓b_normal, ↓b_ret, ↓b_exit, ↓e_normal, ↓e_ret, e_some, go_sem, ↓reduceIte, Nat.reduceEqDiff, Nat.reduceLT, Nat.reduceSub, A_order_Key_0, A_order_Key_1, A_order_Key_2, vload, hu.at_, List.getElem?_cons_zero]
    exact ⟨trivial, by rw [hu.next]; omega, fun d hd => (hu.other d (by omega)).trans (ho2 d hd)⟩
end Go.Am.Try

/- The plain law: a sibling with the key that is answered stands at its place. -/
namespace Go.Am.Try
open Go Go.Am Go.Proofs Go.Sort Go.Shelf
set_option maxRecDepth 100000
set_option linter.unusedSimpArgs false
set_option linter.unusedVariables false

def Rises (l : List Sb) : Prop := l.Pairwise fun a b => ltSb a b = true

theorem rises_unique : ∀ {l l' : List Sb}, Rises l → Rises l' → l.Perm l' → l = l'
  | [], l', _, _, hp => hp.nil_eq
  | a :: l, [], _, _, hp => absurd hp.length_eq (by simp)
  | a :: l, b :: l', h, h', hp => by
    have hab : a = b := by
      have ha : a ∈ b :: l' := hp.mem_iff.mp (List.mem_cons_self ..)
      have hb : b ∈ a :: l := hp.mem_iff.mpr (List.mem_cons_self ..)
      rcases List.mem_cons.mp ha with e | ha
      · exact e
      rcases List.mem_cons.mp hb with e | hb
      · exact e.symm
      have h1 := (List.pairwise_cons.mp h).1 b hb
      have h2 := (List.pairwise_cons.mp h').1 a ha
      have := swo_Sb.trans _ _ _ h1 h2
      rw [swo_Sb.irrefl] at this
      cases this
    subst hab
    rw [rises_unique (List.pairwise_cons.mp h).2 (List.pairwise_cons.mp h').2 (List.Perm.cons_inv hp)]

/-- What is in order with no two alike rises. -/
theorem rises_of_sorted {l : List Sb} (h : l.Pairwise fun a b => ltSb b a = false) (hn : l.Nodup) : Rises l := by
  have := List.Pairwise.and h hn
  refine List.Pairwise.imp ?_ this
  intro a b hab
  cases hq : ltSb a b with
  | true => rfl
  | false => exact absurd (tot_Sb a b hq hab.1) hab.2

theorem isort_eq {l l' : List Sb} (hp : l.Perm l') (h : Rises l') : isort ltSb l = l' := by
  refine rises_unique (rises_of_sorted (isort_sorted swo_Sb l) ?_) h ((isort_perm ltSb l).trans hp)
  refine ((isort_perm ltSb l).trans hp).nodup_iff.mpr ?_
  refine List.Pairwise.imp ?_ h
  intro a b hab e
  subst e
  rw [swo_Sb.irrefl] at hab
  cases hab

theorem rises_of_row {xs : List Sb} (h : RowP xs) : Rises xs := by
  have key : ∀ d i (hi : i + d + 1 < xs.length), ltSb xs[i] xs[i + d + 1] = true := by
    intro d
    induction d with
    | zero => intro i hi; exact h i hi
    | succ d ih =>
      intro i hi
      have h1 := ih i (by omega)
      have h2 := h (i + d + 1) (by omega)
      exact swo_Sb.trans _ _ _ h1 h2
  unfold Rises
  rw [List.pairwise_iff_getElem]
  intro i j hi hj hij
  have := key (j - i - 1) i (by omega)
  have e : i + (j - i - 1) + 1 = j := by omega
  simp only [e] at this
  exact this

theorem less_cmp {a b : List UInt8} (h : strLess a b = true) : cmpB a b = -1 := by
  rw [cmp_less] at h
  exact of_decide_eq_true h

/-- The law. -/
theorem stands {xs : List Sb} (h : Rises xs) {n : Nat} (hn : n ≤ xs.length) (x : Sb) (hA : ∀ i (hi : i < xs.length), i < n → ltSb xs[i] x = true) (hB : ∀ i (hi : i < xs.length), n ≤ i → ltSb x xs[i] = true) :
    isort ltSb (xs ++ [x]) = xs.take n ++ x :: xs.drop n := by
  refine isort_eq ?_ ?_
  · have h1 : (xs.take n ++ x :: xs.drop n).Perm (x :: (xs.take n ++ xs.drop n)) := List.perm_middle
    rw [List.take_append_drop] at h1
    exact (List.perm_append_comm.trans (by simp)).trans h1.symm
  · unfold Rises at h ⊢
    rw [List.pairwise_append, List.pairwise_cons]
    refine ⟨h.sublist (List.take_sublist ..), ⟨?_, h.sublist (List.drop_sublist ..)⟩, ?_⟩
    · intro y hy
      obtain ⟨i, hi, rfl⟩ := List.mem_iff_getElem.mp hy
      rw [List.getElem_drop]
      exact hB _ _ (by omega)
    · intro y hy z hz
      obtain ⟨i, hi, rfl⟩ := List.mem_iff_getElem.mp hy
      rw [List.getElem_take]
      have hi' : i < n := by simp at hi; omega
      have hix : i < xs.length := by omega
      have hy1 := hA i hix hi'
      rcases List.mem_cons.mp hz with rfl | hz
      · exact hy1
      · obtain ⟨j, hj, rfl⟩ := List.mem_iff_getElem.mp hz
        rw [List.getElem_drop]
        exact swo_Sb.trans _ _ _ hy1 (hB _ _ (by omega))

theorem keyK_bad {xs : List Sb} {at_ : Int} (h : (keyK xs at_).2 ≠ 0) : (keyK xs at_).1 = [] := by
  unfold keyK at h ⊢
  split
  · rfl
  · split
    · rfl
    · rename_i h1 h2
      rw [if_neg h1, if_neg h2] at h
      unfold btwE at h ⊢
      split
      · rename_i h3
        rw [if_pos h3] at h
        split
        · rename_i k hk
          rw [hk] at h
          exact absurd rfl h
        · rfl
      · rfl

theorem keyK_good {xs : List Sb} {at_ : Int} (h : (keyK xs at_).2 = 0) (hf : fineL xs = true) (st : St) :
    ∃ n : Nat, at_ = n ∧ n ≤ xs.length ∧ isort ltSb (xs ++ [((keyK xs at_).1, st)]) = xs.take n ++ ((keyK xs at_).1, st) :: xs.drop n := by
  unfold keyK at h ⊢
  split at h
  · cases h
  · rename_i h1
    split at h
    · cases h
    · rename_i h2
      rw [if_neg h1, if_neg h2]
      have hrow : RowP xs := Classical.byContradiction fun hc => h1 (.inl hc)
      have h3 : 0 ≤ at_ := Int.not_lt.mp fun hc => h1 (.inr (.inl hc))
      have h4 : at_ ≤ xs.length := Int.not_lt.mp fun hc => h1 (.inr (.inr hc))
      obtain ⟨n, rfl⟩ := Int.eq_ofNat_of_zero_le h3
      have hn : n ≤ xs.length := by omega
      have hr := rises_of_row hrow
      have hp := hr
      unfold Rises at hp
      rw [List.pairwise_iff_getElem] at hp
      unfold btwE at h ⊢
      split at h
      · rename_i hfine
        split at h
        · rename_i k hk
          rw [if_pos hfine]
          simp only [hk]
          obtain ⟨_, ha, hb⟩ := btw_right hk
          refine ⟨n, rfl, hn, stands hr hn _ ?_ ?_⟩
          · intro i hi hin
            cases n with
            | zero => omega
            | succ m =>
              rw [kA_succ _ _ (show m < xs.length by omega)] at ha
              have hc := less_cmp ha
              rw [ltSb_iff]
              right
              rcases Nat.lt_or_ge i m with h5 | h5
              · have := hp i m hi (by omega) h5
                rw [ltSb_iff] at this
                rcases this with ⟨he, _⟩ | this
                · show cmpB xs[i].1 k = -1
                  rw [he]; exact hc
                · exact cmp_trans this hc
              · have : i = m := by omega
                subst this
                exact hc
          · intro i hi hin
            have hnl : n < xs.length := by omega
            rw [kB_lt _ _ hnl] at hb
            have hne : xs[n].1 ≠ [] := by
              intro he
              have := List.all_eq_true.mp hf xs[n] (List.getElem_mem hnl)
              rw [he] at this
              exact absurd this (by decide)
            have hc := less_cmp (hb hne)
            rw [ltSb_iff]
            right
            rcases Nat.lt_or_ge n i with h5 | h5
            · have := hp n i hnl hi h5
              rw [ltSb_iff] at this
              rcases this with ⟨he, _⟩ | this
              · show cmpB k xs[i].1 = -1
                rw [← he]; exact hc
              · exact cmp_trans hc this
            · have : i = n := by omega
              subst this
              exact hc
        · cases h
      · cases h
end Go.Am.Try

/- The walk of the law OrderStands. -/
namespace Go.Am.Try
open Go Go.Am Go.Proofs Go.Sort Go.Shelf
set_option maxRecDepth 100000
set_option linter.unusedSimpArgs false
set_option linter.unusedVariables false

theorem two_app {M : Mem} {b1 b2 : Nat} {sx : V} {X : List Sb} {lo : Nat} {x : Sb} (h1 : M.get b1 = some (.cells [] false)) (hb1 : b1 < M.next) (hX : Hold lo M 3 sx X.length (elSb.all X)) (h2 : M.get b2 = some (.cells (sbC x) false)) (hb2 : b2 < M.next)
    (hx2 : sx.blk ≠ some b2) (hroom : (X.length + 1) * 32 ≤ maxRoom) :
    ∃ s39 M3 s44 M4, vappend 3 32 M (.slice (some (b1, 0)) 0 (.exact 0)) sx = some (s39, M3) ∧ vappend 3 32 M3 s39 (.slice (some (b2, 0)) 1 (.exact 1)) = some (s44, M4) ∧ Hold M.next M4 3 s44 (X ++ [x]).length (elSb.all (X ++ [x])) ∧ (∀ c, c < M.next → M3.get c = M.get c) ∧ Grew M M4 := by
  have hmx : maxRoom = 17592186044416 := rfl
  have hall : elSb.all (X ++ [x]) = elSb.all X ++ sbC x := by simp [Elem.all, elSb]
  have hlen : (X ++ [x]).length = X.length + 1 := by simp
  rw [hall, hlen]
  have hln := elSb.all_len X
  have hk : elSb.k = 3 := rfl
  rw [hk] at hln
  obtain ⟨hsl, hsc⟩ := hX.src
  cases X with
  | nil =>
    refine ⟨.slice (some (b1, 0)) 0 (.exact 0), M, .slice (some (M.next, 0)) 1 (.upto 3), M.push (.cells (sbC x) false), ?_, ?_, ?_, fun _ _ => rfl, Grew.push _ _⟩
    · rw [List.length_nil] at hsl hsc
      simp only [vappend, hsl, hsc, Option.bind_some, beq_dec, decide_true, cond_true]
    · have hr : M.read b2 0 (1 * 3) = some (sbC x) := read_all h2
      simp only [vappend, srcLen, srcCells, Option.bind_some, beq_dec, decide_true, cond_true, Nat.one_mul, Nat.reduceEqDiff, decide_false, cond_false, hr, Nat.zero_add, Nat.reduceLeDiff, ble_iff]
      simp only [Nat.one_mul] at hr
      simp only [hr, Option.bind_some, Option.map_some, List.nil_append]
      rw [decide_eq_true (show 1 * 32 ≤ maxRoom from by decide)]
      rfl
    · exact .row (by rw [Mem.get_push_same]; rfl) rfl (Nat.le_refl _) (by simp)
  | cons y X =>
    have hp1 : vappend 3 32 M (.slice (some (b1, 0)) 0 (.exact 0)) sx = some (.slice (some (M.next, 0)) (y :: X).length (.upto 3), M.push (.cells (elSb.all (y :: X)) false)) := by
      simp only [vappend, hsl, hsc, Option.bind_some, beq_dec]
      have h3 : ¬ (y :: X).length = 0 := by simp
      have h4 : ¬ ((y :: X).length ≤ 0) := by simp
      have h5 : (y :: X).length * 32 ≤ maxRoom := by rw [hmx] at hroom ⊢; omega
      simp only [h3, h4, h5, ble_iff, decide_false, decide_true, cond_false, cond_true, Option.map_some, List.nil_append, Nat.zero_add]
    have hH3 : Hold M.next (M.push (.cells (elSb.all (y :: X)) false)) 3 (.slice (some (M.next, 0)) (y :: X).length (.upto 3)) (y :: X).length (elSb.all (y :: X)) := .row (Mem.get_push_same _ _) hln (Nat.le_refl _) (by simp)
    obtain ⟨M4, hap, hH4, hn4, ho4⟩ := hH3.append (bytes := 32) (m := 1) (x := .slice (some (b2, 0)) 1 (.exact 1)) (new := sbC x) (by simp) rfl
      (by
        simp only [srcCells, beq_dec, Nat.one_mul, Nat.reduceEqDiff, decide_false, cond_false]
        exact read_all ((Mem.get_push_ne _ _ (by omega)).trans h2)) (by omega) rfl (by rw [hmx] at hroom ⊢; omega) rfl
    refine ⟨_, _, _, M4, hp1, hap, hH4, fun c hc => Mem.get_push_ne _ _ (by omega), by rw [hn4]; simp; omega, fun c hc => ?_⟩
    rw [ho4 c (by simp; omega) (fun e => by simp only [V.blk, Option.some.injEq] at e; omega), Mem.get_push_ne _ _ (by omega)]

theorem sib_self (x : Sb) : vsame ⟨true, [.str, .int .i64, .int .i64]⟩ (.agg (sbC x)) (.agg (sbC x)) = some true := by
  simp only [sbC]
  rw [same_sib]
  simp

theorem stands_loop (X Y : List Sb) (n : Nat) (sx sy : V) (M : Mem) (hl : X.length < 2 ^ 61) (hX : SlR elSb M sx X) (hY : SlR elSb M sy Y) (hYl : Y.length = X.length + 1) (hn : n ≤ X.length)
    (h12 : ∀ i (h : i < X.length) (h' : i < Y.length) (h'' : i + 1 < Y.length), (i < n → Y[i] = X[i]) ∧ (n ≤ i → Y[i + 1] = X[i])) {Q : AExit → Fr → Mem → Prop} (hE : ∀ fr, Q (.exit 0) fr M) :
    ∀ (f i : Nat) (fr : Fr), i + f = X.length → fr.rd 1 = .int .i64 (n : Int) → fr.rd 7 = sx → fr.rd 10 = sy → fr.rd 11 = .int .i64 (i : Int) → WC D2 102 (.loop A_law11_OrderStands_20) fr M Q := by
  intro f
  induction f with
  | zero =>
    intro i fr hi h1 h7 h10 h11
    refine WC.loop (W_of ?_)
    unfold A_law11_OrderStands_20
    obtain ⟨a, cap, rfl, _⟩ := hX
    have : ¬ (i : Int) < X.length := by omega
    simp -dsimp only [↓w_seq, ↓w_ops, ↓w_skip, ↓w_ret, ↓w_exit, ↓w_scope, ↓w_block, ↓w_cond, cond_true', cond_false', ↓t_nil, ↓t_plain, ↓t_guard, ↓t_again, t_val, t_call, g_true, g_false, a_val, a_call, ↓n_normal, ↓n_ret, ↓n_exit, ↓b_normal, ↓b_ret, ↓b_exit, ↓e_normal, ↓e_ret, e_some, go_sem, ↓reduceIte, Nat.reduceEqDiff, Nat.reduceLT, Nat.reduceSub, A_law11_OrderStands_0, A_law11_OrderStands_1, A_law11_OrderStands_2, A_law11_OrderStands_3, A_law11_OrderStands_4, A_law11_OrderStands_5, A_law11_OrderStands_6, A_law11_OrderStands_7, A_law11_OrderStands_8, A_law11_OrderStands_9, A_law11_OrderStands_10, A_law11_OrderStands_11, A_law11_OrderStands_12, A_law11_OrderStands_13, A_law11_OrderStands_14, A_law11_OrderStands_15, A_law11_OrderStands_16, A_law11_OrderStands_17, A_law11_OrderStands_18, A_law11_OrderStands_19, A_law11_OrderStands_21, h1, h7, h10, h11, this, decide_false]
    exact hE _
  | succ f ih =>
    intro i fr hi h1 h7 h10 h11
    refine WC.loop (W_of ?_)
    unfold A_law11_OrderStands_20
    have hil : i < X.length := by omega
    obtain ⟨b, o, cs, ro, cap, e0, hM, hr3, hr1, hr2⟩ := sl_at hX hil
    have e1 : (i : Int) < X.length := by omega
    have e2 : i + 1 ≤ X.length := by omega
    have e3 : i + 1 ≤ X.length + 1 := by omega
    have e4 : i + 1 + 1 ≤ X.length + 1 := by omega
    have h5' : (i : Int) + 1 = ((i + 1 : Nat) : Int) := by omega
    obtain ⟨hlo, hhi⟩ := h12 i hil (by omega) (by omega)
    rw [e0] at h7
    by_cases g : i < n
    · have g' : ¬ (n : Int) ≤ (i : Int) := by omega
      obtain ⟨b', o', cs', ro', cap', e0', hM', hr3', hr1', hr2'⟩ := sl_at hY (show i < Y.length by omega)
      rw [hlo g] at hr3'
      rw [e0', hYl] at h10
      simp -dsimp only [↓w_seq, ↓w_ops, ↓w_skip, ↓w_ret, ↓w_exit, ↓w_scope, ↓w_block, ↓w_cond, cond_true', cond_false', ↓t_nil, ↓t_plain, ↓t_guard, ↓t_again, t_val, t_call, g_true, g_false, a_val, a_call, ↓n_normal, ↓n_ret, ↓n_exit, ↓b_normal, ↓b_ret, ↓b_exit, ↓e_normal, ↓e_ret, e_some, go_sem, ↓reduceIte, Nat.reduceEqDiff, Nat.reduceLT, Nat.reduceSub, A_law11_OrderStands_0, A_law11_OrderStands_1, A_law11_OrderStands_2, A_law11_OrderStands_3, A_law11_OrderStands_4, A_law11_OrderStands_5, A_law11_OrderStands_6, A_law11_OrderStands_7, A_law11_OrderStands_8, A_law11_OrderStands_9, A_law11_OrderStands_10, A_law11_OrderStands_11, A_law11_OrderStands_12, A_law11_OrderStands_13, A_law11_OrderStands_14, A_law11_OrderStands_15, A_law11_OrderStands_16, A_law11_OrderStands_17, A_law11_OrderStands_18, A_law11_OrderStands_19, A_law11_OrderStands_21, h1, h7, h10, h11, e1, e2, e3, e4, h5', g', ge_iff_le, decide_false, decide_true, vload, vptr, hM, hM', Mem.read, hr3, hr3', Nat.add_zero, sib_self, Bool.not_true, IntWalk.i64_in ((i + 1 : Nat) : Int) (by omega)]
      refine ih (i + 1) _ (by omega) ?_ ?_ ?_ ?_
      all_goals simp only [go_sem, ↓reduceIte, Nat.reduceEqDiff, Nat.reduceLT, Nat.reduceSub, h1, h7, h10, e0, e0', hYl]
    · have g' : (n : Int) ≤ (i : Int) := by omega
      obtain ⟨b', o', cs', ro', cap', e0', hM', hr3', hr1', hr2'⟩ := sl_at hY (show i + 1 < Y.length by omega)
      rw [hhi (by omega)] at hr3'
      rw [e0', hYl] at h10
      simp -dsimp only [↓w_seq, ↓w_ops, ↓w_skip, ↓w_ret, ↓w_exit, ↓w_scope, ↓w_block, ↓w_cond, cond_true', cond_false', ↓t_nil, ↓t_plain, ↓t_guard, ↓t_again, t_val, t_call, g_true, g_false, a_val, a_call, ↓n_normal, ↓n_ret, ↓n_exit, ↓b_normal, ↓b_ret, ↓b_exit, ↓e_normal, ↓e_ret, e_some, go_sem, ↓reduceIte, Nat.reduceEqDiff, Nat.reduceLT, Nat.reduceSub, A_law11_OrderStands_0, A_law11_OrderStands_1, A_law11_OrderStands_2, A_law11_OrderStands_3, A_law11_OrderStands_4, A_law11_OrderStands_5, A_law11_OrderStands_6, A_law11_OrderStands_7, A_law11_OrderStands_8, A_law11_OrderStands_9, A_law11_OrderStands_10, A_law11_OrderStands_11, A_law11_OrderStands_12, A_law11_OrderStands_13, A_law11_OrderStands_14, A_law11_OrderStands_15, A_law11_OrderStands_16, A_law11_OrderStands_17, A_law11_OrderStands_18, A_law11_OrderStands_19, A_law11_OrderStands_21, h1, h7, h10, h11, e1, e2, e3, e4, h5', g', ge_iff_le, decide_false, decide_true, vload, vptr, hM, hM', Mem.read, hr3, hr3', Nat.add_zero, sib_self, Bool.not_true, IntWalk.i64_in ((i + 1 : Nat) : Int) (by omega)]
      refine ih (i + 1) _ (by omega) ?_ ?_ ?_ ?_
      all_goals simp only [go_sem, ↓reduceIte, Nat.reduceEqDiff, Nat.reduceLT, Nat.reduceSub, h1, h7, h10, e0, e0', hYl]
end Go.Am.Try

/- The walk of the law OrderStands, whole. -/
namespace Go.Am.Try
open Go Go.Am Go.Proofs Go.Sort Go.Shelf
set_option maxRecDepth 100000
set_option linter.unusedSimpArgs false
set_option linter.unusedVariables false

theorem st_self (x : St) : vsame ⟨true, [.int .i64, .int .i64]⟩ (.agg (stC x)) (.agg (stC x)) = some true := by
  simp only [stC]
  rw [same_two]
  simp

set_option maxHeartbeats 2000000 in
theorem order_stands_runs (s : V) (ls : List Sb) (at_ : Int) (st : St) (hk : ∀ x ∈ ls, x.1.length < 2 ^ 63) (M : Mem) (hs : SlR elSb M s ls) (hlt : ∀ b, s.blk = some b → ls ≠ [] → b < M.next) :
    Runs D2 F_law11_OrderStands [s, .int .i64 at_, .agg (stC st)] M fun v _ => v = .bool true := by
  have hmx : maxRoom = 17592186044416 := rfl
  refine Runs.walk (F := A_law11_OrderStands) rfl (by rfl) (by rfl) ?_
  unfold A_law11_OrderStands
  simp -dsimp only [↓w_seq, ↓w_ops, ↓w_skip, ↓w_ret, ↓w_exit, ↓w_scope, ↓w_block, ↓w_cond, cond_true', cond_false', ↓t_nil, ↓t_plain, ↓t_guard, ↓t_again, t_val, t_call, g_true, g_false, a_val, a_call, ↓n_normal, ↓n_ret, ↓n_exit, ↓b_normal, ↓b_ret, ↓b_exit, ↓e_normal, ↓e_ret, e_some, go_sem, ↓reduceIte, Nat.reduceEqDiff, Nat.reduceLT, Nat.reduceSub, A_law11_OrderStands_0, A_law11_OrderStands_1, A_law11_OrderStands_2, A_law11_OrderStands_3, A_law11_OrderStands_4, A_law11_OrderStands_5, A_law11_OrderStands_6, A_law11_OrderStands_7, A_law11_OrderStands_8, A_law11_OrderStands_9, A_law11_OrderStands_10, A_law11_OrderStands_11, A_law11_OrderStands_12, A_law11_OrderStands_13, A_law11_OrderStands_14, A_law11_OrderStands_15, A_law11_OrderStands_16, A_law11_OrderStands_17, A_law11_OrderStands_18, A_law11_OrderStands_19, A_law11_OrderStands_21, V.cells]
  have g1 : Grew M (M.push (.cells (stC st) false)) := Grew.push _ _
  have hp1 : (M.push (.cells (stC st) false)).get M.next = some (.cells (stC st) false) := Mem.get_push_same _ _
  have hn1 : (M.push (.cells (stC st) false)).next = M.next + 1 := rfl
  generalize M.push (.cells (stC st) false) = M1 at *
  have hs1 : SlR elSb M1 s ls := by
    by_cases hz : ls = []
    · obtain ⟨a0, cap, e0, h⟩ := hs
      exact ⟨a0, cap, e0, .inl hz⟩
    · exact hs.keep fun b hb => g1.old b (hlt b hb hz)
  have hlt1 : ∀ b, s.blk = some b → ls ≠ [] → b < M1.next := fun b hb hz => by have := hlt b hb hz; omega
  refine call_of (long_runs s ls hk M1 hs1) ?_
  intro v M2 hv
  obtain ⟨t, hv1, ht, hv3⟩ := hv
  rw [hv1, hv3]
  cases t with
  | true =>
    simp -dsimp only [↓w_seq, ↓w_ops, ↓w_skip, ↓w_ret, ↓w_exit, ↓w_scope, ↓w_block, ↓w_cond, cond_true', cond_false', ↓t_nil, ↓t_plain, ↓t_guard, ↓t_again, t_val, t_call, g_true, g_false, a_val, a_call, ↓n_normal, ↓n_ret, ↓n_exit, ↓b_normal, ↓b_ret, ↓b_exit, ↓e_normal, ↓e_ret, e_some, go_sem, ↓reduceIte, Nat.reduceEqDiff, Nat.reduceLT, Nat.reduceSub, A_law11_OrderStands_0, A_law11_OrderStands_1, A_law11_OrderStands_2, A_law11_OrderStands_3, A_law11_OrderStands_4, A_law11_OrderStands_5, A_law11_OrderStands_6, A_law11_OrderStands_7, A_law11_OrderStands_8, A_law11_OrderStands_9, A_law11_OrderStands_10, A_law11_OrderStands_11, A_law11_OrderStands_12, A_law11_OrderStands_13, A_law11_OrderStands_14, A_law11_OrderStands_15, A_law11_OrderStands_16, A_law11_OrderStands_17, A_law11_OrderStands_18, A_law11_OrderStands_19, A_law11_OrderStands_21]
    refine call_eq (knows_runs _) ?_
    simp -dsimp only [↓w_seq, ↓w_ops, ↓w_skip, ↓w_ret, ↓w_exit, ↓w_scope, ↓w_block, ↓w_cond, cond_true', cond_false', ↓t_nil, ↓t_plain, ↓t_guard, ↓t_again, t_val, t_call, g_true, g_false, a_val, a_call, ↓n_normal, ↓n_ret, ↓n_exit, ↓b_normal, ↓b_ret, ↓b_exit, ↓e_normal, ↓e_ret, e_some, go_sem, ↓reduceIte, Nat.reduceEqDiff, Nat.reduceLT, Nat.reduceSub, A_law11_OrderStands_0, A_law11_OrderStands_1, A_law11_OrderStands_2, A_law11_OrderStands_3, A_law11_OrderStands_4, A_law11_OrderStands_5, A_law11_OrderStands_6, A_law11_OrderStands_7, A_law11_OrderStands_8, A_law11_OrderStands_9, A_law11_OrderStands_10, A_law11_OrderStands_11, A_law11_OrderStands_12, A_law11_OrderStands_13, A_law11_OrderStands_14, A_law11_OrderStands_15, A_law11_OrderStands_16, A_law11_OrderStands_17, A_law11_OrderStands_18, A_law11_OrderStands_19, A_law11_OrderStands_21]
  | false =>
    have hle := ht rfl
    clear ht hv1 hv3 M2 v
    simp -dsimp only [↓w_seq, ↓w_ops, ↓w_skip, ↓w_ret, ↓w_exit, ↓w_scope, ↓w_block, ↓w_cond, cond_true', cond_false', ↓t_nil, ↓t_plain, ↓t_guard, ↓t_again, t_val, t_call, g_true, g_false, a_val, a_call, ↓n_normal, ↓n_ret, ↓n_exit, ↓b_normal, ↓b_ret, ↓b_exit, ↓e_normal, ↓e_ret, e_some, go_sem, ↓reduceIte, Nat.reduceEqDiff, Nat.reduceLT, Nat.reduceSub, A_law11_OrderStands_0, A_law11_OrderStands_1, A_law11_OrderStands_2, A_law11_OrderStands_3, A_law11_OrderStands_4, A_law11_OrderStands_5, A_law11_OrderStands_6, A_law11_OrderStands_7, A_law11_OrderStands_8, A_law11_OrderStands_9, A_law11_OrderStands_10, A_law11_OrderStands_11, A_law11_OrderStands_12, A_law11_OrderStands_13, A_law11_OrderStands_14, A_law11_OrderStands_15, A_law11_OrderStands_16, A_law11_OrderStands_17, A_law11_OrderStands_18, A_law11_OrderStands_19, A_law11_OrderStands_21]
    refine call_of (Own_runs s ls (by rw [hmx]; omega) M1 hs1 hlt1) ?_
    intro v M2 hv
    obtain ⟨hG2, hH2⟩ := hv
    simp -dsimp only [↓w_seq, ↓w_ops, ↓w_skip, ↓w_ret, ↓w_exit, ↓w_scope, ↓w_block, ↓w_cond, cond_true', cond_false', ↓t_nil, ↓t_plain, ↓t_guard, ↓t_again, t_val, t_call, g_true, g_false, a_val, a_call, ↓n_normal, ↓n_ret, ↓n_exit, ↓b_normal, ↓b_ret, ↓b_exit, ↓e_normal, ↓e_ret, e_some, go_sem, ↓reduceIte, Nat.reduceEqDiff, Nat.reduceLT, Nat.reduceSub, A_law11_OrderStands_0, A_law11_OrderStands_1, A_law11_OrderStands_2, A_law11_OrderStands_3, A_law11_OrderStands_4, A_law11_OrderStands_5, A_law11_OrderStands_6, A_law11_OrderStands_7, A_law11_OrderStands_8, A_law11_OrderStands_9, A_law11_OrderStands_10, A_law11_OrderStands_11, A_law11_OrderStands_12, A_law11_OrderStands_13, A_law11_OrderStands_14, A_law11_OrderStands_15, A_law11_OrderStands_16, A_law11_OrderStands_17, A_law11_OrderStands_18, A_law11_OrderStands_19, A_law11_OrderStands_21]
    refine call_of (order_Sort_runs v ls (by rw [hmx]; omega) M2 hH2) ?_
    intro w M3 hv
    obtain ⟨hG3, hH3⟩ := hv
    have hXl : (isort ltSb ls).length = ls.length := isort_len ltSb ls
    rw [← hXl] at hH3
    have hXk : ∀ x ∈ isort ltSb ls, x.1.length < 2 ^ 63 := fun x hx => hk x ((isort_perm ltSb ls).mem_iff.mp hx)
    generalize isort ltSb ls = X at *
    have hp3 : M3.get M.next = some (.cells (stC st) false) := (hG3.old _ (by have := hG2.next; omega)).trans ((hG2.old _ (by omega)).trans hp1)
    have hn3 : M.next < M3.next := by have := hG2.next; have := hG3.next; omega
    have hXs := hH3.slR (e := elSb)
    simp -dsimp only [↓w_seq, ↓w_ops, ↓w_skip, ↓w_ret, ↓w_exit, ↓w_scope, ↓w_block, ↓w_cond, cond_true', cond_false', ↓t_nil, ↓t_plain, ↓t_guard, ↓t_again, t_val, t_call, g_true, g_false, a_val, a_call, ↓n_normal, ↓n_ret, ↓n_exit, ↓b_normal, ↓b_ret, ↓b_exit, ↓e_normal, ↓e_ret, e_some, go_sem, ↓reduceIte, Nat.reduceEqDiff, Nat.reduceLT, Nat.reduceSub, A_law11_OrderStands_0, A_law11_OrderStands_1, A_law11_OrderStands_2, A_law11_OrderStands_3, A_law11_OrderStands_4, A_law11_OrderStands_5, A_law11_OrderStands_6, A_law11_OrderStands_7, A_law11_OrderStands_8, A_law11_OrderStands_9, A_law11_OrderStands_10, A_law11_OrderStands_11, A_law11_OrderStands_12, A_law11_OrderStands_13, A_law11_OrderStands_14, A_law11_OrderStands_15, A_law11_OrderStands_16, A_law11_OrderStands_17, A_law11_OrderStands_18, A_law11_OrderStands_19, A_law11_OrderStands_21]
    refine call_of (Key_runs w X (by omega) hXk at_ M3 hXs (fun b hb _ => (hH3.blk_le hb).2.1)) ?_
    intro kv M4 hv
    rw [hv.1]
    have hG4 := hv.2
    clear hv
    have hH4 : Hold M2.next M4 3 w X.length (elSb.all X) := hH3.keep (fun c hc => hG4.old c (hH3.blk_le hc).2.1) hG4.next
    have hp4 := (hG4.old _ hn3).trans hp3
    have hn4 : M.next < M4.next := by have := hG4.next; omega
    simp -dsimp only [↓w_seq, ↓w_ops, ↓w_skip, ↓w_ret, ↓w_exit, ↓w_scope, ↓w_block, ↓w_cond, cond_true', cond_false', ↓t_nil, ↓t_plain, ↓t_guard, ↓t_again, t_val, t_call, g_true, g_false, a_val, a_call, ↓n_normal, ↓n_ret, ↓n_exit, ↓b_normal, ↓b_ret, ↓b_exit, ↓e_normal, ↓e_ret, e_some, go_sem, ↓reduceIte, Nat.reduceEqDiff, Nat.reduceLT, Nat.reduceSub, A_law11_OrderStands_0, A_law11_OrderStands_1, A_law11_OrderStands_2, A_law11_OrderStands_3, A_law11_OrderStands_4, A_law11_OrderStands_5, A_law11_OrderStands_6, A_law11_OrderStands_7, A_law11_OrderStands_8, A_law11_OrderStands_9, A_law11_OrderStands_10, A_law11_OrderStands_11, A_law11_OrderStands_12, A_law11_OrderStands_13, A_law11_OrderStands_14, A_law11_OrderStands_15, A_law11_OrderStands_16, A_law11_OrderStands_17, A_law11_OrderStands_18, A_law11_OrderStands_19, A_law11_OrderStands_21, List.getElem?_cons_zero, List.getElem?_cons_succ]
    refine call_eq (lawnum_runs _ _) ?_
    by_cases he : (keyK X at_).2 = 0
    · have hXs4 := hH4.slR (e := elSb)
      rw [he]
      simp -dsimp only [↓w_seq, ↓w_ops, ↓w_skip, ↓w_ret, ↓w_exit, ↓w_scope, ↓w_block, ↓w_cond, cond_true', cond_false', ↓t_nil, ↓t_plain, ↓t_guard, ↓t_again, t_val, t_call, g_true, g_false, a_val, a_call, ↓n_normal, ↓n_ret, ↓n_exit, ↓b_normal, ↓b_ret, ↓b_exit, ↓e_normal, ↓e_ret, e_some, go_sem, ↓reduceIte, Nat.reduceEqDiff, Nat.reduceLT, Nat.reduceSub, A_law11_OrderStands_0, A_law11_OrderStands_1, A_law11_OrderStands_2, A_law11_OrderStands_3, A_law11_OrderStands_4, A_law11_OrderStands_5, A_law11_OrderStands_6, A_law11_OrderStands_7, A_law11_OrderStands_8, A_law11_OrderStands_9, A_law11_OrderStands_10, A_law11_OrderStands_11, A_law11_OrderStands_12, A_law11_OrderStands_13, A_law11_OrderStands_14, A_law11_OrderStands_15, A_law11_OrderStands_16, A_law11_OrderStands_17, A_law11_OrderStands_18, A_law11_OrderStands_19, A_law11_OrderStands_21, ne_eq, not_true_eq_false, decide_false]
      refine call_eq (lawfine_runs w X (by omega) M4 hXs4) ?_
      cases hf : fineL X with
      | false =>
        simp -dsimp only [↓w_seq, ↓w_ops, ↓w_skip, ↓w_ret, ↓w_exit, ↓w_scope, ↓w_block, ↓w_cond, cond_true', cond_false', ↓t_nil, ↓t_plain, ↓t_guard, ↓t_again, t_val, t_call, g_true, g_false, a_val, a_call, ↓n_normal, ↓n_ret, ↓n_exit, ↓b_normal, ↓b_ret, ↓b_exit, ↓e_normal, ↓e_ret, e_some, go_sem, ↓reduceIte, Nat.reduceEqDiff, Nat.reduceLT, Nat.reduceSub, A_law11_OrderStands_0, A_law11_OrderStands_1, A_law11_OrderStands_2, A_law11_OrderStands_3, A_law11_OrderStands_4, A_law11_OrderStands_5, A_law11_OrderStands_6, A_law11_OrderStands_7, A_law11_OrderStands_8, A_law11_OrderStands_9, A_law11_OrderStands_10, A_law11_OrderStands_11, A_law11_OrderStands_12, A_law11_OrderStands_13, A_law11_OrderStands_14, A_law11_OrderStands_15, A_law11_OrderStands_16, A_law11_OrderStands_17, A_law11_OrderStands_18, A_law11_OrderStands_19, A_law11_OrderStands_21]
        refine call_eq (knows_runs _) ?_
        simp -dsimp only [↓w_seq, ↓w_ops, ↓w_skip, ↓w_ret, ↓w_exit, ↓w_scope, ↓w_block, ↓w_cond, cond_true', cond_false', ↓t_nil, ↓t_plain, ↓t_guard, ↓t_again, t_val, t_call, g_true, g_false, a_val, a_call, ↓n_normal, ↓n_ret, ↓n_exit, ↓b_normal, ↓b_ret, ↓b_exit, ↓e_normal, ↓e_ret, e_some, go_sem, ↓reduceIte, Nat.reduceEqDiff, Nat.reduceLT, Nat.reduceSub, A_law11_OrderStands_0, A_law11_OrderStands_1, A_law11_OrderStands_2, A_law11_OrderStands_3, A_law11_OrderStands_4, A_law11_OrderStands_5, A_law11_OrderStands_6, A_law11_OrderStands_7, A_law11_OrderStands_8, A_law11_OrderStands_9, A_law11_OrderStands_10, A_law11_OrderStands_11, A_law11_OrderStands_12, A_law11_OrderStands_13, A_law11_OrderStands_14, A_law11_OrderStands_15, A_law11_OrderStands_16, A_law11_OrderStands_17, A_law11_OrderStands_18, A_law11_OrderStands_19, A_law11_OrderStands_21]
      | true =>
        obtain ⟨n, rfl, hn, hst⟩ := keyK_good he hf st
        generalize hkk : (keyK X (n : Int)).1 = k at *
        obtain ⟨a0, cap0, hw⟩ := hH4.shape
        have hfill : fillCells [.str [], .int .i64 0, .int .i64 0] [(0, 1, .str k), (1, 2, .agg (stC st))] = some (sbC (k, st)) := rfl
        have hfill3 : fillCells [.str [], .int .i64 0, .int .i64 0] [(0, 3, .agg (sbC (k, st)))] = some (sbC (k, st)) := rfl
        have hrd2 : rdCells (stC st) 0 2 = some (stC st) := rfl
        have q1 : (M4.push (.cells [] false)).get M4.next = some (.cells [] false) := Mem.get_push_same _ _
        have q2 : ((M4.push (.cells [] false)).push (.cells (sbC (k, st)) false)).get (M4.next + 1) = some (.cells (sbC (k, st)) false) := Mem.get_push_same (M4.push _) _
        have q0 : (M4.push (.cells [] false)).get M.next = some (.cells (stC st) false) := (Mem.get_push_ne _ _ (by omega)).trans hp4
        have hH5 : Hold M2.next ((M4.push (.cells [] false)).push (.cells (sbC (k, st)) false)) 3 w X.length (elSb.all X) := hH4.keep (fun c hc => by
          have := (hH4.blk_le hc).2.1
          rw [Mem.get_push_ne _ _ (by simp; omega), Mem.get_push_ne _ _ (by omega)]) (by simp; omega)
        have hb2 : w.blk ≠ some (M4.next + 1) := fun e => by have := (hH4.blk_le e).2.1; omega
        obtain ⟨s39, M6, s44, M7, ha1, ha2, hH7, ho6, hG7⟩ := two_app (b1 := M4.next) (b2 := M4.next + 1) (by rw [Mem.get_push_ne _ _ (by simp)]; exact q1) (by simp; omega) hH5 q2 (by simp) hb2 (by rw [hmx]; omega)
        have ho6' : M6.get (M4.next + 1) = some (.cells (sbC (k, st)) false) := (ho6 _ (by simp)).trans q2
        have ho6'' : M6.get M.next = some (.cells (stC st) false) := (ho6 _ (by simp; omega)).trans ((Mem.get_push_ne _ _ (by simp; omega)).trans q0)
        simp -dsimp only [↓w_seq, ↓w_ops, ↓w_skip, ↓w_ret, ↓w_exit, ↓w_scope, ↓w_block, ↓w_cond, cond_true', cond_false', ↓t_nil, ↓t_plain, ↓t_guard, ↓t_again, t_val, t_call, g_true, g_false, a_val, a_call, ↓n_normal, ↓n_ret, ↓n_exit, ↓b_normal, ↓b_ret, ↓b_exit, ↓e_normal, ↓e_ret, e_some, go_sem, ↓reduceIte, Nat.reduceEqDiff, Nat.reduceLT, Nat.reduceSub, A_law11_OrderStands_0, A_law11_OrderStands_1, A_law11_OrderStands_2, A_law11_OrderStands_3, A_law11_OrderStands_4, A_law11_OrderStands_5, A_law11_OrderStands_6, A_law11_OrderStands_7, A_law11_OrderStands_8, A_law11_OrderStands_9, A_law11_OrderStands_10, A_law11_OrderStands_11, A_law11_OrderStands_12, A_law11_OrderStands_13, A_law11_OrderStands_14, A_law11_OrderStands_15, A_law11_OrderStands_16, A_law11_OrderStands_17, A_law11_OrderStands_18, A_law11_OrderStands_19, A_law11_OrderStands_21, fillCells, repl, List.append_nil, vload, q0, Mem.read, hrd2, hfill, hfill3, ha1, ha2, Mem.next_push]
        refine ⟨?_, ?_⟩
        · simp only [List.all_cons, List.all_nil, Bool.and_true, againOk, wantedA, cond_true, go_sem, ↓reduceIte, Nat.reduceEqDiff, Nat.reduceLT, Nat.reduceSub, Nat.reduceLeDiff, decide_true, vload, Mem.read, ho6', ho6'', q2, hrd2, Nat.reduceAdd, sameCells, V.beq_self, V.beqs_self, Bool.and_self, V.beq]
        · refine call_of (order_Sort_runs s44 (X ++ [(k, st)]) (by rw [hmx, List.length_append, List.length_singleton]; omega) M7 hH7) ?_
          intro y M8 hv
          obtain ⟨hG8, hH8⟩ := hv
          have hG48 : Grew M4 M8 := (((Grew.push _ _).trans (Grew.push _ _)).trans hG7).trans hG8
          have hXs8 : SlR elSb M8 w X := (hH4.keep (fun c hc => hG48.old c (hH4.blk_le hc).2.1) hG48.next).slR (e := elSb)
          have hp8 : M8.get M.next = some (.cells (stC st) false) := (hG48.old _ hn4).trans hp4
          have hYl : (isort ltSb (X ++ [(k, st)])).length = X.length + 1 := by rw [isort_len]; simp
          have hH8' : Hold M7.next M8 3 y (isort ltSb (X ++ [(k, st)])).length (elSb.all (isort ltSb (X ++ [(k, st)]))) := by
            rw [hYl]; rwa [List.length_append, List.length_singleton] at hH8
          have hYs := hH8'.slR (e := elSb)
          rw [hst] at hYs hYl
          generalize hYe : X.take n ++ (k, st) :: X.drop n = Y at hYs hYl
          have hYn : Y[n]? = some (k, st) := by
            rw [← hYe, List.getElem?_append_right (by simp; omega)]
            have : n - (X.take n).length = 0 := by simp; omega
            rw [this]; rfl
          obtain ⟨hnY, hYn'⟩ := List.getElem?_eq_some_iff.mp hYn
          obtain ⟨b', o', cs', ro', cap', e0', hM', hr3', hr1', hr2'⟩ := sl_at hYs hnY
          rw [hYn'] at hr1' hr2'
          have e1 : ¬ (n : Int) < 0 := by omega
          have e2 : ¬ (X.length : Int) < n := by omega
          have e3 : n + 1 ≤ X.length + 1 := by omega
          have e4 : ((X.length + 1 : Nat) : Int) = (X.length : Int) + 1 := by omega
          clear ho6' ho6'' q0 q1 q2
          rw [hYl] at e0'
          simp -dsimp only [↓w_seq, ↓w_ops, ↓w_skip, ↓w_ret, ↓w_exit, ↓w_scope, ↓w_block, ↓w_cond, cond_true', cond_false', ↓t_nil, ↓t_plain, ↓t_guard, ↓t_again, t_val, t_call, g_true, g_false, a_val, a_call, ↓n_normal, ↓n_ret, ↓n_exit, ↓b_normal, ↓b_ret, ↓b_exit, ↓e_normal, ↓e_ret, e_some, go_sem, ↓reduceIte, Nat.reduceEqDiff, Nat.reduceLT, Nat.reduceSub, A_law11_OrderStands_0, A_law11_OrderStands_1, A_law11_OrderStands_2, A_law11_OrderStands_3, A_law11_OrderStands_4, A_law11_OrderStands_5, A_law11_OrderStands_6, A_law11_OrderStands_7, A_law11_OrderStands_8, A_law11_OrderStands_9, A_law11_OrderStands_10, A_law11_OrderStands_11, A_law11_OrderStands_12, A_law11_OrderStands_13, A_law11_OrderStands_14, A_law11_OrderStands_15, A_law11_OrderStands_16, A_law11_OrderStands_17, A_law11_OrderStands_18, A_law11_OrderStands_19, A_law11_OrderStands_21, hw, e0', e1, e2, e3, e4, vload, vptr, st_self, Bool.not_true, hM', hp8, Mem.read, hr1', hr2', hrd2, Nat.add_zero, ne_eq, not_true_eq_false, decide_false, decide_true, IntWalk.i64_in ((X.length : Int) + 1) (by omega)]
          refine stands_loop X Y n w y M8 (by omega) hXs8 hYs hYl hn ?_ ?_ X.length 0 _ (by omega) ?_ ?_ ?_ ?_
          · intro i h h' h''
            subst hYe
            refine ⟨fun hin => ?_, fun hin => ?_⟩
            · rw [List.getElem_append_left (by simp; omega), List.getElem_take]
            · rw [List.getElem_append_right (by simp; omega)]
              have e5 : i + 1 - (X.take n).length = (i - n) + 1 := by simp; omega
              simp only [e5, List.getElem_cons_succ, List.getElem_drop]
              congr 1
              omega
          · intro fr
            simp -dsimp only [↓w_seq, ↓w_ops, ↓w_skip, ↓w_ret, ↓w_exit, ↓w_scope, ↓w_block, ↓w_cond, cond_true', cond_false', ↓t_nil, ↓t_plain, ↓t_guard, ↓t_again, t_val, t_call, g_true, g_false, a_val, a_call, ↓n_normal, ↓n_ret, ↓n_exit, ↓b_normal, ↓b_ret, ↓b_exit, ↓e_normal, ↓e_ret, e_some, go_sem, ↓reduceIte, Nat.reduceEqDiff, Nat.reduceLT, Nat.reduceSub, A_law11_OrderStands_0, A_law11_OrderStands_1, A_law11_OrderStands_2, A_law11_OrderStands_3, A_law11_OrderStands_4, A_law11_OrderStands_5, A_law11_OrderStands_6, A_law11_OrderStands_7, A_law11_OrderStands_8, A_law11_OrderStands_9, A_law11_OrderStands_10, A_law11_OrderStands_11, A_law11_OrderStands_12, A_law11_OrderStands_13, A_law11_OrderStands_14, A_law11_OrderStands_15, A_law11_OrderStands_16, A_law11_OrderStands_17, A_law11_OrderStands_18, A_law11_OrderStands_19, A_law11_OrderStands_21]
            refine call_eq (knows_runs _) ?_
            simp -dsimp only [↓w_seq, ↓w_ops, ↓w_skip, ↓w_ret, ↓w_exit, ↓w_scope, ↓w_block, ↓w_cond, cond_true', cond_false', ↓t_nil, ↓t_plain, ↓t_guard, ↓t_again, t_val, t_call, g_true, g_false, a_val, a_call, ↓n_normal, ↓n_ret, ↓n_exit, ↓b_normal, ↓b_ret, ↓b_exit, ↓e_normal, ↓e_ret, e_some, go_sem, ↓reduceIte, Nat.reduceEqDiff, Nat.reduceLT, Nat.reduceSub, A_law11_OrderStands_0, A_law11_OrderStands_1, A_law11_OrderStands_2, A_law11_OrderStands_3, A_law11_OrderStands_4, A_law11_OrderStands_5, A_law11_OrderStands_6, A_law11_OrderStands_7, A_law11_OrderStands_8, A_law11_OrderStands_9, A_law11_OrderStands_10, A_law11_OrderStands_11, A_law11_OrderStands_12, A_law11_OrderStands_13, A_law11_OrderStands_14, A_law11_OrderStands_15, A_law11_OrderStands_16, A_law11_OrderStands_17, A_law11_OrderStands_18, A_law11_OrderStands_19, A_law11_OrderStands_21]
          all_goals simp only [go_sem, ↓reduceIte, Nat.reduceEqDiff, Nat.reduceLT, Nat.reduceSub, e0', hw]
          rfl
    · have hb := keyK_bad he
      rw [hb]
      simp -dsimp only [↓w_seq, ↓w_ops, ↓w_skip, ↓w_ret, ↓w_exit, ↓w_scope, ↓w_block, ↓w_cond, cond_true', cond_false', ↓t_nil, ↓t_plain, ↓t_guard, ↓t_again, t_val, t_call, g_true, g_false, a_val, a_call, ↓n_normal, ↓n_ret, ↓n_exit, ↓b_normal, ↓b_ret, ↓b_exit, ↓e_normal, ↓e_ret, e_some, go_sem, ↓reduceIte, Nat.reduceEqDiff, Nat.reduceLT, Nat.reduceSub, A_law11_OrderStands_0, A_law11_OrderStands_1, A_law11_OrderStands_2, A_law11_OrderStands_3, A_law11_OrderStands_4, A_law11_OrderStands_5, A_law11_OrderStands_6, A_law11_OrderStands_7, A_law11_OrderStands_8, A_law11_OrderStands_9, A_law11_OrderStands_10, A_law11_OrderStands_11, A_law11_OrderStands_12, A_law11_OrderStands_13, A_law11_OrderStands_14, A_law11_OrderStands_15, A_law11_OrderStands_16, A_law11_OrderStands_17, A_law11_OrderStands_18, A_law11_OrderStands_19, A_law11_OrderStands_21, he, ne_eq, not_false_eq_true, decide_true]
      refine call_eq (knows_runs _) ?_
      simp -dsimp only [↓w_seq, ↓w_ops, ↓w_skip, ↓w_ret, ↓w_exit, ↓w_scope, ↓w_block, ↓w_cond, cond_true', cond_false', ↓t_nil, ↓t_plain, ↓t_guard, ↓t_again, t_val, t_call, g_true, g_false, a_val, a_call, ↓n_normal, ↓n_ret, ↓n_exit, ↓b_normal, ↓b_ret, ↓b_exit, ↓e_normal, ↓e_ret, e_some, go_sem, ↓reduceIte, Nat.reduceEqDiff, Nat.reduceLT, Nat.reduceSub, A_law11_OrderStands_0, A_law11_OrderStands_1, A_law11_OrderStands_2, A_law11_OrderStands_3, A_law11_OrderStands_4, A_law11_OrderStands_5, A_law11_OrderStands_6, A_law11_OrderStands_7, A_law11_OrderStands_8, A_law11_OrderStands_9, A_law11_OrderStands_10, A_law11_OrderStands_11, A_law11_OrderStands_12, A_law11_OrderStands_13, A_law11_OrderStands_14, A_law11_OrderStands_15, A_law11_OrderStands_16, A_law11_OrderStands_17, A_law11_OrderStands_18, A_law11_OrderStands_19, A_law11_OrderStands_21]
end Go.Am.Try

/- The row: slices of flat elements handed in; a law's run from memory in which they stand. -/
namespace Go.Am
open Go Go.RowKit Go.ChangeShapes Go.WideShapes

/-! ### memory that is only read -/
/-- Blocks only read: their cells; where they stand in the world. -/
abbrev Env := List (List V × Nat × Nat × Nat)
def Env.mem : Env → Mem
  | l => l.foldl (fun M x => M.push (.cells x.1 true)) mem0
def Env.emb (l : Env) : Emb := fun b => l[b]?.map (·.2)
def Env.ok (l : Env) (w : World) : Prop := ∀ x ∈ l, ∃ arr elem fz, w.heap[x.2.1]? = some (.cells arr elem fz) ∧ (∀ E, CR E x.1 arr x.2.2.1) ∧ x.2.2.1 + x.2.2.2 = arr.size

theorem env_fold : ∀ (l : Env) (M : Mem), (∀ b, M.next ≤ b → M.get b = none) →
    (l.foldl (fun M x => M.push (.cells x.1 true)) M).next = M.next + l.length ∧ (∀ b, b < M.next → (l.foldl (fun M x => M.push (.cells x.1 true)) M).get b = M.get b) ∧
    (∀ i, (l.foldl (fun M x => M.push (.cells x.1 true)) M).get (M.next + i) = l[i]?.map fun x => .cells x.1 true)
  | [], M, hM => ⟨rfl, fun _ _ => rfl, fun i => by simpa using hM _ (by omega)⟩
  | x :: l, M, hM => by
    have h1 : ∀ b, (M.push (.cells x.1 true)).next ≤ b → (M.push (.cells x.1 true)).get b = none := fun b hb => by
      rw [Mem.next_push] at hb
      rw [Mem.get_push_ne _ _ (by omega)]
      exact hM b (by omega)
    obtain ⟨a, b, c⟩ := env_fold l (M.push (.cells x.1 true)) h1
    simp only [List.foldl_cons]
    refine ⟨by rw [a, Mem.next_push, List.length_cons]; omega, fun d hd => ?_, fun i => ?_⟩
    · rw [b d (by rw [Mem.next_push]; omega), Mem.get_push_ne _ _ (by omega)]
    · cases i with
      | zero => rw [Nat.add_zero, b _ (by rw [Mem.next_push]; omega), Mem.get_push_same]; rfl
      | succ i =>
        have := c i
        rw [Mem.next_push] at this
        rw [show M.next + (i + 1) = M.next + 1 + i from by omega, this]
        rfl
theorem Env.next_mem (l : Env) : l.mem.next = l.length := by
  have := (env_fold l mem0 (fun b _ => rfl)).1
  simpa [Env.mem, mem0] using this
theorem Env.get_mem (l : Env) (i : Nat) : l.mem.get i = l[i]?.map fun x => .cells x.1 true := by
  have := (env_fold l mem0 (fun b _ => rfl)).2.2 i
  simpa [Env.mem, mem0] using this

theorem Env.rel {l : Env} {w : World} (h : l.ok w) : Rel l.emb l.mem w := by
  have hat : ∀ b c d k, l.emb b = some (c, d, k) → ∃ x, l[b]? = some x ∧ x.2 = (c, d, k) := fun b c d k hb => by
    simp only [Env.emb, Option.map_eq_some_iff] at hb
    exact hb
  refine ⟨fun b c d k hb => ?_, fun b c d k hb => ?_, fun b b' c d k d' k' hb _ ho _ => ?_, fun b hb => ?_⟩
  · obtain ⟨⟨cs, c', d', k'⟩, hx, he⟩ := hat b c d k hb
    cases he
    obtain ⟨arr, elem, fz, h1, h2, h3⟩ := h _ (List.mem_of_getElem? hx)
    exact ⟨.cells cs true, by rw [l.get_mem, hx]; rfl, arr, elem, fz, h1, h2 _, h3, fun hf => by cases hf⟩
  · obtain ⟨⟨cs, c', d', k'⟩, hx, he⟩ := hat b c d k hb
    cases he
    obtain ⟨arr, elem, fz, h1, _⟩ := h _ (List.mem_of_getElem? hx)
    exact (Array.getElem?_eq_some_iff.mp h1).1
  · obtain ⟨x, hx, _⟩ := hat b c d k hb
    have : l.mem.get b = some (.cells x.1 true) := by rw [l.get_mem, hx]; rfl
    simp only [own, this] at ho
  · rw [l.next_mem] at hb
    rw [l.get_mem, List.getElem?_eq_none hb]
    rfl

/-- A law that is true, of arguments some of which are only read. -/
theorem law_env {P : Program} {gl : Nat → Bool} {D : Decls} (hD : DOK P gl D) (hg : ∀ x, gl x = false) {f : FuncId} {args : List V} {args' : Array Value} {w : World} {l : Env} (hl : l.ok w) (hA : VRs l.emb args args'.toList) (h : Runs D f args l.mem fun v _ => v = .bool true) :
    Calls P f args' w fun e w' => e = .returned (.bool true) ∧ Below w.heap.size w w' := by
  obtain ⟨k, v, M', hr, rfl⟩ := h
  obtain ⟨_, hs⟩ := callN_sound hD k f args l.mem _ M' hr
  refine (hs l.emb w args' (Env.rel hl) (fun x hx => by rw [hg x] at hx; cases hx) hA).mono fun e w' ⟨E', v', he, hv', _, hX⟩ => ?_
  cases hv'
  refine ⟨he, hX.os, hX.tape, hX.output, hX.size, fun c hc => hX.keep c hc fun b d k hb => ?_⟩
  simp only [Env.emb, Option.map_eq_some_iff] at hb
  obtain ⟨x, hx, _⟩ := hb
  exact ⟨_, by rw [l.get_mem, hx]; rfl, rfl⟩

/-! ### what is read of a slice -/
theorem flat_at {arr : Array Value} {es : Nat} : ∀ (rows : List (List Value)) (off : Nat), (∀ r ∈ rows, r.length = es) → (∀ i (h : i < rows.length), ∀ j, j < es → arr[off + i * es + j]? = rows[i][j]?) → ∀ (j : Nat) (u : Value), rows.flatten[j]? = some u → arr[off + j]? = some u
  | [], _, _, _, j, u, h => by simp at h
  | r :: rs, off, hr, ha, j, u, h => by
    have hrl := hr r (List.mem_cons_self ..)
    rw [List.flatten_cons] at h
    rcases Nat.lt_or_ge j es with hj | hj
    · rw [List.getElem?_append_left (by omega)] at h
      have := ha 0 (by simp) j hj
      rw [Nat.zero_mul, Nat.add_zero] at this
      rw [this]
      exact h
    · rw [List.getElem?_append_right (by omega), hrl] at h
      have := flat_at rs (off + es) (fun r hr' => hr r (List.mem_cons_of_mem _ hr')) (fun i hi j hj => by
        have := ha (i + 1) (by simp; omega) j hj
        rw [List.getElem_cons_succ] at this
        rw [← this]
        congr 1
        rw [Nat.add_mul]; omega) (j - es) u h
      rw [← this]
      congr 1
      omega

section
variable {H : Type} {enc : TypeId × Value → H} {P : Program} {W : World}

theorem cells_at {w : World} {a : Addr} {n : Nat} {cs : List Value} (h : w.cells? 0 a n = some cs) : cs.length = n ∧ ∀ i, i < n → w.cell? (a.add i) = cs[i]? := by
  unfold World.cells? at h
  rw [if_pos (Nat.zero_le _)] at h
  have hl := mapM_some_length h
  rw [List.length_range] at hl
  refine ⟨hl, fun i hi => ?_⟩
  have := mapM_some_get h i i (by rw [List.getElem?_range hi])
  exact this

theorem cells_keep {w w' : World} (hb : ∀ c, c < w.heap.size → w'.heap[c]? = w.heap[c]?) {a : Addr} {n : Nat} {cs : List Value} (hn : 0 < n) (h : w.cells? 0 a n = some cs) : w'.cells? 0 a n = some cs ∧ a.block < w.heap.size := by
  obtain ⟨hl, hc⟩ := cells_at h
  have h0 := hc 0 hn
  rw [List.getElem?_eq_getElem (by omega)] at h0
  have hlt : a.block < w.heap.size := by
    unfold World.cell? at h0
    split at h0
    · rename_i c _ _ hh
      have := (Array.getElem?_eq_some_iff.mp hh).1
      simpa [Addr.add] using this
    · cases h0
  refine ⟨?_, hlt⟩
  rw [← h]
  unfold World.cells?
  rw [if_pos (Nat.zero_le _), if_pos (Nat.zero_le _)]
  congr 1
  funext i
  unfold World.cell?
  have : (a.add i).block = a.block := by unfold Addr.add; split <;> rfl
  rw [this, hb _ hlt]

theorem add_spec {a : Addr} (hs : a.spot = none) (n : Nat) : a.add n = ⟨a.block, a.off + n, none⟩ := by
  unfold Addr.add
  split
  · rename_i h
    subst h
    obtain ⟨b, o, s⟩ := a
    simp only at hs
    subst hs
    rfl
  · rfl

theorem ok_slice {r : Reach} {t e : TypeId} {b0 : Nat} {v : Value} (hu : P.underlying t = some (.slice e)) (hok : Cell.ok P W r b0 t v) : v = .slice none 0 0 ∨ ∃ a len cap, v = .slice (some a) len cap ∧ len ≤ cap ∧ W.has P r b0 a e cap := by
  unfold Cell.ok at hok
  rw [hu] at hok
  split at hok
  all_goals first | (rename_i hh; cases hh; done) | (rename_i hh _; cases hh; done) | skip
  · exact .inl rfl
  · rename_i e' a len cap he
    cases he
    exact .inr ⟨a, len, cap, rfl, hok.1, hok.2.2⟩
  · exact hok.elim

/-- A slice of flat elements handed in: nil, or the elements, where they stand, and its reading behind a run that keeps what was. -/
theorem open_rows {α : Type} (el : Elem α) {t e : TypeId} {ks : List CK} {n b0 : Nat} {v : Value} {d : DataW H} {p : List MemPlace} (hu : P.underlying t = some (.slice e)) (hk : shape P n e = some ks) (hc : P.cellsOf e = el.k)
    (hfit : ∀ r, Fits ks r → ∃ x, el.enc x = r) (hv : Value.okWide P W .any b0 t v) (h : DataW.Trod enc P W 0 (fun _ => true) true t v d p) :
    (∀ W', Below W.heap.size W W' → DataW.Trod enc P W' 0 (fun b => decide (b < W.heap.size)) true t v d p) ∧
    (v = .slice none 0 0 ∨ ∃ (a : Addr) (len cap : Nat) (xs : List α) (c o k : Nat), v = .slice (some a) len cap ∧ len ≤ cap ∧ cap ≤ maxLen ∧ xs.length = cap ∧ (∀ r ∈ xs, Fits ks (el.enc r)) ∧ Env.ok [(el.all xs, c, o, k)] W ∧
      ∀ E b, E b = some (c, o, k) → VR E (.slice (some (b, 0)) len (.exact cap)) v) := by
  have hkp := el.k_pos
  obtain ⟨fuel, hf⟩ := h
  have hok : Cell.ok P W .any b0 t v := by
    have := hv
    unfold Value.okWide Cell.okWide at this
    rw [hu] at this
    exact this
  rcases ok_slice hu hok with rfl | ⟨a, len, cap, rfl, hlc, hhas⟩
  · rcases Go.Deep.open_slice hu hf with ⟨_, hx⟩ | ⟨a, len, cap, m, n', D, Pl, he, _⟩
    · cases hx
      exact ⟨fun W' _ => shut_slice_nil hu, .inl rfl⟩
    · simp [Value.cells] at he
  · obtain ⟨_, hspot, row, ncells, hsh, _⟩ := hhas
    have hblk : ∃ arr fz, W.heap[a.block]? = some (.cells arr row fz) := by
      unfold World.shape? at hsh
      split at hsh
      · rename_i c el' fz hh
        cases hsh
        exact ⟨c, fz, hh⟩
      · cases hsh
    obtain ⟨arr, fz, harr⟩ := hblk
    have hlt : a.block < W.heap.size := (Array.getElem?_eq_some_iff.mp harr).1
    rcases Go.Deep.open_slice hu hf with ⟨he, _⟩ | ⟨a', len', cap', m, n', D, Pl, he, _, _, hcm, hm, hx, hall⟩
    · simp [Value.cells] at he
    · simp only [Value.cells, List.cons.injEq, Value.slice.injEq, Option.some.injEq, and_true] at he
      obtain ⟨rfl, rfl, rfl⟩ := he
      simp only [if_true] at hm
      subst hm
      rw [hc] at hall
      refine ⟨fun W' bel => ?_, .inr ?_⟩
      · obtain ⟨k, hk'⟩ := Go.Deep.shut_slice_whole_cells (enc := enc) (w := W') (base := 0) (spare := fun b => decide (b < W.heap.size)) (held := true) hu (Nat.zero_le _) hlc hcm (by simpa using hlt) D Pl (fun i hi => by
          rw [hc]
          obtain ⟨cs', h1, h2⟩ := hall i hi
          exact ⟨cs', n', (cells_keep bel.block hkp h1).1, (flat_trod n e ks hk n' cs' _ h2).2.2 _ _ _⟩)
        refine ⟨k, ?_⟩
        rw [hx]
        exact hk'
      · have hX : ∀ i : Fin m, ∃ x : α, W.cells? 0 (a.add (i.1 * el.k)) el.k = some (el.enc x) ∧ Fits ks (el.enc x) := fun i => by
          obtain ⟨cs', h1, h2⟩ := hall i.1 i.2
          have hf' := (flat_trod n e ks hk n' cs' _ h2).1
          obtain ⟨x, rfl⟩ := hfit _ hf'
          exact ⟨x, h1, hf'⟩
        obtain ⟨X, hX⟩ := Classical.axiomOfChoice hX
        have hat : ∀ i (h : i < m) j, j < el.k → arr[a.off + i * el.k + j]? = (el.enc (X ⟨i, h⟩))[j]? := fun i h j hj => by
          obtain ⟨_, h2⟩ := cells_at (hX ⟨i, h⟩).1
          rw [← h2 j hj, add_spec hspot, add_spec rfl]
          unfold World.cell?
          simp only [harr]
          rfl
        have hflat : ∀ j u, (el.encs (List.ofFn X))[j]? = some u → arr[a.off + j]? = some u := fun j u hu' => by
          refine flat_at (es := el.k) ((List.ofFn X).map el.enc) a.off ?_ ?_ j u ?_
          · intro r hr
            obtain ⟨x, _, rfl⟩ := List.mem_map.mp hr
            exact el.elen x
          · intro i hi j' hj'
            have hi' : i < m := by simpa using hi
            rw [hat i hi' j' hj']
            simp
          · rw [← List.flatMap_def]; exact hu'
        have hfits : ∀ r ∈ List.ofFn X, Fits ks (el.enc r) := fun r hr => by
          obtain ⟨i, rfl⟩ := List.mem_ofFn.mp hr
          exact (hX i).2
        rcases Nat.eq_zero_or_pos m with hz | hz
        · subst hz
          have hl0 : len = 0 := by omega
          subst hl0
          refine ⟨a, 0, 0, [], a.block, 0, arr.size, rfl, Nat.le_refl _, hcm, rfl, fun r hr => absurd hr (by simp), ?_, fun E b hb => .sliceZero hb hspot rfl⟩
          intro x hx'
          simp only [List.mem_singleton] at hx'
          subst hx'
          exact ⟨arr, row, fz, harr, fun E i v hv => by simp [Elem.all] at hv, by simp⟩
        · have hoff : a.off < arr.size := by
            have h0 := hat 0 hz 0 hkp
            rw [List.getElem?_eq_getElem (by rw [el.elen]; exact hkp)] at h0
            have := (Array.getElem?_eq_some_iff.mp h0).1
            omega
          refine ⟨a, len, m, List.ofFn X, a.block, a.off, arr.size - a.off, rfl, hlc, hcm, by simp, hfits, ?_, fun E b hb => ?_⟩
          · intro x hx'
            simp only [List.mem_singleton] at hx'
            subst hx'
            refine ⟨arr, row, fz, harr, fun E i v hv => ?_, by simp only; omega⟩
            obtain ⟨u, hu', hr⟩ := VRs.get (el.rels E (List.ofFn X)) i v hv
            exact ⟨u, hflat i u hu', hr⟩
          · have : a = ⟨a.block, a.off + 0, none⟩ := by rw [← add_spec hspot 0]; rfl
            rw [this]
            exact .slice hb rfl hlc
end
end Go.Am
