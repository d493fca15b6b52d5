/- The machine and what is proved of its runs, part 6: what each part says stands at its head. -/
import Derived.Test.YtefigbdkennhaaaJ5
import Derived.Deep.Slices
import Derived.Below
set_option linter.unusedSimpArgs false
set_option linter.unusedVariables false
set_option linter.unusedSectionVars false
/- A key beside a place: gap, Key. -/
namespace Go.Am.Try
open Go Go.Am Go.Proofs Go.Sort Go.Shelf
set_option maxRecDepth 100000
set_option linter.unusedSimpArgs false
set_option linter.unusedVariables false

/-- Each ahead of the next. -/
def RowP (xs : List Sb) : Prop := ∀ j (h : j + 1 < xs.length), ltSb xs[j] xs[j + 1] = true
def sb0 : Sb := ([], 0, 0)
def kA (xs : List Sb) (at_ : Int) : List UInt8 := if 0 < at_ then (xs.getD (at_ - 1).toNat sb0).1 else []
def kB (xs : List Sb) (at_ : Int) : List UInt8 := if at_ < xs.length then (xs.getD at_.toNat sb0).1 else []

theorem gap_loop (s : V) (xs : List Sb) (hl : xs.length < 2 ^ 62) (M0 : Mem) (hs : SlR elSb M0 s xs) (hlt : ∀ b, s.blk = some b → xs ≠ [] → b < M0.next) {Q : AExit → Fr → Mem → Prop} (x1 x2 : V)
    (hR : ∀ fr M, Grew M0 M → ¬ RowP xs → fr.rd 6 = .int .i64 1 → Q .ret fr M) (hE : ∀ fr M, Grew M0 M → RowP xs → fr.rd 0 = s → fr.rd 1 = x1 → fr.rd 2 = x2 → Q (.exit 0) fr M) :
    ∀ (f i : Nat) (fr : Fr) (M : Mem), i + f = xs.length → Grew M0 M → (∀ j (h : j + 1 < xs.length), j + 1 < i → ltSb xs[j] xs[j + 1] = true) → fr.rd 0 = s → fr.rd 1 = x1 → fr.rd 2 = x2 → fr.rd 11 = .int .i64 (xs.length : Int) → fr.rd 12 = .int .i64 (i : Int) → WC D2 73 (.loop A_order_gap_7) fr M Q := by
  intro f
  induction f with
  | zero =>
    intro i fr M hi hG hp h0 h1 h2 h11 h12
    refine WC.loop (W_of ?_)
    unfold A_order_gap_7
    have : ¬ (i : Int) < xs.length := by omega
    simp -dsimp only [↓w_seq, ↓w_ops, ↓w_skip, ↓w_ret, ↓w_exit, ↓w_scope, ↓w_block, ↓w_cond, cond_true', cond_false', ↓t_nil, ↓t_plain, ↓t_guard, ↓t_again, t_val, t_call, g_true, g_false, a_val, a_call, ↓n_normal, ↓n_ret, ↓n_exit, ↓b_normal, ↓b_ret, ↓b_exit, ↓e_normal, ↓e_ret, e_some, go_sem, ↓reduceIte, Nat.reduceEqDiff, Nat.reduceLT, Nat.reduceSub, A_order_gap_0, A_order_gap_1, A_order_gap_2, A_order_gap_3, A_order_gap_4, A_order_gap_5, A_order_gap_6, A_order_gap_8, A_order_gap_9, A_order_gap_10, A_order_gap_11, A_order_gap_12, A_order_gap_13, A_order_gap_14, A_order_gap_15, A_order_gap_16, A_order_gap_17, h0, h1, h2, h11, h12, this, decide_false]
    refine hE _ _ hG (fun j h => hp j h (by omega)) ?_ ?_ ?_
    all_goals simp only [go_sem, ↓reduceIte, Nat.reduceEqDiff, Nat.reduceLT, Nat.reduceSub, h0, h1, h2]
  | succ f ih =>
    intro i fr M hi hG hp h0 h1 h2 h11 h12
    refine WC.loop (W_of ?_)
    unfold A_order_gap_7
    have hil : i < xs.length := by omega
    have hsM : SlR elSb M s xs := hs.keep fun b hb => hG.old b (hlt b hb (by intro h; subst h; simp at hil))
    have e1 : (i : Int) < xs.length := by omega
    have e2 : i + 1 ≤ xs.length := by omega
    have h5' : (i : Int) + 1 = ((i + 1 : Nat) : Int) := by omega
    cases i with
    | zero =>
      have e3 : ¬ (0 : Int) < ((0 : Nat) : Int) := by omega
      simp -dsimp only [↓w_seq, ↓w_ops, ↓w_skip, ↓w_ret, ↓w_exit, ↓w_scope, ↓w_block, ↓w_cond, cond_true', cond_false', ↓t_nil, ↓t_plain, ↓t_guard, ↓t_again, t_val, t_call, g_true, g_false, a_val, a_call, ↓n_normal, ↓n_ret, ↓n_exit, ↓b_normal, ↓b_ret, ↓b_exit, ↓e_normal, ↓e_ret, e_some, go_sem, ↓reduceIte, Nat.reduceEqDiff, Nat.reduceLT, Nat.reduceSub, A_order_gap_0, A_order_gap_1, A_order_gap_2, A_order_gap_3, A_order_gap_4, A_order_gap_5, A_order_gap_6, A_order_gap_8, A_order_gap_9, A_order_gap_10, A_order_gap_11, A_order_gap_12, A_order_gap_13, A_order_gap_14, A_order_gap_15, A_order_gap_16, A_order_gap_17, h0, h1, h2, h11, h12, e1, e3, decide_false, decide_true, IntWalk.i64_in (((0 : Nat) : Int) + 1) (by omega)]
      refine ih 1 _ M (by omega) hG (fun j h hj => by omega) ?_ ?_ ?_ ?_ ?_
      all_goals simp only [go_sem, ↓reduceIte, Nat.reduceEqDiff, Nat.reduceLT, Nat.reduceSub, h0, h1, h2, h11, h5']
    | succ k =>
      have hkl : k < xs.length := by omega
      obtain ⟨b, o, cs, ro, cap, e0, hM, hr3, hr1, hr2⟩ := sl_at hsM hil
      obtain ⟨b', o', cs', ro', cap', e0', hM', hr3', hr1', hr2'⟩ := sl_at hsM hkl
      rw [e0] at e0'
      simp only [V.slice.injEq, Option.some.injEq, Prod.mk.injEq, true_and] at e0'
      obtain ⟨⟨rfl, rfl⟩, rfl⟩ := e0'
      rw [hM] at hM'
      simp only [Option.some.injEq, O.cells.injEq] at hM'
      obtain ⟨rfl, rfl⟩ := hM'
      have e3 : (0 : Int) < ((k + 1 : Nat) : Int) := by omega
      have e4 : ((k + 1 : Nat) : Int) - 1 = (k : Int) := by omega
      have e5 : k + 1 + 1 ≤ xs.length := by omega
      have e6 : k + 1 ≤ xs.length := by omega
      rw [e0] at h0
      simp -dsimp only [↓w_seq, ↓w_ops, ↓w_skip, ↓w_ret, ↓w_exit, ↓w_scope, ↓w_block, ↓w_cond, cond_true', cond_false', ↓t_nil, ↓t_plain, ↓t_guard, ↓t_again, t_val, t_call, g_true, g_false, a_val, a_call, ↓n_normal, ↓n_ret, ↓n_exit, ↓b_normal, ↓b_ret, ↓b_exit, ↓e_normal, ↓e_ret, e_some, go_sem, ↓reduceIte, Nat.reduceEqDiff, Nat.reduceLT, Nat.reduceSub, A_order_gap_0, A_order_gap_1, A_order_gap_2, A_order_gap_3, A_order_gap_4, A_order_gap_5, A_order_gap_6, A_order_gap_8, A_order_gap_9, A_order_gap_10, A_order_gap_11, A_order_gap_12, A_order_gap_13, A_order_gap_14, A_order_gap_15, A_order_gap_16, A_order_gap_17, h0, h1, h2, h11, h12, e1, e3, e4, e5, e6, decide_false, decide_true, vload, vptr, hM, Mem.read, hr3, hr3', Nat.add_zero, IntWalk.i64_in (k : Int) (by omega)]
      refine call_of (before_runs xs[k] xs[k + 1] M) ?_
      intro v M1 hv
      rw [hv.1, bef_is]
      have hG1 := hG.trans hv.2
      cases hq : ltSb xs[k] xs[k + 1] with
      | false =>
        simp -dsimp only [↓w_seq, ↓w_ops, ↓w_skip, ↓w_ret, ↓w_exit, ↓w_scope, ↓w_block, ↓w_cond, cond_true', cond_false', ↓t_nil, ↓t_plain, ↓t_guard, ↓t_again, t_val, t_call, g_true, g_false, a_val, a_call, ↓n_normal, ↓n_ret, ↓n_exit, ↓b_normal, ↓b_ret, ↓b_exit, ↓e_normal, ↓e_ret, e_some, go_sem, ↓reduceIte, Nat.reduceEqDiff, Nat.reduceLT, Nat.reduceSub, A_order_gap_0, A_order_gap_1, A_order_gap_2, A_order_gap_3, A_order_gap_4, A_order_gap_5, A_order_gap_6, A_order_gap_8, A_order_gap_9, A_order_gap_10, A_order_gap_11, A_order_gap_12, A_order_gap_13, A_order_gap_14, A_order_gap_15, A_order_gap_16, A_order_gap_17]
        refine hR _ _ hG1 (fun h => by rw [h k hil] at hq; cases hq) (by simp only [go_sem, ↓reduceIte, Nat.reduceEqDiff, Nat.reduceLT, Nat.reduceSub])
      | true =>
        simp -dsimp only [↓w_seq, ↓w_ops, ↓w_skip, ↓w_ret, ↓w_exit, ↓w_scope, ↓w_block, ↓w_cond, cond_true', cond_false', ↓t_nil, ↓t_plain, ↓t_guard, ↓t_again, t_val, t_call, g_true, g_false, a_val, a_call, ↓n_normal, ↓n_ret, ↓n_exit, ↓b_normal, ↓b_ret, ↓b_exit, ↓e_normal, ↓e_ret, e_some, go_sem, ↓reduceIte, Nat.reduceEqDiff, Nat.reduceLT, Nat.reduceSub, A_order_gap_0, A_order_gap_1, A_order_gap_2, A_order_gap_3, A_order_gap_4, A_order_gap_5, A_order_gap_6, A_order_gap_8, A_order_gap_9, A_order_gap_10, A_order_gap_11, A_order_gap_12, A_order_gap_13, A_order_gap_14, A_order_gap_15, A_order_gap_16, A_order_gap_17, h12, IntWalk.i64_in (((k + 1 : Nat) : Int) + 1) (by omega)]
        refine ih (k + 1 + 1) _ M1 (by omega) hG1 (fun j h hj => ?_) ?_ ?_ ?_ ?_ ?_
        · rcases Nat.lt_or_ge (j + 1) (k + 1) with h7 | h7
          · exact hp j h h7
          · have : j = k := by omega
            subst this
            exact hq
        all_goals simp only [go_sem, ↓reduceIte, Nat.reduceEqDiff, Nat.reduceLT, Nat.reduceSub, h0, e0, h1, h2, h11, h5']

theorem kA_zero (xs : List Sb) : kA xs ((0 : Nat) : Int) = [] := by simp [kA]
theorem kA_succ (xs : List Sb) (k : Nat) (h : k < xs.length) : kA xs ((k + 1 : Nat) : Int) = xs[k].1 := by
  unfold kA
  rw [if_pos (by omega)]
  have : (((k + 1 : Nat) : Int) - 1).toNat = k := by omega
  rw [this, List.getD_eq_getElem?_getD, List.getElem?_eq_getElem h]
  rfl
theorem kB_lt (xs : List Sb) (k : Nat) (h : k < xs.length) : kB xs (k : Int) = xs[k].1 := by
  unfold kB
  rw [if_pos (by omega)]
  have : ((k : Nat) : Int).toNat = k := by omega
  rw [this, List.getD_eq_getElem?_getD, List.getElem?_eq_getElem h]
  rfl
theorem kB_end (xs : List Sb) : kB xs (xs.length : Int) = [] := by
  unfold kB
  rw [if_neg (by omega)]

set_option maxHeartbeats 1000000 in
theorem gap_runs (s : V) (xs : List Sb) (hl : xs.length < 2 ^ 62) (at_ : Int) (f : FuncId) (caps : List V) (M : Mem) (hs : SlR elSb M s xs) (hlt : ∀ b, s.blk = some b → xs ≠ [] → b < M.next) {R : V → Mem → Prop}
    (hbad : ∀ M', Grew M M' → (¬ RowP xs ∨ at_ < 0 ∨ (xs.length : Int) < at_) → R (.int .i64 1) M')
    (heq : ∀ M', Grew M M' → RowP xs → 0 < at_ → at_ < xs.length → kA xs at_ = kB xs at_ → R (.int .i64 32) M')
    (hdo : ∀ M', Grew M M' → RowP xs → 0 ≤ at_ → at_ ≤ xs.length → (0 < at_ → at_ < xs.length → kA xs at_ ≠ kB xs at_) → Runs D2 f (.str (kA xs at_) :: .str (kB xs at_) :: caps) M' R) :
    Runs D2 F_order_gap [s, .int .i64 at_, .fn f [] caps] M R := by
  refine Runs.walk (F := A_order_gap) rfl (by rfl) (by rfl) ?_
  unfold A_order_gap
  obtain ⟨a0, cap, e0, _⟩ := id hs
  simp -dsimp only [↓w_seq, ↓w_ops, ↓w_skip, ↓w_ret, ↓w_exit, ↓w_scope, ↓w_block, ↓w_cond, cond_true', cond_false', ↓t_nil, ↓t_plain, ↓t_guard, ↓t_again, t_val, t_call, g_true, g_false, a_val, a_call, ↓n_normal, ↓n_ret, ↓n_exit, ↓b_normal, ↓b_ret, ↓b_exit, ↓e_normal, ↓e_ret, e_some, go_sem, ↓reduceIte, Nat.reduceEqDiff, Nat.reduceLT, Nat.reduceSub, A_order_gap_0, A_order_gap_1, A_order_gap_2, A_order_gap_3, A_order_gap_4, A_order_gap_5, A_order_gap_6, A_order_gap_8, A_order_gap_9, A_order_gap_10, A_order_gap_11, A_order_gap_12, A_order_gap_13, A_order_gap_14, A_order_gap_15, A_order_gap_16, A_order_gap_17, e0]
  rw [← e0]
  refine gap_loop s xs hl M hs hlt (.int .i64 at_) (.fn f [] caps) ?_ ?_ xs.length 0 _ M (by omega) (Grew.refl M) (fun j h hj => by omega) ?_ ?_ ?_ ?_ ?_
  · intro fr M' hG hr h6
    simp -dsimp only [↓w_seq, ↓w_ops, ↓w_skip, ↓w_ret, ↓w_exit, ↓w_scope, ↓w_block, ↓w_cond, cond_true', cond_false', ↓t_nil, ↓t_plain, ↓t_guard, ↓t_again, t_val, t_call, g_true, g_false, a_val, a_call, ↓n_normal, ↓n_ret, ↓n_exit, ↓b_normal, ↓b_ret, ↓b_exit, ↓e_normal, ↓e_ret, e_some, go_sem, ↓reduceIte, Nat.reduceEqDiff, Nat.reduceLT, Nat.reduceSub, A_order_gap_0, A_order_gap_1, A_order_gap_2, A_order_gap_3, A_order_gap_4, A_order_gap_5, A_order_gap_6, A_order_gap_8, A_order_gap_9, A_order_gap_10, A_order_gap_11, A_order_gap_12, A_order_gap_13, A_order_gap_14, A_order_gap_15, A_order_gap_16, A_order_gap_17, h6]
    exact hbad _ hG (.inl hr)
  · intro fr M' hG hr h0 h1 h2
    rw [e0] at h0
    by_cases g1 : at_ < 0
    · simp -dsimp only [↓w_seq, ↓w_ops, ↓w_skip, ↓w_ret, ↓w_exit, ↓w_scope, ↓w_block, ↓w_cond, cond_true', cond_false', ↓t_nil, ↓t_plain, ↓t_guard, ↓t_again, t_val, t_call, g_true, g_false, a_val, a_call, ↓n_normal, ↓n_ret, ↓n_exit, ↓b_normal, ↓b_ret, ↓b_exit, ↓e_normal, ↓e_ret, e_some, go_sem, ↓reduceIte, Nat.reduceEqDiff, Nat.reduceLT, Nat.reduceSub, A_order_gap_0, A_order_gap_1, A_order_gap_2, A_order_gap_3, A_order_gap_4, A_order_gap_5, A_order_gap_6, A_order_gap_8, A_order_gap_9, A_order_gap_10, A_order_gap_11, A_order_gap_12, A_order_gap_13, A_order_gap_14, A_order_gap_15, A_order_gap_16, A_order_gap_17, h0, h1, h2, g1, decide_true]
      exact hbad _ hG (.inr (.inl g1))
    by_cases g2 : (xs.length : Int) < at_
    · simp -dsimp only [↓w_seq, ↓w_ops, ↓w_skip, ↓w_ret, ↓w_exit, ↓w_scope, ↓w_block, ↓w_cond, cond_true', cond_false', ↓t_nil, ↓t_plain, ↓t_guard, ↓t_again, t_val, t_call, g_true, g_false, a_val, a_call, ↓n_normal, ↓n_ret, ↓n_exit, ↓b_normal, ↓b_ret, ↓b_exit, ↓e_normal, ↓e_ret, e_some, go_sem, ↓reduceIte, Nat.reduceEqDiff, Nat.reduceLT, Nat.reduceSub, A_order_gap_0, A_order_gap_1, A_order_gap_2, A_order_gap_3, A_order_gap_4, A_order_gap_5, A_order_gap_6, A_order_gap_8, A_order_gap_9, A_order_gap_10, A_order_gap_11, A_order_gap_12, A_order_gap_13, A_order_gap_14, A_order_gap_15, A_order_gap_16, A_order_gap_17, h0, h1, h2, g1, g2, decide_true, decide_false]
      exact hbad _ hG (.inr (.inr g2))
    obtain ⟨n, rfl⟩ := Int.eq_ofNat_of_zero_le (by omega : 0 ≤ at_)
    have hsM : SlR elSb M' s xs := by
      rcases Nat.eq_zero_or_pos xs.length with hz | hz
      · have : xs = [] := List.eq_nil_of_length_eq_zero hz
        subst this
        exact ⟨a0, cap, e0, .inl rfl⟩
      · exact hs.keep fun b hb => hG.old b (hlt b hb (by intro h; subst h; simp at hz))
    cases n with
    | zero =>
      have e3 : ¬ (0 : Int) < ((0 : Nat) : Int) := by omega
      by_cases g3 : 0 < xs.length
      · obtain ⟨b, o, cs, ro, cap', e0', hM, hr3, hr1, hr2⟩ := sl_at hsM g3
        rw [e0] at e0'
        simp only [V.slice.injEq, true_and] at e0'
        obtain ⟨rfl, rfl⟩ := e0'
        have g4 : ((0 : Nat) : Int) < xs.length := by omega
        simp only [Nat.zero_mul, Nat.add_zero] at hr1
        have g5 : 0 + 1 ≤ xs.length := by omega
        have := hdo M' hG hr (by omega) (by omega) (fun h => by omega)
        rw [kA_zero, kB_lt _ _ g3] at this
        simp -dsimp only [↓w_seq, ↓w_ops, ↓w_skip, ↓w_ret, ↓w_exit, ↓w_scope, ↓w_block, ↓w_cond, cond_true', cond_false', ↓t_nil, ↓t_plain, ↓t_guard, ↓t_again, t_val, t_call, g_true, g_false, a_val, a_call, ↓n_normal, ↓n_ret, ↓n_exit, ↓b_normal, ↓b_ret, ↓b_exit, ↓e_normal, ↓e_ret, e_some, go_sem, ↓reduceIte, Nat.reduceEqDiff, Nat.reduceLT, Nat.reduceSub, A_order_gap_0, A_order_gap_1, A_order_gap_2, A_order_gap_3, A_order_gap_4, A_order_gap_5, A_order_gap_6, A_order_gap_8, A_order_gap_9, A_order_gap_10, A_order_gap_11, A_order_gap_12, A_order_gap_13, A_order_gap_14, A_order_gap_15, A_order_gap_16, A_order_gap_17, h0, h1, h2, g1, g2, e3, g4, g5, decide_true, decide_false, vload, vptr, hM, Mem.read, hr1, Nat.add_zero]
        refine call_of this ?_
        intro v M2 hv
        simp -dsimp only [↓w_seq, ↓w_ops, ↓w_skip, ↓w_ret, ↓w_exit, ↓w_scope, ↓w_block, ↓w_cond, cond_true', cond_false', ↓t_nil, ↓t_plain, ↓t_guard, ↓t_again, t_val, t_call, g_true, g_false, a_val, a_call, ↓n_normal, ↓n_ret, ↓n_exit, ↓b_normal, ↓b_ret, ↓b_exit, ↓e_normal, ↓e_ret, e_some, go_sem, ↓reduceIte, Nat.reduceEqDiff, Nat.reduceLT, Nat.reduceSub, A_order_gap_0, A_order_gap_1, A_order_gap_2, A_order_gap_3, A_order_gap_4, A_order_gap_5, A_order_gap_6, A_order_gap_8, A_order_gap_9, A_order_gap_10, A_order_gap_11, A_order_gap_12, A_order_gap_13, A_order_gap_14, A_order_gap_15, A_order_gap_16, A_order_gap_17]
        exact hv
      · have g4 : ¬ ((0 : Nat) : Int) < xs.length := by omega
        have := hdo M' hG hr (by omega) (by omega) (fun h => by omega)
        have hz : xs = [] := List.eq_nil_of_length_eq_zero (by omega)
        rw [kA_zero, show kB xs ((0 : Nat) : Int) = [] from by subst hz; exact kB_end []] at this
        simp -dsimp only [↓w_seq, ↓w_ops, ↓w_skip, ↓w_ret, ↓w_exit, ↓w_scope, ↓w_block, ↓w_cond, cond_true', cond_false', ↓t_nil, ↓t_plain, ↓t_guard, ↓t_again, t_val, t_call, g_true, g_false, a_val, a_call, ↓n_normal, ↓n_ret, ↓n_exit, ↓b_normal, ↓b_ret, ↓b_exit, ↓e_normal, ↓e_ret, e_some, go_sem, ↓reduceIte, Nat.reduceEqDiff, Nat.reduceLT, Nat.reduceSub, A_order_gap_0, A_order_gap_1, A_order_gap_2, A_order_gap_3, A_order_gap_4, A_order_gap_5, A_order_gap_6, A_order_gap_8, A_order_gap_9, A_order_gap_10, A_order_gap_11, A_order_gap_12, A_order_gap_13, A_order_gap_14, A_order_gap_15, A_order_gap_16, A_order_gap_17, h0, h1, h2, g1, g2, e3, g4, decide_true, decide_false]
        refine call_of this ?_
        intro v M2 hv
        simp -dsimp only [↓w_seq, ↓w_ops, ↓w_skip, ↓w_ret, ↓w_exit, ↓w_scope, ↓w_block, ↓w_cond, cond_true', cond_false', ↓t_nil, ↓t_plain, ↓t_guard, ↓t_again, t_val, t_call, g_true, g_false, a_val, a_call, ↓n_normal, ↓n_ret, ↓n_exit, ↓b_normal, ↓b_ret, ↓b_exit, ↓e_normal, ↓e_ret, e_some, go_sem, ↓reduceIte, Nat.reduceEqDiff, Nat.reduceLT, Nat.reduceSub, A_order_gap_0, A_order_gap_1, A_order_gap_2, A_order_gap_3, A_order_gap_4, A_order_gap_5, A_order_gap_6, A_order_gap_8, A_order_gap_9, A_order_gap_10, A_order_gap_11, A_order_gap_12, A_order_gap_13, A_order_gap_14, A_order_gap_15, A_order_gap_16, A_order_gap_17]
        exact hv
    | succ k =>
      have hkl : k < xs.length := by omega
      obtain ⟨b, o, cs, ro, cap', e0', hM, hr3, hr1, hr2⟩ := sl_at hsM hkl
      rw [e0] at e0'
      simp only [V.slice.injEq, true_and] at e0'
      obtain ⟨rfl, rfl⟩ := e0'
      have e3 : (0 : Int) < ((k + 1 : Nat) : Int) := by omega
      have e4 : ((k + 1 : Nat) : Int) - 1 = (k : Int) := by omega
      have e6 : k + 1 ≤ xs.length := by omega
      by_cases g3 : k + 1 < xs.length
      · obtain ⟨b', o', cs', ro', cap'', e0'', hM', hr3', hr1', hr2'⟩ := sl_at hsM g3
        rw [e0] at e0''
        simp only [V.slice.injEq, Option.some.injEq, Prod.mk.injEq, true_and] at e0''
        obtain ⟨⟨rfl, rfl⟩, rfl⟩ := e0''
        rw [hM] at hM'
        simp only [Option.some.injEq, O.cells.injEq] at hM'
        obtain ⟨rfl, rfl⟩ := hM'
        have g4 : ((k + 1 : Nat) : Int) < xs.length := by omega
        have g5 : k + 1 + 1 ≤ xs.length := by omega
        by_cases g6 : xs[k].1 = xs[k + 1].1
        · have := heq M' hG hr (by omega) g4 (by rw [kA_succ _ _ hkl, kB_lt _ _ g3, g6])
          simp -dsimp only [↓w_seq, ↓w_ops, ↓w_skip, ↓w_ret, ↓w_exit, ↓w_scope, ↓w_block, ↓w_cond, cond_true', cond_false', ↓t_nil, ↓t_plain, ↓t_guard, ↓t_again, t_val, t_call, g_true, g_false, a_val, a_call, ↓n_normal, ↓n_ret, ↓n_exit, ↓b_normal, ↓b_ret, ↓b_exit, ↓e_normal, ↓e_ret, e_some, go_sem, ↓reduceIte, Nat.reduceEqDiff, Nat.reduceLT, Nat.reduceSub, A_order_gap_0, A_order_gap_1, A_order_gap_2, A_order_gap_3, A_order_gap_4, A_order_gap_5, A_order_gap_6, A_order_gap_8, A_order_gap_9, A_order_gap_10, A_order_gap_11, A_order_gap_12, A_order_gap_13, A_order_gap_14, A_order_gap_15, A_order_gap_16, A_order_gap_17, h0, h1, h2, g1, g2, e3, e4, e6, g4, g5, g6, decide_true, decide_false, vload, vptr, hM, Mem.read, hr1, hr1', Nat.add_zero, IntWalk.i64_in (k : Int) (by omega)]
          exact this
        · have := hdo M' hG hr (by omega) (by omega) (fun _ _ => by rw [kA_succ _ _ hkl, kB_lt _ _ g3]; exact g6)
          rw [kA_succ _ _ hkl, kB_lt _ _ g3] at this
          simp -dsimp only [↓w_seq, ↓w_ops, ↓w_skip, ↓w_ret, ↓w_exit, ↓w_scope, ↓w_block, ↓w_cond, cond_true', cond_false', ↓t_nil, ↓t_plain, ↓t_guard, ↓t_again, t_val, t_call, g_true, g_false, a_val, a_call, ↓n_normal, ↓n_ret, ↓n_exit, ↓b_normal, ↓b_ret, ↓b_exit, ↓e_normal, ↓e_ret, e_some, go_sem, ↓reduceIte, Nat.reduceEqDiff, Nat.reduceLT, Nat.reduceSub, A_order_gap_0, A_order_gap_1, A_order_gap_2, A_order_gap_3, A_order_gap_4, A_order_gap_5, A_order_gap_6, A_order_gap_8, A_order_gap_9, A_order_gap_10, A_order_gap_11, A_order_gap_12, A_order_gap_13, A_order_gap_14, A_order_gap_15, A_order_gap_16, A_order_gap_17, h0, h1, h2, g1, g2, e3, e4, e6, g4, g5, g6, decide_true, decide_false, vload, vptr, hM, Mem.read, hr1, hr1', Nat.add_zero, IntWalk.i64_in (k : Int) (by omega)]
          refine call_of this ?_
          intro v M2 hv
          simp -dsimp only [↓w_seq, ↓w_ops, ↓w_skip, ↓w_ret, ↓w_exit, ↓w_scope, ↓w_block, ↓w_cond, cond_true', cond_false', ↓t_nil, ↓t_plain, ↓t_guard, ↓t_again, t_val, t_call, g_true, g_false, a_val, a_call, ↓n_normal, ↓n_ret, ↓n_exit, ↓b_normal, ↓b_ret, ↓b_exit, ↓e_normal, ↓e_ret, e_some, go_sem, ↓reduceIte, Nat.reduceEqDiff, Nat.reduceLT, Nat.reduceSub, A_order_gap_0, A_order_gap_1, A_order_gap_2, A_order_gap_3, A_order_gap_4, A_order_gap_5, A_order_gap_6, A_order_gap_8, A_order_gap_9, A_order_gap_10, A_order_gap_11, A_order_gap_12, A_order_gap_13, A_order_gap_14, A_order_gap_15, A_order_gap_16, A_order_gap_17]
          exact hv
      · have hk1 : k + 1 = xs.length := by omega
        have g4 : ¬ ((k + 1 : Nat) : Int) < xs.length := by omega
        have := hdo M' hG hr (by omega) (by omega) (fun _ h => by omega)
        rw [kA_succ _ _ hkl, show kB xs ((k + 1 : Nat) : Int) = [] from by rw [hk1]; exact kB_end xs] at this
        simp -dsimp only [↓w_seq, ↓w_ops, ↓w_skip, ↓w_ret, ↓w_exit, ↓w_scope, ↓w_block, ↓w_cond, cond_true', cond_false', ↓t_nil, ↓t_plain, ↓t_guard, ↓t_again, t_val, t_call, g_true, g_false, a_val, a_call, ↓n_normal, ↓n_ret, ↓n_exit, ↓b_normal, ↓b_ret, ↓b_exit, ↓e_normal, ↓e_ret, e_some, go_sem, ↓reduceIte, Nat.reduceEqDiff, Nat.reduceLT, Nat.reduceSub, A_order_gap_0, A_order_gap_1, A_order_gap_2, A_order_gap_3, A_order_gap_4, A_order_gap_5, A_order_gap_6, A_order_gap_8, A_order_gap_9, A_order_gap_10, A_order_gap_11, A_order_gap_12, A_order_gap_13, A_order_gap_14, A_order_gap_15, A_order_gap_16, A_order_gap_17, h0, h1, h2, g1, g2, e3, e4, e6, g4, decide_true, decide_false, vload, vptr, hM, Mem.read, hr1, Nat.add_zero, IntWalk.i64_in (k : Int) (by omega)]
        refine call_of this ?_
        intro v M2 hv
        simp -dsimp only [↓w_seq, ↓w_ops, ↓w_skip, ↓w_ret, ↓w_exit, ↓w_scope, ↓w_block, ↓w_cond, cond_true', cond_false', ↓t_nil, ↓t_plain, ↓t_guard, ↓t_again, t_val, t_call, g_true, g_false, a_val, a_call, ↓n_normal, ↓n_ret, ↓n_exit, ↓b_normal, ↓b_ret, ↓b_exit, ↓e_normal, ↓e_ret, e_some, go_sem, ↓reduceIte, Nat.reduceEqDiff, Nat.reduceLT, Nat.reduceSub, A_order_gap_0, A_order_gap_1, A_order_gap_2, A_order_gap_3, A_order_gap_4, A_order_gap_5, A_order_gap_6, A_order_gap_8, A_order_gap_9, A_order_gap_10, A_order_gap_11, A_order_gap_12, A_order_gap_13, A_order_gap_14, A_order_gap_15, A_order_gap_16, A_order_gap_17]
        exact hv
  all_goals simp only [go_sem, ↓reduceIte, Nat.reduceEqDiff, Nat.reduceLT, Nat.reduceSub]
  all_goals rfl
end Go.Am.Try

/- order.Key. -/
namespace Go.Am.Try
open Go Go.Am Go.Proofs Go.Sort Go.Shelf
set_option maxRecDepth 100000
set_option linter.unusedSimpArgs false
set_option linter.unusedVariables false

theorem Key_c1_runs (a b : List UInt8) (hb : b.length < 2 ^ 63) (c : Nat) (x : V) (M : Mem) (hc : c < M.next) (hM : M.get c = some (.cells [x] false)) :
    Runs D2 F_order_Key_c1 [.str a, .str b, .ptr (some (c, 0))] M fun v M' => v = .int .i64 (btwE a b).2 ∧ M.next ≤ M'.next ∧ M'.get c = some (.cells [.str (btwE a b).1] false) ∧ ∀ d, d < M.next → d ≠ c → M'.get d = M.get d := by
  refine Runs.walk (F := A_order_Key_c1) rfl (by rfl) (by rfl) ?_
  unfold A_order_Key_c1
  simp -dsimp only [↓w_seq, ↓w_ops, ↓w_skip, ↓w_ret, ↓w_exit, ↓w_scope, ↓w_block, ↓w_cond, cond_true', cond_false', ↓t_nil, ↓t_plain, ↓t_guard, ↓t_again, t_val, t_call, g_true, g_false, a_val, a_call, ↓n_normal, ↓n_ret, ↓n_exit, ↓b_normal, ↓b_ret, ↓b_exit, ↓e_normal, ↓e_ret, e_some, go_sem, ↓reduceIte, Nat.reduceEqDiff, Nat.reduceLT, Nat.reduceSub, A_order_Key_c1_0, A_order_Key_c1_1, A_order_Key_c1_2]
  refine call_of (between_runs a b hb M) ?_
  intro v M1 hv
  rw [hv.1, btwV_is]
  have hG := hv.2
  have hM1 : M1.get c = some (.cells [x] false) := (hG.old c hc).trans hM
  have hw := write_one (v := .str (btwE a b).1) hM1 (show 0 < 1 by omega) rfl
  simp -dsimp only [↓w_seq, ↓w_ops, ↓w_skip, ↓w_ret, ↓w_exit, ↓w_scope, ↓w_block, ↓w_cond, cond_true', cond_false', ↓t_nil, ↓t_plain, ↓t_guard, ↓t_again, t_val, t_call, g_true, g_false, a_val, a_call, ↓n_normal, ↓n_ret, ↓n_exit, ↓b_normal, ↓b_ret, ↓b_exit, ↓e_normal, ↓e_ret, e_some, go_sem, ↓reduceIte, Nat.reduceEqDiff, Nat.reduceLT, Nat.reduceSub, A_order_Key_c1_0, A_order_Key_c1_1, A_order_Key_c1_2, List.getElem?_cons_zero, List.getElem?_cons_succ, vstore, V.cells, List.length_cons, List.length_nil, Nat.zero_add, hw, List.set_cons_zero]
  have hu := Upd.set M1 c (.cells [.str (btwE a b).1] false)
  exact ⟨trivial, by rw [hu.next]; exact hG.next, hu.at_, fun d hd hne => (hu.other d hne).trans (hG.old d hd)⟩

open Classical in
/-- What Key answers. -/
noncomputable def keyK (xs : List Sb) (at_ : Int) : List UInt8 × Int :=
  if ¬ RowP xs ∨ at_ < 0 ∨ (xs.length : Int) < at_ then ([], 1) else if 0 < at_ ∧ at_ < xs.length ∧ kA xs at_ = kB xs at_ then ([], 32) else btwE (kA xs at_) (kB xs at_)

theorem kB_len (xs : List Sb) (hk : ∀ x ∈ xs, x.1.length < 2 ^ 63) (at_ : Int) : (kB xs at_).length < 2 ^ 63 := by
  unfold kB
  split
  · rw [List.getD_eq_getElem?_getD]
    cases h : xs[at_.toNat]? with
    | none => simp [sb0]
    | some x => exact hk x (List.mem_of_getElem? h)
  · simp

theorem Key_runs (s : V) (xs : List Sb) (hl : xs.length < 2 ^ 62) (hk : ∀ x ∈ xs, x.1.length < 2 ^ 63) (at_ : Int) (M : Mem) (hs : SlR elSb M s xs) (hlt : ∀ b, s.blk = some b → xs ≠ [] → b < M.next) :
    Runs D2 F_order_Key [s, .int .i64 at_] M fun v M' => v = .tup [.str (keyK xs at_).1, .int .i64 (keyK xs at_).2] ∧ Grew M M' := by
  refine Runs.walk (F := A_order_Key) rfl (by rfl) (by rfl) ?_
  unfold A_order_Key
  simp -dsimp only [↓w_seq, ↓w_ops, ↓w_skip, ↓w_ret, ↓w_exit, ↓w_scope, ↓w_block, ↓w_cond, cond_true', cond_false', ↓t_nil, ↓t_plain, ↓t_guard, ↓t_again, t_val, t_call, g_true, g_false, a_val, a_call, ↓n_normal, ↓n_ret, ↓n_exit, ↓b_normal, ↓b_ret, ↓b_exit, ↓e_normal, ↓e_ret, e_some, go_sem, ↓reduceIte, Nat.reduceEqDiff, Nat.reduceLT, Nat.reduceSub, A_order_Key_0, A_order_Key_1, A_order_Key_2]
  have g0 : Grew M (M.push (.cells [.str []] false)) := Grew.push _ _
  have hM1 : (M.push (.cells [.str []] false)).get M.next = some (.cells [.str []] false) := Mem.get_push_same _ _
  have hn1 : (M.push (.cells [.str []] false)).next = M.next + 1 := rfl
  generalize M.push (.cells [.str []] false) = M1 at *
  have hs1 : SlR elSb M1 s xs := by
    obtain ⟨a0, cap, e0, h⟩ := id hs
    rcases h with h | h
    · exact ⟨a0, cap, e0, .inl h⟩
    · by_cases hz : xs = []
      · exact ⟨a0, cap, e0, .inl hz⟩
      · exact hs.keep fun b hb => g0.old b (hlt b hb hz)
  refine call_of (S := fun v M' => v = .int .i64 (keyK xs at_).2 ∧ M1.next ≤ M'.next ∧ M'.get M.next = some (.cells [.str (keyK xs at_).1] false) ∧ ∀ d, d < M.next → M'.get d = M.get d) (gap_runs s xs hl at_ F_order_Key_c1 [.ptr (some (M.next, 0))] M1 hs1 (fun b hb hz => by have := hlt b hb hz; omega) ?_ ?_ ?_) ?_
  · intro M' hG h
    have : keyK xs at_ = ([], 1) := by unfold keyK; rw [if_pos h]
    rw [this]
    exact ⟨rfl, hG.next, (hG.old _ (by omega)).trans hM1, fun d hd => (hG.old d (by omega)).trans (g0.old d hd)⟩
  · intro M' hG h1 h2 h3 h4
    have : keyK xs at_ = ([], 32) := by unfold keyK; rw [if_neg (by rintro (h | h | h); exact h h1; omega; omega), if_pos ⟨h2, h3, h4⟩]
    rw [this]
    exact ⟨rfl, hG.next, (hG.old _ (by omega)).trans hM1, fun d hd => (hG.old d (by omega)).trans (g0.old d hd)⟩
  · intro M' hG h1 h2 h3 h4
    have : keyK xs at_ = btwE (kA xs at_) (kB xs at_) := by unfold keyK; rw [if_neg (by rintro (h | h | h); exact h h1; omega; omega), if_neg (fun h => h4 h.1 h.2.1 h.2.2)]
    rw [this]
    have hnx := hG.next
    refine (Key_c1_runs _ _ (kB_len xs hk at_) M.next _ M' (by omega) ((hG.old _ (by omega)).trans hM1)).mono ?_
    intro v M2 hv
    exact ⟨hv.1, by have := hv.2.1; omega, hv.2.2.1, fun d hd => ((hv.2.2.2 d (by omega) (by omega)).trans (hG.old d (by omega))).trans (g0.old d hd)⟩
  · intro v M2 hv
    rw [hv.1]
    obtain ⟨_, hn2, hM2, ho2⟩ := hv
    have hw := write_one (v := .str (keyK xs at_).1) hM2 (show 0 < 1 by omega) rfl
    simp -dsimp only [↓w_seq, ↓w_ops, ↓w_skip, ↓w_ret, ↓w_exit, ↓w_scope, ↓w_block, ↓w_cond, cond_true', cond_false', ↓t_nil, ↓t_plain, ↓t_guard, ↓t_again, t_val, t_call, g_true, g_false, a_val, a_call, ↓n_normal, ↓n_ret, ↓n_exit, ↓b_normal, ↓b_ret, ↓b_exit, ↓e_normal, ↓e_ret, e_some, go_sem, ↓reduceIte, Nat.reduceEqDiff, Nat.reduceLT, Nat.reduceSub, A_order_Key_0, A_order_Key_1, A_order_Key_2, vload, hM2, List.getElem?_cons_zero, vstore, V.cells, List.length_cons, List.length_nil, Nat.zero_add, hw, List.set_cons_zero]
    have hu := Upd.set M2 M.next (.cells [.str (keyK xs at_).1] false)
    generalize M2.set M.next _ = M3 at hu
    simp -dsimp only [↓w_seq, ↓w_ops, ↓w_skip, ↓w_ret, ↓w_exit, ↓w_scope, ↓w_block, ↓w_cond, cond_true', cond_false', ↓t_nil, ↓t_plain, ↓t_guard, ↓t_again, t_val, t_call, g_true, g_false, a_val, a_call, ↓n_normal, ↓n_ret, ↓n_exit, ↓b_normal, ↓b_ret, ↓b_exit, ↓e_normal, ↓e_ret, e_some, go_sem, ↓reduceIte, Nat.reduceEqDiff, Nat.reduceLT, Nat.reduceSub, A_order_Key_0, A_order_Key_1, A_order_Key_2, vload, hu.at_, List.getElem?_cons_zero]
    exact ⟨trivial, by rw [hu.next]; omega, fun d hd => (hu.other d (by omega)).trans (ho2 d hd)⟩
end Go.Am.Try

/- The reference's Before, row, gap, Key, Keys. -/
namespace Go.Am.Try
open Go Go.Am Go.Proofs Go.Sort Go.Shelf
set_option maxRecDepth 100000
set_option linter.unusedSimpArgs false
set_option linter.unusedVariables false

theorem ref02_Compare_runs (a b : St) (M : Mem) : Runs D2 F_ref02_Compare [.agg (stC a), .agg (stC b)] M fun v M' => v = .int .i64 (cmpSt a b) ∧ Grew M M' := by
  refine Runs.walk (F := A_ref02_Compare) rfl (by rfl) (by rfl) ?_
  unfold A_ref02_Compare
  obtain ⟨a1, a2⟩ := a
  obtain ⟨b1, b2⟩ := b
  simp only [stC]
  have hG : Grew M ((M.push (.cells [.int .i64 a1, .int .i64 a2] false)).push (.cells [.int .i64 b1, .int .i64 b2] false)) := (Grew.push _ _).trans (Grew.push _ _)
  by_cases h1 : a1 = b1
  · subst h1
    by_cases h2 : a2 < b2
    · have : ¬ a2 = b2 := by omega
      simp -dsimp only [↓w_seq, ↓w_ops, ↓w_skip, ↓w_ret, ↓w_exit, ↓w_scope, ↓w_block, ↓w_cond, cond_true', cond_false', ↓t_nil, ↓t_plain, ↓t_guard, ↓t_again, t_val, t_call, g_true, g_false, a_val, a_call, ↓n_normal, ↓n_ret, ↓n_exit, ↓b_normal, ↓b_ret, ↓b_exit, ↓e_normal, ↓e_ret, e_some, go_sem, ↓reduceIte, Nat.reduceEqDiff, Nat.reduceLT, Nat.reduceSub, A_ref02_Compare_0, A_ref02_Compare_1, A_ref02_Compare_2, A_ref02_Compare_3, A_ref02_Compare_4, A_ref02_Compare_5, A_ref02_Compare_6, A_ref02_Compare_7, A_ref02_Compare_8, A_ref02_Compare_9, A_ref02_Compare_10, Int.lt_irrefl, true_and, and_true, false_and, and_false, and_self, same_two, same_sib, same_spot, vload, vptr, vof, V.cells, Mem.read, rdCells, Mem.get_push, Mem.next_push, Nat.left_eq_add, Nat.add_eq_left, Nat.add_left_cancel_iff, Nat.add_right_cancel_iff, Nat.reduceAdd, Nat.add_zero, Nat.zero_add, Nat.add_assoc, Nat.reduceLeDiff, Nat.reduceBEq, List.length_cons, List.length_nil, List.drop_zero, List.drop_succ_cons, List.take_succ_cons, List.take_zero, List.take_nil, List.drop_nil, List.getElem?_cons_zero, List.getElem?_cons_succ, reduceCtorEq, Nat.succ_ne_self, Nat.one_ne_zero, Nat.le_refl, ne_eq, not_false_eq_true, h2, decide_true]
      exact ⟨by simp [cmpSt, h2, this], hG⟩
    · by_cases h3 : b2 < a2
      · have : ¬ a2 = b2 := by omega
        simp -dsimp only [↓w_seq, ↓w_ops, ↓w_skip, ↓w_ret, ↓w_exit, ↓w_scope, ↓w_block, ↓w_cond, cond_true', cond_false', ↓t_nil, ↓t_plain, ↓t_guard, ↓t_again, t_val, t_call, g_true, g_false, a_val, a_call, ↓n_normal, ↓n_ret, ↓n_exit, ↓b_normal, ↓b_ret, ↓b_exit, ↓e_normal, ↓e_ret, e_some, go_sem, ↓reduceIte, Nat.reduceEqDiff, Nat.reduceLT, Nat.reduceSub, A_ref02_Compare_0, A_ref02_Compare_1, A_ref02_Compare_2, A_ref02_Compare_3, A_ref02_Compare_4, A_ref02_Compare_5, A_ref02_Compare_6, A_ref02_Compare_7, A_ref02_Compare_8, A_ref02_Compare_9, A_ref02_Compare_10, Int.lt_irrefl, true_and, and_true, false_and, and_false, and_self, same_two, same_sib, same_spot, vload, vptr, vof, V.cells, Mem.read, rdCells, Mem.get_push, Mem.next_push, Nat.left_eq_add, Nat.add_eq_left, Nat.add_left_cancel_iff, Nat.add_right_cancel_iff, Nat.reduceAdd, Nat.add_zero, Nat.zero_add, Nat.add_assoc, Nat.reduceLeDiff, Nat.reduceBEq, List.length_cons, List.length_nil, List.drop_zero, List.drop_succ_cons, List.take_succ_cons, List.take_zero, List.take_nil, List.drop_nil, List.getElem?_cons_zero, List.getElem?_cons_succ, reduceCtorEq, Nat.succ_ne_self, Nat.one_ne_zero, Nat.le_refl, ne_eq, not_false_eq_true, h2, h3, decide_true]
        exact ⟨by simp [cmpSt, h2, this], hG⟩
      · have : a2 = b2 := by omega
        simp -dsimp only [↓w_seq, ↓w_ops, ↓w_skip, ↓w_ret, ↓w_exit, ↓w_scope, ↓w_block, ↓w_cond, cond_true', cond_false', ↓t_nil, ↓t_plain, ↓t_guard, ↓t_again, t_val, t_call, g_true, g_false, a_val, a_call, ↓n_normal, ↓n_ret, ↓n_exit, ↓b_normal, ↓b_ret, ↓b_exit, ↓e_normal, ↓e_ret, e_some, go_sem, ↓reduceIte, Nat.reduceEqDiff, Nat.reduceLT, Nat.reduceSub, A_ref02_Compare_0, A_ref02_Compare_1, A_ref02_Compare_2, A_ref02_Compare_3, A_ref02_Compare_4, A_ref02_Compare_5, A_ref02_Compare_6, A_ref02_Compare_7, A_ref02_Compare_8, A_ref02_Compare_9, A_ref02_Compare_10, Int.lt_irrefl, true_and, and_true, false_and, and_false, and_self, same_two, same_sib, same_spot, vload, vptr, vof, V.cells, Mem.read, rdCells, Mem.get_push, Mem.next_push, Nat.left_eq_add, Nat.add_eq_left, Nat.add_left_cancel_iff, Nat.add_right_cancel_iff, Nat.reduceAdd, Nat.add_zero, Nat.zero_add, Nat.add_assoc, Nat.reduceLeDiff, Nat.reduceBEq, List.length_cons, List.length_nil, List.drop_zero, List.drop_succ_cons, List.take_succ_cons, List.take_zero, List.take_nil, List.drop_nil, List.getElem?_cons_zero, List.getElem?_cons_succ, reduceCtorEq, Nat.succ_ne_self, Nat.one_ne_zero, Nat.le_refl, ne_eq, not_false_eq_true, h2, h3, decide_true]
        exact ⟨by simp [cmpSt, this], hG⟩
  · by_cases h2 : a1 < b1
    · simp -dsimp only [↓w_seq, ↓w_ops, ↓w_skip, ↓w_ret, ↓w_exit, ↓w_scope, ↓w_block, ↓w_cond, cond_true', cond_false', ↓t_nil, ↓t_plain, ↓t_guard, ↓t_again, t_val, t_call, g_true, g_false, a_val, a_call, ↓n_normal, ↓n_ret, ↓n_exit, ↓b_normal, ↓b_ret, ↓b_exit, ↓e_normal, ↓e_ret, e_some, go_sem, ↓reduceIte, Nat.reduceEqDiff, Nat.reduceLT, Nat.reduceSub, A_ref02_Compare_0, A_ref02_Compare_1, A_ref02_Compare_2, A_ref02_Compare_3, A_ref02_Compare_4, A_ref02_Compare_5, A_ref02_Compare_6, A_ref02_Compare_7, A_ref02_Compare_8, A_ref02_Compare_9, A_ref02_Compare_10, Int.lt_irrefl, true_and, and_true, false_and, and_false, and_self, same_two, same_sib, same_spot, vload, vptr, vof, V.cells, Mem.read, rdCells, Mem.get_push, Mem.next_push, Nat.left_eq_add, Nat.add_eq_left, Nat.add_left_cancel_iff, Nat.add_right_cancel_iff, Nat.reduceAdd, Nat.add_zero, Nat.zero_add, Nat.add_assoc, Nat.reduceLeDiff, Nat.reduceBEq, List.length_cons, List.length_nil, List.drop_zero, List.drop_succ_cons, List.take_succ_cons, List.take_zero, List.take_nil, List.drop_nil, List.getElem?_cons_zero, List.getElem?_cons_succ, reduceCtorEq, Nat.succ_ne_self, Nat.one_ne_zero, Nat.le_refl, ne_eq, not_false_eq_true, h1, h2, decide_true]
      exact ⟨by simp [cmpSt, h1, h2], hG⟩
    · have h3 : b1 < a1 := by omega
      simp -dsimp only [↓w_seq, ↓w_ops, ↓w_skip, ↓w_ret, ↓w_exit, ↓w_scope, ↓w_block, ↓w_cond, cond_true', cond_false', ↓t_nil, ↓t_plain, ↓t_guard, ↓t_again, t_val, t_call, g_true, g_false, a_val, a_call, ↓n_normal, ↓n_ret, ↓n_exit, ↓b_normal, ↓b_ret, ↓b_exit, ↓e_normal, ↓e_ret, e_some, go_sem, ↓reduceIte, Nat.reduceEqDiff, Nat.reduceLT, Nat.reduceSub, A_ref02_Compare_0, A_ref02_Compare_1, A_ref02_Compare_2, A_ref02_Compare_3, A_ref02_Compare_4, A_ref02_Compare_5, A_ref02_Compare_6, A_ref02_Compare_7, A_ref02_Compare_8, A_ref02_Compare_9, A_ref02_Compare_10, Int.lt_irrefl, true_and, and_true, false_and, and_false, and_self, same_two, same_sib, same_spot, vload, vptr, vof, V.cells, Mem.read, rdCells, Mem.get_push, Mem.next_push, Nat.left_eq_add, Nat.add_eq_left, Nat.add_left_cancel_iff, Nat.add_right_cancel_iff, Nat.reduceAdd, Nat.add_zero, Nat.zero_add, Nat.add_assoc, Nat.reduceLeDiff, Nat.reduceBEq, List.length_cons, List.length_nil, List.drop_zero, List.drop_succ_cons, List.take_succ_cons, List.take_zero, List.take_nil, List.drop_nil, List.getElem?_cons_zero, List.getElem?_cons_succ, reduceCtorEq, Nat.succ_ne_self, Nat.one_ne_zero, Nat.le_refl, ne_eq, not_false_eq_true, h1, h2, h3, decide_true]
      exact ⟨by simp [cmpSt, h1, h2], hG⟩

theorem ltSt_neg (a b : St) : decide (cmpSt a b < 0) = ltSt a b := by
  have := ltOf_St a b
  unfold ltOf at this
  exact this

theorem ref11_Before_runs (a b : Sb) (ha : a.1.length < 2 ^ 63) (hb : b.1.length < 2 ^ 63) (M : Mem) : Runs D2 F_ref11_Before [.agg (sbC a), .agg (sbC b)] M fun v M' => v = .bool (ltSb a b) ∧ Grew M M' := by
  refine Runs.walk (F := A_ref11_Before) rfl (by rfl) (by rfl) ?_
  unfold A_ref11_Before
  obtain ⟨ka, a1, a2⟩ := a
  obtain ⟨kb, b1, b2⟩ := b
  simp only [sbC]
  simp -dsimp only [↓w_seq, ↓w_ops, ↓w_skip, ↓w_ret, ↓w_exit, ↓w_scope, ↓w_block, ↓w_cond, cond_true', cond_false', ↓t_nil, ↓t_plain, ↓t_guard, ↓t_again, t_val, t_call, g_true, g_false, a_val, a_call, ↓n_normal, ↓n_ret, ↓n_exit, ↓b_normal, ↓b_ret, ↓b_exit, ↓e_normal, ↓e_ret, e_some, go_sem, ↓reduceIte, Nat.reduceEqDiff, Nat.reduceLT, Nat.reduceSub, A_ref11_Before_0, A_ref11_Before_1, A_ref11_Before_2, Int.lt_irrefl, true_and, and_true, false_and, and_false, and_self, same_two, same_sib, same_spot, vload, vptr, vof, V.cells, Mem.read, rdCells, Mem.get_push, Mem.next_push, Nat.left_eq_add, Nat.add_eq_left, Nat.add_left_cancel_iff, Nat.add_right_cancel_iff, Nat.reduceAdd, Nat.add_zero, Nat.zero_add, Nat.add_assoc, Nat.reduceLeDiff, Nat.reduceBEq, List.length_cons, List.length_nil, List.drop_zero, List.drop_succ_cons, List.take_succ_cons, List.take_zero, List.take_nil, List.drop_nil, List.getElem?_cons_zero, List.getElem?_cons_succ, reduceCtorEq, Nat.succ_ne_self, Nat.one_ne_zero, Nat.le_refl, ne_eq, not_false_eq_true]
  refine call_eq (rcompare_runs ka kb ha hb _) ?_
  have hG : Grew M ((M.push (.cells [.str ka, .int .i64 a1, .int .i64 a2] false)).push (.cells [.str kb, .int .i64 b1, .int .i64 b2] false)) := (Grew.push _ _).trans (Grew.push _ _)
  rcases cmp_three ka kb with h | h | h
  · rw [h]
    have hne : ¬ ka = kb := fun e => by subst e; rw [cmp_self] at h; cases h
    simp -dsimp only [↓w_seq, ↓w_ops, ↓w_skip, ↓w_ret, ↓w_exit, ↓w_scope, ↓w_block, ↓w_cond, cond_true', cond_false', ↓t_nil, ↓t_plain, ↓t_guard, ↓t_again, t_val, t_call, g_true, g_false, a_val, a_call, ↓n_normal, ↓n_ret, ↓n_exit, ↓b_normal, ↓b_ret, ↓b_exit, ↓e_normal, ↓e_ret, e_some, go_sem, ↓reduceIte, Nat.reduceEqDiff, Nat.reduceLT, Nat.reduceSub, A_ref11_Before_0, A_ref11_Before_1, A_ref11_Before_2, Int.lt_irrefl, true_and, and_true, false_and, and_false, and_self, same_two, same_sib, same_spot, vload, vptr, vof, V.cells, Mem.read, rdCells, Mem.get_push, Mem.next_push, Nat.left_eq_add, Nat.add_eq_left, Nat.add_left_cancel_iff, Nat.add_right_cancel_iff, Nat.reduceAdd, Nat.add_zero, Nat.zero_add, Nat.add_assoc, Nat.reduceLeDiff, Nat.reduceBEq, List.length_cons, List.length_nil, List.drop_zero, List.drop_succ_cons, List.take_succ_cons, List.take_zero, List.take_nil, List.drop_nil, List.getElem?_cons_zero, List.getElem?_cons_succ, reduceCtorEq, Nat.succ_ne_self, Nat.one_ne_zero, Nat.le_refl, ne_eq, not_false_eq_true, Int.reduceLT, Int.reduceNeg, decide_true]
    exact ⟨by simp [ltSb, hne, h], hG⟩
  · rw [h]
    have he := cmp_eq h
    subst he
    simp -dsimp only [↓w_seq, ↓w_ops, ↓w_skip, ↓w_ret, ↓w_exit, ↓w_scope, ↓w_block, ↓w_cond, cond_true', cond_false', ↓t_nil, ↓t_plain, ↓t_guard, ↓t_again, t_val, t_call, g_true, g_false, a_val, a_call, ↓n_normal, ↓n_ret, ↓n_exit, ↓b_normal, ↓b_ret, ↓b_exit, ↓e_normal, ↓e_ret, e_some, go_sem, ↓reduceIte, Nat.reduceEqDiff, Nat.reduceLT, Nat.reduceSub, A_ref11_Before_0, A_ref11_Before_1, A_ref11_Before_2, Int.lt_irrefl, true_and, and_true, false_and, and_false, and_self, same_two, same_sib, same_spot, vload, vptr, vof, V.cells, Mem.read, rdCells, Mem.get_push, Mem.next_push, Nat.left_eq_add, Nat.add_eq_left, Nat.add_left_cancel_iff, Nat.add_right_cancel_iff, Nat.reduceAdd, Nat.add_zero, Nat.zero_add, Nat.add_assoc, Nat.reduceLeDiff, Nat.reduceBEq, List.length_cons, List.length_nil, List.drop_zero, List.drop_succ_cons, List.take_succ_cons, List.take_zero, List.take_nil, List.drop_nil, List.getElem?_cons_zero, List.getElem?_cons_succ, reduceCtorEq, Nat.succ_ne_self, Nat.one_ne_zero, Nat.le_refl, ne_eq, not_false_eq_true, Int.reduceLT, Int.reduceEq, decide_true, decide_false]
    have := ref02_Compare_runs (a1, a2) (b1, b2) ((M.push (.cells [.str ka, .int .i64 a1, .int .i64 a2] false)).push (.cells [.str ka, .int .i64 b1, .int .i64 b2] false))
    simp only [stC] at this
    refine call_of this ?_
    intro v M2 hv
    rw [hv.1]
    simp -dsimp only [↓w_seq, ↓w_ops, ↓w_skip, ↓w_ret, ↓w_exit, ↓w_scope, ↓w_block, ↓w_cond, cond_true', cond_false', ↓t_nil, ↓t_plain, ↓t_guard, ↓t_again, t_val, t_call, g_true, g_false, a_val, a_call, ↓n_normal, ↓n_ret, ↓n_exit, ↓b_normal, ↓b_ret, ↓b_exit, ↓e_normal, ↓e_ret, e_some, go_sem, ↓reduceIte, Nat.reduceEqDiff, Nat.reduceLT, Nat.reduceSub, A_ref11_Before_0, A_ref11_Before_1, A_ref11_Before_2]
    refine ⟨?_, hG.trans hv.2⟩
    rw [ltSt_neg]
    simp [ltSb]
  · rw [h]
    have hne : ¬ ka = kb := fun e => by subst e; rw [cmp_self] at h; cases h
    simp -dsimp only [↓w_seq, ↓w_ops, ↓w_skip, ↓w_ret, ↓w_exit, ↓w_scope, ↓w_block, ↓w_cond, cond_true', cond_false', ↓t_nil, ↓t_plain, ↓t_guard, ↓t_again, t_val, t_call, g_true, g_false, a_val, a_call, ↓n_normal, ↓n_ret, ↓n_exit, ↓b_normal, ↓b_ret, ↓b_exit, ↓e_normal, ↓e_ret, e_some, go_sem, ↓reduceIte, Nat.reduceEqDiff, Nat.reduceLT, Nat.reduceSub, A_ref11_Before_0, A_ref11_Before_1, A_ref11_Before_2, Int.lt_irrefl, true_and, and_true, false_and, and_false, and_self, same_two, same_sib, same_spot, vload, vptr, vof, V.cells, Mem.read, rdCells, Mem.get_push, Mem.next_push, Nat.left_eq_add, Nat.add_eq_left, Nat.add_left_cancel_iff, Nat.add_right_cancel_iff, Nat.reduceAdd, Nat.add_zero, Nat.zero_add, Nat.add_assoc, Nat.reduceLeDiff, Nat.reduceBEq, List.length_cons, List.length_nil, List.drop_zero, List.drop_succ_cons, List.take_succ_cons, List.take_zero, List.take_nil, List.drop_nil, List.getElem?_cons_zero, List.getElem?_cons_succ, reduceCtorEq, Nat.succ_ne_self, Nat.one_ne_zero, Nat.le_refl, ne_eq, not_false_eq_true, Int.reduceLT, Int.reduceEq, decide_true, decide_false]
    exact ⟨by simp [ltSb, hne, h], hG⟩
end Go.Am.Try

/- The reference's row, gap, Key. -/
namespace Go.Am.Try
open Go Go.Am Go.Proofs Go.Sort Go.Shelf
set_option maxRecDepth 100000
set_option linter.unusedSimpArgs false
set_option linter.unusedVariables false

theorem row_loop (s : V) (xs : List Sb) (hl : xs.length < 2 ^ 62) (hk : ∀ x ∈ xs, x.1.length < 2 ^ 63) (M0 : Mem) (hs : SlR elSb M0 s xs) (hlt : ∀ b, s.blk = some b → xs ≠ [] → b < M0.next) {Q : AExit → Fr → Mem → Prop}
    (hR : ∀ fr M, Grew M0 M → ¬ RowP xs → fr.rd 2 = .bool false → Q .ret fr M) (hE : ∀ fr M, Grew M0 M → RowP xs → Q (.exit 0) fr M) :
    ∀ (f k : Nat) (fr : Fr) (M : Mem), xs.length ≤ k + 1 + f → Grew M0 M → (∀ j (h : j + 1 < xs.length), j < k → ltSb xs[j] xs[j + 1] = true) → fr.rd 0 = s → fr.rd 3 = .int .i64 ((k + 1 : Nat) : Int) → WC D2 21 (.loop A_ref11_row_6) fr M Q := by
  intro f
  induction f with
  | zero =>
    intro k fr M hi hG hp h0 h3
    refine WC.loop (W_of ?_)
    unfold A_ref11_row_6
    obtain ⟨a, cap, e0, _⟩ := hs
    rw [e0] at h0
    have : ¬ ((k + 1 : Nat) : Int) < xs.length := by omega
    simp -dsimp only [↓w_seq, ↓w_ops, ↓w_skip, ↓w_ret, ↓w_exit, ↓w_scope, ↓w_block, ↓w_cond, cond_true', cond_false', ↓t_nil, ↓t_plain, ↓t_guard, ↓t_again, t_val, t_call, g_true, g_false, a_val, a_call, ↓n_normal, ↓n_ret, ↓n_exit, ↓b_normal, ↓b_ret, ↓b_exit, ↓e_normal, ↓e_ret, e_some, go_sem, ↓reduceIte, Nat.reduceEqDiff, Nat.reduceLT, Nat.reduceSub, A_ref11_row_0, A_ref11_row_1, A_ref11_row_2, A_ref11_row_3, A_ref11_row_4, A_ref11_row_5, A_ref11_row_7, h0, h3, this, decide_false]
    exact hE _ _ hG (fun j h => hp j h (by omega))
  | succ f ih =>
    intro k fr M hi hG hp h0 h3
    refine WC.loop (W_of ?_)
    unfold A_ref11_row_6
    by_cases hil : k + 1 < xs.length
    · have hsM : SlR elSb M s xs := hs.keep fun b hb => hG.old b (hlt b hb (by intro h; subst h; simp at hil))
      have e1 : ((k + 1 : Nat) : Int) < xs.length := by omega
      have h5' : ((k + 1 : Nat) : Int) + 1 = ((k + 1 + 1 : Nat) : Int) := by omega
      have hkl : k < xs.length := by omega
      obtain ⟨b, o, cs, ro, cap, e0, hM, hr3, hr1, hr2⟩ := sl_at hsM hil
      obtain ⟨b', o', cs', ro', cap', e0', hM', hr3', hr1', hr2'⟩ := sl_at hsM hkl
      rw [e0] at e0'
      simp only [V.slice.injEq, Option.some.injEq, Prod.mk.injEq, true_and] at e0'
      obtain ⟨⟨rfl, rfl⟩, rfl⟩ := e0'
      rw [hM] at hM'
      simp only [Option.some.injEq, O.cells.injEq] at hM'
      obtain ⟨rfl, rfl⟩ := hM'
      have e4 : ((k + 1 : Nat) : Int) - 1 = (k : Int) := by omega
      have e5 : k + 1 + 1 ≤ xs.length := by omega
      have e6 : k + 1 ≤ xs.length := by omega
      rw [e0] at h0
      simp -dsimp only [↓w_seq, ↓w_ops, ↓w_skip, ↓w_ret, ↓w_exit, ↓w_scope, ↓w_block, ↓w_cond, cond_true', cond_false', ↓t_nil, ↓t_plain, ↓t_guard, ↓t_again, t_val, t_call, g_true, g_false, a_val, a_call, ↓n_normal, ↓n_ret, ↓n_exit, ↓b_normal, ↓b_ret, ↓b_exit, ↓e_normal, ↓e_ret, e_some, go_sem, ↓reduceIte, Nat.reduceEqDiff, Nat.reduceLT, Nat.reduceSub, A_ref11_row_0, A_ref11_row_1, A_ref11_row_2, A_ref11_row_3, A_ref11_row_4, A_ref11_row_5, A_ref11_row_7, h0, h3, e1, e4, e5, e6, decide_false, decide_true, vload, vptr, hM, Mem.read, hr3, hr3', Nat.add_zero, IntWalk.i64_in (k : Int) (by omega)]
      refine call_of (ref11_Before_runs xs[k] xs[k + 1] (hk _ (List.getElem_mem hkl)) (hk _ (List.getElem_mem hil)) M) ?_
      intro v M1 hv
      rw [hv.1]
      have hG1 := hG.trans hv.2
      cases hq : ltSb xs[k] xs[k + 1] with
      | false =>
        simp -dsimp only [↓w_seq, ↓w_ops, ↓w_skip, ↓w_ret, ↓w_exit, ↓w_scope, ↓w_block, ↓w_cond, cond_true', cond_false', ↓t_nil, ↓t_plain, ↓t_guard, ↓t_again, t_val, t_call, g_true, g_false, a_val, a_call, ↓n_normal, ↓n_ret, ↓n_exit, ↓b_normal, ↓b_ret, ↓b_exit, ↓e_normal, ↓e_ret, e_some, go_sem, ↓reduceIte, Nat.reduceEqDiff, Nat.reduceLT, Nat.reduceSub, A_ref11_row_0, A_ref11_row_1, A_ref11_row_2, A_ref11_row_3, A_ref11_row_4, A_ref11_row_5, A_ref11_row_7]
        exact hR _ _ hG1 (fun h => by rw [h k hil] at hq; cases hq) (by simp only [go_sem, ↓reduceIte, Nat.reduceEqDiff, Nat.reduceLT, Nat.reduceSub])
      | true =>
        simp -dsimp only [↓w_seq, ↓w_ops, ↓w_skip, ↓w_ret, ↓w_exit, ↓w_scope, ↓w_block, ↓w_cond, cond_true', cond_false', ↓t_nil, ↓t_plain, ↓t_guard, ↓t_again, t_val, t_call, g_true, g_false, a_val, a_call, ↓n_normal, ↓n_ret, ↓n_exit, ↓b_normal, ↓b_ret, ↓b_exit, ↓e_normal, ↓e_ret, e_some, go_sem, ↓reduceIte, Nat.reduceEqDiff, Nat.reduceLT, Nat.reduceSub, A_ref11_row_0, A_ref11_row_1, A_ref11_row_2, A_ref11_row_3, A_ref11_row_4, A_ref11_row_5, A_ref11_row_7, h3, h5', IntWalk.i64_in ((k + 1 + 1 : Nat) : Int) (by omega)]
        refine ih (k + 1) _ M1 (by omega) hG1 (fun j h hj => ?_) ?_ ?_
        · rcases Nat.lt_or_ge j k with h7 | h7
          · exact hp j h h7
          · have : j = k := by omega
            subst this
            exact hq
        all_goals simp only [go_sem, ↓reduceIte, Nat.reduceEqDiff, Nat.reduceLT, Nat.reduceSub, h0, e0]
    · obtain ⟨a, cap, e0, _⟩ := hs
      rw [e0] at h0
      have : ¬ ((k + 1 : Nat) : Int) < xs.length := by omega
      simp -dsimp only [↓w_seq, ↓w_ops, ↓w_skip, ↓w_ret, ↓w_exit, ↓w_scope, ↓w_block, ↓w_cond, cond_true', cond_false', ↓t_nil, ↓t_plain, ↓t_guard, ↓t_again, t_val, t_call, g_true, g_false, a_val, a_call, ↓n_normal, ↓n_ret, ↓n_exit, ↓b_normal, ↓b_ret, ↓b_exit, ↓e_normal, ↓e_ret, e_some, go_sem, ↓reduceIte, Nat.reduceEqDiff, Nat.reduceLT, Nat.reduceSub, A_ref11_row_0, A_ref11_row_1, A_ref11_row_2, A_ref11_row_3, A_ref11_row_4, A_ref11_row_5, A_ref11_row_7, h0, h3, this, decide_false]
      exact hE _ _ hG (fun j h => hp j h (by omega))

theorem row_runs (s : V) (xs : List Sb) (hl : xs.length < 2 ^ 62) (hk : ∀ x ∈ xs, x.1.length < 2 ^ 63) (M : Mem) (hs : SlR elSb M s xs) (hlt : ∀ b, s.blk = some b → xs ≠ [] → b < M.next) :
    Runs D2 F_ref11_row [s] M fun v M' => ∃ t, v = .bool t ∧ (t = true ↔ RowP xs) ∧ Grew M M' := by
  refine Runs.walk (F := A_ref11_row) rfl (by rfl) (by rfl) ?_
  unfold A_ref11_row
  simp -dsimp only [↓w_seq, ↓w_ops, ↓w_skip, ↓w_ret, ↓w_exit, ↓w_scope, ↓w_block, ↓w_cond, cond_true', cond_false', ↓t_nil, ↓t_plain, ↓t_guard, ↓t_again, t_val, t_call, g_true, g_false, a_val, a_call, ↓n_normal, ↓n_ret, ↓n_exit, ↓b_normal, ↓b_ret, ↓b_exit, ↓e_normal, ↓e_ret, e_some, go_sem, ↓reduceIte, Nat.reduceEqDiff, Nat.reduceLT, Nat.reduceSub, A_ref11_row_0, A_ref11_row_1, A_ref11_row_2, A_ref11_row_3, A_ref11_row_4, A_ref11_row_5, A_ref11_row_7]
  refine row_loop s xs hl hk M hs hlt ?_ ?_ xs.length 0 _ M (by omega) (Grew.refl M) (fun j h hj => by omega) ?_ ?_
  · intro fr M' hG hr h2
    simp -dsimp only [↓w_seq, ↓w_ops, ↓w_skip, ↓w_ret, ↓w_exit, ↓w_scope, ↓w_block, ↓w_cond, cond_true', cond_false', ↓t_nil, ↓t_plain, ↓t_guard, ↓t_again, t_val, t_call, g_true, g_false, a_val, a_call, ↓n_normal, ↓n_ret, ↓n_exit, ↓b_normal, ↓b_ret, ↓b_exit, ↓e_normal, ↓e_ret, e_some, go_sem, ↓reduceIte, Nat.reduceEqDiff, Nat.reduceLT, Nat.reduceSub, A_ref11_row_0, A_ref11_row_1, A_ref11_row_2, A_ref11_row_3, A_ref11_row_4, A_ref11_row_5, A_ref11_row_7, h2]
    exact ⟨false, rfl, by simp [hr], hG⟩
  · intro fr M' hG hr
    simp -dsimp only [↓w_seq, ↓w_ops, ↓w_skip, ↓w_ret, ↓w_exit, ↓w_scope, ↓w_block, ↓w_cond, cond_true', cond_false', ↓t_nil, ↓t_plain, ↓t_guard, ↓t_again, t_val, t_call, g_true, g_false, a_val, a_call, ↓n_normal, ↓n_ret, ↓n_exit, ↓b_normal, ↓b_ret, ↓b_exit, ↓e_normal, ↓e_ret, e_some, go_sem, ↓reduceIte, Nat.reduceEqDiff, Nat.reduceLT, Nat.reduceSub, A_ref11_row_0, A_ref11_row_1, A_ref11_row_2, A_ref11_row_3, A_ref11_row_4, A_ref11_row_5, A_ref11_row_7]
    exact ⟨true, rfl, by simp [hr], hG⟩
  · simp only [go_sem, ↓reduceIte, Nat.reduceEqDiff, Nat.reduceLT, Nat.reduceSub]
  · simp only [go_sem, ↓reduceIte, Nat.reduceEqDiff, Nat.reduceLT, Nat.reduceSub]; rfl

open Classical in
/-- What the reference's gap answers. -/
noncomputable def gapR (xs : List Sb) (at_ : Int) : List UInt8 × List UInt8 × Int :=
  if ¬ RowP xs ∨ at_ < 0 ∨ (xs.length : Int) < at_ then ([], [], 1) else if 0 < at_ ∧ at_ < xs.length ∧ kA xs at_ = kB xs at_ then ([], [], 32) else (kA xs at_, kB xs at_, 0)

theorem gapR_bad {xs : List Sb} {at_ : Int} (h : ¬ RowP xs ∨ at_ < 0 ∨ (xs.length : Int) < at_) : gapR xs at_ = ([], [], 1) := by unfold gapR; rw [if_pos h]
theorem gapR_eq {xs : List Sb} {at_ : Int} (h : RowP xs) (h1 : 0 < at_) (h2 : at_ < xs.length) (h3 : kA xs at_ = kB xs at_) : gapR xs at_ = ([], [], 32) := by
  unfold gapR; rw [if_neg (by rintro (h' | h' | h'); exact h' h; omega; omega), if_pos ⟨h1, h2, h3⟩]
theorem gapR_do {xs : List Sb} {at_ : Int} (h : RowP xs) (h1 : 0 ≤ at_) (h2 : at_ ≤ xs.length) (h3 : 0 < at_ → at_ < xs.length → kA xs at_ ≠ kB xs at_) : gapR xs at_ = (kA xs at_, kB xs at_, 0) := by
  unfold gapR; rw [if_neg (by rintro (h' | h' | h'); exact h' h; omega; omega), if_neg (fun h' => h3 h'.1 h'.2.1 h'.2.2)]

set_option maxHeartbeats 1000000 in
theorem rgap_runs (s : V) (xs : List Sb) (hl : xs.length < 2 ^ 62) (hk : ∀ x ∈ xs, x.1.length < 2 ^ 63) (at_ : Int) (M : Mem) (hs : SlR elSb M s xs) (hlt : ∀ b, s.blk = some b → xs ≠ [] → b < M.next) :
    Runs D2 F_ref11_gap [s, .int .i64 at_] M fun v M' => v = .tup [.str (gapR xs at_).1, .str (gapR xs at_).2.1, .int .i64 (gapR xs at_).2.2] ∧ Grew M M' := by
  refine Runs.walk (F := A_ref11_gap) rfl (by rfl) (by rfl) ?_
  unfold A_ref11_gap
  obtain ⟨a0, cap, e0, _⟩ := id hs
  simp -dsimp only [↓w_seq, ↓w_ops, ↓w_skip, ↓w_ret, ↓w_exit, ↓w_scope, ↓w_block, ↓w_cond, cond_true', cond_false', ↓t_nil, ↓t_plain, ↓t_guard, ↓t_again, t_val, t_call, g_true, g_false, a_val, a_call, ↓n_normal, ↓n_ret, ↓n_exit, ↓b_normal, ↓b_ret, ↓b_exit, ↓e_normal, ↓e_ret, e_some, go_sem, ↓reduceIte, Nat.reduceEqDiff, Nat.reduceLT, Nat.reduceSub, A_ref11_gap_0, A_ref11_gap_1, A_ref11_gap_2, A_ref11_gap_3, A_ref11_gap_4, A_ref11_gap_5, A_ref11_gap_6, A_ref11_gap_7, A_ref11_gap_8, A_ref11_gap_9, A_ref11_gap_10, A_ref11_gap_11]
  refine call_of (row_runs s xs hl hk M hs hlt) ?_
  intro v M' hv
  obtain ⟨t, hv1, ht, hG⟩ := hv
  rw [hv1]
  cases t with
  | false =>
    have hr : ¬ RowP xs := fun h => by have := ht.mpr h; cases this
    simp -dsimp only [↓w_seq, ↓w_ops, ↓w_skip, ↓w_ret, ↓w_exit, ↓w_scope, ↓w_block, ↓w_cond, cond_true', cond_false', ↓t_nil, ↓t_plain, ↓t_guard, ↓t_again, t_val, t_call, g_true, g_false, a_val, a_call, ↓n_normal, ↓n_ret, ↓n_exit, ↓b_normal, ↓b_ret, ↓b_exit, ↓e_normal, ↓e_ret, e_some, go_sem, ↓reduceIte, Nat.reduceEqDiff, Nat.reduceLT, Nat.reduceSub, A_ref11_gap_0, A_ref11_gap_1, A_ref11_gap_2, A_ref11_gap_3, A_ref11_gap_4, A_ref11_gap_5, A_ref11_gap_6, A_ref11_gap_7, A_ref11_gap_8, A_ref11_gap_9, A_ref11_gap_10, A_ref11_gap_11]
    rw [gapR_bad (.inl hr)]
    exact ⟨rfl, hG⟩
  | true =>
    have hr := ht.mp rfl
    by_cases g1 : at_ < 0
    · simp -dsimp only [↓w_seq, ↓w_ops, ↓w_skip, ↓w_ret, ↓w_exit, ↓w_scope, ↓w_block, ↓w_cond, cond_true', cond_false', ↓t_nil, ↓t_plain, ↓t_guard, ↓t_again, t_val, t_call, g_true, g_false, a_val, a_call, ↓n_normal, ↓n_ret, ↓n_exit, ↓b_normal, ↓b_ret, ↓b_exit, ↓e_normal, ↓e_ret, e_some, go_sem, ↓reduceIte, Nat.reduceEqDiff, Nat.reduceLT, Nat.reduceSub, A_ref11_gap_0, A_ref11_gap_1, A_ref11_gap_2, A_ref11_gap_3, A_ref11_gap_4, A_ref11_gap_5, A_ref11_gap_6, A_ref11_gap_7, A_ref11_gap_8, A_ref11_gap_9, A_ref11_gap_10, A_ref11_gap_11, g1, decide_true]
      rw [gapR_bad (.inr (.inl g1))]
      exact ⟨rfl, hG⟩
    by_cases g2 : (xs.length : Int) < at_
    · simp -dsimp only [↓w_seq, ↓w_ops, ↓w_skip, ↓w_ret, ↓w_exit, ↓w_scope, ↓w_block, ↓w_cond, cond_true', cond_false', ↓t_nil, ↓t_plain, ↓t_guard, ↓t_again, t_val, t_call, g_true, g_false, a_val, a_call, ↓n_normal, ↓n_ret, ↓n_exit, ↓b_normal, ↓b_ret, ↓b_exit, ↓e_normal, ↓e_ret, e_some, go_sem, ↓reduceIte, Nat.reduceEqDiff, Nat.reduceLT, Nat.reduceSub, A_ref11_gap_0, A_ref11_gap_1, A_ref11_gap_2, A_ref11_gap_3, A_ref11_gap_4, A_ref11_gap_5, A_ref11_gap_6, A_ref11_gap_7, A_ref11_gap_8, A_ref11_gap_9, A_ref11_gap_10, A_ref11_gap_11, e0, g1, g2, decide_true, decide_false]
      rw [gapR_bad (.inr (.inr g2))]
      exact ⟨rfl, hG⟩
    obtain ⟨n, rfl⟩ := Int.eq_ofNat_of_zero_le (by omega : 0 ≤ at_)
    have hsM : SlR elSb M' s xs := by
      by_cases hz : xs = []
      · exact ⟨a0, cap, e0, .inl hz⟩
      · exact hs.keep fun b hb => hG.old b (hlt b hb hz)
    cases n with
    | zero =>
      have e3 : ¬ (0 : Int) < ((0 : Nat) : Int) := by omega
      have hd := gapR_do hr (at_ := ((0 : Nat) : Int)) (by omega) (by omega) (fun h => by omega)
      by_cases g3 : 0 < xs.length
      · obtain ⟨b, o, cs, ro, cap', e0', hM, hr3, hr1, hr2⟩ := sl_at hsM g3
        rw [e0] at e0'
        simp only [V.slice.injEq, true_and] at e0'
        obtain ⟨rfl, rfl⟩ := e0'
        simp only [Nat.zero_mul, Nat.add_zero] at hr1
        have g4 : ((0 : Nat) : Int) < xs.length := by omega
        have g5 : 0 + 1 ≤ xs.length := by omega
        rw [hd, kA_zero, kB_lt _ _ g3]
        simp -dsimp only [↓w_seq, ↓w_ops, ↓w_skip, ↓w_ret, ↓w_exit, ↓w_scope, ↓w_block, ↓w_cond, cond_true', cond_false', ↓t_nil, ↓t_plain, ↓t_guard, ↓t_again, t_val, t_call, g_true, g_false, a_val, a_call, ↓n_normal, ↓n_ret, ↓n_exit, ↓b_normal, ↓b_ret, ↓b_exit, ↓e_normal, ↓e_ret, e_some, go_sem, ↓reduceIte, Nat.reduceEqDiff, Nat.reduceLT, Nat.reduceSub, A_ref11_gap_0, A_ref11_gap_1, A_ref11_gap_2, A_ref11_gap_3, A_ref11_gap_4, A_ref11_gap_5, A_ref11_gap_6, A_ref11_gap_7, A_ref11_gap_8, A_ref11_gap_9, A_ref11_gap_10, A_ref11_gap_11, e0, g1, g2, e3, g4, g5, decide_true, decide_false, vload, vptr, hM, Mem.read, hr1, Nat.add_zero]
        exact ⟨trivial, hG⟩
      · have g4 : ¬ ((0 : Nat) : Int) < xs.length := by omega
        have hz : xs = [] := List.eq_nil_of_length_eq_zero (by omega)
        rw [hd, kA_zero, show kB xs ((0 : Nat) : Int) = [] from by subst hz; exact kB_end []]
        simp -dsimp only [↓w_seq, ↓w_ops, ↓w_skip, ↓w_ret, ↓w_exit, ↓w_scope, ↓w_block, ↓w_cond, cond_true', cond_false', ↓t_nil, ↓t_plain, ↓t_guard, ↓t_again, t_val, t_call, g_true, g_false, a_val, a_call, ↓n_normal, ↓n_ret, ↓n_exit, ↓b_normal, ↓b_ret, ↓b_exit, ↓e_normal, ↓e_ret, e_some, go_sem, ↓reduceIte, Nat.reduceEqDiff, Nat.reduceLT, Nat.reduceSub, A_ref11_gap_0, A_ref11_gap_1, A_ref11_gap_2, A_ref11_gap_3, A_ref11_gap_4, A_ref11_gap_5, A_ref11_gap_6, A_ref11_gap_7, A_ref11_gap_8, A_ref11_gap_9, A_ref11_gap_10, A_ref11_gap_11, e0, g1, g2, e3, g4, decide_true, decide_false]
        exact ⟨trivial, hG⟩
    | succ k =>
      have hkl : k < xs.length := by omega
      obtain ⟨b, o, cs, ro, cap', e0', hM, hr3, hr1, hr2⟩ := sl_at hsM hkl
      rw [e0] at e0'
      simp only [V.slice.injEq, true_and] at e0'
      obtain ⟨rfl, rfl⟩ := e0'
      have e3 : (0 : Int) < ((k + 1 : Nat) : Int) := by omega
      have e4 : ((k + 1 : Nat) : Int) - 1 = (k : Int) := by omega
      have e6 : k + 1 ≤ xs.length := by omega
      by_cases g3 : k + 1 < xs.length
      · obtain ⟨b', o', cs', ro', cap'', e0'', hM', hr3', hr1', hr2'⟩ := sl_at hsM g3
        rw [e0] at e0''
        simp only [V.slice.injEq, Option.some.injEq, Prod.mk.injEq, true_and] at e0''
        obtain ⟨⟨rfl, rfl⟩, rfl⟩ := e0''
        rw [hM] at hM'
        simp only [Option.some.injEq, O.cells.injEq] at hM'
        obtain ⟨rfl, rfl⟩ := hM'
        have g4 : ((k + 1 : Nat) : Int) < xs.length := by omega
        have g5 : k + 1 + 1 ≤ xs.length := by omega
        by_cases g6 : xs[k].1 = xs[k + 1].1
        · rw [gapR_eq hr (by omega) g4 (by rw [kA_succ _ _ hkl, kB_lt _ _ g3, g6])]
          simp -dsimp only [↓w_seq, ↓w_ops, ↓w_skip, ↓w_ret, ↓w_exit, ↓w_scope, ↓w_block, ↓w_cond, cond_true', cond_false', ↓t_nil, ↓t_plain, ↓t_guard, ↓t_again, t_val, t_call, g_true, g_false, a_val, a_call, ↓n_normal, ↓n_ret, ↓n_exit, ↓b_normal, ↓b_ret, ↓b_exit, ↓e_normal, ↓e_ret, e_some, go_sem, ↓reduceIte, Nat.reduceEqDiff, Nat.reduceLT, Nat.reduceSub, A_ref11_gap_0, A_ref11_gap_1, A_ref11_gap_2, A_ref11_gap_3, A_ref11_gap_4, A_ref11_gap_5, A_ref11_gap_6, A_ref11_gap_7, A_ref11_gap_8, A_ref11_gap_9, A_ref11_gap_10, A_ref11_gap_11, e0, g1, g2, e3, e4, e6, g4, g5, g6, decide_true, decide_false, vload, vptr, hM, Mem.read, hr1, hr1', Nat.add_zero, IntWalk.i64_in (k : Int) (by omega)]
          exact ⟨trivial, hG⟩
        · rw [gapR_do hr (by omega) (by omega) (fun _ _ => by rw [kA_succ _ _ hkl, kB_lt _ _ g3]; exact g6), kA_succ _ _ hkl, kB_lt _ _ g3]
          simp -dsimp only [↓w_seq, ↓w_ops, ↓w_skip, ↓w_ret, ↓w_exit, ↓w_scope, ↓w_block, ↓w_cond, cond_true', cond_false', ↓t_nil, ↓t_plain, ↓t_guard, ↓t_again, t_val, t_call, g_true, g_false, a_val, a_call, ↓n_normal, ↓n_ret, ↓n_exit, ↓b_normal, ↓b_ret, ↓b_exit, ↓e_normal, ↓e_ret, e_some, go_sem, ↓reduceIte, Nat.reduceEqDiff, Nat.reduceLT, Nat.reduceSub, A_ref11_gap_0, A_ref11_gap_1, A_ref11_gap_2, A_ref11_gap_3, A_ref11_gap_4, A_ref11_gap_5, A_ref11_gap_6, A_ref11_gap_7, A_ref11_gap_8, A_ref11_gap_9, A_ref11_gap_10, A_ref11_gap_11, e0, g1, g2, e3, e4, e6, g4, g5, g6, decide_true, decide_false, vload, vptr, hM, Mem.read, hr1, hr1', Nat.add_zero, IntWalk.i64_in (k : Int) (by omega)]
          exact ⟨trivial, hG⟩
      · have hk1 : k + 1 = xs.length := by omega
        have g4 : ¬ ((k + 1 : Nat) : Int) < xs.length := by omega
        rw [gapR_do hr (by omega) (by omega) (fun _ h => by omega), kA_succ _ _ hkl, show kB xs ((k + 1 : Nat) : Int) = [] from by rw [hk1]; exact kB_end xs]
        simp -dsimp only [↓w_seq, ↓w_ops, ↓w_skip, ↓w_ret, ↓w_exit, ↓w_scope, ↓w_block, ↓w_cond, cond_true', cond_false', ↓t_nil, ↓t_plain, ↓t_guard, ↓t_again, t_val, t_call, g_true, g_false, a_val, a_call, ↓n_normal, ↓n_ret, ↓n_exit, ↓b_normal, ↓b_ret, ↓b_exit, ↓e_normal, ↓e_ret, e_some, go_sem, ↓reduceIte, Nat.reduceEqDiff, Nat.reduceLT, Nat.reduceSub, A_ref11_gap_0, A_ref11_gap_1, A_ref11_gap_2, A_ref11_gap_3, A_ref11_gap_4, A_ref11_gap_5, A_ref11_gap_6, A_ref11_gap_7, A_ref11_gap_8, A_ref11_gap_9, A_ref11_gap_10, A_ref11_gap_11, e0, g1, g2, e3, e4, e6, g4, decide_true, decide_false, vload, vptr, hM, Mem.read, hr1, Nat.add_zero, IntWalk.i64_in (k : Int) (by omega)]
        exact ⟨trivial, hG⟩
end Go.Am.Try

/- The reference's Key, Keys; order.Keys. -/
namespace Go.Am.Try
open Go Go.Am Go.Proofs Go.Sort Go.Shelf
set_option maxRecDepth 100000
set_option linter.unusedSimpArgs false
set_option linter.unusedVariables false

theorem kA_len (xs : List Sb) (hk : ∀ x ∈ xs, x.1.length < 2 ^ 63) (at_ : Int) : (kA xs at_).length < 2 ^ 63 := by
  unfold kA
  split
  · rw [List.getD_eq_getElem?_getD]
    cases h : xs[(at_ - 1).toNat]? with
    | none => simp [sb0]
    | some x => exact hk x (List.mem_of_getElem? h)
  · simp

theorem keyK_gap (xs : List Sb) (at_ : Int) : keyK xs at_ = if (gapR xs at_).2.2 = 0 then btwE (gapR xs at_).1 (gapR xs at_).2.1 else ([], (gapR xs at_).2.2) := by
  unfold keyK gapR
  split
  · rfl
  · split <;> rfl
theorem gapR_ok {xs : List Sb} {at_ : Int} (h : (gapR xs at_).2.2 = 0) : gapR xs at_ = (kA xs at_, kB xs at_, 0) := by
  unfold gapR at h ⊢
  split at h
  · cases h
  · split at h
    · cases h
    · rename_i h1 h2
      rw [if_neg h1, if_neg h2]

theorem rKey_runs (s : V) (xs : List Sb) (hl : xs.length < 2 ^ 62) (hk : ∀ x ∈ xs, x.1.length < 2 ^ 63) (at_ : Int) (M : Mem) (hs : SlR elSb M s xs) (hlt : ∀ b, s.blk = some b → xs ≠ [] → b < M.next) :
    Runs D2 F_ref11_Key [s, .int .i64 at_] M fun v M' => v = .tup [.str (keyK xs at_).1, .int .i64 (keyK xs at_).2] ∧ Grew M M' := by
  refine Runs.walk (F := A_ref11_Key) rfl (by rfl) (by rfl) ?_
  unfold A_ref11_Key
  simp -dsimp only [↓w_seq, ↓w_ops, ↓w_skip, ↓w_ret, ↓w_exit, ↓w_scope, ↓w_block, ↓w_cond, cond_true', cond_false', ↓t_nil, ↓t_plain, ↓t_guard, ↓t_again, t_val, t_call, g_true, g_false, a_val, a_call, ↓n_normal, ↓n_ret, ↓n_exit, ↓b_normal, ↓b_ret, ↓b_exit, ↓e_normal, ↓e_ret, e_some, go_sem, ↓reduceIte, Nat.reduceEqDiff, Nat.reduceLT, Nat.reduceSub, A_ref11_Key_0, A_ref11_Key_1, A_ref11_Key_2, A_ref11_Key_3, A_ref11_Key_4]
  refine call_of (rgap_runs s xs hl hk at_ M hs hlt) ?_
  intro v M' hv
  rw [hv.1]
  have hG := hv.2
  rw [keyK_gap]
  by_cases he : (gapR xs at_).2.2 = 0
  · have hd := gapR_ok he
    have h1 : (gapR xs at_).1 = kA xs at_ := by rw [hd]
    have h2 : (gapR xs at_).2.1 = kB xs at_ := by rw [hd]
    rw [if_pos he, h1, h2, he]
    simp -dsimp only [↓w_seq, ↓w_ops, ↓w_skip, ↓w_ret, ↓w_exit, ↓w_scope, ↓w_block, ↓w_cond, cond_true', cond_false', ↓t_nil, ↓t_plain, ↓t_guard, ↓t_again, t_val, t_call, g_true, g_false, a_val, a_call, ↓n_normal, ↓n_ret, ↓n_exit, ↓b_normal, ↓b_ret, ↓b_exit, ↓e_normal, ↓e_ret, e_some, go_sem, ↓reduceIte, Nat.reduceEqDiff, Nat.reduceLT, Nat.reduceSub, A_ref11_Key_0, A_ref11_Key_1, A_ref11_Key_2, A_ref11_Key_3, A_ref11_Key_4, List.getElem?_cons_zero, List.getElem?_cons_succ, ne_eq, not_true_eq_false, decide_false]
    refine call_of (rbetween_runs _ _ (kA_len xs hk at_) (kB_len xs hk at_) M') ?_
    intro v M2 hv2
    rw [hv2.1, btwV_is]
    simp -dsimp only [↓w_seq, ↓w_ops, ↓w_skip, ↓w_ret, ↓w_exit, ↓w_scope, ↓w_block, ↓w_cond, cond_true', cond_false', ↓t_nil, ↓t_plain, ↓t_guard, ↓t_again, t_val, t_call, g_true, g_false, a_val, a_call, ↓n_normal, ↓n_ret, ↓n_exit, ↓b_normal, ↓b_ret, ↓b_exit, ↓e_normal, ↓e_ret, e_some, go_sem, ↓reduceIte, Nat.reduceEqDiff, Nat.reduceLT, Nat.reduceSub, A_ref11_Key_0, A_ref11_Key_1, A_ref11_Key_2, A_ref11_Key_3, A_ref11_Key_4, List.getElem?_cons_zero, List.getElem?_cons_succ]
    exact ⟨trivial, hG.trans hv2.2⟩
  · rw [if_neg he]
    simp -dsimp only [↓w_seq, ↓w_ops, ↓w_skip, ↓w_ret, ↓w_exit, ↓w_scope, ↓w_block, ↓w_cond, cond_true', cond_false', ↓t_nil, ↓t_plain, ↓t_guard, ↓t_again, t_val, t_call, g_true, g_false, a_val, a_call, ↓n_normal, ↓n_ret, ↓n_exit, ↓b_normal, ↓b_ret, ↓b_exit, ↓e_normal, ↓e_ret, e_some, go_sem, ↓reduceIte, Nat.reduceEqDiff, Nat.reduceLT, Nat.reduceSub, A_ref11_Key_0, A_ref11_Key_1, A_ref11_Key_2, A_ref11_Key_3, A_ref11_Key_4, List.getElem?_cons_zero, List.getElem?_cons_succ, he, ne_eq, not_false_eq_true, decide_true]
    exact ⟨trivial, hG⟩

/-- What Keys answers. -/
noncomputable def keysK (xs : List Sb) (at_ n : Int) : List (List UInt8) × Int := if (gapR xs at_).2.2 = 0 then sprE (kA xs at_) (kB xs at_) n else ([], (gapR xs at_).2.2)

theorem rKeys_runs (s : V) (xs : List Sb) (hl : xs.length < 2 ^ 62) (hk : ∀ x ∈ xs, x.1.length < 2 ^ 63) (at_ n : Int) (M : Mem) (hs : SlR elSb M s xs) (hlt : ∀ b, s.blk = some b → xs ≠ [] → b < M.next) :
    Runs D2 F_ref11_Keys [s, .int .i64 at_, .int .i64 n] M fun v M' => Grew M M' ∧ ∃ s', v = .tup [s', .int .i64 (keysK xs at_ n).2] ∧ Hold M.next M' 1 s' (keysK xs at_ n).1.length (strsC (keysK xs at_ n).1) := by
  refine Runs.walk (F := A_ref11_Keys) rfl (by rfl) (by rfl) ?_
  unfold A_ref11_Keys
  simp -dsimp only [↓w_seq, ↓w_ops, ↓w_skip, ↓w_ret, ↓w_exit, ↓w_scope, ↓w_block, ↓w_cond, cond_true', cond_false', ↓t_nil, ↓t_plain, ↓t_guard, ↓t_again, t_val, t_call, g_true, g_false, a_val, a_call, ↓n_normal, ↓n_ret, ↓n_exit, ↓b_normal, ↓b_ret, ↓b_exit, ↓e_normal, ↓e_ret, e_some, go_sem, ↓reduceIte, Nat.reduceEqDiff, Nat.reduceLT, Nat.reduceSub, A_ref11_Keys_0, A_ref11_Keys_1, A_ref11_Keys_2, A_ref11_Keys_3, A_ref11_Keys_4]
  refine call_of (rgap_runs s xs hl hk at_ M hs hlt) ?_
  intro v M' hv
  rw [hv.1]
  have hG := hv.2
  unfold keysK
  by_cases he : (gapR xs at_).2.2 = 0
  · have hd := gapR_ok he
    have h1 : (gapR xs at_).1 = kA xs at_ := by rw [hd]
    have h2 : (gapR xs at_).2.1 = kB xs at_ := by rw [hd]
    rw [if_pos he, h1, h2, he]
    simp -dsimp only [↓w_seq, ↓w_ops, ↓w_skip, ↓w_ret, ↓w_exit, ↓w_scope, ↓w_block, ↓w_cond, cond_true', cond_false', ↓t_nil, ↓t_plain, ↓t_guard, ↓t_again, t_val, t_call, g_true, g_false, a_val, a_call, ↓n_normal, ↓n_ret, ↓n_exit, ↓b_normal, ↓b_ret, ↓b_exit, ↓e_normal, ↓e_ret, e_some, go_sem, ↓reduceIte, Nat.reduceEqDiff, Nat.reduceLT, Nat.reduceSub, A_ref11_Keys_0, A_ref11_Keys_1, A_ref11_Keys_2, A_ref11_Keys_3, A_ref11_Keys_4, List.getElem?_cons_zero, List.getElem?_cons_succ, ne_eq, not_true_eq_false, decide_false]
    refine call_of (rspread_all _ _ n (kA_len xs hk at_) (kB_len xs hk at_) M') ?_
    intro v M2 hv2
    obtain ⟨hG2, s', hs', hH⟩ := hv2
    rw [hs']
    simp -dsimp only [↓w_seq, ↓w_ops, ↓w_skip, ↓w_ret, ↓w_exit, ↓w_scope, ↓w_block, ↓w_cond, cond_true', cond_false', ↓t_nil, ↓t_plain, ↓t_guard, ↓t_again, t_val, t_call, g_true, g_false, a_val, a_call, ↓n_normal, ↓n_ret, ↓n_exit, ↓b_normal, ↓b_ret, ↓b_exit, ↓e_normal, ↓e_ret, e_some, go_sem, ↓reduceIte, Nat.reduceEqDiff, Nat.reduceLT, Nat.reduceSub, A_ref11_Keys_0, A_ref11_Keys_1, A_ref11_Keys_2, A_ref11_Keys_3, A_ref11_Keys_4, List.getElem?_cons_zero, List.getElem?_cons_succ]
    exact ⟨hG.trans hG2, s', rfl, hH.lower hG.next⟩
  · rw [if_neg he]
    simp -dsimp only [↓w_seq, ↓w_ops, ↓w_skip, ↓w_ret, ↓w_exit, ↓w_scope, ↓w_block, ↓w_cond, cond_true', cond_false', ↓t_nil, ↓t_plain, ↓t_guard, ↓t_again, t_val, t_call, g_true, g_false, a_val, a_call, ↓n_normal, ↓n_ret, ↓n_exit, ↓b_normal, ↓b_ret, ↓b_exit, ↓e_normal, ↓e_ret, e_some, go_sem, ↓reduceIte, Nat.reduceEqDiff, Nat.reduceLT, Nat.reduceSub, A_ref11_Keys_0, A_ref11_Keys_1, A_ref11_Keys_2, A_ref11_Keys_3, A_ref11_Keys_4, List.getElem?_cons_zero, List.getElem?_cons_succ, he, ne_eq, not_false_eq_true, decide_true]
    exact ⟨hG, _, rfl, .nil⟩

theorem Keys_c1_runs (a b : List UInt8) (n : Int) (hb : b.length < 2 ^ 63) (c d : Nat) (x : V) (M M0 : Mem) (hc : c < M.next) (hd : d < M.next) (hne : d ≠ c) (h0 : M0.next ≤ M.next) (hM : M.get c = some (.cells [x] false)) (hN : M.get d = some (.cells [.int .i64 n] false)) :
    Runs D2 F_order_Keys_c1 [.str a, .str b, .ptr (some (d, 0)), .ptr (some (c, 0))] M fun v M' => v = .int .i64 (sprE a b n).2 ∧ M.next ≤ M'.next ∧ (∃ s', M'.get c = some (.cells [s'] false) ∧ Hold M0.next M' 1 s' (sprE a b n).1.length (strsC (sprE a b n).1) ∧ s'.blk ≠ some c) ∧ ∀ e, e < M.next → e ≠ c → M'.get e = M.get e := by
  refine Runs.walk (F := A_order_Keys_c1) rfl (by rfl) (by rfl) ?_
  unfold A_order_Keys_c1
  simp -dsimp only [↓w_seq, ↓w_ops, ↓w_skip, ↓w_ret, ↓w_exit, ↓w_scope, ↓w_block, ↓w_cond, cond_true', cond_false', ↓t_nil, ↓t_plain, ↓t_guard, ↓t_again, t_val, t_call, g_true, g_false, a_val, a_call, ↓n_normal, ↓n_ret, ↓n_exit, ↓b_normal, ↓b_ret, ↓b_exit, ↓e_normal, ↓e_ret, e_some, go_sem, ↓reduceIte, Nat.reduceEqDiff, Nat.reduceLT, Nat.reduceSub, A_order_Keys_c1_0, A_order_Keys_c1_1, A_order_Keys_c1_2, vload, hN, List.getElem?_cons_zero]
  refine call_of (spread_runs a b n hb M) ?_
  intro v M1 hv
  obtain ⟨hG, s', hs', hH⟩ := hv
  rw [hs']
  have hM1 : M1.get c = some (.cells [x] false) := (hG.old c hc).trans hM
  obtain ⟨a0, cap0, hsh⟩ := hH.shape
  have hone : s'.one = true := by rw [hsh]; rfl
  have hcell : s'.cells = [s'] := by rw [hsh]; rfl
  have hw := write_one (v := s') hM1 (show 0 < 1 by omega) hone
  simp -dsimp only [↓w_seq, ↓w_ops, ↓w_skip, ↓w_ret, ↓w_exit, ↓w_scope, ↓w_block, ↓w_cond, cond_true', cond_false', ↓t_nil, ↓t_plain, ↓t_guard, ↓t_again, t_val, t_call, g_true, g_false, a_val, a_call, ↓n_normal, ↓n_ret, ↓n_exit, ↓b_normal, ↓b_ret, ↓b_exit, ↓e_normal, ↓e_ret, e_some, go_sem, ↓reduceIte, Nat.reduceEqDiff, Nat.reduceLT, Nat.reduceSub, A_order_Keys_c1_0, A_order_Keys_c1_1, A_order_Keys_c1_2, List.getElem?_cons_zero, List.getElem?_cons_succ, vstore, hcell, List.length_cons, List.length_nil, Nat.zero_add, hw, List.set_cons_zero]
  have hu := Upd.set M1 c (.cells [s'] false)
  have hbk : s'.blk ≠ some c := fun e => by have := (hH.blk_le e).1; omega
  refine ⟨trivial, by rw [hu.next]; exact hG.next, ⟨s', hu.at_, (hH.lower h0).keep (fun b hb => hu.other b fun e => hbk (by rw [hb, e])) (by rw [hu.next]; exact Nat.le_refl _), hbk⟩, fun e he hne' => (hu.other e hne').trans (hG.old e he)⟩

theorem Keys_runs (s : V) (xs : List Sb) (hl : xs.length < 2 ^ 62) (hk : ∀ x ∈ xs, x.1.length < 2 ^ 63) (at_ n : Int) (M : Mem) (hs : SlR elSb M s xs) (hlt : ∀ b, s.blk = some b → xs ≠ [] → b < M.next) :
    Runs D2 F_order_Keys [s, .int .i64 at_, .int .i64 n] M fun v M' => Grew M M' ∧ ∃ s', v = .tup [s', .int .i64 (keysK xs at_ n).2] ∧ Hold M.next M' 1 s' (keysK xs at_ n).1.length (strsC (keysK xs at_ n).1) := by
  refine Runs.walk (F := A_order_Keys) rfl (by rfl) (by rfl) ?_
  unfold A_order_Keys
  simp -dsimp only [↓w_seq, ↓w_ops, ↓w_skip, ↓w_ret, ↓w_exit, ↓w_scope, ↓w_block, ↓w_cond, cond_true', cond_false', ↓t_nil, ↓t_plain, ↓t_guard, ↓t_again, t_val, t_call, g_true, g_false, a_val, a_call, ↓n_normal, ↓n_ret, ↓n_exit, ↓b_normal, ↓b_ret, ↓b_exit, ↓e_normal, ↓e_ret, e_some, go_sem, ↓reduceIte, Nat.reduceEqDiff, Nat.reduceLT, Nat.reduceSub, A_order_Keys_0, A_order_Keys_1, A_order_Keys_2, V.cells, Mem.next_push]
  have g0 : Grew M ((M.push (.cells [.int .i64 n] false)).push (.cells [.slice none 0 (.exact 0)] false)) := (Grew.push _ _).trans (Grew.push _ _)
  have hM1 : ((M.push (.cells [.int .i64 n] false)).push (.cells [.slice none 0 (.exact 0)] false)).get (M.next + 1) = some (.cells [.slice none 0 (.exact 0)] false) := Mem.get_push_same (M.push _) _
  have hN1 : ((M.push (.cells [.int .i64 n] false)).push (.cells [.slice none 0 (.exact 0)] false)).get M.next = some (.cells [.int .i64 n] false) := (Mem.get_push_ne _ _ (by simp)).trans (Mem.get_push_same _ _)
  have hn1 : ((M.push (.cells [.int .i64 n] false)).push (.cells [.slice none 0 (.exact 0)] false)).next = M.next + 2 := rfl
  generalize (M.push (.cells [.int .i64 n] false)).push (.cells [.slice none 0 (.exact 0)] false) = M1 at *
  have hs1 : SlR elSb M1 s xs := by
    by_cases hz : xs = []
    · obtain ⟨a0, cap, e0, h⟩ := hs
      exact ⟨a0, cap, e0, .inl hz⟩
    · exact hs.keep fun b hb => g0.old b (hlt b hb hz)
  refine call_of (S := fun v M' => v = .int .i64 (keysK xs at_ n).2 ∧ M1.next ≤ M'.next ∧ (∃ s', M'.get (M.next + 1) = some (.cells [s'] false) ∧ Hold M1.next M' 1 s' (keysK xs at_ n).1.length (strsC (keysK xs at_ n).1) ∧ s'.blk ≠ some (M.next + 1)) ∧ ∀ d, d < M.next → M'.get d = M.get d)
    (gap_runs s xs hl at_ F_order_Keys_c1 [.ptr (some (M.next, 0)), .ptr (some (M.next + 1, 0))] M1 hs1 (fun b hb hz => by have := hlt b hb hz; omega) ?_ ?_ ?_) ?_
  · intro M' hG h
    have : keysK xs at_ n = ([], 1) := by unfold keysK; rw [gapR_bad h]; rfl
    rw [this]
    exact ⟨rfl, hG.next, ⟨_, (hG.old _ (by omega)).trans hM1, .nil, by simp [V.blk]⟩, fun d hd => (hG.old d (by omega)).trans (g0.old d hd)⟩
  · intro M' hG h1 h2 h3 h4
    have : keysK xs at_ n = ([], 32) := by unfold keysK; rw [gapR_eq h1 h2 h3 h4]; rfl
    rw [this]
    exact ⟨rfl, hG.next, ⟨_, (hG.old _ (by omega)).trans hM1, .nil, by simp [V.blk]⟩, fun d hd => (hG.old d (by omega)).trans (g0.old d hd)⟩
  · intro M' hG h1 h2 h3 h4
    have : keysK xs at_ n = sprE (kA xs at_) (kB xs at_) n := by unfold keysK; rw [gapR_do h1 h2 h3 h4]; rfl
    rw [this]
    have hnx := hG.next
    refine (Keys_c1_runs _ _ n (kB_len xs hk at_) (M.next + 1) M.next _ M' M1 (by omega) (by omega) (by omega) hnx ((hG.old _ (by omega)).trans hM1) ((hG.old _ (by omega)).trans hN1)).mono ?_
    intro v M2 hv
    exact ⟨hv.1, by have := hv.2.1; omega, hv.2.2.1, fun d hd => ((hv.2.2.2 d (by omega) (by omega)).trans (hG.old d (by omega))).trans (g0.old d hd)⟩
  · intro v M2 hv
    rw [hv.1]
    obtain ⟨_, hn2, ⟨s', hM2, hH, hbk⟩, ho2⟩ := hv
    obtain ⟨a0, cap0, hsh⟩ := hH.shape
    have hone : s'.one = true := by rw [hsh]; rfl
    have hcell : s'.cells = [s'] := by rw [hsh]; rfl
    have hw := write_one (v := s') hM2 (show 0 < 1 by omega) hone
    simp -dsimp only [↓w_seq, ↓w_ops, ↓w_skip, ↓w_ret, ↓w_exit, ↓w_scope, ↓w_block, ↓w_cond, cond_true', cond_false', ↓t_nil, ↓t_plain, ↓t_guard, ↓t_again, t_val, t_call, g_true, g_false, a_val, a_call, ↓n_normal, ↓n_ret, ↓n_exit, ↓b_normal, ↓b_ret, ↓b_exit, ↓e_normal, ↓e_ret, e_some, go_sem, ↓reduceIte, Nat.reduceEqDiff, Nat.reduceLT, Nat.reduceSub, A_order_Keys_0, A_order_Keys_1, A_order_Keys_2, vload, hM2, List.getElem?_cons_zero, vstore, hcell, List.length_cons, List.length_nil, Nat.zero_add, hw, List.set_cons_zero]
    have hu := Upd.set M2 (M.next + 1) (.cells [s'] false)
    generalize M2.set (M.next + 1) _ = M3 at hu
    simp -dsimp only [↓w_seq, ↓w_ops, ↓w_skip, ↓w_ret, ↓w_exit, ↓w_scope, ↓w_block, ↓w_cond, cond_true', cond_false', ↓t_nil, ↓t_plain, ↓t_guard, ↓t_again, t_val, t_call, g_true, g_false, a_val, a_call, ↓n_normal, ↓n_ret, ↓n_exit, ↓b_normal, ↓b_ret, ↓b_exit, ↓e_normal, ↓e_ret, e_some, go_sem, ↓reduceIte, Nat.reduceEqDiff, Nat.reduceLT, Nat.reduceSub, A_order_Keys_0, A_order_Keys_1, A_order_Keys_2, vload, hu.at_, List.getElem?_cons_zero]
    refine ⟨⟨by rw [hu.next]; omega, fun d hd => (hu.other d (by omega)).trans (ho2 d hd)⟩, s', rfl, (hH.lower (by omega)).keep (fun b hb => hu.other b fun e => hbk (by rw [hb, e])) (by rw [hu.next]; exact Nat.le_refl _)⟩
end Go.Am.Try

/- Same, Find. -/
namespace Go.Am.Try
open Go Go.Am Go.Proofs Go.Sort Go.Shelf
set_option maxRecDepth 100000
set_option linter.unusedSimpArgs false
set_option linter.unusedVariables false

theorem st_same (a b : St) : vsame ⟨true, [.int .i64, .int .i64]⟩ (.agg (stC a)) (.agg (stC b)) = some (decide (a = b)) := by
  obtain ⟨a1, a2⟩ := a
  obtain ⟨b1, b2⟩ := b
  simp only [stC]
  rw [same_two]
  simp [Prod.ext_iff]

theorem Same_loop (sa sb : V) (xs : List Sb) (hl : xs.length < 2 ^ 62) (M : Mem) (ha : SlR elSb M sa xs) (hb : SlR elSb M sb xs) {Q : AExit → Fr → Mem → Prop} (hE : ∀ fr, Q (.exit 0) fr M) :
    ∀ (f i : Nat) (fr : Fr), i + f = xs.length → fr.rd 0 = sa → fr.rd 1 = sb → fr.rd 5 = .int .i64 (i : Int) → WC D2 41 (.loop A_law11_Same_8) fr M Q := by
  intro f
  induction f with
  | zero =>
    intro i fr hi h0 h1 h5
    refine WC.loop (W_of ?_)
    unfold A_law11_Same_8
    obtain ⟨a, cap, rfl, _⟩ := ha
    have : ¬ (i : Int) < xs.length := by omega
    simp -dsimp only [↓w_seq, ↓w_ops, ↓w_skip, ↓w_ret, ↓w_exit, ↓w_scope, ↓w_block, ↓w_cond, cond_true', cond_false', ↓t_nil, ↓t_plain, ↓t_guard, ↓t_again, t_val, t_call, g_true, g_false, a_val, a_call, ↓n_normal, ↓n_ret, ↓n_exit, ↓b_normal, ↓b_ret, ↓b_exit, ↓e_normal, ↓e_ret, e_some, go_sem, ↓reduceIte, Nat.reduceEqDiff, Nat.reduceLT, Nat.reduceSub, A_law11_Same_0, A_law11_Same_1, A_law11_Same_2, A_law11_Same_3, A_law11_Same_4, A_law11_Same_5, A_law11_Same_6, A_law11_Same_7, A_law11_Same_9, h0, h1, h5, this, decide_false]
    exact hE _
  | succ f ih =>
    intro i fr hi h0 h1 h5
    refine WC.loop (W_of ?_)
    unfold A_law11_Same_8
    have hil : i < xs.length := by omega
    obtain ⟨b, o, cs, ro, cap, e0, hM, hr3, hr1, hr2⟩ := sl_at ha hil
    obtain ⟨b', o', cs', ro', cap', e0', hM', hr3', hr1', hr2'⟩ := sl_at hb hil
    rw [e0] at h0
    rw [e0'] at h1
    have e1 : (i : Int) < xs.length := by omega
    have e2 : i + 1 ≤ xs.length := by omega
    have h5' : (i : Int) + 1 = ((i + 1 : Nat) : Int) := by omega
    simp -dsimp only [↓w_seq, ↓w_ops, ↓w_skip, ↓w_ret, ↓w_exit, ↓w_scope, ↓w_block, ↓w_cond, cond_true', cond_false', ↓t_nil, ↓t_plain, ↓t_guard, ↓t_again, t_val, t_call, g_true, g_false, a_val, a_call, ↓n_normal, ↓n_ret, ↓n_exit, ↓b_normal, ↓b_ret, ↓b_exit, ↓e_normal, ↓e_ret, e_some, go_sem, ↓reduceIte, Nat.reduceEqDiff, Nat.reduceLT, Nat.reduceSub, A_law11_Same_0, A_law11_Same_1, A_law11_Same_2, A_law11_Same_3, A_law11_Same_4, A_law11_Same_5, A_law11_Same_6, A_law11_Same_7, A_law11_Same_9, h0, h1, h5, h5', e1, e2, decide_false, decide_true, vload, vptr, hM, hM', Mem.read, hr1, hr1', hr2, hr2', Nat.add_zero, st_same, Bool.not_true, ne_eq, not_true_eq_false, IntWalk.i64_in ((i + 1 : Nat) : Int) (by omega)]
    refine ih (i + 1) _ (by omega) ?_ ?_ ?_
    all_goals simp only [go_sem, ↓reduceIte, Nat.reduceEqDiff, Nat.reduceLT, Nat.reduceSub, h0, h1, e0, e0']

theorem Same_runs (sa sb : V) (xs : List Sb) (hl : xs.length < 2 ^ 62) (M : Mem) (ha : SlR elSb M sa xs) (hb : SlR elSb M sb xs) :
    Runs D2 F_law11_Same [sa, sb] M fun v M' => v = .bool true ∧ M' = M := by
  refine Runs.walk (F := A_law11_Same) rfl (by rfl) (by rfl) ?_
  unfold A_law11_Same
  obtain ⟨a, cap, e0, _⟩ := id ha
  obtain ⟨a', cap', e0', _⟩ := id hb
  simp -dsimp only [↓w_seq, ↓w_ops, ↓w_skip, ↓w_ret, ↓w_exit, ↓w_scope, ↓w_block, ↓w_cond, cond_true', cond_false', ↓t_nil, ↓t_plain, ↓t_guard, ↓t_again, t_val, t_call, g_true, g_false, a_val, a_call, ↓n_normal, ↓n_ret, ↓n_exit, ↓b_normal, ↓b_ret, ↓b_exit, ↓e_normal, ↓e_ret, e_some, go_sem, ↓reduceIte, Nat.reduceEqDiff, Nat.reduceLT, Nat.reduceSub, A_law11_Same_0, A_law11_Same_1, A_law11_Same_2, A_law11_Same_3, A_law11_Same_4, A_law11_Same_5, A_law11_Same_6, A_law11_Same_7, A_law11_Same_9, e0, e0', ne_eq, not_true_eq_false, decide_false]
  refine Same_loop sa sb xs hl M ha hb ?_ xs.length 0 _ (by omega) ?_ ?_ ?_
  · intro fr
    simp -dsimp only [↓w_seq, ↓w_ops, ↓w_skip, ↓w_ret, ↓w_exit, ↓w_scope, ↓w_block, ↓w_cond, cond_true', cond_false', ↓t_nil, ↓t_plain, ↓t_guard, ↓t_again, t_val, t_call, g_true, g_false, a_val, a_call, ↓n_normal, ↓n_ret, ↓n_exit, ↓b_normal, ↓b_ret, ↓b_exit, ↓e_normal, ↓e_ret, e_some, go_sem, ↓reduceIte, Nat.reduceEqDiff, Nat.reduceLT, Nat.reduceSub, A_law11_Same_0, A_law11_Same_1, A_law11_Same_2, A_law11_Same_3, A_law11_Same_4, A_law11_Same_5, A_law11_Same_6, A_law11_Same_7, A_law11_Same_9]
    exact ⟨trivial, trivial⟩
  all_goals simp only [go_sem, ↓reduceIte, Nat.reduceEqDiff, Nat.reduceLT, Nat.reduceSub, e0, e0']
  rfl

/-- The place of a node. -/
def findF (st : St) : List Sb → Nat → Int
  | [], _ => -1
  | x :: xs, i => if x.2 = st then i else findF st xs (i + 1)

theorem Find_c1_runs (x : Sb) (st : St) (p : Nat) (M : Mem) (hp : p < M.next) (hM : M.get p = some (.cells (stC st) false)) : Runs D2 F_order_Find_c1 [.agg (sbC x), .ptr (some (p, 0))] M fun v M' => v = .bool (decide (x.2 = st)) ∧ Grew M M' := by
  refine Runs.walk (F := A_order_Find_c1) rfl (by rfl) (by rfl) ?_
  unfold A_order_Find_c1
  have h1 : rdCells (sbC x) 1 2 = some (stC x.2) := rfl
  have h2 : rdCells (stC st) 0 2 = some (stC st) := rfl
  have h3 : (M.push (.cells (sbC x) false)).get M.next = some (.cells (sbC x) false) := Mem.get_push_same _ _
  have h4 : (M.push (.cells (sbC x) false)).get p = some (.cells (stC st) false) := (Mem.get_push_ne _ _ (by omega)).trans hM
  simp -dsimp only [↓w_seq, ↓w_ops, ↓w_skip, ↓w_ret, ↓w_exit, ↓w_scope, ↓w_block, ↓w_cond, cond_true', cond_false', ↓t_nil, ↓t_plain, ↓t_guard, ↓t_again, t_val, t_call, g_true, g_false, a_val, a_call, ↓n_normal, ↓n_ret, ↓n_exit, ↓b_normal, ↓b_ret, ↓b_exit, ↓e_normal, ↓e_ret, e_some, go_sem, ↓reduceIte, Nat.reduceEqDiff, Nat.reduceLT, Nat.reduceSub, A_order_Find_c1_0, A_order_Find_c1_1, V.cells, vload, vptr, Mem.read, h1, h2, h3, h4, Nat.zero_add, Nat.reduceAdd, st_same]
  exact ⟨trivial, Grew.push _ _⟩

theorem Index_loop (s : V) (xs : List Sb) (hl : xs.length < 2 ^ 62) (st : St) (p : Nat) (M0 : Mem) (hs : SlR elSb M0 s xs) (hlt : ∀ b, s.blk = some b → xs ≠ [] → b < M0.next) (hp : p < M0.next) (hM0 : M0.get p = some (.cells (stC st) false)) {Q : AExit → Fr → Mem → Prop}
    (hR : ∀ fr M, Grew M0 M → fr.rd 4 = .int .i64 (findF st xs 0) → Q .ret fr M) (hE : ∀ fr M, Grew M0 M → findF st xs 0 = -1 → Q (.exit 0) fr M) :
    ∀ (f i : Nat) (fr : Fr) (M : Mem), i + f = xs.length → Grew M0 M → findF st xs 0 = findF st (xs.drop i) i → fr.rd 0 = s → fr.rd 1 = .fn F_order_Find_c1 [] [.ptr (some (p, 0))] → fr.rd 7 = .int .i64 (xs.length : Int) → fr.rd 8 = .int .i64 (i : Int) → WC D2 19 (.loop A_slices_IndexFunc_Sib_7) fr M Q := by
  intro f
  induction f with
  | zero =>
    intro i fr M hi hG hf h0 h1 h7 h8
    refine WC.loop (W_of ?_)
    unfold A_slices_IndexFunc_Sib_7
    have : ¬ (i : Int) < xs.length := by omega
    simp -dsimp only [↓w_seq, ↓w_ops, ↓w_skip, ↓w_ret, ↓w_exit, ↓w_scope, ↓w_block, ↓w_cond, cond_true', cond_false', ↓t_nil, ↓t_plain, ↓t_guard, ↓t_again, t_val, t_call, g_true, g_false, a_val, a_call, ↓n_normal, ↓n_ret, ↓n_exit, ↓b_normal, ↓b_ret, ↓b_exit, ↓e_normal, ↓e_ret, e_some, go_sem, ↓reduceIte, Nat.reduceEqDiff, Nat.reduceLT, Nat.reduceSub, A_slices_IndexFunc_Sib_0, A_slices_IndexFunc_Sib_1, A_slices_IndexFunc_Sib_2, A_slices_IndexFunc_Sib_3, A_slices_IndexFunc_Sib_4, A_slices_IndexFunc_Sib_5, A_slices_IndexFunc_Sib_6, A_slices_IndexFunc_Sib_8, h0, h1, h7, h8, this, decide_false]
    refine hE _ _ hG ?_
    rw [hf, List.drop_eq_nil_of_le (by omega)]
    rfl
  | succ f ih =>
    intro i fr M hi hG hf h0 h1 h7 h8
    refine WC.loop (W_of ?_)
    unfold A_slices_IndexFunc_Sib_7
    have hil : i < xs.length := by omega
    have hsM : SlR elSb M s xs := hs.keep fun b hb => hG.old b (hlt b hb (by intro h; subst h; simp at hil))
    obtain ⟨b, o, cs, ro, cap, e0, hM, hr3, hr1, hr2⟩ := sl_at hsM hil
    rw [e0] at h0
    have e1 : (i : Int) < xs.length := by omega
    have e2 : i + 1 ≤ xs.length := by omega
    have h5' : (i : Int) + 1 = ((i + 1 : Nat) : Int) := by omega
    rw [List.drop_eq_getElem_cons hil] at hf
    simp only [findF] at hf
    simp -dsimp only [↓w_seq, ↓w_ops, ↓w_skip, ↓w_ret, ↓w_exit, ↓w_scope, ↓w_block, ↓w_cond, cond_true', cond_false', ↓t_nil, ↓t_plain, ↓t_guard, ↓t_again, t_val, t_call, g_true, g_false, a_val, a_call, ↓n_normal, ↓n_ret, ↓n_exit, ↓b_normal, ↓b_ret, ↓b_exit, ↓e_normal, ↓e_ret, e_some, go_sem, ↓reduceIte, Nat.reduceEqDiff, Nat.reduceLT, Nat.reduceSub, A_slices_IndexFunc_Sib_0, A_slices_IndexFunc_Sib_1, A_slices_IndexFunc_Sib_2, A_slices_IndexFunc_Sib_3, A_slices_IndexFunc_Sib_4, A_slices_IndexFunc_Sib_5, A_slices_IndexFunc_Sib_6, A_slices_IndexFunc_Sib_8, h0, h1, h7, h8, e1, e2, decide_true, vload, vptr, hM, Mem.read, hr3, Nat.add_zero, List.cons_append, List.nil_append]
    refine call_of (Find_c1_runs xs[i] st p M (Nat.lt_of_lt_of_le hp hG.next) ((hG.old p hp).trans hM0)) ?_
    intro v M1 hv
    rw [hv.1]
    have hG1 := hG.trans hv.2
    by_cases hq : xs[i].2 = st
    · rw [if_pos hq] at hf
      simp -dsimp only [↓w_seq, ↓w_ops, ↓w_skip, ↓w_ret, ↓w_exit, ↓w_scope, ↓w_block, ↓w_cond, cond_true', cond_false', ↓t_nil, ↓t_plain, ↓t_guard, ↓t_again, t_val, t_call, g_true, g_false, a_val, a_call, ↓n_normal, ↓n_ret, ↓n_exit, ↓b_normal, ↓b_ret, ↓b_exit, ↓e_normal, ↓e_ret, e_some, go_sem, ↓reduceIte, Nat.reduceEqDiff, Nat.reduceLT, Nat.reduceSub, A_slices_IndexFunc_Sib_0, A_slices_IndexFunc_Sib_1, A_slices_IndexFunc_Sib_2, A_slices_IndexFunc_Sib_3, A_slices_IndexFunc_Sib_4, A_slices_IndexFunc_Sib_5, A_slices_IndexFunc_Sib_6, A_slices_IndexFunc_Sib_8, hq, decide_true]
      exact hR _ _ hG1 (by simp only [go_sem, ↓reduceIte, Nat.reduceEqDiff, Nat.reduceLT, Nat.reduceSub, hf])
    · rw [if_neg hq] at hf
      simp -dsimp only [↓w_seq, ↓w_ops, ↓w_skip, ↓w_ret, ↓w_exit, ↓w_scope, ↓w_block, ↓w_cond, cond_true', cond_false', ↓t_nil, ↓t_plain, ↓t_guard, ↓t_again, t_val, t_call, g_true, g_false, a_val, a_call, ↓n_normal, ↓n_ret, ↓n_exit, ↓b_normal, ↓b_ret, ↓b_exit, ↓e_normal, ↓e_ret, e_some, go_sem, ↓reduceIte, Nat.reduceEqDiff, Nat.reduceLT, Nat.reduceSub, A_slices_IndexFunc_Sib_0, A_slices_IndexFunc_Sib_1, A_slices_IndexFunc_Sib_2, A_slices_IndexFunc_Sib_3, A_slices_IndexFunc_Sib_4, A_slices_IndexFunc_Sib_5, A_slices_IndexFunc_Sib_6, A_slices_IndexFunc_Sib_8, hq, decide_false, h8, h5', IntWalk.i64_in ((i + 1 : Nat) : Int) (by omega)]
      refine ih (i + 1) _ M1 (by omega) hG1 hf ?_ ?_ ?_ ?_
      all_goals simp only [go_sem, ↓reduceIte, Nat.reduceEqDiff, Nat.reduceLT, Nat.reduceSub, h0, e0, h1, h7]

theorem Find_runs (s : V) (xs : List Sb) (hl : xs.length < 2 ^ 62) (st : St) (M : Mem) (hs : SlR elSb M s xs) (hlt : ∀ b, s.blk = some b → xs ≠ [] → b < M.next) :
    Runs D2 F_order_Find [s, .agg (stC st)] M fun v M' => v = .int .i64 (findF st xs 0) ∧ Grew M M' := by
  refine Runs.walk (F := A_order_Find) rfl (by rfl) (by rfl) ?_
  unfold A_order_Find
  simp -dsimp only [↓w_seq, ↓w_ops, ↓w_skip, ↓w_ret, ↓w_exit, ↓w_scope, ↓w_block, ↓w_cond, cond_true', cond_false', ↓t_nil, ↓t_plain, ↓t_guard, ↓t_again, t_val, t_call, g_true, g_false, a_val, a_call, ↓n_normal, ↓n_ret, ↓n_exit, ↓b_normal, ↓b_ret, ↓b_exit, ↓e_normal, ↓e_ret, e_some, go_sem, ↓reduceIte, Nat.reduceEqDiff, Nat.reduceLT, Nat.reduceSub, A_order_Find_0, A_order_Find_1, V.cells]
  have g0 : Grew M (M.push (.cells (stC st) false)) := Grew.push _ _
  have hM1 : (M.push (.cells (stC st) false)).get M.next = some (.cells (stC st) false) := Mem.get_push_same _ _
  have hn1 : (M.push (.cells (stC st) false)).next = M.next + 1 := rfl
  generalize M.push (.cells (stC st) false) = M1 at *
  have hs1 : SlR elSb M1 s xs := by
    by_cases hz : xs = []
    · obtain ⟨a0, cap, e0, h⟩ := hs
      exact ⟨a0, cap, e0, .inl hz⟩
    · exact hs.keep fun b hb => g0.old b (hlt b hb hz)
  have hix : Runs D2 F_slices_IndexFunc_Sib [s, .fn F_order_Find_c1 [] [.ptr (some (M.next, 0))]] M1 fun v M' => v = .int .i64 (findF st xs 0) ∧ Grew M1 M' := by
    refine Runs.walk (F := A_slices_IndexFunc_Sib) rfl (by rfl) (by rfl) ?_
    unfold A_slices_IndexFunc_Sib
    obtain ⟨a0, cap, e0, _⟩ := id hs1
    simp -dsimp only [↓w_seq, ↓w_ops, ↓w_skip, ↓w_ret, ↓w_exit, ↓w_scope, ↓w_block, ↓w_cond, cond_true', cond_false', ↓t_nil, ↓t_plain, ↓t_guard, ↓t_again, t_val, t_call, g_true, g_false, a_val, a_call, ↓n_normal, ↓n_ret, ↓n_exit, ↓b_normal, ↓b_ret, ↓b_exit, ↓e_normal, ↓e_ret, e_some, go_sem, ↓reduceIte, Nat.reduceEqDiff, Nat.reduceLT, Nat.reduceSub, A_slices_IndexFunc_Sib_0, A_slices_IndexFunc_Sib_1, A_slices_IndexFunc_Sib_2, A_slices_IndexFunc_Sib_3, A_slices_IndexFunc_Sib_4, A_slices_IndexFunc_Sib_5, A_slices_IndexFunc_Sib_6, A_slices_IndexFunc_Sib_8, e0]
    refine Index_loop s xs hl st M.next M1 hs1 (fun b hb hz => by have := hlt b hb hz; omega) (by omega) hM1 ?_ ?_ xs.length 0 _ M1 (by omega) (Grew.refl _) rfl ?_ ?_ ?_ ?_
    · intro fr M' hG h4
      simp -dsimp only [↓w_seq, ↓w_ops, ↓w_skip, ↓w_ret, ↓w_exit, ↓w_scope, ↓w_block, ↓w_cond, cond_true', cond_false', ↓t_nil, ↓t_plain, ↓t_guard, ↓t_again, t_val, t_call, g_true, g_false, a_val, a_call, ↓n_normal, ↓n_ret, ↓n_exit, ↓b_normal, ↓b_ret, ↓b_exit, ↓e_normal, ↓e_ret, e_some, go_sem, ↓reduceIte, Nat.reduceEqDiff, Nat.reduceLT, Nat.reduceSub, A_slices_IndexFunc_Sib_0, A_slices_IndexFunc_Sib_1, A_slices_IndexFunc_Sib_2, A_slices_IndexFunc_Sib_3, A_slices_IndexFunc_Sib_4, A_slices_IndexFunc_Sib_5, A_slices_IndexFunc_Sib_6, A_slices_IndexFunc_Sib_8, h4]
      exact ⟨trivial, hG⟩
    · intro fr M' hG h4
      rw [h4]
      simp -dsimp only [↓w_seq, ↓w_ops, ↓w_skip, ↓w_ret, ↓w_exit, ↓w_scope, ↓w_block, ↓w_cond, cond_true', cond_false', ↓t_nil, ↓t_plain, ↓t_guard, ↓t_again, t_val, t_call, g_true, g_false, a_val, a_call, ↓n_normal, ↓n_ret, ↓n_exit, ↓b_normal, ↓b_ret, ↓b_exit, ↓e_normal, ↓e_ret, e_some, go_sem, ↓reduceIte, Nat.reduceEqDiff, Nat.reduceLT, Nat.reduceSub, A_slices_IndexFunc_Sib_0, A_slices_IndexFunc_Sib_1, A_slices_IndexFunc_Sib_2, A_slices_IndexFunc_Sib_3, A_slices_IndexFunc_Sib_4, A_slices_IndexFunc_Sib_5, A_slices_IndexFunc_Sib_6, A_slices_IndexFunc_Sib_8]
      exact ⟨trivial, hG⟩
    all_goals simp only [go_sem, ↓reduceIte, Nat.reduceEqDiff, Nat.reduceLT, Nat.reduceSub, e0]
    rfl
  refine call_of hix ?_
  intro v M2 hv
  rw [hv.1]
  simp -dsimp only [↓w_seq, ↓w_ops, ↓w_skip, ↓w_ret, ↓w_exit, ↓w_scope, ↓w_block, ↓w_cond, cond_true', cond_false', ↓t_nil, ↓t_plain, ↓t_guard, ↓t_again, t_val, t_call, g_true, g_false, a_val, a_call, ↓n_normal, ↓n_ret, ↓n_exit, ↓b_normal, ↓b_ret, ↓b_exit, ↓e_normal, ↓e_ret, e_some, go_sem, ↓reduceIte, Nat.reduceEqDiff, Nat.reduceLT, Nat.reduceSub, A_order_Find_0, A_order_Find_1]
  exact ⟨trivial, g0.trans hv.2⟩

theorem rFind_loop (s : V) (xs : List Sb) (hl : xs.length < 2 ^ 62) (st : St) (p : Nat) (M : Mem) (hs : SlR elSb M s xs) (hM0 : M.get p = some (.cells (stC st) false)) {Q : AExit → Fr → Mem → Prop}
    (hR : ∀ fr, fr.rd 4 = .int .i64 (findF st xs 0) → Q .ret fr M) (hE : ∀ fr, findF st xs 0 = -1 → Q (.exit 0) fr M) :
    ∀ (f i : Nat) (fr : Fr), i + f = xs.length → findF st xs 0 = findF st (xs.drop i) i → fr.rd 0 = s → fr.rd 3 = .ptr (some (p, 0)) → fr.rd 5 = .int .i64 (i : Int) → WC D2 20 (.loop A_ref11_Find_6) fr M Q := by
  intro f
  induction f with
  | zero =>
    intro i fr hi hf h0 h3 h5
    refine WC.loop (W_of ?_)
    unfold A_ref11_Find_6
    obtain ⟨a, cap, rfl, _⟩ := hs
    have : ¬ (i : Int) < xs.length := by omega
    simp -dsimp only [↓w_seq, ↓w_ops, ↓w_skip, ↓w_ret, ↓w_exit, ↓w_scope, ↓w_block, ↓w_cond, cond_true', cond_false', ↓t_nil, ↓t_plain, ↓t_guard, ↓t_again, t_val, t_call, g_true, g_false, a_val, a_call, ↓n_normal, ↓n_ret, ↓n_exit, ↓b_normal, ↓b_ret, ↓b_exit, ↓e_normal, ↓e_ret, e_some, go_sem, ↓reduceIte, Nat.reduceEqDiff, Nat.reduceLT, Nat.reduceSub, A_ref11_Find_0, A_ref11_Find_1, A_ref11_Find_2, A_ref11_Find_3, A_ref11_Find_4, A_ref11_Find_5, A_ref11_Find_7, h0, h3, h5, this, decide_false]
    refine hE _ ?_
    rw [hf, List.drop_eq_nil_of_le (by omega)]
    rfl
  | succ f ih =>
    intro i fr hi hf h0 h3 h5
    refine WC.loop (W_of ?_)
    unfold A_ref11_Find_6
    have hil : i < xs.length := by omega
    obtain ⟨b, o, cs, ro, cap, e0, hM, hr3, hr1, hr2⟩ := sl_at hs hil
    rw [e0] at h0
    have e1 : (i : Int) < xs.length := by omega
    have e2 : i + 1 ≤ xs.length := by omega
    have h5' : (i : Int) + 1 = ((i + 1 : Nat) : Int) := by omega
    have hr : rdCells (stC st) 0 2 = some (stC st) := rfl
    rw [List.drop_eq_getElem_cons hil] at hf
    simp only [findF] at hf
    by_cases hq : xs[i].2 = st
    · rw [if_pos hq] at hf
      simp -dsimp only [↓w_seq, ↓w_ops, ↓w_skip, ↓w_ret, ↓w_exit, ↓w_scope, ↓w_block, ↓w_cond, cond_true', cond_false', ↓t_nil, ↓t_plain, ↓t_guard, ↓t_again, t_val, t_call, g_true, g_false, a_val, a_call, ↓n_normal, ↓n_ret, ↓n_exit, ↓b_normal, ↓b_ret, ↓b_exit, ↓e_normal, ↓e_ret, e_some, go_sem, ↓reduceIte, Nat.reduceEqDiff, Nat.reduceLT, Nat.reduceSub, A_ref11_Find_0, A_ref11_Find_1, A_ref11_Find_2, A_ref11_Find_3, A_ref11_Find_4, A_ref11_Find_5, A_ref11_Find_7, h0, h3, h5, e1, e2, decide_true, vload, vptr, hM, hM0, Mem.read, hr2, hr, Nat.add_zero, st_same, hq]
      exact hR _ (by simp only [go_sem, ↓reduceIte, Nat.reduceEqDiff, Nat.reduceLT, Nat.reduceSub, hf])
    · rw [if_neg hq] at hf
      simp -dsimp only [↓w_seq, ↓w_ops, ↓w_skip, ↓w_ret, ↓w_exit, ↓w_scope, ↓w_block, ↓w_cond, cond_true', cond_false', ↓t_nil, ↓t_plain, ↓t_guard, ↓t_again, t_val, t_call, g_true, g_false, a_val, a_call, ↓n_normal, ↓n_ret, ↓n_exit, ↓b_normal, ↓b_ret, ↓b_exit, ↓e_normal, ↓e_ret, e_some, go_sem, ↓reduceIte, Nat.reduceEqDiff, Nat.reduceLT, Nat.reduceSub, A_ref11_Find_0, A_ref11_Find_1, A_ref11_Find_2, A_ref11_Find_3, A_ref11_Find_4, A_ref11_Find_5, A_ref11_Find_7, h0, h3, h5, e1, e2, decide_true, decide_false, vload, vptr, hM, hM0, Mem.read, hr2, hr, Nat.add_zero, st_same, hq, h5', IntWalk.i64_in ((i + 1 : Nat) : Int) (by omega)]
      refine ih (i + 1) _ (by omega) hf ?_ ?_ ?_
      all_goals simp only [go_sem, ↓reduceIte, Nat.reduceEqDiff, Nat.reduceLT, Nat.reduceSub, h0, e0, h3]

theorem rFind_runs (s : V) (xs : List Sb) (hl : xs.length < 2 ^ 62) (st : St) (M : Mem) (hs : SlR elSb M s xs) (hlt : ∀ b, s.blk = some b → xs ≠ [] → b < M.next) :
    Runs D2 F_ref11_Find [s, .agg (stC st)] M fun v M' => v = .int .i64 (findF st xs 0) ∧ Grew M M' := by
  refine Runs.walk (F := A_ref11_Find) rfl (by rfl) (by rfl) ?_
  unfold A_ref11_Find
  simp -dsimp only [↓w_seq, ↓w_ops, ↓w_skip, ↓w_ret, ↓w_exit, ↓w_scope, ↓w_block, ↓w_cond, cond_true', cond_false', ↓t_nil, ↓t_plain, ↓t_guard, ↓t_again, t_val, t_call, g_true, g_false, a_val, a_call, ↓n_normal, ↓n_ret, ↓n_exit, ↓b_normal, ↓b_ret, ↓b_exit, ↓e_normal, ↓e_ret, e_some, go_sem, ↓reduceIte, Nat.reduceEqDiff, Nat.reduceLT, Nat.reduceSub, A_ref11_Find_0, A_ref11_Find_1, A_ref11_Find_2, A_ref11_Find_3, A_ref11_Find_4, A_ref11_Find_5, A_ref11_Find_7, V.cells]
  have g0 : Grew M (M.push (.cells (stC st) false)) := Grew.push _ _
  have hM1 : (M.push (.cells (stC st) false)).get M.next = some (.cells (stC st) false) := Mem.get_push_same _ _
  have hs1 : SlR elSb (M.push (.cells (stC st) false)) s xs := by
    by_cases hz : xs = []
    · obtain ⟨a0, cap, e0, h⟩ := hs
      exact ⟨a0, cap, e0, .inl hz⟩
    · exact hs.keep fun b hb => g0.old b (hlt b hb hz)
  refine rFind_loop s xs hl st M.next _ hs1 hM1 ?_ ?_ xs.length 0 _ (by omega) rfl ?_ ?_ ?_
  · intro fr h4
    simp -dsimp only [↓w_seq, ↓w_ops, ↓w_skip, ↓w_ret, ↓w_exit, ↓w_scope, ↓w_block, ↓w_cond, cond_true', cond_false', ↓t_nil, ↓t_plain, ↓t_guard, ↓t_again, t_val, t_call, g_true, g_false, a_val, a_call, ↓n_normal, ↓n_ret, ↓n_exit, ↓b_normal, ↓b_ret, ↓b_exit, ↓e_normal, ↓e_ret, e_some, go_sem, ↓reduceIte, Nat.reduceEqDiff, Nat.reduceLT, Nat.reduceSub, A_ref11_Find_0, A_ref11_Find_1, A_ref11_Find_2, A_ref11_Find_3, A_ref11_Find_4, A_ref11_Find_5, A_ref11_Find_7, h4]
    exact ⟨trivial, g0⟩
  · intro fr h4
    rw [h4]
    simp -dsimp only [↓w_seq, ↓w_ops, ↓w_skip, ↓w_ret, ↓w_exit, ↓w_scope, ↓w_block, ↓w_cond, cond_true', cond_false', ↓t_nil, ↓t_plain, ↓t_guard, ↓t_again, t_val, t_call, g_true, g_false, a_val, a_call, ↓n_normal, ↓n_ret, ↓n_exit, ↓b_normal, ↓b_ret, ↓b_exit, ↓e_normal, ↓e_ret, e_some, go_sem, ↓reduceIte, Nat.reduceEqDiff, Nat.reduceLT, Nat.reduceSub, A_ref11_Find_0, A_ref11_Find_1, A_ref11_Find_2, A_ref11_Find_3, A_ref11_Find_4, A_ref11_Find_5, A_ref11_Find_7]
    exact ⟨trivial, g0⟩
  all_goals simp only [go_sem, ↓reduceIte, Nat.reduceEqDiff, Nat.reduceLT, Nat.reduceSub]
  rfl
end Go.Am.Try

/- The plain law: a sibling with the key that is answered stands at its place. -/
namespace Go.Am.Try
open Go Go.Am Go.Proofs Go.Sort Go.Shelf
set_option maxRecDepth 100000
set_option linter.unusedSimpArgs false
set_option linter.unusedVariables false

def Rises (l : List Sb) : Prop := l.Pairwise fun a b => ltSb a b = true

theorem rises_unique : ∀ {l l' : List Sb}, Rises l → Rises l' → l.Perm l' → l = l'
  | [], l', _, _, hp => hp.nil_eq
  | a :: l, [], _, _, hp => absurd hp.length_eq (by simp)
  | a :: l, b :: l', h, h', hp => by
    have hab : a = b := by
      have ha : a ∈ b :: l' := hp.mem_iff.mp (List.mem_cons_self ..)
      have hb : b ∈ a :: l := hp.mem_iff.mpr (List.mem_cons_self ..)
      rcases List.mem_cons.mp ha with e | ha
      · exact e
      rcases List.mem_cons.mp hb with e | hb
      · exact e.symm
      have h1 := (List.pairwise_cons.mp h).1 b hb
      have h2 := (List.pairwise_cons.mp h').1 a ha
      have := swo_Sb.trans _ _ _ h1 h2
      rw [swo_Sb.irrefl] at this
      cases this
    subst hab
    rw [rises_unique (List.pairwise_cons.mp h).2 (List.pairwise_cons.mp h').2 (List.Perm.cons_inv hp)]

/-- What is in order with no two alike rises. -/
theorem rises_of_sorted {l : List Sb} (h : l.Pairwise fun a b => ltSb b a = false) (hn : l.Nodup) : Rises l := by
  have := List.Pairwise.and h hn
  refine List.Pairwise.imp ?_ this
  intro a b hab
  cases hq : ltSb a b with
  | true => rfl
  | false => exact absurd (tot_Sb a b hq hab.1) hab.2

theorem isort_eq {l l' : List Sb} (hp : l.Perm l') (h : Rises l') : isort ltSb l = l' := by
  refine rises_unique (rises_of_sorted (isort_sorted swo_Sb l) ?_) h ((isort_perm ltSb l).trans hp)
  refine ((isort_perm ltSb l).trans hp).nodup_iff.mpr ?_
  refine List.Pairwise.imp ?_ h
  intro a b hab e
  subst e
  rw [swo_Sb.irrefl] at hab
  cases hab

theorem rises_of_row {xs : List Sb} (h : RowP xs) : Rises xs := by
  have key : ∀ d i (hi : i + d + 1 < xs.length), ltSb xs[i] xs[i + d + 1] = true := by
    intro d
    induction d with
    | zero => intro i hi; exact h i hi
    | succ d ih =>
      intro i hi
      have h1 := ih i (by omega)
      have h2 := h (i + d + 1) (by omega)
      exact swo_Sb.trans _ _ _ h1 h2
  unfold Rises
  rw [List.pairwise_iff_getElem]
  intro i j hi hj hij
  have := key (j - i - 1) i (by omega)
  have e : i + (j - i - 1) + 1 = j := by omega
  simp only [e] at this
  exact this

theorem less_cmp {a b : List UInt8} (h : strLess a b = true) : cmpB a b = -1 := by
  rw [cmp_less] at h
  exact of_decide_eq_true h

/-- The law. -/
theorem stands {xs : List Sb} (h : Rises xs) {n : Nat} (hn : n ≤ xs.length) (x : Sb) (hA : ∀ i (hi : i < xs.length), i < n → ltSb xs[i] x = true) (hB : ∀ i (hi : i < xs.length), n ≤ i → ltSb x xs[i] = true) :
    isort ltSb (xs ++ [x]) = xs.take n ++ x :: xs.drop n := by
  refine isort_eq ?_ ?_
  · have h1 : (xs.take n ++ x :: xs.drop n).Perm (x :: (xs.take n ++ xs.drop n)) := List.perm_middle
    rw [List.take_append_drop] at h1
    exact (List.perm_append_comm.trans (by simp)).trans h1.symm
  · unfold Rises at h ⊢
    rw [List.pairwise_append, List.pairwise_cons]
    refine ⟨h.sublist (List.take_sublist ..), ⟨?_, h.sublist (List.drop_sublist ..)⟩, ?_⟩
    · intro y hy
      obtain ⟨i, hi, rfl⟩ := List.mem_iff_getElem.mp hy
      rw [List.getElem_drop]
      exact hB _ _ (by omega)
    · intro y hy z hz
      obtain ⟨i, hi, rfl⟩ := List.mem_iff_getElem.mp hy
      rw [List.getElem_take]
      have hi' : i < n := by simp at hi; omega
      have hix : i < xs.length := by omega
      have hy1 := hA i hix hi'
      rcases List.mem_cons.mp hz with rfl | hz
      · exact hy1
      · obtain ⟨j, hj, rfl⟩ := List.mem_iff_getElem.mp hz
        rw [List.getElem_drop]
        exact swo_Sb.trans _ _ _ hy1 (hB _ _ (by omega))

theorem keyK_bad {xs : List Sb} {at_ : Int} (h : (keyK xs at_).2 ≠ 0) : (keyK xs at_).1 = [] := by
  unfold keyK at h ⊢
  split
  · rfl
  · split
    · rfl
    · rename_i h1 h2
      rw [if_neg h1, if_neg h2] at h
      unfold btwE at h ⊢
      split
      · rename_i h3
        rw [if_pos h3] at h
        split
        · rename_i k hk
          rw [hk] at h
          exact absurd rfl h
        · rfl
      · rfl

theorem keyK_good {xs : List Sb} {at_ : Int} (h : (keyK xs at_).2 = 0) (hf : fineL xs = true) (st : St) :
    ∃ n : Nat, at_ = n ∧ n ≤ xs.length ∧ isort ltSb (xs ++ [((keyK xs at_).1, st)]) = xs.take n ++ ((keyK xs at_).1, st) :: xs.drop n := by
  unfold keyK at h ⊢
  split at h
  · cases h
  · rename_i h1
    split at h
    · cases h
    · rename_i h2
      rw [if_neg h1, if_neg h2]
      have hrow : RowP xs := Classical.byContradiction fun hc => h1 (.inl hc)
      have h3 : 0 ≤ at_ := Int.not_lt.mp fun hc => h1 (.inr (.inl hc))
      have h4 : at_ ≤ xs.length := Int.not_lt.mp fun hc => h1 (.inr (.inr hc))
      obtain ⟨n, rfl⟩ := Int.eq_ofNat_of_zero_le h3
      have hn : n ≤ xs.length := by omega
      have hr := rises_of_row hrow
      have hp := hr
      unfold Rises at hp
      rw [List.pairwise_iff_getElem] at hp
      unfold btwE at h ⊢
      split at h
      · rename_i hfine
        split at h
        · rename_i k hk
          rw [if_pos hfine]
          simp only [hk]
          obtain ⟨_, ha, hb⟩ := btw_right hk
          refine ⟨n, rfl, hn, stands hr hn _ ?_ ?_⟩
          · intro i hi hin
            cases n with
            | zero => omega
            | succ m =>
              rw [kA_succ _ _ (show m < xs.length by omega)] at ha
              have hc := less_cmp ha
              rw [ltSb_iff]
              right
              rcases Nat.lt_or_ge i m with h5 | h5
              · have := hp i m hi (by omega) h5
                rw [ltSb_iff] at this
                rcases this with ⟨he, _⟩ | this
                · show cmpB xs[i].1 k = -1
                  rw [he]; exact hc
                · exact cmp_trans this hc
              · have : i = m := by omega
                subst this
                exact hc
          · intro i hi hin
            have hnl : n < xs.length := by omega
            rw [kB_lt _ _ hnl] at hb
            have hne : xs[n].1 ≠ [] := by
              intro he
              have := List.all_eq_true.mp hf xs[n] (List.getElem_mem hnl)
              rw [he] at this
              exact absurd this (by decide)
            have hc := less_cmp (hb hne)
            rw [ltSb_iff]
            right
            rcases Nat.lt_or_ge n i with h5 | h5
            · have := hp n i hnl hi h5
              rw [ltSb_iff] at this
              rcases this with ⟨he, _⟩ | this
              · show cmpB k xs[i].1 = -1
                rw [← he]; exact hc
              · exact cmp_trans hc this
            · have : i = n := by omega
              subst this
              exact hc
        · cases h
      · cases h
end Go.Am.Try

/- The reference's Sort. -/
namespace Go.Am.Try
open Go Go.Am Go.Proofs Go.Sort Go.Shelf
set_option maxRecDepth 100000
set_option linter.unusedSimpArgs false
set_option linter.unusedVariables false

/-! ### an own slice, or one of no room -/
def HoldE (lo : Nat) (M : Mem) (es : Nat) (s : V) (n : Nat) (cs : List V) : Prop :=
  Hold lo M es s n cs ∨ (n = 0 ∧ cs = [] ∧ ∃ b, s = .slice (some (b, 0)) 0 (.exact 0) ∧ M.get b = some (.cells [] false) ∧ lo ≤ b ∧ b < M.next)
theorem HoldE.keep {lo es n : Nat} {M M' : Mem} {s : V} {cs : List V} (h : HoldE lo M es s n cs) (hk : ∀ b, s.blk = some b → M'.get b = M.get b) (hn : M.next ≤ M'.next) : HoldE lo M' es s n cs := by
  rcases h with h | ⟨rfl, rfl, b, rfl, h1, h2, h3⟩
  · exact .inl (h.keep hk hn)
  · exact .inr ⟨rfl, rfl, b, rfl, (hk b rfl).trans h1, h2, by omega⟩
theorem HoldE.blk_le {lo es n : Nat} {M : Mem} {s : V} {cs : List V} (h : HoldE lo M es s n cs) {b : Nat} (hb : s.blk = some b) : lo ≤ b ∧ b < M.next := by
  rcases h with h | ⟨rfl, rfl, b', rfl, h1, h2, h3⟩
  · exact ⟨(h.blk_le hb).1, (h.blk_le hb).2.1⟩
  · simp only [V.blk, Option.some.injEq] at hb
    subst hb
    exact ⟨h2, h3⟩
theorem HoldE.append {lo es bytes n m : Nat} {M : Mem} {s x : V} {cs new : List V} (h : HoldE lo M es s n cs) (hlo : lo ≤ M.next) (hx : srcLen x = some m) (hc : srcCells es M m x = some new) (hnew : new.length = m * es)
    (hroom : (n + m) * bytes ≤ maxRoom) (hone : allOne new = true) :
    ∃ s' M', vappend es bytes M s x = some (s', M') ∧ HoldE lo M' es s' (n + m) (cs ++ new) ∧ (m ≠ 0 → Hold lo M' es s' (n + m) (cs ++ new)) ∧ M.next ≤ M'.next ∧ (∀ c, c < M.next → s.blk ≠ some c → M'.get c = M.get c) ∧ (s'.blk = s.blk ∨ s'.blk = some M.next) ∧ (m = 0 → s' = s ∧ M' = M) := by
  rcases h with h | ⟨rfl, rfl, b, rfl, h1, h2, h3⟩
  · by_cases hm : m = 0
    · subst hm
      obtain ⟨s', M', e1, e2, e3, e4, e5⟩ := h.append_any hlo hx hc hnew hroom hone
      have : new = [] := List.eq_nil_of_length_eq_zero (by simpa using hnew)
      subst this
      have h0 : vappend es bytes M s x = some (s, M) := by
        cases h with
        | nil => simp only [vappend, hx, hc, Option.bind_some, beq_dec, decide_true, cond_true]
        | row a b c d => simp only [vappend, hx, hc, Option.bind_some, beq_dec, decide_true, cond_true]
      rw [h0] at e1
      cases e1
      exact ⟨s, M, h0, .inl e2, fun hm => absurd rfl hm, Nat.le_refl _, fun _ _ _ => rfl, .inl rfl, fun _ => ⟨rfl, rfl⟩⟩
    · obtain ⟨M', e1, e2, e3, e4⟩ := h.append hlo hx hc hm hnew hroom hone
      exact ⟨_, M', e1, .inl e2, fun _ => e2, by omega, fun c hc1 hc2 => e4 c (by omega) hc2, .inr rfl, fun h => absurd h hm⟩
  · by_cases hm : m = 0
    · subst hm
      have : new = [] := List.eq_nil_of_length_eq_zero (by simpa using hnew)
      subst this
      exact ⟨_, M, by simp only [vappend, hx, hc, Option.bind_some, beq_dec, decide_true, cond_true], .inr ⟨rfl, rfl, b, rfl, h1, h2, h3⟩, fun hm => absurd rfl hm, Nat.le_refl _, fun _ _ _ => rfl, .inl rfl, fun _ => ⟨rfl, rfl⟩⟩
    · have hle : ¬ m ≤ 0 := by omega
      have hH : Hold lo (M.push (.cells new false)) es (.slice (some (M.next, 0)) m (.upto es)) m new := .row (Mem.get_push_same _ _) hnew hlo (by simp)
      refine ⟨.slice (some (M.next, 0)) m (.upto es), M.push (.cells new false), ?_, ?_, fun _ => ?_, by simp, fun c hc _ => Mem.get_push_ne _ _ (by omega), .inr rfl, fun h => absurd h hm⟩
      · rw [Nat.zero_add] at hroom
        simp only [vappend, hx, hc, Option.bind_some, beq_dec, hm, decide_false, cond_false, Nat.zero_add, ble_iff, hle, hroom, decide_true, cond_true, Option.map_some, List.nil_append]
      · rw [Nat.zero_add, List.nil_append]; exact .inl hH
      · rw [Nat.zero_add, List.nil_append]; exact hH

/-- The two parts of a slice. -/
theorem slice_src {lo : Nat} {M : Mem} {so : V} {len : Nat} {cs : List V} (h : Hold lo M 3 so len cs) {n : Nat} (hn : n ≤ len) :
    ∃ s33 s43, vslice 3 so none (some n) none = some s33 ∧ vslice 3 so (some n) none none = some s43 ∧ srcLen s33 = some n ∧ srcLen s43 = some (len - n) ∧
      ∀ M', (∀ b, so.blk = some b → M'.get b = M.get b) → srcCells 3 M' n s33 = some (cs.take (n * 3)) ∧ srcCells 3 M' (len - n) s43 = some (cs.drop (n * 3)) := by
  have hcl := h.len
  cases h with
  | nil =>
    have : n = 0 := by omega
    subst this
    exact ⟨_, _, rfl, rfl, rfl, rfl, fun M' _ => ⟨rfl, rfl⟩⟩
  | row a b c d =>
    rename_i blk
    refine ⟨.slice (some (blk, 0)) n (.upto 3), .slice (some (blk, n * 3)) (len - n) (.upto 3), ?_, ?_, rfl, rfl, fun M' hM => ?_⟩
    · simp only [vslice, Option.getD_some, Option.getD_none, beq_dec, decide_true, cond_true, ble_iff, hn, Nat.zero_le, Nat.zero_mul, Nat.add_zero, Nat.sub_zero]
    · simp only [vslice, Option.getD_some, Option.getD_none, beq_dec, decide_true, cond_true, ble_iff, hn, Nat.le_refl, Nat.zero_add]
    · have hM' := (hM blk rfl).trans a
      constructor
      · simp only [srcCells, beq_dec]
        by_cases h0 : n = 0
        · subst h0; simp
        · rw [decide_eq_false h0]
          simp only [cond_false, Mem.read, hM', rdCells]
          rw [ble_iff, decide_eq_true (by rw [hcl]; omega)]
          simp
      · simp only [srcCells, beq_dec]
        by_cases h0 : len - n = 0
        · rw [decide_eq_true h0]
          simp only [cond_true]
          rw [List.drop_eq_nil_of_le (by rw [hcl]; omega)]
        · rw [decide_eq_false h0]
          simp only [cond_false, Mem.read, hM', rdCells]
          rw [ble_iff, decide_eq_true (by rw [hcl]; omega)]
          simp only [cond_true]
          rw [List.take_of_length_le (by rw [List.length_drop, hcl]; omega)]

theorem sorted_unique : ∀ {l l' : List Sb}, l.Pairwise (fun a b => ltSb b a = false) → l'.Pairwise (fun a b => ltSb b a = false) → l.Perm l' → l = l'
  | [], l', _, _, hp => hp.nil_eq
  | a :: l, [], _, _, hp => absurd hp.length_eq (by simp)
  | a :: l, b :: l', h, h', hp => by
    have hab : a = b := by
      have ha : a ∈ b :: l' := hp.mem_iff.mp (List.mem_cons_self ..)
      have hb : b ∈ a :: l := hp.mem_iff.mpr (List.mem_cons_self ..)
      rcases List.mem_cons.mp ha with e | ha
      · exact e
      rcases List.mem_cons.mp hb with e | hb
      · exact e.symm
      exact tot_Sb _ _ ((List.pairwise_cons.mp h').1 a ha) ((List.pairwise_cons.mp h).1 b hb)
    subst hab
    rw [sorted_unique (List.pairwise_cons.mp h).2 (List.pairwise_cons.mp h').2 (List.Perm.cons_inv hp)]

theorem all_take (xs : List Sb) : ∀ (n : Nat), (elSb.all xs).take (n * 3) = elSb.all (xs.take n) := by
  induction xs with
  | nil => intro n; simp [Elem.all]
  | cons x xs ih =>
    intro n
    cases n with
    | zero => simp [Elem.all]
    | succ n =>
      have h1 : elSb.all (x :: xs) = sbC x ++ elSb.all xs := rfl
      have h2 : elSb.all ((x :: xs).take (n + 1)) = sbC x ++ elSb.all (xs.take n) := rfl
      rw [h1, h2, ← ih n, List.take_append, List.take_of_length_le (by simp [sbC]; omega)]
      congr 2
      simp [sbC]; omega
theorem all_drop (xs : List Sb) : ∀ (n : Nat), (elSb.all xs).drop (n * 3) = elSb.all (xs.drop n) := by
  induction xs with
  | nil => intro n; simp [Elem.all]
  | cons x xs ih =>
    intro n
    cases n with
    | zero => simp
    | succ n =>
      have h1 : elSb.all (x :: xs) = sbC x ++ elSb.all xs := rfl
      rw [h1, List.drop_succ_cons, ← ih n, List.drop_append, List.drop_eq_nil_of_le (by simp [sbC]; omega), List.nil_append]
      congr 1
      simp [sbC]; omega
theorem all_app (xs ys : List Sb) : elSb.all (xs ++ ys) = elSb.all xs ++ elSb.all ys := by simp [Elem.all]

/-- The three appends. -/
theorem three_app {M : Mem} {b1 b2 lo : Nat} {so s33 s43 : V} {os : List Sb} {x : Sb} {n : Nat} (h1 : M.get b1 = some (.cells [] false)) (hb1 : b1 < M.next) (h2 : M.get b2 = some (.cells (sbC x) false)) (hb2 : b2 < M.next)
    (hlo : lo ≤ b1) (hO : Hold lo M 3 so os.length (elSb.all os)) (hn : n ≤ os.length) (hne1 : so.blk ≠ some b1) (hne2 : so.blk ≠ some b2) (hne : b1 ≠ b2)
    (l33 : srcLen s33 = some n) (l43 : srcLen s43 = some (os.length - n)) (hsrc : ∀ M', (∀ b, so.blk = some b → M'.get b = M.get b) → srcCells 3 M' n s33 = some ((elSb.all os).take (n * 3)) ∧ srcCells 3 M' (os.length - n) s43 = some ((elSb.all os).drop (n * 3)))
    (hroom : (os.length + 1) * 32 ≤ maxRoom) :
    ∃ s34 M1 s40 M2 s44 M3, vappend 3 32 M (.slice (some (b1, 0)) 0 (.exact 0)) s33 = some (s34, M1) ∧ vappend 3 32 M1 s34 (.slice (some (b2, 0)) 1 (.exact 1)) = some (s40, M2) ∧ vappend 3 32 M2 s40 s43 = some (s44, M3) ∧
      (∀ c, c < M.next → c ≠ b1 → M1.get c = M.get c) ∧ M.next ≤ M3.next ∧ (∀ c, c < M.next → c ≠ b1 → M3.get c = M.get c) ∧ Hold lo M3 3 s44 (os.length + 1) (elSb.all (os.take n ++ x :: os.drop n)) := by
  have hlen := elSb.all_len os
  have hk : elSb.k = 3 := rfl
  rw [hk] at hlen
  have hbl : ∀ b, so.blk = some b → b < M.next := fun b hb => (hO.blk_le hb).2.1
  have hE0 : HoldE lo M 3 (.slice (some (b1, 0)) 0 (.exact 0)) 0 [] := .inr ⟨rfl, rfl, b1, rfl, h1, hlo, hb1⟩
  have r1 : (0 + n) * 32 ≤ maxRoom := Nat.le_trans (Nat.mul_le_mul_right 32 (show 0 + n ≤ os.length + 1 by omega)) hroom
  have r2 : (0 + n + 1) * 32 ≤ maxRoom := Nat.le_trans (Nat.mul_le_mul_right 32 (show 0 + n + 1 ≤ os.length + 1 by omega)) hroom
  have r3 : (0 + n + 1 + (os.length - n)) * 32 ≤ maxRoom := Nat.le_trans (Nat.mul_le_mul_right 32 (show 0 + n + 1 + (os.length - n) ≤ os.length + 1 by omega)) hroom
  clear hroom
  have t1 : ((elSb.all os).take (n * 3)).length = n * 3 := by rw [List.length_take, hlen]; omega
  have t3 : ((elSb.all os).drop (n * 3)).length = (os.length - n) * 3 := by rw [List.length_drop, hlen]; omega
  have u1 : allOne ((elSb.all os).take (n * 3)) = true := by rw [all_take]; exact elSb.all_one _
  have u3 : allOne ((elSb.all os).drop (n * 3)) = true := by rw [all_drop]; exact elSb.all_one _
  obtain ⟨s34, M1, ha1, hE1, _, hn1, ho1, hbk1, _⟩ := hE0.append (bytes := 32) (by omega) l33 (hsrc M (fun _ _ => rfl)).1 t1 r1 u1
  have ho1' : ∀ c, c < M.next → c ≠ b1 → M1.get c = M.get c := fun c hc hcb => ho1 c hc (fun e => hcb (by simpa [V.blk] using e.symm))
  have hbk1' : s34.blk = some b1 ∨ s34.blk = some M.next := hbk1
  have h2' : M1.get b2 = some (.cells (sbC x) false) := (ho1' b2 hb2 (Ne.symm hne)).trans h2
  obtain ⟨s40, M2, ha2, hE2, _, hn2, ho2, hbk2, _⟩ := hE1.append (bytes := 32) (m := 1) (x := .slice (some (b2, 0)) 1 (.exact 1)) (new := sbC x) (by omega) rfl
    (by
      simp only [srcCells, beq_dec, Nat.one_mul, Nat.reduceEqDiff, decide_false, cond_false]
      exact read_all h2') rfl r2 rfl
  have hbk2' : s40.blk = some b1 ∨ s40.blk = some M.next ∨ s40.blk = some M1.next := by
    rcases hbk2 with e | e
    · rw [e]; rcases hbk1' with e | e
      · exact .inl e
      · exact .inr (.inl e)
    · exact .inr (.inr e)
  have ho2' : ∀ c, c < M.next → c ≠ b1 → M2.get c = M.get c := fun c hc hcb => (ho2 c (by omega) (fun e => by
    rcases hbk1' with h | h
    · rw [h] at e; simp only [Option.some.injEq] at e; exact hcb e.symm
    · rw [h] at e; simp only [Option.some.injEq] at e; omega)).trans (ho1' c hc hcb)
  have hs2 := (hsrc M2 (fun b hb => ho2' b (hbl b hb) (fun e => hne1 (by rw [hb, e])))).2
  obtain ⟨s44, M3, ha3, hE3, hH3, hn3, ho3, hbk3, hz3⟩ := hE2.append (bytes := 32) (by omega) l43 hs2 t3 r3 u3
  have ho3' : ∀ c, c < M.next → c ≠ b1 → M3.get c = M.get c := fun c hc hcb => (ho3 c (by omega) (fun e => by
    rcases hbk2' with h | h | h
    · rw [h] at e; simp only [Option.some.injEq] at e; exact hcb e.symm
    · rw [h] at e; simp only [Option.some.injEq] at e; omega
    · rw [h] at e; simp only [Option.some.injEq] at e; omega)).trans (ho2' c hc hcb)
  refine ⟨s34, M1, s40, M2, s44, M3, ha1, ha2, ha3, ho1', by omega, ho3', ?_⟩
  have hfin : elSb.all (os.take n ++ x :: os.drop n) = [] ++ (elSb.all os).take (n * 3) ++ sbC x ++ (elSb.all os).drop (n * 3) := by
    rw [all_take, all_drop, all_app]
    have : elSb.all (x :: os.drop n) = sbC x ++ elSb.all (os.drop n) := rfl
    rw [this]
    simp
  have hcount : 0 + n + 1 + (os.length - n) = os.length + 1 := by omega
  rw [hcount] at hE3
  rw [hfin]
  rcases hE3 with h | ⟨h, _⟩
  · exact h
  · omega
end Go.Am.Try

/- The reference's Sort, its loops. -/
namespace Go.Am.Try
open Go Go.Am Go.Proofs Go.Sort Go.Shelf
set_option maxRecDepth 100000
set_option linter.unusedSimpArgs false
set_option linter.unusedVariables false

/-- Down to the place. -/
theorem place_loop (s so : V) (xs os : List Sb) (i : Nat) (hi : i < xs.length) (hk : ∀ x ∈ xs, x.1.length < 2 ^ 63) (hko : ∀ x ∈ os, x.1.length < 2 ^ 63) (hol : os.length < 2 ^ 62) (M0 : Mem) (hs : SlR elSb M0 s xs) (ho : SlR elSb M0 so os)
    (hlt : ∀ b, s.blk = some b → b < M0.next) (hlto : ∀ b, so.blk = some b → b < M0.next) {Q : AExit → Fr → Mem → Prop}
    (hE : ∀ fr M n, Grew M0 M → n ≤ os.length → (∀ j (h : j < os.length), n ≤ j → ltSb xs[i] os[j] = true) → (∀ k (h : k < os.length), k + 1 = n → ltSb xs[i] os[k] = false) → fr.rd 0 = s → fr.rd 3 = so → fr.rd 4 = .int .i64 (i : Int) → fr.rd 5 = .int .i64 (n : Int) → Q (.exit 2) fr M) :
    ∀ (n : Nat) (fr : Fr) (M : Mem), n ≤ os.length → Grew M0 M → (∀ j (h : j < os.length), n ≤ j → ltSb xs[i] os[j] = true) → fr.rd 0 = s → fr.rd 3 = so → fr.rd 4 = .int .i64 (i : Int) → fr.rd 5 = .int .i64 (n : Int) → WC D2 46 (.loop A_ref11_Sort_7) fr M Q := by
  intro n
  induction n with
  | zero =>
    intro fr M hn hG hj h0 h3 h4 h5
    refine WC.loop (W_of ?_)
    unfold A_ref11_Sort_7
    have e3 : ¬ (0 : Int) < ((0 : Nat) : Int) := by omega
    simp -dsimp only [↓w_seq, ↓w_ops, ↓w_skip, ↓w_ret, ↓w_exit, ↓w_scope, ↓w_block, ↓w_cond, cond_true', cond_false', ↓t_nil, ↓t_plain, ↓t_guard, ↓t_again, t_val, t_call, g_true, g_false, a_val, a_call, ↓n_normal, ↓n_ret, ↓n_exit, ↓b_normal, ↓b_ret, ↓b_exit, ↓e_normal, ↓e_ret, e_some, go_sem, ↓reduceIte, Nat.reduceEqDiff, Nat.reduceLT, Nat.reduceSub, A_ref11_Sort_0, A_ref11_Sort_1, A_ref11_Sort_2, A_ref11_Sort_3, A_ref11_Sort_4, A_ref11_Sort_5, A_ref11_Sort_6, A_ref11_Sort_8, A_ref11_Sort_9, A_ref11_Sort_11, h0, h3, h4, h5, e3, decide_false]
    refine hE _ _ 0 hG (by omega) hj (fun k h h' => by omega) ?_ ?_ ?_ ?_
    all_goals simp only [go_sem, ↓reduceIte, Nat.reduceEqDiff, Nat.reduceLT, Nat.reduceSub, h0, h3, h4, h5]
  | succ k ih =>
    intro fr M hn hG hj h0 h3 h4 h5
    refine WC.loop (W_of ?_)
    unfold A_ref11_Sort_7
    have hkl : k < os.length := by omega
    have hsM : SlR elSb M s xs := hs.keep fun b hb => hG.old b (hlt b hb)
    have hoM : SlR elSb M so os := ho.keep fun b hb => hG.old b (hlto b hb)
    obtain ⟨b, o, cs, ro, cap, e0, hM, hr3, hr1, hr2⟩ := sl_at hsM hi
    obtain ⟨b', o', cs', ro', cap', e0', hM', hr3', hr1', hr2'⟩ := sl_at hoM hkl
    rw [e0] at h0
    rw [e0'] at h3
    have e3 : (0 : Int) < ((k + 1 : Nat) : Int) := by omega
    have e4 : ((k + 1 : Nat) : Int) - 1 = (k : Int) := by omega
    have e5 : i + 1 ≤ xs.length := by omega
    have e6 : k + 1 ≤ os.length := by omega
    simp -dsimp only [↓w_seq, ↓w_ops, ↓w_skip, ↓w_ret, ↓w_exit, ↓w_scope, ↓w_block, ↓w_cond, cond_true', cond_false', ↓t_nil, ↓t_plain, ↓t_guard, ↓t_again, t_val, t_call, g_true, g_false, a_val, a_call, ↓n_normal, ↓n_ret, ↓n_exit, ↓b_normal, ↓b_ret, ↓b_exit, ↓e_normal, ↓e_ret, e_some, go_sem, ↓reduceIte, Nat.reduceEqDiff, Nat.reduceLT, Nat.reduceSub, A_ref11_Sort_0, A_ref11_Sort_1, A_ref11_Sort_2, A_ref11_Sort_3, A_ref11_Sort_4, A_ref11_Sort_5, A_ref11_Sort_6, A_ref11_Sort_8, A_ref11_Sort_9, A_ref11_Sort_11, h0, h3, h4, h5, e3, e4, e5, e6, decide_true, vload, vptr, hM, hM', Mem.read, hr3, hr3', Nat.add_zero, IntWalk.i64_in (k : Int) (by omega)]
    refine call_of (ref11_Before_runs xs[i] os[k] (hk _ (List.getElem_mem hi)) (hko _ (List.getElem_mem hkl)) M) ?_
    intro v M1 hv
    rw [hv.1]
    have hG1 := hG.trans hv.2
    cases hq : ltSb xs[i] os[k] with
    | false =>
      simp -dsimp only [↓w_seq, ↓w_ops, ↓w_skip, ↓w_ret, ↓w_exit, ↓w_scope, ↓w_block, ↓w_cond, cond_true', cond_false', ↓t_nil, ↓t_plain, ↓t_guard, ↓t_again, t_val, t_call, g_true, g_false, a_val, a_call, ↓n_normal, ↓n_ret, ↓n_exit, ↓b_normal, ↓b_ret, ↓b_exit, ↓e_normal, ↓e_ret, e_some, go_sem, ↓reduceIte, Nat.reduceEqDiff, Nat.reduceLT, Nat.reduceSub, A_ref11_Sort_0, A_ref11_Sort_1, A_ref11_Sort_2, A_ref11_Sort_3, A_ref11_Sort_4, A_ref11_Sort_5, A_ref11_Sort_6, A_ref11_Sort_8, A_ref11_Sort_9, A_ref11_Sort_11]
      refine hE _ _ (k + 1) hG1 hn hj (fun k' h h' => ?_) ?_ ?_ ?_ ?_
      · have : k' = k := by omega
        subst this
        exact hq
      all_goals simp only [go_sem, ↓reduceIte, Nat.reduceEqDiff, Nat.reduceLT, Nat.reduceSub, h0, e0, h3, e0', h4, h5]
    | true =>
      simp -dsimp only [↓w_seq, ↓w_ops, ↓w_skip, ↓w_ret, ↓w_exit, ↓w_scope, ↓w_block, ↓w_cond, cond_true', cond_false', ↓t_nil, ↓t_plain, ↓t_guard, ↓t_again, t_val, t_call, g_true, g_false, a_val, a_call, ↓n_normal, ↓n_ret, ↓n_exit, ↓b_normal, ↓b_ret, ↓b_exit, ↓e_normal, ↓e_ret, e_some, go_sem, ↓reduceIte, Nat.reduceEqDiff, Nat.reduceLT, Nat.reduceSub, A_ref11_Sort_0, A_ref11_Sort_1, A_ref11_Sort_2, A_ref11_Sort_3, A_ref11_Sort_4, A_ref11_Sort_5, A_ref11_Sort_6, A_ref11_Sort_8, A_ref11_Sort_9, A_ref11_Sort_11, h5, e4, IntWalk.i64_in (k : Int) (by omega)]
      refine ih _ M1 (by omega) hG1 (fun j h hj' => ?_) ?_ ?_ ?_ ?_
      · rcases Nat.lt_or_ge k j with h7 | h7
        · exact hj j h (by omega)
        · have : j = k := by omega
          subst this
          exact hq
      all_goals simp only [go_sem, ↓reduceIte, Nat.reduceEqDiff, Nat.reduceLT, Nat.reduceSub, h0, e0, h3, e0', h4]

theorem ins_sortedR {os : List Sb} {x : Sb} {n : Nat} (h : os.Pairwise fun a b => ltSb b a = false) (hn : n ≤ os.length) (hhi : ∀ j (h : j < os.length), n ≤ j → ltSb x os[j] = true) (hlo : ∀ k (h : k < os.length), k + 1 = n → ltSb x os[k] = false) :
    (os.take n ++ x :: os.drop n).Pairwise fun a b => ltSb b a = false := by
  have asym : ∀ a b, ltSb a b = true → ltSb b a = false := fun a b hab => by
    cases hq : ltSb b a with
    | false => rfl
    | true => have := swo_Sb.trans _ _ _ hab hq; rw [swo_Sb.irrefl] at this; cases this
  have hp := h
  rw [List.pairwise_iff_getElem] at hp
  have low : ∀ j (hj : j < os.length), j < n → ltSb x os[j] = false := fun j hj hjn => by
    obtain ⟨k, rfl⟩ : ∃ k, n = k + 1 := ⟨n - 1, by omega⟩
    have hk := hlo k (by omega) rfl
    rcases Nat.lt_or_ge j k with h1 | h1
    · have h2 := hp j k hj (by omega) h1
      cases hq : ltSb x os[j] with
      | false => rfl
      | true =>
        by_cases he : os[j] = os[k]
        · rw [he] at hq; rw [hq] at hk; cases hk
        · have h3 : ltSb os[j] os[k] = true := by
            cases hq2 : ltSb os[j] os[k] with
            | true => rfl
            | false => exact absurd (tot_Sb _ _ hq2 h2) he
          have := swo_Sb.trans _ _ _ hq h3
          rw [this] at hk; cases hk
    · have : j = k := by omega
      subst this
      exact hk
  rw [List.pairwise_append, List.pairwise_cons]
  refine ⟨h.sublist (List.take_sublist ..), ⟨?_, h.sublist (List.drop_sublist ..)⟩, ?_⟩
  · intro y hy
    obtain ⟨i, hi, rfl⟩ := List.mem_iff_getElem.mp hy
    rw [List.getElem_drop]
    exact asym _ _ (hhi _ _ (by omega))
  · intro y hy z hz
    obtain ⟨i, hi, rfl⟩ := List.mem_iff_getElem.mp hy
    rw [List.getElem_take]
    have hi' : i < n := by simp at hi; omega
    have hix : i < os.length := by omega
    rcases List.mem_cons.mp hz with rfl | hz
    · exact low i hix hi'
    · obtain ⟨j, hj, rfl⟩ := List.mem_iff_getElem.mp hz
      rw [List.getElem_drop]
      exact hp i _ hix _ (by omega)

set_option maxHeartbeats 1000000 in
theorem rSort_loop (s : V) (xs : List Sb) (hl : xs.length < 2 ^ 36) (hk : ∀ x ∈ xs, x.1.length < 2 ^ 63) (M0 : Mem) (hs : SlR elSb M0 s xs) (hlt : ∀ b, s.blk = some b → b < M0.next) {Q : AExit → Fr → Mem → Prop}
    (hE : ∀ fr M so, Grew M0 M → fr.rd 3 = so → Hold M0.next M 3 so xs.length (elSb.all (isort ltSb xs)) → Q (.exit 0) fr M) :
    ∀ (f i : Nat) (fr : Fr) (M : Mem) (so : V) (os : List Sb), i + f = xs.length → os.length = i → Grew M0 M → Hold M0.next M 3 so os.length (elSb.all os) → os.Pairwise (fun a b => ltSb b a = false) → os.Perm (xs.take i) → fr.rd 0 = s → fr.rd 3 = so → fr.rd 4 = .int .i64 (i : Int) → WC D2 46 (.loop A_ref11_Sort_10) fr M Q := by
  intro f
  induction f with
  | zero =>
    intro i fr M so os hi hol hG hH hP hperm h0 h3 h4
    refine WC.loop (W_of ?_)
    unfold A_ref11_Sort_10
    obtain ⟨a, cap, e0, _⟩ := id hs
    rw [e0] at h0
    have : ¬ (i : Int) < xs.length := by omega
    simp -dsimp only [↓w_seq, ↓w_ops, ↓w_skip, ↓w_ret, ↓w_exit, ↓w_scope, ↓w_block, ↓w_cond, cond_true', cond_false', ↓t_nil, ↓t_plain, ↓t_guard, ↓t_again, t_val, t_call, g_true, g_false, a_val, a_call, ↓n_normal, ↓n_ret, ↓n_exit, ↓b_normal, ↓b_ret, ↓b_exit, ↓e_normal, ↓e_ret, e_some, go_sem, ↓reduceIte, Nat.reduceEqDiff, Nat.reduceLT, Nat.reduceSub, A_ref11_Sort_0, A_ref11_Sort_1, A_ref11_Sort_2, A_ref11_Sort_3, A_ref11_Sort_4, A_ref11_Sort_5, A_ref11_Sort_6, A_ref11_Sort_8, A_ref11_Sort_9, A_ref11_Sort_11, h0, h3, h4, this, decide_false]
    have hix : i = xs.length := by omega
    rw [hix, List.take_length] at hperm
    have : os = isort ltSb xs := sorted_unique hP (isort_sorted swo_Sb xs) (hperm.trans (isort_perm ltSb xs).symm)
    refine hE _ _ so hG (by simp only [go_sem, ↓reduceIte, Nat.reduceEqDiff, Nat.reduceLT, Nat.reduceSub, h3]) ?_
    rw [← this, ← hix, ← hol]
    exact hH
  | succ f ih =>
    intro i fr M so os hi hol hG hH hP hperm h0 h3 h4
    refine WC.loop (W_of ?_)
    unfold A_ref11_Sort_10
    have hil : i < xs.length := by omega
    have hsM : SlR elSb M s xs := hs.keep fun b hb => hG.old b (hlt b hb)
    have hoM : SlR elSb M so os := hH.slR (e := elSb)
    obtain ⟨a0, cap0, hsh⟩ := hH.shape
    obtain ⟨b, o, cs, ro, cap, e0, hM, hr3, hr1, hr2⟩ := sl_at hsM hil
    have h0' := h0
    rw [e0] at h0
    have e1 : (i : Int) < xs.length := by omega
    have e2 : i + 1 ≤ xs.length := by omega
    have h5' : (i : Int) + 1 = ((i + 1 : Nat) : Int) := by omega
    have h3' := h3
    rw [hsh] at h3
    simp -dsimp only [↓w_seq, ↓w_ops, ↓w_skip, ↓w_ret, ↓w_exit, ↓w_scope, ↓w_block, ↓w_cond, cond_true', cond_false', ↓t_nil, ↓t_plain, ↓t_guard, ↓t_again, t_val, t_call, g_true, g_false, a_val, a_call, ↓n_normal, ↓n_ret, ↓n_exit, ↓b_normal, ↓b_ret, ↓b_exit, ↓e_normal, ↓e_ret, e_some, go_sem, ↓reduceIte, Nat.reduceEqDiff, Nat.reduceLT, Nat.reduceSub, A_ref11_Sort_0, A_ref11_Sort_1, A_ref11_Sort_2, A_ref11_Sort_3, A_ref11_Sort_4, A_ref11_Sort_5, A_ref11_Sort_6, A_ref11_Sort_8, A_ref11_Sort_9, A_ref11_Sort_11, h0, h3, h4, e1, decide_true]
    refine place_loop s so xs os i hil hk (fun x hx => hk x (List.mem_of_mem_take (hperm.mem_iff.mp hx))) (by omega) M hsM hoM (fun b hb => Nat.lt_of_lt_of_le (hlt b hb) hG.next) (fun b hb => (hH.blk_le hb).2.1) ?_ os.length _ M (Nat.le_refl _) (Grew.refl M) (fun j h hj => by omega) ?_ ?_ ?_ ?_
    · intro fr1 M1 n hG1 hn hhi hlo g0 g3 g4 g5
      have hH1 : Hold M0.next M1 3 so os.length (elSb.all os) := hH.keep (fun c hc => hG1.old c (hH.blk_le hc).2.1) hG1.next
      have hsM1 : SlR elSb M1 s xs := hsM.keep fun b hb => hG1.old b (Nat.lt_of_lt_of_le (hlt b hb) hG.next)
      have hbM : b < M0.next := hlt b (by rw [e0]; rfl)
      have hM1 : M1.get b = some (.cells cs ro) := (hG1.old b (Nat.lt_of_lt_of_le hbM hG.next)).trans hM
      obtain ⟨s33, s43, v33, v43, l33, l43, hsrc⟩ := slice_src hH1 hn
      have hfill3 : fillCells [.str [], .int .i64 0, .int .i64 0] [(0, 3, .agg (sbC xs[i]))] = some (sbC xs[i]) := rfl
      have q1 : (M1.push (.cells [] false)).get M1.next = some (.cells [] false) := Mem.get_push_same _ _
      have q2 : ((M1.push (.cells [] false)).push (.cells (sbC xs[i]) false)).get (M1.next + 1) = some (.cells (sbC xs[i]) false) := Mem.get_push_same (M1.push _) _
      have qk : ∀ c, c < M1.next → ((M1.push (.cells [] false)).push (.cells (sbC xs[i]) false)).get c = M1.get c := fun c hc => by
        rw [Mem.get_push_ne _ _ (by simp; omega), Mem.get_push_ne _ _ (by omega)]
      have hn1 := hG.next
      have hn2 := hG1.next
      have hbk : ∀ c, so.blk = some c → c < M1.next := fun c hc => (hH1.blk_le hc).2.1
      have hH2 : Hold M0.next ((M1.push (.cells [] false)).push (.cells (sbC xs[i]) false)) 3 so os.length (elSb.all os) := hH1.keep (fun c hc => qk c (hbk c hc)) (by simp; omega)
      obtain ⟨s34, M4, s40, M5, s44, M6, ha1, ha2, ha3, ho4, hn6, ho6, hH6⟩ := three_app (b1 := M1.next) (b2 := M1.next + 1) (x := xs[i]) (n := n) (by rw [Mem.get_push_ne _ _ (by simp)]; exact q1) (by simp; omega) q2 (by simp) (by omega) hH2 hn
        (fun e => by have := hbk _ e; omega) (fun e => by have := hbk _ e; omega) (by omega) l33 l43
        (fun M' hM' => hsrc M' fun c hc => (hM' c hc).trans (qk c (hbk c hc))) (by unfold maxRoom; omega)
      have hb1 : b < M1.next := by omega
      have hM1' : (M1.push (.cells [] false)).get b = some (.cells cs ro) := (Mem.get_push_ne _ _ (by omega)).trans hM1
      have hM4 : M4.get b = some (.cells cs ro) := (ho4 b (by simp; omega) (by omega)).trans ((qk b hb1).trans hM1)
      have hM4' : M4.get (M1.next + 1) = some (.cells (sbC xs[i]) false) := (ho4 _ (by simp) (by omega)).trans q2
      rw [e0] at g0
      simp -dsimp only [↓w_seq, ↓w_ops, ↓w_skip, ↓w_ret, ↓w_exit, ↓w_scope, ↓w_block, ↓w_cond, cond_true', cond_false', ↓t_nil, ↓t_plain, ↓t_guard, ↓t_again, t_val, t_call, g_true, g_false, a_val, a_call, ↓n_normal, ↓n_ret, ↓n_exit, ↓b_normal, ↓b_ret, ↓b_exit, ↓e_normal, ↓e_ret, e_some, go_sem, ↓reduceIte, Nat.reduceEqDiff, Nat.reduceLT, Nat.reduceSub, A_ref11_Sort_0, A_ref11_Sort_1, A_ref11_Sort_2, A_ref11_Sort_3, A_ref11_Sort_4, A_ref11_Sort_5, A_ref11_Sort_6, A_ref11_Sort_8, A_ref11_Sort_9, A_ref11_Sort_11, g0, g3, g4, g5, e2, fillCells, repl, List.append_nil, decide_true, v33, v43, vload, vptr, hM1', Mem.read, hr3, Nat.add_zero, hfill3, ha1, ha2, ha3, Mem.next_push, Option.map_none, Option.bind_none, Option.bind_some, id_eq]
      have hnl : (os.take n ++ xs[i] :: os.drop n).length = os.length + 1 := by simp; omega
      refine ⟨?_, ?_⟩
      · have w1 : o + i * 3 + 0 = o + i * 3 := rfl
        simp only [List.all_cons, List.all_nil, Bool.and_true, againOk, wantedA, cond_true, go_sem, ↓reduceIte, Nat.reduceEqDiff, Nat.reduceLT, Nat.reduceSub, Nat.reduceLeDiff, decide_true, vload, Mem.read, hM4, hM4', q2, hr3, Nat.reduceAdd, sameCells, V.beq_self, V.beqs_self, Bool.and_self, V.beq]
      · refine ih (i + 1) _ M6 s44 (os.take n ++ xs[i] :: os.drop n) (by omega) (by rw [hnl, hol]) ⟨by simp at hn6; omega, fun c hc => ?_⟩ (by rw [hnl]; exact hH6) (ins_sortedR hP hn hhi hlo) ?_ ?_ ?_ ?_
        · rw [ho6 c (by simp; omega) (by omega), qk c (by omega), hG1.old c (by omega)]
          exact hG.old c hc
        · have h1 : (os.take n ++ xs[i] :: os.drop n).Perm (xs[i] :: (os.take n ++ os.drop n)) := List.perm_middle
          rw [List.take_append_drop] at h1
          rw [List.take_add_one, List.getElem?_eq_getElem hil]
          exact h1.trans (((List.Perm.cons _ hperm)).trans (List.perm_append_comm (l₁ := [xs[i]])))
        all_goals simp only [go_sem, ↓reduceIte, Nat.reduceEqDiff, Nat.reduceLT, Nat.reduceSub, g0, e0, g4, h5', IntWalk.i64_in ((i + 1 : Nat) : Int) (by omega)]
    all_goals simp only [go_sem, ↓reduceIte, Nat.reduceEqDiff, Nat.reduceLT, Nat.reduceSub, h0', h3', h4, hsh, h0, e0]

theorem rSort_runs (s : V) (xs : List Sb) (hl : xs.length < 2 ^ 36) (hk : ∀ x ∈ xs, x.1.length < 2 ^ 63) (M : Mem) (hs : SlR elSb M s xs) (hlt : ∀ b, s.blk = some b → b < M.next) :
    Runs D2 F_ref11_Sort [s] M fun v M' => Grew M M' ∧ Hold M.next M' 3 v xs.length (elSb.all (isort ltSb xs)) := by
  refine Runs.walk (F := A_ref11_Sort) rfl (by rfl) (by rfl) ?_
  unfold A_ref11_Sort
  simp -dsimp only [↓w_seq, ↓w_ops, ↓w_skip, ↓w_ret, ↓w_exit, ↓w_scope, ↓w_block, ↓w_cond, cond_true', cond_false', ↓t_nil, ↓t_plain, ↓t_guard, ↓t_again, t_val, t_call, g_true, g_false, a_val, a_call, ↓n_normal, ↓n_ret, ↓n_exit, ↓b_normal, ↓b_ret, ↓b_exit, ↓e_normal, ↓e_ret, e_some, go_sem, ↓reduceIte, Nat.reduceEqDiff, Nat.reduceLT, Nat.reduceSub, A_ref11_Sort_0, A_ref11_Sort_1, A_ref11_Sort_2, A_ref11_Sort_3, A_ref11_Sort_4, A_ref11_Sort_5, A_ref11_Sort_6, A_ref11_Sort_8, A_ref11_Sort_9, A_ref11_Sort_11]
  refine rSort_loop s xs hl hk M hs hlt ?_ xs.length 0 _ M (.slice none 0 (.exact 0)) [] (by omega) rfl (Grew.refl _) .nil .nil (by simp) ?_ ?_ ?_
  · intro fr M' so hG h3 hH
    simp -dsimp only [↓w_seq, ↓w_ops, ↓w_skip, ↓w_ret, ↓w_exit, ↓w_scope, ↓w_block, ↓w_cond, cond_true', cond_false', ↓t_nil, ↓t_plain, ↓t_guard, ↓t_again, t_val, t_call, g_true, g_false, a_val, a_call, ↓n_normal, ↓n_ret, ↓n_exit, ↓b_normal, ↓b_ret, ↓b_exit, ↓e_normal, ↓e_ret, e_some, go_sem, ↓reduceIte, Nat.reduceEqDiff, Nat.reduceLT, Nat.reduceSub, A_ref11_Sort_0, A_ref11_Sort_1, A_ref11_Sort_2, A_ref11_Sort_3, A_ref11_Sort_4, A_ref11_Sort_5, A_ref11_Sort_6, A_ref11_Sort_8, A_ref11_Sort_9, A_ref11_Sort_11, h3]
    exact ⟨hG, hH⟩
  all_goals simp only [go_sem, ↓reduceIte, Nat.reduceEqDiff, Nat.reduceLT, Nat.reduceSub]
  rfl
end Go.Am.Try

/- The loops of the law OrderRows. -/
namespace Go.Am.Try
open Go Go.Am Go.Proofs Go.Sort Go.Shelf
set_option maxRecDepth 100000
set_option linter.unusedSimpArgs false
set_option linter.unusedVariables false

theorem strs_at (L : List (List UInt8)) (i : Nat) (h : i < L.length) : (strsC L)[i]? = some (.str L[i]) := by
  simp [strsC, List.getElem?_eq_getElem h]

theorem texts_loop (su sv : V) (L : List (List UInt8)) (hl : L.length < 2 ^ 62) {lo lo' : Nat} (M : Mem) (hu : Hold lo M 1 su L.length (strsC L)) (hv : Hold lo' M 1 sv L.length (strsC L)) {Q : AExit → Fr → Mem → Prop} {x13 x14 x1 x2 x0 : V}
    (hE : ∀ fr, fr.rd 13 = x13 → fr.rd 14 = x14 → fr.rd 1 = x1 → fr.rd 2 = x2 → Q (.exit 4) fr M) :
    ∀ (f i : Nat) (fr : Fr), i + f = L.length → fr.rd 13 = x13 → fr.rd 14 = x14 → fr.rd 1 = x1 → fr.rd 2 = x2 → fr.rd 19 = su → fr.rd 21 = sv → fr.rd 23 = .int .i64 (i : Int) → WC D2 164 (.loop A_law11_OrderRows_28) fr M Q := by
  intro f
  induction f with
  | zero =>
    intro i fr hi h13 h14 h1 h2 h19 h21 h23
    refine WC.loop (W_of ?_)
    unfold A_law11_OrderRows_28
    obtain ⟨a, cap, e0⟩ := hu.shape
    rw [e0] at h19
    have : ¬ (i : Int) < L.length := by omega
    simp -dsimp only [↓w_seq, ↓w_ops, ↓w_skip, ↓w_ret, ↓w_exit, ↓w_scope, ↓w_block, ↓w_cond, cond_true', cond_false', ↓t_nil, ↓t_plain, ↓t_guard, ↓t_again, t_val, t_call, g_true, g_false, a_val, a_call, ↓n_normal, ↓n_ret, ↓n_exit, ↓b_normal, ↓b_ret, ↓b_exit, ↓e_normal, ↓e_ret, e_some, go_sem, ↓reduceIte, Nat.reduceEqDiff, Nat.reduceLT, Nat.reduceSub, A_law11_OrderRows_0, A_law11_OrderRows_1, A_law11_OrderRows_2, A_law11_OrderRows_3, A_law11_OrderRows_4, A_law11_OrderRows_5, A_law11_OrderRows_6, A_law11_OrderRows_7, A_law11_OrderRows_8, A_law11_OrderRows_9, A_law11_OrderRows_10, A_law11_OrderRows_11, A_law11_OrderRows_12, A_law11_OrderRows_14, A_law11_OrderRows_15, A_law11_OrderRows_16, A_law11_OrderRows_17, A_law11_OrderRows_18, A_law11_OrderRows_19, A_law11_OrderRows_20, A_law11_OrderRows_21, A_law11_OrderRows_22, A_law11_OrderRows_23, A_law11_OrderRows_24, A_law11_OrderRows_25, A_law11_OrderRows_26, A_law11_OrderRows_27, A_law11_OrderRows_29, A_law11_OrderRows_31, h19, h21, h23, this, decide_false]
    refine hE _ ?_ ?_ ?_ ?_
    all_goals simp only [go_sem, ↓reduceIte, Nat.reduceEqDiff, Nat.reduceLT, Nat.reduceSub, h13, h14, h1, h2]
  | succ f ih =>
    intro i fr hi h13 h14 h1 h2 h19 h21 h23
    refine WC.loop (W_of ?_)
    unfold A_law11_OrderRows_28
    have hil : i < L.length := by omega
    obtain ⟨b, e0, hM, _, _, _⟩ := hu.addr hil
    obtain ⟨b', e0', hM', _, _, _⟩ := hv.addr hil
    rw [e0] at h19
    rw [e0'] at h21
    have e1 : (i : Int) < L.length := by omega
    have e2 : i + 1 ≤ L.length := by omega
    have h5' : (i : Int) + 1 = ((i + 1 : Nat) : Int) := by omega
    have hs := strs_at L i hil
    simp -dsimp only [↓w_seq, ↓w_ops, ↓w_skip, ↓w_ret, ↓w_exit, ↓w_scope, ↓w_block, ↓w_cond, cond_true', cond_false', ↓t_nil, ↓t_plain, ↓t_guard, ↓t_again, t_val, t_call, g_true, g_false, a_val, a_call, ↓n_normal, ↓n_ret, ↓n_exit, ↓b_normal, ↓b_ret, ↓b_exit, ↓e_normal, ↓e_ret, e_some, go_sem, ↓reduceIte, Nat.reduceEqDiff, Nat.reduceLT, Nat.reduceSub, A_law11_OrderRows_0, A_law11_OrderRows_1, A_law11_OrderRows_2, A_law11_OrderRows_3, A_law11_OrderRows_4, A_law11_OrderRows_5, A_law11_OrderRows_6, A_law11_OrderRows_7, A_law11_OrderRows_8, A_law11_OrderRows_9, A_law11_OrderRows_10, A_law11_OrderRows_11, A_law11_OrderRows_12, A_law11_OrderRows_14, A_law11_OrderRows_15, A_law11_OrderRows_16, A_law11_OrderRows_17, A_law11_OrderRows_18, A_law11_OrderRows_19, A_law11_OrderRows_20, A_law11_OrderRows_21, A_law11_OrderRows_22, A_law11_OrderRows_23, A_law11_OrderRows_24, A_law11_OrderRows_25, A_law11_OrderRows_26, A_law11_OrderRows_27, A_law11_OrderRows_29, A_law11_OrderRows_31, h19, h21, h23, h5', e1, e2, decide_true, decide_false, vload, vptr, hM, hM', Nat.mul_one, Nat.zero_add, hs, ne_eq, not_true_eq_false, IntWalk.i64_in ((i + 1 : Nat) : Int) (by omega)]
    refine ih (i + 1) _ (by omega) ?_ ?_ ?_ ?_ ?_ ?_ ?_
    all_goals simp only [go_sem, ↓reduceIte, Nat.reduceEqDiff, Nat.reduceLT, Nat.reduceSub, h13, h14, h1, h2, h19, h21, e0, e0']

theorem before_loop (sx s : V) (xs : List Sb) (hl : xs.length < 2 ^ 62) (hk : ∀ x ∈ xs, x.1.length < 2 ^ 63) (M0 : Mem) (hx : SlR elSb M0 sx xs) (hs : SlR elSb M0 s xs) (hltx : ∀ b, sx.blk = some b → b < M0.next) (hlt : ∀ b, s.blk = some b → b < M0.next) {Q : AExit → Fr → Mem → Prop} {x1 x2 x11 : V}
    (hE : ∀ fr M, Grew M0 M → fr.rd 0 = s → fr.rd 1 = x1 → fr.rd 2 = x2 → fr.rd 11 = x11 → Q (.exit 0) fr M) :
    ∀ (f k : Nat) (fr : Fr) (M : Mem), xs.length ≤ k + 1 + f → Grew M0 M → fr.rd 0 = s → fr.rd 1 = x1 → fr.rd 2 = x2 → fr.rd 11 = x11 → fr.rd 9 = sx → fr.rd 12 = .int .i64 ((k + 1 : Nat) : Int) → WC D2 164 (.loop A_law11_OrderRows_13) fr M Q := by
  intro f
  induction f with
  | zero =>
    intro k fr M hi hG h0 h1 h2 h11 h9 h12
    refine WC.loop (W_of ?_)
    unfold A_law11_OrderRows_13
    obtain ⟨a, cap, e0, _⟩ := id hs
    have h0' := h0
    rw [e0] at h0
    have : ¬ ((k + 1 : Nat) : Int) < xs.length := by omega
    simp -dsimp only [↓w_seq, ↓w_ops, ↓w_skip, ↓w_ret, ↓w_exit, ↓w_scope, ↓w_block, ↓w_cond, cond_true', cond_false', ↓t_nil, ↓t_plain, ↓t_guard, ↓t_again, t_val, t_call, g_true, g_false, a_val, a_call, ↓n_normal, ↓n_ret, ↓n_exit, ↓b_normal, ↓b_ret, ↓b_exit, ↓e_normal, ↓e_ret, e_some, go_sem, ↓reduceIte, Nat.reduceEqDiff, Nat.reduceLT, Nat.reduceSub, A_law11_OrderRows_0, A_law11_OrderRows_1, A_law11_OrderRows_2, A_law11_OrderRows_3, A_law11_OrderRows_4, A_law11_OrderRows_5, A_law11_OrderRows_6, A_law11_OrderRows_7, A_law11_OrderRows_8, A_law11_OrderRows_9, A_law11_OrderRows_10, A_law11_OrderRows_11, A_law11_OrderRows_12, A_law11_OrderRows_14, A_law11_OrderRows_15, A_law11_OrderRows_16, A_law11_OrderRows_17, A_law11_OrderRows_18, A_law11_OrderRows_19, A_law11_OrderRows_20, A_law11_OrderRows_21, A_law11_OrderRows_22, A_law11_OrderRows_23, A_law11_OrderRows_24, A_law11_OrderRows_25, A_law11_OrderRows_26, A_law11_OrderRows_27, A_law11_OrderRows_29, A_law11_OrderRows_31, h0, h9, h12, this, decide_false]
    refine hE _ _ hG ?_ ?_ ?_ ?_
    all_goals simp only [go_sem, ↓reduceIte, Nat.reduceEqDiff, Nat.reduceLT, Nat.reduceSub, h0', h1, h2, h11]
  | succ f ih =>
    intro k fr M hi hG h0 h1 h2 h11 h9 h12
    refine WC.loop (W_of ?_)
    unfold A_law11_OrderRows_13
    by_cases hil : k + 1 < xs.length
    · have hkl : k < xs.length := by omega
      have hsM : SlR elSb M s xs := hs.keep fun b hb => hG.old b (hlt b hb)
      have hxM : SlR elSb M sx xs := hx.keep fun b hb => hG.old b (hltx b hb)
      obtain ⟨b, o, cs, ro, cap, e0, hM, hr3, hr1, hr2⟩ := sl_at hsM hil
      obtain ⟨b', o', cs', ro', cap', e0', hM', hr3', hr1', hr2'⟩ := sl_at hsM hkl
      rw [e0] at e0'
      simp only [V.slice.injEq, Option.some.injEq, Prod.mk.injEq, true_and] at e0'
      obtain ⟨⟨rfl, rfl⟩, rfl⟩ := e0'
      rw [hM] at hM'
      simp only [Option.some.injEq, O.cells.injEq] at hM'
      obtain ⟨rfl, rfl⟩ := hM'
      obtain ⟨c, p, ds, rx, capx, f0, fM, fr3, fr1, fr2⟩ := sl_at hxM hil
      obtain ⟨c', p', ds', rx', capx', f0', fM', fr3', fr1', fr2'⟩ := sl_at hxM hkl
      rw [f0] at f0'
      simp only [V.slice.injEq, Option.some.injEq, Prod.mk.injEq, true_and] at f0'
      obtain ⟨⟨rfl, rfl⟩, rfl⟩ := f0'
      rw [fM] at fM'
      simp only [Option.some.injEq, O.cells.injEq] at fM'
      obtain ⟨rfl, rfl⟩ := fM'
      have e1 : ((k + 1 : Nat) : Int) < xs.length := by omega
      have e4 : ((k + 1 : Nat) : Int) - 1 = (k : Int) := by omega
      have e5 : k + 1 + 1 ≤ xs.length := by omega
      have e6 : k + 1 ≤ xs.length := by omega
      have h5' : ((k + 1 : Nat) : Int) + 1 = ((k + 1 + 1 : Nat) : Int) := by omega
      have h0' := h0
      have h9' := h9
      rw [e0] at h0
      rw [f0] at h9
      have hbM : b < M.next := Nat.lt_of_lt_of_le (hlt b (by rw [e0]; rfl)) hG.next
      simp -dsimp only [↓w_seq, ↓w_ops, ↓w_skip, ↓w_ret, ↓w_exit, ↓w_scope, ↓w_block, ↓w_cond, cond_true', cond_false', ↓t_nil, ↓t_plain, ↓t_guard, ↓t_again, t_val, t_call, g_true, g_false, a_val, a_call, ↓n_normal, ↓n_ret, ↓n_exit, ↓b_normal, ↓b_ret, ↓b_exit, ↓e_normal, ↓e_ret, e_some, go_sem, ↓reduceIte, Nat.reduceEqDiff, Nat.reduceLT, Nat.reduceSub, A_law11_OrderRows_0, A_law11_OrderRows_1, A_law11_OrderRows_2, A_law11_OrderRows_3, A_law11_OrderRows_4, A_law11_OrderRows_5, A_law11_OrderRows_6, A_law11_OrderRows_7, A_law11_OrderRows_8, A_law11_OrderRows_9, A_law11_OrderRows_10, A_law11_OrderRows_11, A_law11_OrderRows_12, A_law11_OrderRows_14, A_law11_OrderRows_15, A_law11_OrderRows_16, A_law11_OrderRows_17, A_law11_OrderRows_18, A_law11_OrderRows_19, A_law11_OrderRows_20, A_law11_OrderRows_21, A_law11_OrderRows_22, A_law11_OrderRows_23, A_law11_OrderRows_24, A_law11_OrderRows_25, A_law11_OrderRows_26, A_law11_OrderRows_27, A_law11_OrderRows_29, A_law11_OrderRows_31, h0, h9, h12, e1, e4, e5, e6, decide_true, vload, vptr, hM, fM, Mem.read, hr3, hr3', fr3, fr3', Nat.add_zero, IntWalk.i64_in (k : Int) (by omega)]
      refine callA_by (before_runs xs[k] xs[k + 1] M) ?_
      intro v M1 hv
      have hG1 := hG.trans hv.2
      have hM1 : M1.get b = some (.cells cs ro) := (hv.2.old b hbM).trans hM
      rw [hv.1, bef_is]
      refine ⟨?_, ?_⟩
      · simp only [List.all_cons, List.all_nil, Bool.and_true, againOk, wantedA, cond_true, go_sem, ↓reduceIte, Nat.reduceEqDiff, Nat.reduceLT, Nat.reduceSub, Nat.reduceLeDiff, decide_true, vload, Mem.read, hM1, hr3, hr3', Nat.reduceAdd, V.beq_self, V.beqs_self, Bool.and_self, V.beq]
      · simp -dsimp only [↓w_seq, ↓w_ops, ↓w_skip, ↓w_ret, ↓w_exit, ↓w_scope, ↓w_block, ↓w_cond, cond_true', cond_false', ↓t_nil, ↓t_plain, ↓t_guard, ↓t_again, t_val, t_call, g_true, g_false, a_val, a_call, ↓n_normal, ↓n_ret, ↓n_exit, ↓b_normal, ↓b_ret, ↓b_exit, ↓e_normal, ↓e_ret, e_some, go_sem, ↓reduceIte, Nat.reduceEqDiff, Nat.reduceLT, Nat.reduceSub, A_law11_OrderRows_0, A_law11_OrderRows_1, A_law11_OrderRows_2, A_law11_OrderRows_3, A_law11_OrderRows_4, A_law11_OrderRows_5, A_law11_OrderRows_6, A_law11_OrderRows_7, A_law11_OrderRows_8, A_law11_OrderRows_9, A_law11_OrderRows_10, A_law11_OrderRows_11, A_law11_OrderRows_12, A_law11_OrderRows_14, A_law11_OrderRows_15, A_law11_OrderRows_16, A_law11_OrderRows_17, A_law11_OrderRows_18, A_law11_OrderRows_19, A_law11_OrderRows_20, A_law11_OrderRows_21, A_law11_OrderRows_22, A_law11_OrderRows_23, A_law11_OrderRows_24, A_law11_OrderRows_25, A_law11_OrderRows_26, A_law11_OrderRows_27, A_law11_OrderRows_29, A_law11_OrderRows_31]
        refine call_of (ref11_Before_runs xs[k] xs[k + 1] (hk _ (List.getElem_mem hkl)) (hk _ (List.getElem_mem hil)) M1) ?_
        intro w M2 hw
        have hG2 := hG1.trans hw.2
        rw [hw.1]
        have hsame : ∀ t : Bool, vsame ⟨false, [.bool]⟩ (.bool t) (.bool t) = some true := fun t => by cases t <;> rfl
        simp -dsimp only [↓w_seq, ↓w_ops, ↓w_skip, ↓w_ret, ↓w_exit, ↓w_scope, ↓w_block, ↓w_cond, cond_true', cond_false', ↓t_nil, ↓t_plain, ↓t_guard, ↓t_again, t_val, t_call, g_true, g_false, a_val, a_call, ↓n_normal, ↓n_ret, ↓n_exit, ↓b_normal, ↓b_ret, ↓b_exit, ↓e_normal, ↓e_ret, e_some, go_sem, ↓reduceIte, Nat.reduceEqDiff, Nat.reduceLT, Nat.reduceSub, A_law11_OrderRows_0, A_law11_OrderRows_1, A_law11_OrderRows_2, A_law11_OrderRows_3, A_law11_OrderRows_4, A_law11_OrderRows_5, A_law11_OrderRows_6, A_law11_OrderRows_7, A_law11_OrderRows_8, A_law11_OrderRows_9, A_law11_OrderRows_10, A_law11_OrderRows_11, A_law11_OrderRows_12, A_law11_OrderRows_14, A_law11_OrderRows_15, A_law11_OrderRows_16, A_law11_OrderRows_17, A_law11_OrderRows_18, A_law11_OrderRows_19, A_law11_OrderRows_20, A_law11_OrderRows_21, A_law11_OrderRows_22, A_law11_OrderRows_23, A_law11_OrderRows_24, A_law11_OrderRows_25, A_law11_OrderRows_26, A_law11_OrderRows_27, A_law11_OrderRows_29, A_law11_OrderRows_31, hsame, Bool.not_true, h12, h5', IntWalk.i64_in ((k + 1 + 1 : Nat) : Int) (by omega)]
        refine ih (k + 1) _ M2 (by omega) hG2 ?_ ?_ ?_ ?_ ?_ ?_
        all_goals simp only [go_sem, ↓reduceIte, Nat.reduceEqDiff, Nat.reduceLT, Nat.reduceSub, h0', h1, h2, h11, h9', e0, f0]
    · obtain ⟨a, cap, e0, _⟩ := id hs
      have h0' := h0
      rw [e0] at h0
      have : ¬ ((k + 1 : Nat) : Int) < xs.length := by omega
      simp -dsimp only [↓w_seq, ↓w_ops, ↓w_skip, ↓w_ret, ↓w_exit, ↓w_scope, ↓w_block, ↓w_cond, cond_true', cond_false', ↓t_nil, ↓t_plain, ↓t_guard, ↓t_again, t_val, t_call, g_true, g_false, a_val, a_call, ↓n_normal, ↓n_ret, ↓n_exit, ↓b_normal, ↓b_ret, ↓b_exit, ↓e_normal, ↓e_ret, e_some, go_sem, ↓reduceIte, Nat.reduceEqDiff, Nat.reduceLT, Nat.reduceSub, A_law11_OrderRows_0, A_law11_OrderRows_1, A_law11_OrderRows_2, A_law11_OrderRows_3, A_law11_OrderRows_4, A_law11_OrderRows_5, A_law11_OrderRows_6, A_law11_OrderRows_7, A_law11_OrderRows_8, A_law11_OrderRows_9, A_law11_OrderRows_10, A_law11_OrderRows_11, A_law11_OrderRows_12, A_law11_OrderRows_14, A_law11_OrderRows_15, A_law11_OrderRows_16, A_law11_OrderRows_17, A_law11_OrderRows_18, A_law11_OrderRows_19, A_law11_OrderRows_20, A_law11_OrderRows_21, A_law11_OrderRows_22, A_law11_OrderRows_23, A_law11_OrderRows_24, A_law11_OrderRows_25, A_law11_OrderRows_26, A_law11_OrderRows_27, A_law11_OrderRows_29, A_law11_OrderRows_31, h0, h9, h12, this, decide_false]
      refine hE _ _ hG ?_ ?_ ?_ ?_
      all_goals simp only [go_sem, ↓reduceIte, Nat.reduceEqDiff, Nat.reduceLT, Nat.reduceSub, h0', h1, h2, h11]
end Go.Am.Try

/- The walk of the law OrderRows, whole. -/
namespace Go.Am.Try
open Go Go.Am Go.Proofs Go.Sort Go.Shelf
set_option maxRecDepth 100000
set_option linter.unusedSimpArgs false
set_option linter.unusedVariables false

theorem keysK_len (xs : List Sb) (at_ n : Int) : (keysK xs at_ n).1.length ≤ 64 := by
  unfold keysK
  split
  · unfold sprE
    split
    · simp
    · rename_i h
      split
      · rename_i h2
        rw [spr_len n.toNat n.toNat _ _ (Nat.le_refl _) h2]
        have : ¬ 64 < n := fun h' => h (.inr (.inl h'))
        omega
      · simp
  · simp

set_option maxHeartbeats 2000000 in
theorem rows_loop (s0 s1 : V) (z0 z1 : List Sb) (at_ n : Int) (b13 : Nat) (M0 : Mem) (hl0 : z0.length ≤ 100) (hl1 : z1.length ≤ 100) (hk0 : ∀ x ∈ z0, x.1.length < 2 ^ 63) (hk1 : ∀ x ∈ z1, x.1.length < 2 ^ 63)
    (hs0 : SlR elSb M0 s0 z0) (hs1 : SlR elSb M0 s1 z1) (hlt0 : ∀ b, s0.blk = some b → b < M0.next) (hlt1 : ∀ b, s1.blk = some b → b < M0.next) (hb : b13 < M0.next) (hM0 : M0.get b13 = some (.cells [s0, s1] false)) {Q : AExit → Fr → Mem → Prop}
    (hE : ∀ fr M, Q (.exit 2) fr M) :
    ∀ (f r : Nat) (fr : Fr) (M : Mem), r + f = 2 → Grew M0 M → fr.rd 1 = .int .i64 at_ → fr.rd 2 = .int .i64 n → fr.rd 13 = .slice (some (b13, 0)) 2 (.exact 2) → fr.rd 14 = .int .i64 (r : Int) → WC D2 164 (.loop A_law11_OrderRows_30) fr M Q := by
  have hmx : maxRoom = 17592186044416 := rfl
  intro f
  induction f with
  | zero =>
    intro r fr M hr hG h1 h2 h13 h14
    refine WC.loop (W_of ?_)
    unfold A_law11_OrderRows_30
    have : ¬ (r : Int) < 2 := by omega
    simp -dsimp only [↓w_seq, ↓w_ops, ↓w_skip, ↓w_ret, ↓w_exit, ↓w_scope, ↓w_block, ↓w_cond, cond_true', cond_false', ↓t_nil, ↓t_plain, ↓t_guard, ↓t_again, t_val, t_call, g_true, g_false, a_val, a_call, ↓n_normal, ↓n_ret, ↓n_exit, ↓b_normal, ↓b_ret, ↓b_exit, ↓e_normal, ↓e_ret, e_some, go_sem, ↓reduceIte, Nat.reduceEqDiff, Nat.reduceLT, Nat.reduceSub, A_law11_OrderRows_0, A_law11_OrderRows_1, A_law11_OrderRows_2, A_law11_OrderRows_3, A_law11_OrderRows_4, A_law11_OrderRows_5, A_law11_OrderRows_6, A_law11_OrderRows_7, A_law11_OrderRows_8, A_law11_OrderRows_9, A_law11_OrderRows_10, A_law11_OrderRows_11, A_law11_OrderRows_12, A_law11_OrderRows_14, A_law11_OrderRows_15, A_law11_OrderRows_16, A_law11_OrderRows_17, A_law11_OrderRows_18, A_law11_OrderRows_19, A_law11_OrderRows_20, A_law11_OrderRows_21, A_law11_OrderRows_22, A_law11_OrderRows_23, A_law11_OrderRows_24, A_law11_OrderRows_25, A_law11_OrderRows_26, A_law11_OrderRows_27, A_law11_OrderRows_29, A_law11_OrderRows_31, h14, this, decide_false]
    exact hE _ _
  | succ f ih =>
    intro r fr M hr hG h1 h2 h13 h14
    refine WC.loop (W_of ?_)
    unfold A_law11_OrderRows_30
    have e1 : (r : Int) < 2 := by omega
    have e2 : r + 1 ≤ 2 := by omega
    have h5' : (r : Int) + 1 = ((r + 1 : Nat) : Int) := by omega
    obtain ⟨s, zs, hat, hl, hk, hs, hlt⟩ : ∃ s zs, [s0, s1][r]? = some s ∧ zs.length ≤ 100 ∧ (∀ x ∈ zs, x.1.length < 2 ^ 63) ∧ SlR elSb M0 s zs ∧ (∀ b, s.blk = some b → b < M0.next) := by
      rcases Nat.lt_or_ge r 1 with h | h
      · have : r = 0 := by omega
        subst this
        exact ⟨s0, z0, rfl, hl0, hk0, hs0, hlt0⟩
      · have : r = 1 := by omega
        subst this
        exact ⟨s1, z1, rfl, hl1, hk1, hs1, hlt1⟩
    have room : (zs.length + 1) * 32 ≤ maxRoom := Nat.le_trans (Nat.mul_le_mul_right 32 (show zs.length + 1 ≤ 101 by omega)) (by decide)
    have hsAt : ∀ M', Grew M0 M' → SlR elSb M' s zs := fun M' h => hs.keep fun b hb => h.old b (hlt b hb)
    have hbAt : ∀ M', Grew M0 M' → M'.get b13 = some (.cells [s0, s1] false) := fun M' h => (h.old b13 hb).trans hM0
    have hltAt : ∀ M', Grew M0 M' → ∀ b, s.blk = some b → b < M'.next := fun M' h b hb => Nat.lt_of_lt_of_le (hlt b hb) h.next
    have hbM := hbAt M hG
    simp -dsimp only [↓w_seq, ↓w_ops, ↓w_skip, ↓w_ret, ↓w_exit, ↓w_scope, ↓w_block, ↓w_cond, cond_true', cond_false', ↓t_nil, ↓t_plain, ↓t_guard, ↓t_again, t_val, t_call, g_true, g_false, a_val, a_call, ↓n_normal, ↓n_ret, ↓n_exit, ↓b_normal, ↓b_ret, ↓b_exit, ↓e_normal, ↓e_ret, e_some, go_sem, ↓reduceIte, Nat.reduceEqDiff, Nat.reduceLT, Nat.reduceSub, A_law11_OrderRows_0, A_law11_OrderRows_1, A_law11_OrderRows_2, A_law11_OrderRows_3, A_law11_OrderRows_4, A_law11_OrderRows_5, A_law11_OrderRows_6, A_law11_OrderRows_7, A_law11_OrderRows_8, A_law11_OrderRows_9, A_law11_OrderRows_10, A_law11_OrderRows_11, A_law11_OrderRows_12, A_law11_OrderRows_14, A_law11_OrderRows_15, A_law11_OrderRows_16, A_law11_OrderRows_17, A_law11_OrderRows_18, A_law11_OrderRows_19, A_law11_OrderRows_20, A_law11_OrderRows_21, A_law11_OrderRows_22, A_law11_OrderRows_23, A_law11_OrderRows_24, A_law11_OrderRows_25, A_law11_OrderRows_26, A_law11_OrderRows_27, A_law11_OrderRows_29, A_law11_OrderRows_31, h1, h2, h13, h14, e1, e2, decide_true, vload, vptr, hbM, Nat.mul_one, Nat.zero_add, hat]
    refine call_of (Own_runs s zs room M (hsAt M hG) (fun b hb _ => hltAt M hG b hb)) ?_
    intro v1 M1 hv
    obtain ⟨hG1, hH1⟩ := hv
    have hH1s := hH1.slR (e := elSb)
    simp -dsimp only [↓w_seq, ↓w_ops, ↓w_skip, ↓w_ret, ↓w_exit, ↓w_scope, ↓w_block, ↓w_cond, cond_true', cond_false', ↓t_nil, ↓t_plain, ↓t_guard, ↓t_again, t_val, t_call, g_true, g_false, a_val, a_call, ↓n_normal, ↓n_ret, ↓n_exit, ↓b_normal, ↓b_ret, ↓b_exit, ↓e_normal, ↓e_ret, e_some, go_sem, ↓reduceIte, Nat.reduceEqDiff, Nat.reduceLT, Nat.reduceSub, A_law11_OrderRows_0, A_law11_OrderRows_1, A_law11_OrderRows_2, A_law11_OrderRows_3, A_law11_OrderRows_4, A_law11_OrderRows_5, A_law11_OrderRows_6, A_law11_OrderRows_7, A_law11_OrderRows_8, A_law11_OrderRows_9, A_law11_OrderRows_10, A_law11_OrderRows_11, A_law11_OrderRows_12, A_law11_OrderRows_14, A_law11_OrderRows_15, A_law11_OrderRows_16, A_law11_OrderRows_17, A_law11_OrderRows_18, A_law11_OrderRows_19, A_law11_OrderRows_20, A_law11_OrderRows_21, A_law11_OrderRows_22, A_law11_OrderRows_23, A_law11_OrderRows_24, A_law11_OrderRows_25, A_law11_OrderRows_26, A_law11_OrderRows_27, A_law11_OrderRows_29, A_law11_OrderRows_31, h1]
    refine call_of (Key_runs v1 zs (by omega) hk at_ M1 hH1s (fun b hb _ => (hH1.blk_le hb).2.1)) ?_
    intro v2 M2 hv
    rw [hv.1]
    have hG2 := (hG.trans hG1).trans hv.2
    clear hv
    have hbM2 := hbAt M2 hG2
    simp -dsimp only [↓w_seq, ↓w_ops, ↓w_skip, ↓w_ret, ↓w_exit, ↓w_scope, ↓w_block, ↓w_cond, cond_true', cond_false', ↓t_nil, ↓t_plain, ↓t_guard, ↓t_again, t_val, t_call, g_true, g_false, a_val, a_call, ↓n_normal, ↓n_ret, ↓n_exit, ↓b_normal, ↓b_ret, ↓b_exit, ↓e_normal, ↓e_ret, e_some, go_sem, ↓reduceIte, Nat.reduceEqDiff, Nat.reduceLT, Nat.reduceSub, A_law11_OrderRows_0, A_law11_OrderRows_1, A_law11_OrderRows_2, A_law11_OrderRows_3, A_law11_OrderRows_4, A_law11_OrderRows_5, A_law11_OrderRows_6, A_law11_OrderRows_7, A_law11_OrderRows_8, A_law11_OrderRows_9, A_law11_OrderRows_10, A_law11_OrderRows_11, A_law11_OrderRows_12, A_law11_OrderRows_14, A_law11_OrderRows_15, A_law11_OrderRows_16, A_law11_OrderRows_17, A_law11_OrderRows_18, A_law11_OrderRows_19, A_law11_OrderRows_20, A_law11_OrderRows_21, A_law11_OrderRows_22, A_law11_OrderRows_23, A_law11_OrderRows_24, A_law11_OrderRows_25, A_law11_OrderRows_26, A_law11_OrderRows_27, A_law11_OrderRows_29, A_law11_OrderRows_31, h1, h2, h13, h14, e2, decide_true, vload, vptr, hbM2, Nat.mul_one, Nat.zero_add, hat, List.getElem?_cons_zero, List.getElem?_cons_succ]
    refine call_of (rKey_runs s zs (by omega) hk at_ M2 (hsAt M2 hG2) (fun b hb _ => hltAt M2 hG2 b hb)) ?_
    intro v3 M3 hv
    rw [hv.1]
    have hG3 := hG2.trans hv.2
    clear hv
    have hbM3 := hbAt M3 hG3
    simp -dsimp only [↓w_seq, ↓w_ops, ↓w_skip, ↓w_ret, ↓w_exit, ↓w_scope, ↓w_block, ↓w_cond, cond_true', cond_false', ↓t_nil, ↓t_plain, ↓t_guard, ↓t_again, t_val, t_call, g_true, g_false, a_val, a_call, ↓n_normal, ↓n_ret, ↓n_exit, ↓b_normal, ↓b_ret, ↓b_exit, ↓e_normal, ↓e_ret, e_some, go_sem, ↓reduceIte, Nat.reduceEqDiff, Nat.reduceLT, Nat.reduceSub, A_law11_OrderRows_0, A_law11_OrderRows_1, A_law11_OrderRows_2, A_law11_OrderRows_3, A_law11_OrderRows_4, A_law11_OrderRows_5, A_law11_OrderRows_6, A_law11_OrderRows_7, A_law11_OrderRows_8, A_law11_OrderRows_9, A_law11_OrderRows_10, A_law11_OrderRows_11, A_law11_OrderRows_12, A_law11_OrderRows_14, A_law11_OrderRows_15, A_law11_OrderRows_16, A_law11_OrderRows_17, A_law11_OrderRows_18, A_law11_OrderRows_19, A_law11_OrderRows_20, A_law11_OrderRows_21, A_law11_OrderRows_22, A_law11_OrderRows_23, A_law11_OrderRows_24, A_law11_OrderRows_25, A_law11_OrderRows_26, A_law11_OrderRows_27, A_law11_OrderRows_29, A_law11_OrderRows_31, h1, h2, h13, h14, e2, decide_true, vload, vptr, hbM3, Nat.mul_one, Nat.zero_add, hat, List.getElem?_cons_zero, List.getElem?_cons_succ]
    refine call_of (Own_runs s zs room M3 (hsAt M3 hG3) (fun b hb _ => hltAt M3 hG3 b hb)) ?_
    intro v4 M4 hv
    obtain ⟨hG4', hH4⟩ := hv
    have hH4s := hH4.slR (e := elSb)
    have hG4 := hG3.trans hG4'
    simp -dsimp only [↓w_seq, ↓w_ops, ↓w_skip, ↓w_ret, ↓w_exit, ↓w_scope, ↓w_block, ↓w_cond, cond_true', cond_false', ↓t_nil, ↓t_plain, ↓t_guard, ↓t_again, t_val, t_call, g_true, g_false, a_val, a_call, ↓n_normal, ↓n_ret, ↓n_exit, ↓b_normal, ↓b_ret, ↓b_exit, ↓e_normal, ↓e_ret, e_some, go_sem, ↓reduceIte, Nat.reduceEqDiff, Nat.reduceLT, Nat.reduceSub, A_law11_OrderRows_0, A_law11_OrderRows_1, A_law11_OrderRows_2, A_law11_OrderRows_3, A_law11_OrderRows_4, A_law11_OrderRows_5, A_law11_OrderRows_6, A_law11_OrderRows_7, A_law11_OrderRows_8, A_law11_OrderRows_9, A_law11_OrderRows_10, A_law11_OrderRows_11, A_law11_OrderRows_12, A_law11_OrderRows_14, A_law11_OrderRows_15, A_law11_OrderRows_16, A_law11_OrderRows_17, A_law11_OrderRows_18, A_law11_OrderRows_19, A_law11_OrderRows_20, A_law11_OrderRows_21, A_law11_OrderRows_22, A_law11_OrderRows_23, A_law11_OrderRows_24, A_law11_OrderRows_25, A_law11_OrderRows_26, A_law11_OrderRows_27, A_law11_OrderRows_29, A_law11_OrderRows_31, h1, h2]
    refine call_of (Keys_runs v4 zs (by omega) hk at_ n M4 hH4s (fun b hb _ => (hH4.blk_le hb).2.1)) ?_
    intro v5 M5 hv
    obtain ⟨hG5', su, hv5, hHu⟩ := hv
    rw [hv5]
    have hG5 := hG4.trans hG5'
    have hbM5 := hbAt M5 hG5
    simp -dsimp only [↓w_seq, ↓w_ops, ↓w_skip, ↓w_ret, ↓w_exit, ↓w_scope, ↓w_block, ↓w_cond, cond_true', cond_false', ↓t_nil, ↓t_plain, ↓t_guard, ↓t_again, t_val, t_call, g_true, g_false, a_val, a_call, ↓n_normal, ↓n_ret, ↓n_exit, ↓b_normal, ↓b_ret, ↓b_exit, ↓e_normal, ↓e_ret, e_some, go_sem, ↓reduceIte, Nat.reduceEqDiff, Nat.reduceLT, Nat.reduceSub, A_law11_OrderRows_0, A_law11_OrderRows_1, A_law11_OrderRows_2, A_law11_OrderRows_3, A_law11_OrderRows_4, A_law11_OrderRows_5, A_law11_OrderRows_6, A_law11_OrderRows_7, A_law11_OrderRows_8, A_law11_OrderRows_9, A_law11_OrderRows_10, A_law11_OrderRows_11, A_law11_OrderRows_12, A_law11_OrderRows_14, A_law11_OrderRows_15, A_law11_OrderRows_16, A_law11_OrderRows_17, A_law11_OrderRows_18, A_law11_OrderRows_19, A_law11_OrderRows_20, A_law11_OrderRows_21, A_law11_OrderRows_22, A_law11_OrderRows_23, A_law11_OrderRows_24, A_law11_OrderRows_25, A_law11_OrderRows_26, A_law11_OrderRows_27, A_law11_OrderRows_29, A_law11_OrderRows_31, h1, h2, h13, h14, e2, decide_true, vload, vptr, hbM5, Nat.mul_one, Nat.zero_add, hat, List.getElem?_cons_zero, List.getElem?_cons_succ]
    refine call_of (rKeys_runs s zs (by omega) hk at_ n M5 (hsAt M5 hG5) (fun b hb _ => hltAt M5 hG5 b hb)) ?_
    intro v6 M6 hv
    obtain ⟨hG6', sv, hv6, hHv⟩ := hv
    rw [hv6]
    have hG6 := hG5.trans hG6'
    have hHu6 : Hold M4.next M6 1 su (keysK zs at_ n).1.length (strsC (keysK zs at_ n).1) := hHu.keep (fun c hc => hG6'.old c (hHu.blk_le hc).2.1) hG6'.next
    obtain ⟨au, cu, eu⟩ := hHu.shape
    obtain ⟨av, cv, ev⟩ := hHv.shape
    simp -dsimp only [↓w_seq, ↓w_ops, ↓w_skip, ↓w_ret, ↓w_exit, ↓w_scope, ↓w_block, ↓w_cond, cond_true', cond_false', ↓t_nil, ↓t_plain, ↓t_guard, ↓t_again, t_val, t_call, g_true, g_false, a_val, a_call, ↓n_normal, ↓n_ret, ↓n_exit, ↓b_normal, ↓b_ret, ↓b_exit, ↓e_normal, ↓e_ret, e_some, go_sem, ↓reduceIte, Nat.reduceEqDiff, Nat.reduceLT, Nat.reduceSub, A_law11_OrderRows_0, A_law11_OrderRows_1, A_law11_OrderRows_2, A_law11_OrderRows_3, A_law11_OrderRows_4, A_law11_OrderRows_5, A_law11_OrderRows_6, A_law11_OrderRows_7, A_law11_OrderRows_8, A_law11_OrderRows_9, A_law11_OrderRows_10, A_law11_OrderRows_11, A_law11_OrderRows_12, A_law11_OrderRows_14, A_law11_OrderRows_15, A_law11_OrderRows_16, A_law11_OrderRows_17, A_law11_OrderRows_18, A_law11_OrderRows_19, A_law11_OrderRows_20, A_law11_OrderRows_21, A_law11_OrderRows_22, A_law11_OrderRows_23, A_law11_OrderRows_24, A_law11_OrderRows_25, A_law11_OrderRows_26, A_law11_OrderRows_27, A_law11_OrderRows_29, A_law11_OrderRows_31, List.getElem?_cons_zero, List.getElem?_cons_succ, ne_eq, not_true_eq_false, decide_false]
    refine call_eq (lawnum_runs _ _) ?_
    simp -dsimp only [↓w_seq, ↓w_ops, ↓w_skip, ↓w_ret, ↓w_exit, ↓w_scope, ↓w_block, ↓w_cond, cond_true', cond_false', ↓t_nil, ↓t_plain, ↓t_guard, ↓t_again, t_val, t_call, g_true, g_false, a_val, a_call, ↓n_normal, ↓n_ret, ↓n_exit, ↓b_normal, ↓b_ret, ↓b_exit, ↓e_normal, ↓e_ret, e_some, go_sem, ↓reduceIte, Nat.reduceEqDiff, Nat.reduceLT, Nat.reduceSub, A_law11_OrderRows_0, A_law11_OrderRows_1, A_law11_OrderRows_2, A_law11_OrderRows_3, A_law11_OrderRows_4, A_law11_OrderRows_5, A_law11_OrderRows_6, A_law11_OrderRows_7, A_law11_OrderRows_8, A_law11_OrderRows_9, A_law11_OrderRows_10, A_law11_OrderRows_11, A_law11_OrderRows_12, A_law11_OrderRows_14, A_law11_OrderRows_15, A_law11_OrderRows_16, A_law11_OrderRows_17, A_law11_OrderRows_18, A_law11_OrderRows_19, A_law11_OrderRows_20, A_law11_OrderRows_21, A_law11_OrderRows_22, A_law11_OrderRows_23, A_law11_OrderRows_24, A_law11_OrderRows_25, A_law11_OrderRows_26, A_law11_OrderRows_27, A_law11_OrderRows_29, A_law11_OrderRows_31, ne_eq, not_true_eq_false, decide_false, eu, ev]
    refine call_eq (lawnum_runs _ _) ?_
    simp -dsimp only [↓w_seq, ↓w_ops, ↓w_skip, ↓w_ret, ↓w_exit, ↓w_scope, ↓w_block, ↓w_cond, cond_true', cond_false', ↓t_nil, ↓t_plain, ↓t_guard, ↓t_again, t_val, t_call, g_true, g_false, a_val, a_call, ↓n_normal, ↓n_ret, ↓n_exit, ↓b_normal, ↓b_ret, ↓b_exit, ↓e_normal, ↓e_ret, e_some, go_sem, ↓reduceIte, Nat.reduceEqDiff, Nat.reduceLT, Nat.reduceSub, A_law11_OrderRows_0, A_law11_OrderRows_1, A_law11_OrderRows_2, A_law11_OrderRows_3, A_law11_OrderRows_4, A_law11_OrderRows_5, A_law11_OrderRows_6, A_law11_OrderRows_7, A_law11_OrderRows_8, A_law11_OrderRows_9, A_law11_OrderRows_10, A_law11_OrderRows_11, A_law11_OrderRows_12, A_law11_OrderRows_14, A_law11_OrderRows_15, A_law11_OrderRows_16, A_law11_OrderRows_17, A_law11_OrderRows_18, A_law11_OrderRows_19, A_law11_OrderRows_20, A_law11_OrderRows_21, A_law11_OrderRows_22, A_law11_OrderRows_23, A_law11_OrderRows_24, A_law11_OrderRows_25, A_law11_OrderRows_26, A_law11_OrderRows_27, A_law11_OrderRows_29, A_law11_OrderRows_31, ne_eq, not_true_eq_false, decide_false]
    rw [← eu, ← ev]
    refine texts_loop su sv (keysK zs at_ n).1 ?_ M6 hHu6 hHv (x13 := .slice (some (b13, 0)) 2 (.exact 2)) (x14 := .int .i64 (r : Int)) (x1 := .int .i64 at_) (x2 := .int .i64 n) (x0 := .undef) ?_ (keysK zs at_ n).1.length 0 _ (by omega) ?_ ?_ ?_ ?_ ?_ ?_ ?_
    · have := keysK_len zs at_ n; omega
    · intro fr' g13 g14 g1 g2
      simp -dsimp only [↓w_seq, ↓w_ops, ↓w_skip, ↓w_ret, ↓w_exit, ↓w_scope, ↓w_block, ↓w_cond, cond_true', cond_false', ↓t_nil, ↓t_plain, ↓t_guard, ↓t_again, t_val, t_call, g_true, g_false, a_val, a_call, ↓n_normal, ↓n_ret, ↓n_exit, ↓b_normal, ↓b_ret, ↓b_exit, ↓e_normal, ↓e_ret, e_some, go_sem, ↓reduceIte, Nat.reduceEqDiff, Nat.reduceLT, Nat.reduceSub, A_law11_OrderRows_0, A_law11_OrderRows_1, A_law11_OrderRows_2, A_law11_OrderRows_3, A_law11_OrderRows_4, A_law11_OrderRows_5, A_law11_OrderRows_6, A_law11_OrderRows_7, A_law11_OrderRows_8, A_law11_OrderRows_9, A_law11_OrderRows_10, A_law11_OrderRows_11, A_law11_OrderRows_12, A_law11_OrderRows_14, A_law11_OrderRows_15, A_law11_OrderRows_16, A_law11_OrderRows_17, A_law11_OrderRows_18, A_law11_OrderRows_19, A_law11_OrderRows_20, A_law11_OrderRows_21, A_law11_OrderRows_22, A_law11_OrderRows_23, A_law11_OrderRows_24, A_law11_OrderRows_25, A_law11_OrderRows_26, A_law11_OrderRows_27, A_law11_OrderRows_29, A_law11_OrderRows_31, g14, h5', IntWalk.i64_in ((r + 1 : Nat) : Int) (by omega)]
      refine ih (r + 1) _ M6 (by omega) hG6 ?_ ?_ ?_ ?_
      all_goals simp only [go_sem, ↓reduceIte, Nat.reduceEqDiff, Nat.reduceLT, Nat.reduceSub, g1, g2, g13, g14]
    all_goals simp only [go_sem, ↓reduceIte, Nat.reduceEqDiff, Nat.reduceLT, Nat.reduceSub, h1, h2, h13, h14, eu, ev]
    all_goals rfl

set_option maxHeartbeats 2000000 in
theorem order_rows_runs (s : V) (ls : List Sb) (at_ n : Int) (st : St) (hk : ∀ x ∈ ls, x.1.length < 2 ^ 63) (M : Mem) (hs : SlR elSb M s ls) (hlt : ∀ b, s.blk = some b → b < M.next) :
    Runs D2 F_law11_OrderRows [s, .int .i64 at_, .int .i64 n, .agg (stC st)] M fun v _ => v = .bool true := by
  have hmx : maxRoom = 17592186044416 := rfl
  refine Runs.walk (F := A_law11_OrderRows) rfl (by rfl) (by rfl) ?_
  unfold A_law11_OrderRows
  simp -dsimp only [↓w_seq, ↓w_ops, ↓w_skip, ↓w_ret, ↓w_exit, ↓w_scope, ↓w_block, ↓w_cond, cond_true', cond_false', ↓t_nil, ↓t_plain, ↓t_guard, ↓t_again, t_val, t_call, g_true, g_false, a_val, a_call, ↓n_normal, ↓n_ret, ↓n_exit, ↓b_normal, ↓b_ret, ↓b_exit, ↓e_normal, ↓e_ret, e_some, go_sem, ↓reduceIte, Nat.reduceEqDiff, Nat.reduceLT, Nat.reduceSub, A_law11_OrderRows_0, A_law11_OrderRows_1, A_law11_OrderRows_2, A_law11_OrderRows_3, A_law11_OrderRows_4, A_law11_OrderRows_5, A_law11_OrderRows_6, A_law11_OrderRows_7, A_law11_OrderRows_8, A_law11_OrderRows_9, A_law11_OrderRows_10, A_law11_OrderRows_11, A_law11_OrderRows_12, A_law11_OrderRows_14, A_law11_OrderRows_15, A_law11_OrderRows_16, A_law11_OrderRows_17, A_law11_OrderRows_18, A_law11_OrderRows_19, A_law11_OrderRows_20, A_law11_OrderRows_21, A_law11_OrderRows_22, A_law11_OrderRows_23, A_law11_OrderRows_24, A_law11_OrderRows_25, A_law11_OrderRows_26, A_law11_OrderRows_27, A_law11_OrderRows_29, A_law11_OrderRows_31, V.cells]
  have g1 : Grew M (M.push (.cells (stC st) false)) := Grew.push _ _
  have hp1 : (M.push (.cells (stC st) false)).get M.next = some (.cells (stC st) false) := Mem.get_push_same _ _
  have hn1 : (M.push (.cells (stC st) false)).next = M.next + 1 := rfl
  generalize M.push (.cells (stC st) false) = M1 at *
  have hs1 : SlR elSb M1 s ls := hs.keep fun b hb => g1.old b (hlt b hb)
  have hlt1 : ∀ b, s.blk = some b → b < M1.next := fun b hb => by have := hlt b hb; omega
  refine call_of (long_runs s ls hk M1 hs1) ?_
  intro v M2 hv
  obtain ⟨t, hv1, ht, hv3⟩ := hv
  rw [hv1, hv3]
  cases t with
  | true =>
    simp -dsimp only [↓w_seq, ↓w_ops, ↓w_skip, ↓w_ret, ↓w_exit, ↓w_scope, ↓w_block, ↓w_cond, cond_true', cond_false', ↓t_nil, ↓t_plain, ↓t_guard, ↓t_again, t_val, t_call, g_true, g_false, a_val, a_call, ↓n_normal, ↓n_ret, ↓n_exit, ↓b_normal, ↓b_ret, ↓b_exit, ↓e_normal, ↓e_ret, e_some, go_sem, ↓reduceIte, Nat.reduceEqDiff, Nat.reduceLT, Nat.reduceSub, A_law11_OrderRows_0, A_law11_OrderRows_1, A_law11_OrderRows_2, A_law11_OrderRows_3, A_law11_OrderRows_4, A_law11_OrderRows_5, A_law11_OrderRows_6, A_law11_OrderRows_7, A_law11_OrderRows_8, A_law11_OrderRows_9, A_law11_OrderRows_10, A_law11_OrderRows_11, A_law11_OrderRows_12, A_law11_OrderRows_14, A_law11_OrderRows_15, A_law11_OrderRows_16, A_law11_OrderRows_17, A_law11_OrderRows_18, A_law11_OrderRows_19, A_law11_OrderRows_20, A_law11_OrderRows_21, A_law11_OrderRows_22, A_law11_OrderRows_23, A_law11_OrderRows_24, A_law11_OrderRows_25, A_law11_OrderRows_26, A_law11_OrderRows_27, A_law11_OrderRows_29, A_law11_OrderRows_31]
    refine call_eq (knows_runs _) ?_
    simp -dsimp only [↓w_seq, ↓w_ops, ↓w_skip, ↓w_ret, ↓w_exit, ↓w_scope, ↓w_block, ↓w_cond, cond_true', cond_false', ↓t_nil, ↓t_plain, ↓t_guard, ↓t_again, t_val, t_call, g_true, g_false, a_val, a_call, ↓n_normal, ↓n_ret, ↓n_exit, ↓b_normal, ↓b_ret, ↓b_exit, ↓e_normal, ↓e_ret, e_some, go_sem, ↓reduceIte, Nat.reduceEqDiff, Nat.reduceLT, Nat.reduceSub, A_law11_OrderRows_0, A_law11_OrderRows_1, A_law11_OrderRows_2, A_law11_OrderRows_3, A_law11_OrderRows_4, A_law11_OrderRows_5, A_law11_OrderRows_6, A_law11_OrderRows_7, A_law11_OrderRows_8, A_law11_OrderRows_9, A_law11_OrderRows_10, A_law11_OrderRows_11, A_law11_OrderRows_12, A_law11_OrderRows_14, A_law11_OrderRows_15, A_law11_OrderRows_16, A_law11_OrderRows_17, A_law11_OrderRows_18, A_law11_OrderRows_19, A_law11_OrderRows_20, A_law11_OrderRows_21, A_law11_OrderRows_22, A_law11_OrderRows_23, A_law11_OrderRows_24, A_law11_OrderRows_25, A_law11_OrderRows_26, A_law11_OrderRows_27, A_law11_OrderRows_29, A_law11_OrderRows_31]
  | false =>
    have hle := ht rfl
    clear ht hv1 hv3 M2 v
    have room : (ls.length + 1) * 32 ≤ maxRoom := Nat.le_trans (Nat.mul_le_mul_right 32 (show ls.length + 1 ≤ 101 by omega)) (by decide)
    have hXl : (isort ltSb ls).length = ls.length := isort_len ltSb ls
    have hXk : ∀ x ∈ isort ltSb ls, x.1.length < 2 ^ 63 := fun x hx => hk x ((isort_perm ltSb ls).mem_iff.mp hx)
    simp -dsimp only [↓w_seq, ↓w_ops, ↓w_skip, ↓w_ret, ↓w_exit, ↓w_scope, ↓w_block, ↓w_cond, cond_true', cond_false', ↓t_nil, ↓t_plain, ↓t_guard, ↓t_again, t_val, t_call, g_true, g_false, a_val, a_call, ↓n_normal, ↓n_ret, ↓n_exit, ↓b_normal, ↓b_ret, ↓b_exit, ↓e_normal, ↓e_ret, e_some, go_sem, ↓reduceIte, Nat.reduceEqDiff, Nat.reduceLT, Nat.reduceSub, A_law11_OrderRows_0, A_law11_OrderRows_1, A_law11_OrderRows_2, A_law11_OrderRows_3, A_law11_OrderRows_4, A_law11_OrderRows_5, A_law11_OrderRows_6, A_law11_OrderRows_7, A_law11_OrderRows_8, A_law11_OrderRows_9, A_law11_OrderRows_10, A_law11_OrderRows_11, A_law11_OrderRows_12, A_law11_OrderRows_14, A_law11_OrderRows_15, A_law11_OrderRows_16, A_law11_OrderRows_17, A_law11_OrderRows_18, A_law11_OrderRows_19, A_law11_OrderRows_20, A_law11_OrderRows_21, A_law11_OrderRows_22, A_law11_OrderRows_23, A_law11_OrderRows_24, A_law11_OrderRows_25, A_law11_OrderRows_26, A_law11_OrderRows_27, A_law11_OrderRows_29, A_law11_OrderRows_31]
    refine call_of (Own_runs s ls room M1 hs1 (fun b hb _ => hlt1 b hb)) ?_
    intro x M2 hv
    obtain ⟨hG2, hH2⟩ := hv
    simp -dsimp only [↓w_seq, ↓w_ops, ↓w_skip, ↓w_ret, ↓w_exit, ↓w_scope, ↓w_block, ↓w_cond, cond_true', cond_false', ↓t_nil, ↓t_plain, ↓t_guard, ↓t_again, t_val, t_call, g_true, g_false, a_val, a_call, ↓n_normal, ↓n_ret, ↓n_exit, ↓b_normal, ↓b_ret, ↓b_exit, ↓e_normal, ↓e_ret, e_some, go_sem, ↓reduceIte, Nat.reduceEqDiff, Nat.reduceLT, Nat.reduceSub, A_law11_OrderRows_0, A_law11_OrderRows_1, A_law11_OrderRows_2, A_law11_OrderRows_3, A_law11_OrderRows_4, A_law11_OrderRows_5, A_law11_OrderRows_6, A_law11_OrderRows_7, A_law11_OrderRows_8, A_law11_OrderRows_9, A_law11_OrderRows_10, A_law11_OrderRows_11, A_law11_OrderRows_12, A_law11_OrderRows_14, A_law11_OrderRows_15, A_law11_OrderRows_16, A_law11_OrderRows_17, A_law11_OrderRows_18, A_law11_OrderRows_19, A_law11_OrderRows_20, A_law11_OrderRows_21, A_law11_OrderRows_22, A_law11_OrderRows_23, A_law11_OrderRows_24, A_law11_OrderRows_25, A_law11_OrderRows_26, A_law11_OrderRows_27, A_law11_OrderRows_29, A_law11_OrderRows_31]
    refine call_of (order_Sort_runs x ls room M2 hH2) ?_
    intro y M3 hv
    obtain ⟨hG3, hH3⟩ := hv
    have hG13 := hG2.trans hG3
    simp -dsimp only [↓w_seq, ↓w_ops, ↓w_skip, ↓w_ret, ↓w_exit, ↓w_scope, ↓w_block, ↓w_cond, cond_true', cond_false', ↓t_nil, ↓t_plain, ↓t_guard, ↓t_again, t_val, t_call, g_true, g_false, a_val, a_call, ↓n_normal, ↓n_ret, ↓n_exit, ↓b_normal, ↓b_ret, ↓b_exit, ↓e_normal, ↓e_ret, e_some, go_sem, ↓reduceIte, Nat.reduceEqDiff, Nat.reduceLT, Nat.reduceSub, A_law11_OrderRows_0, A_law11_OrderRows_1, A_law11_OrderRows_2, A_law11_OrderRows_3, A_law11_OrderRows_4, A_law11_OrderRows_5, A_law11_OrderRows_6, A_law11_OrderRows_7, A_law11_OrderRows_8, A_law11_OrderRows_9, A_law11_OrderRows_10, A_law11_OrderRows_11, A_law11_OrderRows_12, A_law11_OrderRows_14, A_law11_OrderRows_15, A_law11_OrderRows_16, A_law11_OrderRows_17, A_law11_OrderRows_18, A_law11_OrderRows_19, A_law11_OrderRows_20, A_law11_OrderRows_21, A_law11_OrderRows_22, A_law11_OrderRows_23, A_law11_OrderRows_24, A_law11_OrderRows_25, A_law11_OrderRows_26, A_law11_OrderRows_27, A_law11_OrderRows_29, A_law11_OrderRows_31]
    refine call_of (rSort_runs s ls (by omega) hk M3 (hs1.keep fun b hb => hG13.old b (hlt1 b hb)) (fun b hb => Nat.lt_of_lt_of_le (hlt1 b hb) hG13.next)) ?_
    intro w M4 hv
    obtain ⟨hG4, hH4⟩ := hv
    have hG14 := hG13.trans hG4
    have hp4 : M4.get M.next = some (.cells (stC st) false) := (hG14.old _ (by omega)).trans hp1
    have hn14 := hG14.next
    have hH2' : Hold M1.next M4 3 x ls.length (elSb.all ls) := hH2.keep (fun c hc => (hG3.trans hG4).old c (hH2.blk_le hc).2.1) (hG3.trans hG4).next
    have hH3' : Hold M2.next M4 3 y ls.length (elSb.all (isort ltSb ls)) := hH3.keep (fun c hc => hG4.old c (hH3.blk_le hc).2.1) hG4.next
    have hX4 : SlR elSb M4 x ls := hH2'.slR (e := elSb)
    have hY4 : SlR elSb M4 y (isort ltSb ls) := by rw [← hXl] at hH3'; exact hH3'.slR (e := elSb)
    have hW4 : SlR elSb M4 w (isort ltSb ls) := by rw [← hXl] at hH4; exact hH4.slR (e := elSb)
    have hS4 : SlR elSb M4 s ls := hs1.keep fun b hb => hG14.old b (hlt1 b hb)
    have hltS : ∀ b, s.blk = some b → b < M4.next := fun b hb => Nat.lt_of_lt_of_le (hlt1 b hb) hn14
    have hltX : ∀ b, x.blk = some b → b < M4.next := fun b hb => (hH2'.blk_le hb).2.1
    have hltW : ∀ b, w.blk = some b → b < M4.next := fun b hb => (hH4.blk_le hb).2.1
    have hrd : rdCells (stC st) 0 2 = some (stC st) := rfl
    simp -dsimp only [↓w_seq, ↓w_ops, ↓w_skip, ↓w_ret, ↓w_exit, ↓w_scope, ↓w_block, ↓w_cond, cond_true', cond_false', ↓t_nil, ↓t_plain, ↓t_guard, ↓t_again, t_val, t_call, g_true, g_false, a_val, a_call, ↓n_normal, ↓n_ret, ↓n_exit, ↓b_normal, ↓b_ret, ↓b_exit, ↓e_normal, ↓e_ret, e_some, go_sem, ↓reduceIte, Nat.reduceEqDiff, Nat.reduceLT, Nat.reduceSub, A_law11_OrderRows_0, A_law11_OrderRows_1, A_law11_OrderRows_2, A_law11_OrderRows_3, A_law11_OrderRows_4, A_law11_OrderRows_5, A_law11_OrderRows_6, A_law11_OrderRows_7, A_law11_OrderRows_8, A_law11_OrderRows_9, A_law11_OrderRows_10, A_law11_OrderRows_11, A_law11_OrderRows_12, A_law11_OrderRows_14, A_law11_OrderRows_15, A_law11_OrderRows_16, A_law11_OrderRows_17, A_law11_OrderRows_18, A_law11_OrderRows_19, A_law11_OrderRows_20, A_law11_OrderRows_21, A_law11_OrderRows_22, A_law11_OrderRows_23, A_law11_OrderRows_24, A_law11_OrderRows_25, A_law11_OrderRows_26, A_law11_OrderRows_27, A_law11_OrderRows_29, A_law11_OrderRows_31]
    refine call_eq (Same_runs y w (isort ltSb ls) (by omega) M4 hY4 hW4) ?_
    simp -dsimp only [↓w_seq, ↓w_ops, ↓w_skip, ↓w_ret, ↓w_exit, ↓w_scope, ↓w_block, ↓w_cond, cond_true', cond_false', ↓t_nil, ↓t_plain, ↓t_guard, ↓t_again, t_val, t_call, g_true, g_false, a_val, a_call, ↓n_normal, ↓n_ret, ↓n_exit, ↓b_normal, ↓b_ret, ↓b_exit, ↓e_normal, ↓e_ret, e_some, go_sem, ↓reduceIte, Nat.reduceEqDiff, Nat.reduceLT, Nat.reduceSub, A_law11_OrderRows_0, A_law11_OrderRows_1, A_law11_OrderRows_2, A_law11_OrderRows_3, A_law11_OrderRows_4, A_law11_OrderRows_5, A_law11_OrderRows_6, A_law11_OrderRows_7, A_law11_OrderRows_8, A_law11_OrderRows_9, A_law11_OrderRows_10, A_law11_OrderRows_11, A_law11_OrderRows_12, A_law11_OrderRows_14, A_law11_OrderRows_15, A_law11_OrderRows_16, A_law11_OrderRows_17, A_law11_OrderRows_18, A_law11_OrderRows_19, A_law11_OrderRows_20, A_law11_OrderRows_21, A_law11_OrderRows_22, A_law11_OrderRows_23, A_law11_OrderRows_24, A_law11_OrderRows_25, A_law11_OrderRows_26, A_law11_OrderRows_27, A_law11_OrderRows_29, A_law11_OrderRows_31]
    refine call_eq (Same_runs x s ls (by omega) M4 hX4 hS4) ?_
    simp -dsimp only [↓w_seq, ↓w_ops, ↓w_skip, ↓w_ret, ↓w_exit, ↓w_scope, ↓w_block, ↓w_cond, cond_true', cond_false', ↓t_nil, ↓t_plain, ↓t_guard, ↓t_again, t_val, t_call, g_true, g_false, a_val, a_call, ↓n_normal, ↓n_ret, ↓n_exit, ↓b_normal, ↓b_ret, ↓b_exit, ↓e_normal, ↓e_ret, e_some, go_sem, ↓reduceIte, Nat.reduceEqDiff, Nat.reduceLT, Nat.reduceSub, A_law11_OrderRows_0, A_law11_OrderRows_1, A_law11_OrderRows_2, A_law11_OrderRows_3, A_law11_OrderRows_4, A_law11_OrderRows_5, A_law11_OrderRows_6, A_law11_OrderRows_7, A_law11_OrderRows_8, A_law11_OrderRows_9, A_law11_OrderRows_10, A_law11_OrderRows_11, A_law11_OrderRows_12, A_law11_OrderRows_14, A_law11_OrderRows_15, A_law11_OrderRows_16, A_law11_OrderRows_17, A_law11_OrderRows_18, A_law11_OrderRows_19, A_law11_OrderRows_20, A_law11_OrderRows_21, A_law11_OrderRows_22, A_law11_OrderRows_23, A_law11_OrderRows_24, A_law11_OrderRows_25, A_law11_OrderRows_26, A_law11_OrderRows_27, A_law11_OrderRows_29, A_law11_OrderRows_31, vload, hp4, Mem.read, hrd]
    refine callA_by (k := ⟨⟩) (l' := ⟨⟩) (g' := ⟨⟩) (Find_runs x ls (by omega) st M4 hX4 (fun b hb _ => hltX b hb)) ?_
    intro fi M5 hv
    have hp5 : M5.get M.next = some (.cells (stC st) false) := (hv.2.old _ (by omega)).trans hp4
    have hG5 := hv.2
    rw [hv.1]
    refine ⟨?_, ?_⟩
    · simp only [List.all_cons, List.all_nil, Bool.and_true, againOk, wantedA, cond_true, go_sem, ↓reduceIte, Nat.reduceEqDiff, Nat.reduceLT, Nat.reduceSub, Nat.reduceLeDiff, decide_true, vload, Mem.read, hp5, hrd, Nat.reduceAdd, V.beq_self, V.beqs_self, Bool.and_self, V.beq]
    · simp -dsimp only [↓w_seq, ↓w_ops, ↓w_skip, ↓w_ret, ↓w_exit, ↓w_scope, ↓w_block, ↓w_cond, cond_true', cond_false', ↓t_nil, ↓t_plain, ↓t_guard, ↓t_again, t_val, t_call, g_true, g_false, a_val, a_call, ↓n_normal, ↓n_ret, ↓n_exit, ↓b_normal, ↓b_ret, ↓b_exit, ↓e_normal, ↓e_ret, e_some, go_sem, ↓reduceIte, Nat.reduceEqDiff, Nat.reduceLT, Nat.reduceSub, A_law11_OrderRows_0, A_law11_OrderRows_1, A_law11_OrderRows_2, A_law11_OrderRows_3, A_law11_OrderRows_4, A_law11_OrderRows_5, A_law11_OrderRows_6, A_law11_OrderRows_7, A_law11_OrderRows_8, A_law11_OrderRows_9, A_law11_OrderRows_10, A_law11_OrderRows_11, A_law11_OrderRows_12, A_law11_OrderRows_14, A_law11_OrderRows_15, A_law11_OrderRows_16, A_law11_OrderRows_17, A_law11_OrderRows_18, A_law11_OrderRows_19, A_law11_OrderRows_20, A_law11_OrderRows_21, A_law11_OrderRows_22, A_law11_OrderRows_23, A_law11_OrderRows_24, A_law11_OrderRows_25, A_law11_OrderRows_26, A_law11_OrderRows_27, A_law11_OrderRows_29, A_law11_OrderRows_31]
      refine call_of (rFind_runs s ls (by omega) st M5 (hS4.keep fun b hb => hG5.old b (hltS b hb)) (fun b hb _ => Nat.lt_of_lt_of_le (hltS b hb) hG5.next)) ?_
      intro fj M6 hv
      have hG6 := hG5.trans hv.2
      rw [hv.1]
      simp -dsimp only [↓w_seq, ↓w_ops, ↓w_skip, ↓w_ret, ↓w_exit, ↓w_scope, ↓w_block, ↓w_cond, cond_true', cond_false', ↓t_nil, ↓t_plain, ↓t_guard, ↓t_again, t_val, t_call, g_true, g_false, a_val, a_call, ↓n_normal, ↓n_ret, ↓n_exit, ↓b_normal, ↓b_ret, ↓b_exit, ↓e_normal, ↓e_ret, e_some, go_sem, ↓reduceIte, Nat.reduceEqDiff, Nat.reduceLT, Nat.reduceSub, A_law11_OrderRows_0, A_law11_OrderRows_1, A_law11_OrderRows_2, A_law11_OrderRows_3, A_law11_OrderRows_4, A_law11_OrderRows_5, A_law11_OrderRows_6, A_law11_OrderRows_7, A_law11_OrderRows_8, A_law11_OrderRows_9, A_law11_OrderRows_10, A_law11_OrderRows_11, A_law11_OrderRows_12, A_law11_OrderRows_14, A_law11_OrderRows_15, A_law11_OrderRows_16, A_law11_OrderRows_17, A_law11_OrderRows_18, A_law11_OrderRows_19, A_law11_OrderRows_20, A_law11_OrderRows_21, A_law11_OrderRows_22, A_law11_OrderRows_23, A_law11_OrderRows_24, A_law11_OrderRows_25, A_law11_OrderRows_26, A_law11_OrderRows_27, A_law11_OrderRows_29, A_law11_OrderRows_31, ne_eq, not_true_eq_false, decide_false]
      have hX6 : SlR elSb M6 x ls := hX4.keep fun b hb => hG6.old b (hltX b hb)
      have hS6 : SlR elSb M6 s ls := hS4.keep fun b hb => hG6.old b (hltS b hb)
      refine before_loop x s ls (by omega) hk M6 hX6 hS6 (fun b hb => Nat.lt_of_lt_of_le (hltX b hb) hG6.next) (fun b hb => Nat.lt_of_lt_of_le (hltS b hb) hG6.next) (x1 := .int .i64 at_) (x2 := .int .i64 n) (x11 := w) ?_ ls.length 0 _ M6 (by omega) (Grew.refl _) ?_ ?_ ?_ ?_ ?_ ?_
      · intro fr M7 hG7 f0 f1 f2 f11
        have hG47 := hG6.trans hG7
        obtain ⟨aw, cw, ew⟩ := hH4.shape
        have hw1 : w.one = true := by rw [ew]; rfl
        have hfill : fillCells [.slice none 0 (.exact 0), .slice none 0 (.exact 0)] [(0, 1, s), (1, 1, w)] = some [s, w] := by
          obtain ⟨as', cs', es', _⟩ := hs
          rw [es', ew]
          rfl
        simp -dsimp only [↓w_seq, ↓w_ops, ↓w_skip, ↓w_ret, ↓w_exit, ↓w_scope, ↓w_block, ↓w_cond, cond_true', cond_false', ↓t_nil, ↓t_plain, ↓t_guard, ↓t_again, t_val, t_call, g_true, g_false, a_val, a_call, ↓n_normal, ↓n_ret, ↓n_exit, ↓b_normal, ↓b_ret, ↓b_exit, ↓e_normal, ↓e_ret, e_some, go_sem, ↓reduceIte, Nat.reduceEqDiff, Nat.reduceLT, Nat.reduceSub, A_law11_OrderRows_0, A_law11_OrderRows_1, A_law11_OrderRows_2, A_law11_OrderRows_3, A_law11_OrderRows_4, A_law11_OrderRows_5, A_law11_OrderRows_6, A_law11_OrderRows_7, A_law11_OrderRows_8, A_law11_OrderRows_9, A_law11_OrderRows_10, A_law11_OrderRows_11, A_law11_OrderRows_12, A_law11_OrderRows_14, A_law11_OrderRows_15, A_law11_OrderRows_16, A_law11_OrderRows_17, A_law11_OrderRows_18, A_law11_OrderRows_19, A_law11_OrderRows_20, A_law11_OrderRows_21, A_law11_OrderRows_22, A_law11_OrderRows_23, A_law11_OrderRows_24, A_law11_OrderRows_25, A_law11_OrderRows_26, A_law11_OrderRows_27, A_law11_OrderRows_29, A_law11_OrderRows_31, f0, f1, f2, f11, fillCells, hfill]
        have hG8 : Grew M4 (M7.push (.cells [s, w] false)) := hG47.trans (Grew.push _ _)
        refine rows_loop s w ls (isort ltSb ls) at_ n M7.next (M7.push (.cells [s, w] false)) hle (by omega) hk hXk (hS4.keep fun b hb => hG8.old b (hltS b hb)) (hW4.keep fun b hb => hG8.old b (hltW b hb)) (fun b hb => Nat.lt_of_lt_of_le (hltS b hb) hG8.next) (fun b hb => Nat.lt_of_lt_of_le (hltW b hb) hG8.next) (by simp) (Mem.get_push_same _ _) ?_ 2 0 _ _ rfl (Grew.refl _) ?_ ?_ ?_ ?_
        · intro fr' M9
          simp -dsimp only [↓w_seq, ↓w_ops, ↓w_skip, ↓w_ret, ↓w_exit, ↓w_scope, ↓w_block, ↓w_cond, cond_true', cond_false', ↓t_nil, ↓t_plain, ↓t_guard, ↓t_again, t_val, t_call, g_true, g_false, a_val, a_call, ↓n_normal, ↓n_ret, ↓n_exit, ↓b_normal, ↓b_ret, ↓b_exit, ↓e_normal, ↓e_ret, e_some, go_sem, ↓reduceIte, Nat.reduceEqDiff, Nat.reduceLT, Nat.reduceSub, A_law11_OrderRows_0, A_law11_OrderRows_1, A_law11_OrderRows_2, A_law11_OrderRows_3, A_law11_OrderRows_4, A_law11_OrderRows_5, A_law11_OrderRows_6, A_law11_OrderRows_7, A_law11_OrderRows_8, A_law11_OrderRows_9, A_law11_OrderRows_10, A_law11_OrderRows_11, A_law11_OrderRows_12, A_law11_OrderRows_14, A_law11_OrderRows_15, A_law11_OrderRows_16, A_law11_OrderRows_17, A_law11_OrderRows_18, A_law11_OrderRows_19, A_law11_OrderRows_20, A_law11_OrderRows_21, A_law11_OrderRows_22, A_law11_OrderRows_23, A_law11_OrderRows_24, A_law11_OrderRows_25, A_law11_OrderRows_26, A_law11_OrderRows_27, A_law11_OrderRows_29, A_law11_OrderRows_31]
          refine call_eq (knows_runs _) ?_
          simp -dsimp only [↓w_seq, ↓w_ops, ↓w_skip, ↓w_ret, ↓w_exit, ↓w_scope, ↓w_block, ↓w_cond, cond_true', cond_false', ↓t_nil, ↓t_plain, ↓t_guard, ↓t_again, t_val, t_call, g_true, g_false, a_val, a_call, ↓n_normal, ↓n_ret, ↓n_exit, ↓b_normal, ↓b_ret, ↓b_exit, ↓e_normal, ↓e_ret, e_some, go_sem, ↓reduceIte, Nat.reduceEqDiff, Nat.reduceLT, Nat.reduceSub, A_law11_OrderRows_0, A_law11_OrderRows_1, A_law11_OrderRows_2, A_law11_OrderRows_3, A_law11_OrderRows_4, A_law11_OrderRows_5, A_law11_OrderRows_6, A_law11_OrderRows_7, A_law11_OrderRows_8, A_law11_OrderRows_9, A_law11_OrderRows_10, A_law11_OrderRows_11, A_law11_OrderRows_12, A_law11_OrderRows_14, A_law11_OrderRows_15, A_law11_OrderRows_16, A_law11_OrderRows_17, A_law11_OrderRows_18, A_law11_OrderRows_19, A_law11_OrderRows_20, A_law11_OrderRows_21, A_law11_OrderRows_22, A_law11_OrderRows_23, A_law11_OrderRows_24, A_law11_OrderRows_25, A_law11_OrderRows_26, A_law11_OrderRows_27, A_law11_OrderRows_29, A_law11_OrderRows_31]
        all_goals simp only [go_sem, ↓reduceIte, Nat.reduceEqDiff, Nat.reduceLT, Nat.reduceSub, f1, f2]
        rfl
      all_goals simp only [go_sem, ↓reduceIte, Nat.reduceEqDiff, Nat.reduceLT, Nat.reduceSub]
      all_goals rfl
end Go.Am.Try

/- The row: slices of flat elements handed in; a law's run from memory in which they stand. -/
namespace Go.Am
open Go Go.RowKit Go.ChangeShapes Go.WideShapes

/-! ### memory that is only read -/
/-- Blocks only read: their cells; where they stand in the world. -/
abbrev Env := List (List V × Nat × Nat × Nat)
def Env.mem : Env → Mem
  | l => l.foldl (fun M x => M.push (.cells x.1 true)) mem0
def Env.emb (l : Env) : Emb := fun b => l[b]?.map (·.2)
def Env.ok (l : Env) (w : World) : Prop := ∀ x ∈ l, ∃ arr elem fz, w.heap[x.2.1]? = some (.cells arr elem fz) ∧ (∀ E, CR E x.1 arr x.2.2.1) ∧ x.2.2.1 + x.2.2.2 = arr.size

theorem env_fold : ∀ (l : Env) (M : Mem), (∀ b, M.next ≤ b → M.get b = none) →
    (l.foldl (fun M x => M.push (.cells x.1 true)) M).next = M.next + l.length ∧ (∀ b, b < M.next → (l.foldl (fun M x => M.push (.cells x.1 true)) M).get b = M.get b) ∧
    (∀ i, (l.foldl (fun M x => M.push (.cells x.1 true)) M).get (M.next + i) = l[i]?.map fun x => .cells x.1 true)
  | [], M, hM => ⟨rfl, fun _ _ => rfl, fun i => by simpa using hM _ (by omega)⟩
  | x :: l, M, hM => by
    have h1 : ∀ b, (M.push (.cells x.1 true)).next ≤ b → (M.push (.cells x.1 true)).get b = none := fun b hb => by
      rw [Mem.next_push] at hb
      rw [Mem.get_push_ne _ _ (by omega)]
      exact hM b (by omega)
    obtain ⟨a, b, c⟩ := env_fold l (M.push (.cells x.1 true)) h1
    simp only [List.foldl_cons]
    refine ⟨by rw [a, Mem.next_push, List.length_cons]; omega, fun d hd => ?_, fun i => ?_⟩
    · rw [b d (by rw [Mem.next_push]; omega), Mem.get_push_ne _ _ (by omega)]
    · cases i with
      | zero => rw [Nat.add_zero, b _ (by rw [Mem.next_push]; omega), Mem.get_push_same]; rfl
      | succ i =>
        have := c i
        rw [Mem.next_push] at this
        rw [show M.next + (i + 1) = M.next + 1 + i from by omega, this]
        rfl
theorem Env.next_mem (l : Env) : l.mem.next = l.length := by
  have := (env_fold l mem0 (fun b _ => rfl)).1
  simpa [Env.mem, mem0] using this
theorem Env.get_mem (l : Env) (i : Nat) : l.mem.get i = l[i]?.map fun x => .cells x.1 true := by
  have := (env_fold l mem0 (fun b _ => rfl)).2.2 i
  simpa [Env.mem, mem0] using this

theorem Env.rel {l : Env} {w : World} (h : l.ok w) : Rel l.emb l.mem w := by
  have hat : ∀ b c d k, l.emb b = some (c, d, k) → ∃ x, l[b]? = some x ∧ x.2 = (c, d, k) := fun b c d k hb => by
    simp only [Env.emb, Option.map_eq_some_iff] at hb
    exact hb
  refine ⟨fun b c d k hb => ?_, fun b c d k hb => ?_, fun b b' c d k d' k' hb _ ho _ => ?_, fun b hb => ?_⟩
  · obtain ⟨⟨cs, c', d', k'⟩, hx, he⟩ := hat b c d k hb
    cases he
    obtain ⟨arr, elem, fz, h1, h2, h3⟩ := h _ (List.mem_of_getElem? hx)
    exact ⟨.cells cs true, by rw [l.get_mem, hx]; rfl, arr, elem, fz, h1, h2 _, h3, fun hf => by cases hf⟩
  · obtain ⟨⟨cs, c', d', k'⟩, hx, he⟩ := hat b c d k hb
    cases he
    obtain ⟨arr, elem, fz, h1, _⟩ := h _ (List.mem_of_getElem? hx)
    exact (Array.getElem?_eq_some_iff.mp h1).1
  · obtain ⟨x, hx, _⟩ := hat b c d k hb
    have : l.mem.get b = some (.cells x.1 true) := by rw [l.get_mem, hx]; rfl
    simp only [own, this] at ho
  · rw [l.next_mem] at hb
    rw [l.get_mem, List.getElem?_eq_none hb]
    rfl

/-- A law that is true, of arguments some of which are only read. -/
theorem law_env {P : Program} {gl : Nat → Bool} {D : Decls} (hD : DOK P gl D) (hg : ∀ x, gl x = false) {f : FuncId} {args : List V} {args' : Array Value} {w : World} {l : Env} (hl : l.ok w) (hA : VRs l.emb args args'.toList) (h : Runs D f args l.mem fun v _ => v = .bool true) :
    Calls P f args' w fun e w' => e = .returned (.bool true) ∧ Below w.heap.size w w' := by
  obtain ⟨k, v, M', hr, rfl⟩ := h
  obtain ⟨_, hs⟩ := callN_sound hD k f args l.mem _ M' hr
  refine (hs l.emb w args' (Env.rel hl) (fun x hx => by rw [hg x] at hx; cases hx) hA).mono fun e w' ⟨E', v', he, hv', _, hX⟩ => ?_
  cases hv'
  refine ⟨he, hX.os, hX.tape, hX.output, hX.size, fun c hc => hX.keep c hc fun b d k hb => ?_⟩
  simp only [Env.emb, Option.map_eq_some_iff] at hb
  obtain ⟨x, hx, _⟩ := hb
  exact ⟨_, by rw [l.get_mem, hx]; rfl, rfl⟩

/-! ### what is read of a slice -/
theorem flat_at {arr : Array Value} {es : Nat} : ∀ (rows : List (List Value)) (off : Nat), (∀ r ∈ rows, r.length = es) → (∀ i (h : i < rows.length), ∀ j, j < es → arr[off + i * es + j]? = rows[i][j]?) → ∀ (j : Nat) (u : Value), rows.flatten[j]? = some u → arr[off + j]? = some u
  | [], _, _, _, j, u, h => by simp at h
  | r :: rs, off, hr, ha, j, u, h => by
    have hrl := hr r (List.mem_cons_self ..)
    rw [List.flatten_cons] at h
    rcases Nat.lt_or_ge j es with hj | hj
    · rw [List.getElem?_append_left (by omega)] at h
      have := ha 0 (by simp) j hj
      rw [Nat.zero_mul, Nat.add_zero] at this
      rw [this]
      exact h
    · rw [List.getElem?_append_right (by omega), hrl] at h
      have := flat_at rs (off + es) (fun r hr' => hr r (List.mem_cons_of_mem _ hr')) (fun i hi j hj => by
        have := ha (i + 1) (by simp; omega) j hj
        rw [List.getElem_cons_succ] at this
        rw [← this]
        congr 1
        rw [Nat.add_mul]; omega) (j - es) u h
      rw [← this]
      congr 1
      omega

section
variable {H : Type} {enc : TypeId × Value → H} {P : Program} {W : World}

theorem cells_at {w : World} {a : Addr} {n : Nat} {cs : List Value} (h : w.cells? 0 a n = some cs) : cs.length = n ∧ ∀ i, i < n → w.cell? (a.add i) = cs[i]? := by
  unfold World.cells? at h
  rw [if_pos (Nat.zero_le _)] at h
  have hl := mapM_some_length h
  rw [List.length_range] at hl
  refine ⟨hl, fun i hi => ?_⟩
  have := mapM_some_get h i i (by rw [List.getElem?_range hi])
  exact this

theorem cells_keep {w w' : World} (hb : ∀ c, c < w.heap.size → w'.heap[c]? = w.heap[c]?) {a : Addr} {n : Nat} {cs : List Value} (hn : 0 < n) (h : w.cells? 0 a n = some cs) : w'.cells? 0 a n = some cs ∧ a.block < w.heap.size := by
  obtain ⟨hl, hc⟩ := cells_at h
  have h0 := hc 0 hn
  rw [List.getElem?_eq_getElem (by omega)] at h0
  have hlt : a.block < w.heap.size := by
    unfold World.cell? at h0
    split at h0
    · rename_i c _ _ hh
      have := (Array.getElem?_eq_some_iff.mp hh).1
      simpa [Addr.add] using this
    · cases h0
  refine ⟨?_, hlt⟩
  rw [← h]
  unfold World.cells?
  rw [if_pos (Nat.zero_le _), if_pos (Nat.zero_le _)]
  congr 1
  funext i
  unfold World.cell?
  have : (a.add i).block = a.block := by unfold Addr.add; split <;> rfl
  rw [this, hb _ hlt]

theorem add_spec {a : Addr} (hs : a.spot = none) (n : Nat) : a.add n = ⟨a.block, a.off + n, none⟩ := by
  unfold Addr.add
  split
  · rename_i h
    subst h
    obtain ⟨b, o, s⟩ := a
    simp only at hs
    subst hs
    rfl
  · rfl

theorem ok_slice {r : Reach} {t e : TypeId} {b0 : Nat} {v : Value} (hu : P.underlying t = some (.slice e)) (hok : Cell.ok P W r b0 t v) : v = .slice none 0 0 ∨ ∃ a len cap, v = .slice (some a) len cap ∧ len ≤ cap ∧ W.has P r b0 a e cap := by
  unfold Cell.ok at hok
  rw [hu] at hok
  split at hok
  all_goals first | (rename_i hh; cases hh; done) | (rename_i hh _; cases hh; done) | skip
  · exact .inl rfl
  · rename_i e' a len cap he
    cases he
    exact .inr ⟨a, len, cap, rfl, hok.1, hok.2.2⟩
  · exact hok.elim

/-- A slice of flat elements handed in: nil, or the elements, where they stand, and its reading behind a run that keeps what was. -/
theorem open_rows {α : Type} (el : Elem α) {t e : TypeId} {ks : List CK} {n b0 : Nat} {v : Value} {d : DataW H} {p : List MemPlace} (hu : P.underlying t = some (.slice e)) (hk : shape P n e = some ks) (hc : P.cellsOf e = el.k)
    (hfit : ∀ r, Fits ks r → ∃ x, el.enc x = r) (hv : Value.okWide P W .any b0 t v) (h : DataW.Trod enc P W 0 (fun _ => true) true t v d p) :
    (∀ W', Below W.heap.size W W' → DataW.Trod enc P W' 0 (fun b => decide (b < W.heap.size)) true t v d p) ∧
    (v = .slice none 0 0 ∨ ∃ (a : Addr) (len cap : Nat) (xs : List α) (c o k : Nat), v = .slice (some a) len cap ∧ len ≤ cap ∧ cap ≤ maxLen ∧ xs.length = cap ∧ (∀ r ∈ xs, Fits ks (el.enc r)) ∧ Env.ok [(el.all xs, c, o, k)] W ∧
      ∀ E b, E b = some (c, o, k) → VR E (.slice (some (b, 0)) len (.exact cap)) v) := by
  have hkp := el.k_pos
  obtain ⟨fuel, hf⟩ := h
  have hok : Cell.ok P W .any b0 t v := by
    have := hv
    unfold Value.okWide Cell.okWide at this
    rw [hu] at this
    exact this
  rcases ok_slice hu hok with rfl | ⟨a, len, cap, rfl, hlc, hhas⟩
  · rcases Go.Deep.open_slice hu hf with ⟨_, hx⟩ | ⟨a, len, cap, m, n', D, Pl, he, _⟩
    · cases hx
      exact ⟨fun W' _ => shut_slice_nil hu, .inl rfl⟩
    · simp [Value.cells] at he
  · obtain ⟨_, hspot, row, ncells, hsh, _⟩ := hhas
    have hblk : ∃ arr fz, W.heap[a.block]? = some (.cells arr row fz) := by
      unfold World.shape? at hsh
      split at hsh
      · rename_i c el' fz hh
        cases hsh
        exact ⟨c, fz, hh⟩
      · cases hsh
    obtain ⟨arr, fz, harr⟩ := hblk
    have hlt : a.block < W.heap.size := (Array.getElem?_eq_some_iff.mp harr).1
    rcases Go.Deep.open_slice hu hf with ⟨he, _⟩ | ⟨a', len', cap', m, n', D, Pl, he, _, _, hcm, hm, hx, hall⟩
    · simp [Value.cells] at he
    · simp only [Value.cells, List.cons.injEq, Value.slice.injEq, Option.some.injEq, and_true] at he
      obtain ⟨rfl, rfl, rfl⟩ := he
      simp only [if_true] at hm
      subst hm
      rw [hc] at hall
      refine ⟨fun W' bel => ?_, .inr ?_⟩
      · obtain ⟨k, hk'⟩ := Go.Deep.shut_slice_whole_cells (enc := enc) (w := W') (base := 0) (spare := fun b => decide (b < W.heap.size)) (held := true) hu (Nat.zero_le _) hlc hcm (by simpa using hlt) D Pl (fun i hi => by
          rw [hc]
          obtain ⟨cs', h1, h2⟩ := hall i hi
          exact ⟨cs', n', (cells_keep bel.block hkp h1).1, (flat_trod n e ks hk n' cs' _ h2).2.2 _ _ _⟩)
        refine ⟨k, ?_⟩
        rw [hx]
        exact hk'
      · have hX : ∀ i : Fin m, ∃ x : α, W.cells? 0 (a.add (i.1 * el.k)) el.k = some (el.enc x) ∧ Fits ks (el.enc x) := fun i => by
          obtain ⟨cs', h1, h2⟩ := hall i.1 i.2
          have hf' := (flat_trod n e ks hk n' cs' _ h2).1
          obtain ⟨x, rfl⟩ := hfit _ hf'
          exact ⟨x, h1, hf'⟩
        obtain ⟨X, hX⟩ := Classical.axiomOfChoice hX
        have hat : ∀ i (h : i < m) j, j < el.k → arr[a.off + i * el.k + j]? = (el.enc (X ⟨i, h⟩))[j]? := fun i h j hj => by
          obtain ⟨_, h2⟩ := cells_at (hX ⟨i, h⟩).1
          rw [← h2 j hj, add_spec hspot, add_spec rfl]
          unfold World.cell?
          simp only [harr]
          rfl
        have hflat : ∀ j u, (el.encs (List.ofFn X))[j]? = some u → arr[a.off + j]? = some u := fun j u hu' => by
          refine flat_at (es := el.k) ((List.ofFn X).map el.enc) a.off ?_ ?_ j u ?_
          · intro r hr
            obtain ⟨x, _, rfl⟩ := List.mem_map.mp hr
            exact el.elen x
          · intro i hi j' hj'
            have hi' : i < m := by simpa using hi
            rw [hat i hi' j' hj']
            simp
          · rw [← List.flatMap_def]; exact hu'
        have hfits : ∀ r ∈ List.ofFn X, Fits ks (el.enc r) := fun r hr => by
          obtain ⟨i, rfl⟩ := List.mem_ofFn.mp hr
          exact (hX i).2
        rcases Nat.eq_zero_or_pos m with hz | hz
        · subst hz
          have hl0 : len = 0 := by omega
          subst hl0
          refine ⟨a, 0, 0, [], a.block, 0, arr.size, rfl, Nat.le_refl _, hcm, rfl, fun r hr => absurd hr (by simp), ?_, fun E b hb => .sliceZero hb hspot rfl⟩
          intro x hx'
          simp only [List.mem_singleton] at hx'
          subst hx'
          exact ⟨arr, row, fz, harr, fun E i v hv => by simp [Elem.all] at hv, by simp⟩
        · have hoff : a.off < arr.size := by
            have h0 := hat 0 hz 0 hkp
            rw [List.getElem?_eq_getElem (by rw [el.elen]; exact hkp)] at h0
            have := (Array.getElem?_eq_some_iff.mp h0).1
            omega
          refine ⟨a, len, m, List.ofFn X, a.block, a.off, arr.size - a.off, rfl, hlc, hcm, by simp, hfits, ?_, fun E b hb => ?_⟩
          · intro x hx'
            simp only [List.mem_singleton] at hx'
            subst hx'
            refine ⟨arr, row, fz, harr, fun E i v hv => ?_, by simp only; omega⟩
            obtain ⟨u, hu', hr⟩ := VRs.get (el.rels E (List.ofFn X)) i v hv
            exact ⟨u, hflat i u hu', hr⟩
          · have : a = ⟨a.block, a.off + 0, none⟩ := by rw [← add_spec hspot 0]; rfl
            rw [this]
            exact .slice hb rfl hlc
end
end Go.Am
