/- The machine and what is proved of its runs, part 7: what each part says stands at its head. -/
import Derived.Test.YtefigbdkennhaaaGreatDoorJ6
import Derived.Test.YtefigbdkennhaaaGreatDoorRows
import Derived.WalkKit
import Derived.ProofKit
import Derived.OpenShut
import Derived.Below
import Derived.LaidMore
import Derived.Stop.Joined
import Derived.SevenTiedAt
set_option linter.unusedSimpArgs false
set_option linter.unusedVariables false
set_option linter.unusedSectionVars false
/- slices.Insert over a graph's entries: its runs. -/
namespace Go.Am.Tryz.O
open Go Go.Am Go.Proofs Go.Sort Go.Shelf
set_option maxRecDepth 100000
set_option linter.unusedSimpArgs false
set_option linter.unusedVariables false

theorem sl_both (b o len e c : Nat) (lo hi : Option Nat) (h1 : hi.getD len ≤ c) (h2 : lo.getD 0 ≤ hi.getD len) (h3 : lo.getD 0 + 1 ≤ c) : vslice e (.slice (some (b, o)) len (.both e c)) lo hi none = some (.slice (some (b, o + lo.getD 0 * e)) (hi.getD len - lo.getD 0) (.both e (c - lo.getD 0))) := by
  simp only [vslice, Nat.beq_refl, cond_true, ble_iff, decide_eq_true h1, decide_eq_true h2, decide_eq_true h3]
theorem sl_upto (b o len e : Nat) (lo hi : Option Nat) (h1 : hi.getD len ≤ len) (h2 : lo.getD 0 ≤ hi.getD len) : vslice e (.slice (some (b, o)) len (.upto e)) lo hi none = some (.slice (some (b, o + lo.getD 0 * e)) (hi.getD len - lo.getD 0) (.upto e)) := by
  simp only [vslice, Nat.beq_refl, cond_true, ble_iff, decide_eq_true h1, decide_eq_true h2]
theorem copy_upto {es m len k b o e : Nat} {M M' : Mem} {x : V} {new : List V} (hm : srcLen x = some m) (hk : Nat.min m len = k) (h0 : k ≠ 0) (hs : srcCells es M k x = some new) (hw : M.write b o new = some M') : vcopy es M (.slice (some (b, o)) len (.upto e)) x = some (.int .i64 k, M') := by
  simp only [vcopy, hm, Option.bind_some, hk, beq_dec, decide_eq_false h0, cond_false, hs, hw, Option.map_some]
theorem copy_both {es m len k b o c : Nat} {M M' : Mem} {x : V} {new : List V} (hm : srcLen x = some m) (hk : Nat.min m len = k) (h0 : k ≠ 0) (hs : srcCells es M k x = some new) (hw : M.writeG b o new (o + c * es) = some M') : vcopy es M (.slice (some (b, o)) len (.both es c)) x = some (.int .i64 k, M') := by
  simp only [vcopy, hm, Option.bind_some, hk, beq_dec, decide_eq_false h0, cond_false, hs, hw, Option.map_some, decide_true, cond_true]
/-- What the insertion comes to, wherever the row lies. -/
def InsTo (M : Mem) (b n : Nat) (c : Nat) (row : List (List V)) (v : V) (M' : Mem) : Prop :=
  ∃ q cap, v = .slice (some (q, 0)) (n + 1) cap ∧ (cap = .upto 16 ∨ cap = .both 16 c) ∧ (q = b ∨ M.next ≤ q) ∧ M'.get q = some (.cells row.flatten false) ∧ (∀ y, y < M.next → y ≠ b → M'.get y = M.get y)
def zeroE : List V := [.int .i64 0, .int .i64 0, .int .i64 0, .int .i64 0, .int .i64 0, .int .i64 0, .int .i64 0, .str [], .slice none 0 (.exact 0), .int .i64 0, .int .i64 0, .int .i64 0, .str [], .bool false, .bool false, .nilFn]
set_option maxHeartbeats 1000000 in
theorem Insert_mid (M : Mem) (b vb c i : Nat) (xs : List (List V)) (x : List V) (hb : M.get b = some (.cells xs.flatten false)) (hv : M.get vb = some (.cells x false)) (hx : x.length = 16) (hx1 : allOne x = true) (hxs : Rows 16 xs) (hi : i < xs.length) (hc : xs.length ≤ c) (hroom : (xs.length + 1) * 160 ≤ maxRoom) (hvb : vb ≠ b) (lb : b < M.next) (lv : vb < M.next) :
    XRuns Tryz.prog gl0 F_slices_Insert_entry [.slice (some (b, 0)) xs.length (.both 16 c), .int .i64 (i : Int), .slice (some (vb, 0)) 1 (.exact 1)] M (InsTo M b xs.length c (xs.take i ++ (x :: xs.drop i))) := by
  have hmx : maxRoom = 17592186044416 := rfl
  refine XRuns.walk mixed Tryz.func62 b_slices_Insert_entry n_slices_Insert_entry r_slices_Insert_entry (by rfl) ?_
  unfold X_slices_Insert_entry
  have hR1 : Rows 16 [x] := Rows.one hx hx1
  have e0 : ¬ ((1 : Nat) : Int) = 0 := by decide
  have e1 : ¬ (i : Int) = (xs.length : Int) := by omega
  have e2 : (xs.length : Int) + ((1 : Nat) : Int) = ((xs.length + 1 : Nat) : Int) := by omega
  have e3 : (i : Int) + ((1 : Nat) : Int) = ((i + 1 : Nat) : Int) := by omega
  have e4 : ((xs.length + 1 : Nat) : Int) - (i : Int) = ((xs.length + 1 - i : Nat) : Int) := by omega
  have s1 : vslice 16 (.slice (some (b, 0)) xs.length (.both 16 c)) (some i) none none = some (.slice (some (b, i * 16)) (xs.length - i) (.both 16 (c - i))) := by
    rw [sl_both _ _ _ _ _ _ _ (by simp; omega) (by simp; omega) (by simp; omega)]; simp
  have w2 := IntWalk.i64_in ((xs.length + 1 : Nat) : Int) (by omega)
  have w3 := IntWalk.i64_in ((i + 1 : Nat) : Int) (by omega)
  have w4 := IntWalk.i64_in ((xs.length + 1 - i : Nat) : Int) (by omega)
  have hxd := Rows.drop hxs i
  have hxt := Rows.take hxs i
  have hsplit : xs = xs.take i ++ xs.drop i := (List.take_append_drop i xs).symm
  have hlt : (xs.take i).length = i := by rw [List.length_take]; omega
  have hld : (xs.drop i).length = xs.length - i := by rw [List.length_drop]
  have srcv : ∀ M' : Mem, M'.get vb = some (.cells x false) → srcCells 16 M' 1 (.slice (some (vb, 0)) 1 (.exact 1)) = some x := fun M' h => by
    have := read_all h
    rw [hx] at this
    simp only [srcCells, beq_dec, Nat.one_mul, Nat.reduceEqDiff, decide_false, cond_false]
    exact this
  simp -dsimp only [↓x_seq', ↓x_ops, ↓x_skip, ↓x_ret, ↓x_exit, ↓x_block', ↓x_cond', cond_true', cond_false', ↓i_nil, ↓i_plain, ↓i_guard, xs_val, xs_call, xs_yield, xg_true, xg_false, ↓n_normal, ↓n_ret, ↓n_exit, ↓b_normal, ↓b_ret, ↓b_exit, ↓xe_normal, ↓xe_ret, e_some, yieldOf, go_sem, ↓reduceIte, Nat.reduceEqDiff, Nat.reduceLT, Nat.reduceSub, X_slices_Insert_entry_0, X_slices_Insert_entry_1, X_slices_Insert_entry_2, X_slices_Insert_entry_3, X_slices_Insert_entry_5, X_slices_Insert_entry_6, X_slices_Insert_entry_8, as_nat_cast, Option.map_some, Option.map_none, Option.bind_some, Option.bind_none, id, s1, vof, e0, e1, e2, w2, decide_false]
  by_cases hr : c < xs.length + 1
  · have hr' : (c : Int) < ((xs.length + 1 : Nat) : Int) := by omega
    have s2 : vslice 16 (.slice (some (b, 0)) xs.length (.both 16 c)) none (some i) none = some (.slice (some (b, 0)) i (.both 16 c)) := by
      rw [sl_both _ _ _ _ _ _ _ (by simp; omega) (by simp) (by simp; omega)]; simp
    have hold : (cond (Nat.beq i 0) (some []) ((some (b, 0)).bind fun p => M.read p.1 p.2 (i * 16)) : Option (List V)) = some (xs.take i).flatten := by
      rw [beq_dec]
      by_cases h0 : i = 0
      · subst h0; simp
      · rw [decide_eq_false h0]
        have := read_rows' (M := M) (b := b) (ro := false) (A := []) (W := xs.take i) (D := xs.drop i) (by simpa [← hsplit] using hb) (Rows.nil 16) hxt
        rw [hlt] at this
        simpa using this
    have happ : vappendZ 16 160 zeroE M (.slice (some (b, 0)) i (.both 16 c)) (xs.length + 1 - i) = some (.slice (some (M.next, 0)) (xs.length + 1) (.upto 16), M.push (.cells ((xs.take i).flatten ++ repl (xs.length + 1 - i) zeroE) false)) := by
      simp only [vappendZ, hold, ble_iff]
      rw [show i + (xs.length + 1 - i) = xs.length + 1 from by omega, decide_eq_true (by omega), decide_eq_true hroom, beq_dec, decide_eq_false (by omega)]
      rfl
    simp only [zeroE] at happ
    simp -dsimp only [↓x_seq', ↓x_ops, ↓x_skip, ↓x_ret, ↓x_exit, ↓x_block', ↓x_cond', cond_true', cond_false', ↓i_nil, ↓i_plain, ↓i_guard, xs_val, xs_call, xs_yield, xg_true, xg_false, ↓n_normal, ↓n_ret, ↓n_exit, ↓b_normal, ↓b_ret, ↓b_exit, ↓xe_normal, ↓xe_ret, e_some, yieldOf, go_sem, ↓reduceIte, Nat.reduceEqDiff, Nat.reduceLT, Nat.reduceSub, hr', decide_true, X_slices_Insert_entry_9, as_nat_cast, Option.map_some, Option.map_none, Option.bind_some, Option.bind_none, id, s2, vof, e2, w2, e4, w4, happ]
    have hz : (xs.take i).flatten ++ repl (xs.length + 1 - i) zeroE = (xs.take i ++ ([zeroE] ++ List.replicate (xs.length - i) zeroE)).flatten := by
      rw [repl_rows, show xs.length + 1 - i = (xs.length - i) + 1 from by omega, List.replicate_succ]
      simp
    simp only [zeroE] at hz
    rw [hz]
    have hRz : Rows 16 [zeroE] := Rows.one rfl rfl
    have hRr : Rows 16 (List.replicate (xs.length - i) zeroE) := fun y hy => by rw [List.eq_of_mem_replicate hy]; exact ⟨rfl, rfl⟩
    have g1 : (M.push (.cells (xs.take i ++ ([zeroE] ++ List.replicate (xs.length - i) zeroE)).flatten false)).get M.next = some (.cells (xs.take i ++ ([zeroE] ++ List.replicate (xs.length - i) zeroE)).flatten false) := Mem.get_push_same _ _
    have hG1 := Grew.push M (.cells (xs.take i ++ ([zeroE] ++ List.replicate (xs.length - i) zeroE)).flatten false)
    have hn1 : (M.push (.cells (xs.take i ++ ([zeroE] ++ List.replicate (xs.length - i) zeroE)).flatten false)).next = M.next + 1 := rfl
    simp only [zeroE] at g1 hG1 hn1 hRz hRr
    generalize M.push (.cells (xs.take i ++ ([[V.int .i64 0, .int .i64 0, .int .i64 0, .int .i64 0, .int .i64 0, .int .i64 0, .int .i64 0, .str [], .slice none 0 (.exact 0), .int .i64 0, .int .i64 0, .int .i64 0, .str [], .bool false, .bool false, .nilFn]] ++ List.replicate (xs.length - i) [V.int .i64 0, .int .i64 0, .int .i64 0, .int .i64 0, .int .i64 0, .int .i64 0, .int .i64 0, .str [], .slice none 0 (.exact 0), .int .i64 0, .int .i64 0, .int .i64 0, .str [], .bool false, .bool false, .nilFn])).flatten false) = M1 at *
    generalize hzz : ([V.int .i64 0, .int .i64 0, .int .i64 0, .int .i64 0, .int .i64 0, .int .i64 0, .int .i64 0, .str [], .slice none 0 (.exact 0), .int .i64 0, .int .i64 0, .int .i64 0, .str [], .bool false, .bool false, .nilFn] : List V) = z at *
    have w1' := write_rows' (W' := [x]) g1 hxt hRz hR1 hRr rfl
    rw [hlt, show ([x] : List (List V)).flatten = x from by simp] at w1'
    have s3 : vslice 16 (.slice (some (M.next, 0)) (xs.length + 1) (.upto 16)) (some i) none none = some (.slice (some (M.next, i * 16)) (xs.length + 1 - i) (.upto 16)) := by
      rw [sl_upto _ _ _ _ _ _ (by simp) (by simp; omega)]; simp
    have c1 := copy_upto (e := 16) (len := xs.length + 1 - i) (x := .slice (some (vb, 0)) 1 (.exact 1)) rfl (show Nat.min 1 (xs.length + 1 - i) = 1 from by show min 1 _ = 1; omega) (by decide) (srcv M1 ((hG1.old _ lv).trans hv)) w1'
    simp -dsimp only [↓x_seq', ↓x_ops, ↓x_skip, ↓x_ret, ↓x_exit, ↓x_block', ↓x_cond', cond_true', cond_false', ↓i_nil, ↓i_plain, ↓i_guard, xs_val, xs_call, xs_yield, xg_true, xg_false, ↓n_normal, ↓n_ret, ↓n_exit, ↓b_normal, ↓b_ret, ↓b_exit, ↓xe_normal, ↓xe_ret, e_some, yieldOf, go_sem, ↓reduceIte, Nat.reduceEqDiff, Nat.reduceLT, Nat.reduceSub, X_slices_Insert_entry_10, as_nat_cast, Option.map_some, Option.map_none, Option.bind_some, Option.bind_none, id, s3, vof, c1]
    have g2 := Mem.get_set_same M1 M.next (.cells (xs.take i ++ ([x] ++ List.replicate (xs.length - i) z)).flatten false)
    have k2 : ∀ y, y ≠ M.next → (M1.set M.next (.cells (xs.take i ++ ([x] ++ List.replicate (xs.length - i) z)).flatten false)).get y = M1.get y := fun y hy => Mem.get_set_ne _ _ hy
    generalize M1.set M.next (.cells (xs.take i ++ ([x] ++ List.replicate (xs.length - i) z)).flatten false) = M2 at *
    refine x_dops dok2 ?_
    have s4 : vslice 16 (.slice (some (M.next, 0)) (xs.length + 1) (.upto 16)) (some (i + 1)) none none = some (.slice (some (M.next, (i + 1) * 16)) (xs.length - i) (.upto 16)) := by
      rw [sl_upto _ _ _ _ _ _ (by simp) (by simp; omega)]; simp
    have hb2 : M2.get b = some (.cells xs.flatten false) := by rw [k2 _ (by omega), hG1.old _ lb]; exact hb
    have src2 : srcCells 16 M2 (xs.length - i) (.slice (some (b, i * 16)) (xs.length - i) (.both 16 (c - i))) = some (xs.drop i).flatten := by
      have := read_rows' (M := M2) (b := b) (ro := false) (A := xs.take i) (W := xs.drop i) (D := []) (by rw [List.append_nil, ← hsplit]; exact hb2) hxt hxd
      rw [hlt, hld] at this
      simp only [srcCells, beq_dec, decide_eq_false (show ¬ xs.length - i = 0 by omega), cond_false]
      exact this
    have g2' : M2.get M.next = some (.cells ((xs.take i ++ [x]) ++ (List.replicate (xs.length - i) z ++ [])).flatten false) := by rw [g2]; simp
    have w3' := write_rows' (W' := xs.drop i) g2' (hxt.app hR1) hRr hxd (Rows.nil 16) (by simp)
    rw [show (xs.take i ++ [x]).length = i + 1 from by simp [hlt]] at w3'
    have c2 := copy_upto (e := 16) (len := xs.length - i) (x := .slice (some (b, i * 16)) (xs.length - i) (.both 16 (c - i))) rfl (show Nat.min (xs.length - i) (xs.length - i) = xs.length - i from Nat.min_self _) (by omega) src2 w3'
    simp -dsimp only [↓w_seq, ↓w_ops, ↓w_skip, ↓w_ret, ↓w_exit, ↓w_scope, ↓w_block, ↓w_cond, cond_true', cond_false', ↓t_nil, ↓t_plain, ↓t_guard, ↓t_gagain, ↓t_again, t_val, t_call, g_true, g_false, ga_true, ga_false, a_val, a_call, ↓n_normal, ↓n_ret, ↓n_exit, ↓b_normal, ↓b_ret, ↓b_exit, ↓e_normal, ↓e_ret, e_some, go_sem, ↓reduceIte, Nat.reduceEqDiff, Nat.reduceLT, Nat.reduceSub, X_slices_Insert_entry_11, as_nat_cast, Option.map_some, Option.map_none, Option.bind_some, Option.bind_none, id, s1, s4, vof, c2, e3, w3]
    simp -dsimp only [↓x_seq', ↓x_ops, ↓x_skip, ↓x_ret, ↓x_exit, ↓x_block', ↓x_cond', cond_true', cond_false', ↓i_nil, ↓i_plain, ↓i_guard, xs_val, xs_call, xs_yield, xg_true, xg_false, ↓n_normal, ↓n_ret, ↓n_exit, ↓b_normal, ↓b_ret, ↓b_exit, ↓xe_normal, ↓xe_ret, e_some, yieldOf, go_sem, ↓reduceIte, Nat.reduceEqDiff, Nat.reduceLT, Nat.reduceSub, X_slices_Insert_entry_12]
    refine ⟨M.next, .upto 16, rfl, .inl rfl, .inr (Nat.le_refl _), ?_, fun y hy hne => ?_⟩
    · rw [Mem.get_set_same]; simp
    · rw [Mem.get_set_ne _ _ (by omega), k2 _ (by omega), hG1.old _ hy]
  · have hr' : ¬ (c : Int) < ((xs.length + 1 : Nat) : Int) := by omega
    have s5 : vslice 16 (.slice (some (b, 0)) xs.length (.both 16 c)) none (some (xs.length + 1)) none = some (.slice (some (b, 0)) (xs.length + 1) (.both 16 c)) := by
      rw [sl_both _ _ _ _ _ _ _ (by simp; omega) (by simp) (by simp; omega)]; simp
    have s6 : vslice 16 (.slice (some (b, 0)) (xs.length + 1) (.both 16 c)) (some (i + 1)) none none = some (.slice (some (b, (i + 1) * 16)) (xs.length - i) (.both 16 (c - (i + 1)))) := by
      rw [sl_both _ _ _ _ _ _ _ (by simp; omega) (by simp; omega) (by simp; omega)]; simp
    have s7 : vslice 16 (.slice (some (b, 0)) (xs.length + 1) (.both 16 c)) (some i) none none = some (.slice (some (b, i * 16)) (xs.length + 1 - i) (.both 16 (c - i))) := by
      rw [sl_both _ _ _ _ _ _ _ (by simp; omega) (by simp; omega) (by simp; omega)]; simp
    have s8 : vslice 16 (.slice (some (b, 0)) (xs.length + 1) (.both 16 c)) (some xs.length) none none = some (.slice (some (b, xs.length * 16)) 1 (.both 16 (c - xs.length))) := by
      rw [sl_both _ _ _ _ _ _ _ (by simp; omega) (by simp) (by simp; omega)]; simp
    simp -dsimp only [↓x_seq', ↓x_ops, ↓x_skip, ↓x_ret, ↓x_exit, ↓x_block', ↓x_cond', cond_true', cond_false', ↓i_nil, ↓i_plain, ↓i_guard, xs_val, xs_call, xs_yield, xg_true, xg_false, ↓n_normal, ↓n_ret, ↓n_exit, ↓b_normal, ↓b_ret, ↓b_exit, ↓xe_normal, ↓xe_ret, e_some, yieldOf, go_sem, ↓reduceIte, Nat.reduceEqDiff, Nat.reduceLT, Nat.reduceSub, hr', decide_false, X_slices_Insert_entry_13, X_slices_Insert_entry_14, as_nat_cast, Option.map_some, Option.map_none, Option.bind_some, Option.bind_none, id, s5, s6, vof, e2, w2, e3, w3]
    refine xcall_ext (overlaps_ext M vb b _ _ _ x xs.flatten hv (by omega) hb (by omega)) ?_
    intro v M' hvt
    obtain ⟨⟨t, ht⟩, hM'⟩ := hvt
    rw [ht, hM']
    clear ht hM'
    cases t with
    | false =>
      simp -dsimp only [↓x_seq', ↓x_ops, ↓x_skip, ↓x_ret, ↓x_exit, ↓x_block', ↓x_cond', cond_true', cond_false', ↓i_nil, ↓i_plain, ↓i_guard, xs_val, xs_call, xs_yield, xg_true, xg_false, ↓n_normal, ↓n_ret, ↓n_exit, ↓b_normal, ↓b_ret, ↓b_exit, ↓xe_normal, ↓xe_ret, e_some, yieldOf, go_sem, ↓reduceIte, Nat.reduceEqDiff, Nat.reduceLT, Nat.reduceSub, Bool.not_false]
      refine x_dops dok2 ?_
      have src2 : srcCells 16 M (xs.length - i) (.slice (some (b, i * 16)) (xs.length + 1 - i) (.both 16 (c - i))) = some (xs.drop i).flatten := by
        have := read_rows' (M := M) (b := b) (ro := false) (A := xs.take i) (W := xs.drop i) (D := []) (by rw [List.append_nil, ← hsplit]; exact hb) hxt hxd
        rw [hlt, hld] at this
        simp only [srcCells, beq_dec, decide_eq_false (show ¬ xs.length - i = 0 by omega), cond_false]
        exact this
      have gb : M.get b = some (.cells (xs.take (i + 1) ++ xs.drop (i + 1)).flatten false) := by rw [List.take_append_drop]; exact hb
      have w5 := writeG_rows (lim := (i + 1) * 16 + (c - (i + 1)) * 16) (Y := xs.drop i) gb (Rows.take hxs _) (Rows.drop hxs _) hxd (by rw [← Nat.add_mul]; refine Nat.mul_le_mul_right _ ?_; rw [List.length_take, hld]; omega)
      rw [show (xs.take (i + 1)).length = i + 1 from by rw [List.length_take]; omega, show (xs.drop (i + 1)).drop (xs.drop i).length = [] from List.drop_eq_nil_of_le (by simp; omega), List.append_nil] at w5
      have c5 := copy_both (len := xs.length - i) (x := .slice (some (b, i * 16)) (xs.length + 1 - i) (.both 16 (c - i))) rfl (show Nat.min (xs.length + 1 - i) (xs.length - i) = xs.length - i from by show min _ _ = _; omega) (by omega) src2 w5
      simp -dsimp only [↓w_seq, ↓w_ops, ↓w_skip, ↓w_ret, ↓w_exit, ↓w_scope, ↓w_block, ↓w_cond, cond_true', cond_false', ↓t_nil, ↓t_plain, ↓t_guard, ↓t_gagain, ↓t_again, t_val, t_call, g_true, g_false, ga_true, ga_false, a_val, a_call, ↓n_normal, ↓n_ret, ↓n_exit, ↓b_normal, ↓b_ret, ↓b_exit, ↓e_normal, ↓e_ret, e_some, go_sem, ↓reduceIte, Nat.reduceEqDiff, Nat.reduceLT, Nat.reduceSub, X_slices_Insert_entry_15, as_nat_cast, Option.map_some, Option.map_none, Option.bind_some, Option.bind_none, id, s6, s7, vof, c5, e3, w3]
      have g6 := Mem.get_set_same M b (.cells (xs.take (i + 1) ++ xs.drop i).flatten false)
      have k6 : ∀ y, y ≠ b → (M.set b (.cells (xs.take (i + 1) ++ xs.drop i).flatten false)).get y = M.get y := fun y hy => Mem.get_set_ne _ _ hy
      generalize M.set b (.cells (xs.take (i + 1) ++ xs.drop i).flatten false) = M1 at *
      have hsp2 : xs.take (i + 1) ++ xs.drop i = xs.take i ++ (xs[i] :: xs.drop i) := by
        rw [take_snoc xs hi, List.append_assoc]; rfl
      have hRi : Rows 16 (xs[i] :: xs.drop i) := fun y hy => (List.mem_cons.1 hy).elim (fun e => e ▸ hxs _ (List.getElem_mem hi)) (hxd y)
      rw [hsp2] at g6
      have w6 := writeG_rows (lim := i * 16 + (c - i) * 16) (Y := [x]) g6 hxt hRi hR1 (by rw [← Nat.add_mul]; refine Nat.mul_le_mul_right _ ?_; rw [hlt]; simp; omega)
      rw [hlt, show ([x] : List (List V)).flatten = x from by simp] at w6
      have c6 := copy_both (len := xs.length + 1 - i) (x := .slice (some (vb, 0)) 1 (.exact 1)) rfl (show Nat.min 1 (xs.length + 1 - i) = 1 from by show min 1 _ = 1; omega) (by decide) (srcv M1 ((k6 _ hvb).trans hv)) w6
      simp -dsimp only [↓x_seq', ↓x_ops, ↓x_skip, ↓x_ret, ↓x_exit, ↓x_block', ↓x_cond', cond_true', cond_false', ↓i_nil, ↓i_plain, ↓i_guard, xs_val, xs_call, xs_yield, xg_true, xg_false, ↓n_normal, ↓n_ret, ↓n_exit, ↓b_normal, ↓b_ret, ↓b_exit, ↓xe_normal, ↓xe_ret, e_some, yieldOf, go_sem, ↓reduceIte, Nat.reduceEqDiff, Nat.reduceLT, Nat.reduceSub, X_slices_Insert_entry_16, X_slices_Insert_entry_17, as_nat_cast, Option.map_some, Option.map_none, Option.bind_some, Option.bind_none, id, s7, vof, c6]
      refine ⟨b, .both 16 c, rfl, .inr rfl, .inl rfl, ?_, fun y hy hne => ?_⟩
      · rw [Mem.get_set_same]; simp
      · rw [Mem.get_set_ne _ _ hne, k6 _ hne]
    | true =>
      have gb : M.get b = some (.cells (xs ++ []).flatten false) := by rw [List.append_nil]; exact hb
      have w7 := writeG_rows (lim := xs.length * 16 + (c - xs.length) * 16) (Y := [x]) gb hxs (Rows.nil 16) hR1 (by rw [← Nat.add_mul]; refine Nat.mul_le_mul_right _ ?_; simp; omega)
      rw [show ([x] : List (List V)).flatten = x from by simp] at w7
      have c7 := copy_both (len := 1) (x := .slice (some (vb, 0)) 1 (.exact 1)) rfl (show Nat.min 1 1 = 1 from rfl) (by decide) (srcv M hv) w7
      simp -dsimp only [↓x_seq', ↓x_ops, ↓x_skip, ↓x_ret, ↓x_exit, ↓x_block', ↓x_cond', cond_true', cond_false', ↓i_nil, ↓i_plain, ↓i_guard, xs_val, xs_call, xs_yield, xg_true, xg_false, ↓n_normal, ↓n_ret, ↓n_exit, ↓b_normal, ↓b_ret, ↓b_exit, ↓xe_normal, ↓xe_ret, e_some, yieldOf, go_sem, ↓reduceIte, Nat.reduceEqDiff, Nat.reduceLT, Nat.reduceSub, Bool.not_true, X_slices_Insert_entry_18, X_slices_Insert_entry_19, as_nat_cast, Option.map_some, Option.map_none, Option.bind_some, Option.bind_none, id, s7, s8, vof, c7]
      have g7 := Mem.get_set_same M b (.cells (xs ++ ([x] ++ List.drop ([x] : List (List V)).length [])).flatten false)
      have k7 : ∀ y, y ≠ b → (M.set b (.cells (xs ++ ([x] ++ List.drop ([x] : List (List V)).length [])).flatten false)).get y = M.get y := fun y hy => Mem.get_set_ne _ _ hy
      generalize M.set b (.cells (xs ++ ([x] ++ List.drop ([x] : List (List V)).length [])).flatten false) = M1 at *
      have g8 : M1.get b = some (.cells ((xs.take i).flatten ++ ((xs.drop i ++ [x]).flatten ++ [])) false) := by
        rw [g7]
        have : xs ++ ([x] ++ List.drop ([x] : List (List V)).length []) = xs.take i ++ (xs.drop i ++ [x]) := by simp [← List.append_assoc]
        rw [this]; simp
      have rr := rotR_runs b (c - i) (xs.take i).flatten [] (xs.drop i) [x] hxd hR1 (by rw [hld]; simp; omega) (by rw [hld]; simp; omega) (by simp) M1 g8
      rw [hxt.len, hlt, hld, show (xs.length - i) + ([x] : List (List V)).length = xs.length + 1 - i from by simp; omega] at rr
      refine xcall_of (XRuns.of_runs dok2 rr) ?_
      intro v M2 hv2
      obtain ⟨_, hU⟩ := hv2
      simp -dsimp only [↓x_seq', ↓x_ops, ↓x_skip, ↓x_ret, ↓x_exit, ↓x_block', ↓x_cond', cond_true', cond_false', ↓i_nil, ↓i_plain, ↓i_guard, xs_val, xs_call, xs_yield, xg_true, xg_false, ↓n_normal, ↓n_ret, ↓n_exit, ↓b_normal, ↓b_ret, ↓b_exit, ↓xe_normal, ↓xe_ret, e_some, yieldOf, go_sem, ↓reduceIte, Nat.reduceEqDiff, Nat.reduceLT, Nat.reduceSub, X_slices_Insert_entry_20]
      refine ⟨b, .both 16 c, rfl, .inr rfl, .inl rfl, ?_, fun y hy hne => ?_⟩
      · rw [hU.at_]; simp
      · rw [hU.other y hne, k7 _ hne]
end Go.Am.Tryz.O


/- slices.Insert over a graph's entries, as a part. -/
namespace Go.Am.Tryz.O
open Go Go.Am Go.Proofs Go.Sort Go.Shelf
set_option maxRecDepth 100000
set_option linter.unusedSimpArgs false
set_option linter.unusedVariables false

theorem chunks {es : Nat} : ∀ (n : Nat) (cs : List V), cs.length = n * es → allOne cs = true → ∃ xs : List (List V), cs = xs.flatten ∧ Rows es xs ∧ xs.length = n
  | 0, cs, h, _ => ⟨[], by simpa using h, Rows.nil es, rfl⟩
  | n + 1, cs, h, h1 => by
    have hl : es ≤ cs.length := by rw [h, Nat.add_mul]; omega
    have e := (List.take_append_drop es cs).symm
    have h2 : allOne (cs.take es) = true ∧ allOne (cs.drop es) = true := by
      rw [e, allOne_app, Bool.and_eq_true] at h1
      exact h1
    obtain ⟨xs, a, b, c⟩ := chunks (es := es) n (cs.drop es) (by rw [List.length_drop, h, Nat.add_mul]; omega) h2.2
    refine ⟨cs.take es :: xs, ?_, fun y hy => ?_, by simp [c]⟩
    · rw [List.flatten_cons, ← a]; exact e
    · rcases List.mem_cons.1 hy with rfl | hy
      · exact ⟨by rw [List.length_take]; omega, h2.1⟩
      · exact b y hy

def insAt (cs x : List V) (i : Nat) : List V := cs.take (i * 16) ++ (x ++ cs.drop (i * 16))
theorem insAt_rows {xs : List (List V)} {x : List V} {i : Nat} (h : Rows 16 xs) : insAt xs.flatten x i = (xs.take i ++ (x :: xs.drop i)).flatten := by
  rw [insAt, rows_take _ h, rows_drop _ h]; simp
def insRow (M : Mem) (s : V) (x : List V) (vb i : Nat) : Option (V × Mem) :=
  match s with
  | .slice none 0 (.exact 0) => cond (Nat.beq i 0) (some (.slice (some (M.next, 0)) 1 (.upto 16), M.push (.cells x false))) none
  | .slice (some (b, 0)) n (.upto 16) => match M.get b with
    | some (.cells cs false) => cond (Nat.beq cs.length (n * 16) && (Nat.ble i n && (!Nat.beq vb b && (Nat.ble ((n + 1) * 160) maxRoom && allOne cs))))
        (some (.slice (some (M.next, 0)) (n + 1) (.upto 16), (M.set b .dead).push (.cells (insAt cs x i) false))) none
    | _ => none
  | _ => none
def pInsert (args : List V) (M : Mem) : Option (V × Mem) :=
  match args with
  | [s, .int .i64 (.ofNat i), .slice (some (vb, 0)) 1 (.exact 1)] => match M.get vb with
    | some (.cells x false) => cond (Nat.beq x.length 16 && allOne x) (insRow M s x vb i) none
    | _ => none
  | _ => none

theorem Insert_end (M : Mem) (b vb : Nat) (n : Nat) (cs x : List V) (hb : M.get b = some (.cells cs false)) (hl : cs.length = n * 16) (hv : M.get vb = some (.cells x false)) (hx : x.length = 16) (hx1 : allOne x = true) (hroom : (n + 1) * 160 ≤ maxRoom) :
    XRuns Tryz.prog gl0 F_slices_Insert_entry [.slice (some (b, 0)) n (.upto 16), .int .i64 (n : Int), .slice (some (vb, 0)) 1 (.exact 1)] M fun v M' => v = .slice (some (M.next, 0)) (n + 1) (.upto 16) ∧ M' = (M.set b .dead).push (.cells (cs ++ x) false) := by
  refine XRuns.walk mixed Tryz.func62 b_slices_Insert_entry n_slices_Insert_entry r_slices_Insert_entry (by rfl) ?_
  unfold X_slices_Insert_entry
  have e0 : ¬ ((1 : Nat) : Int) = 0 := by decide
  have s1 : vslice 16 (.slice (some (b, 0)) n (.upto 16)) (some n) none none = some (.slice (some (b, n * 16)) 0 (.upto 16)) := by
    rw [sl_upto _ _ _ _ _ _ (by simp) (by simp)]; simp
  have srcv : srcCells 16 M 1 (.slice (some (vb, 0)) 1 (.exact 1)) = some x := by
    have := read_all hv
    rw [hx] at this
    simp only [srcCells, beq_dec, Nat.one_mul, Nat.reduceEqDiff, decide_false, cond_false]
    exact this
  have hap : vappend 16 160 M (.slice (some (b, 0)) n (.upto 16)) (.slice (some (vb, 0)) 1 (.exact 1)) = some (.slice (some (M.next, 0)) (n + 1) (.upto 16), (M.set b .dead).push (.cells (cs ++ x) false)) := by
    simp only [vappend, srcLen, srcv, Option.bind_some, Nat.beq_refl, cond_true, hb, beq_dec, Nat.zero_add, hl, decide_true, ble_iff, decide_eq_true hroom, hx1, Nat.reduceEqDiff, decide_false, cond_false, List.drop_zero]
  simp -dsimp only [↓x_seq', ↓x_ops, ↓x_skip, ↓x_ret, ↓x_exit, ↓x_block', ↓x_cond', cond_true', cond_false', ↓i_nil, ↓i_plain, ↓i_guard, xs_val, xs_call, xs_yield, xg_true, xg_false, ↓n_normal, ↓n_ret, ↓n_exit, ↓b_normal, ↓b_ret, ↓b_exit, ↓xe_normal, ↓xe_ret, e_some, yieldOf, go_sem, ↓reduceIte, Nat.reduceEqDiff, Nat.reduceLT, Nat.reduceSub, X_slices_Insert_entry_0, X_slices_Insert_entry_1, X_slices_Insert_entry_2, X_slices_Insert_entry_3, X_slices_Insert_entry_5, X_slices_Insert_entry_6, X_slices_Insert_entry_7, as_nat_cast, Option.map_some, Option.map_none, Option.bind_some, Option.bind_none, id, s1, vof, e0, decide_false, decide_true, hap]
  exact ⟨trivial, trivial⟩
theorem Insert_nil (M : Mem) (vb : Nat) (x : List V) (hv : M.get vb = some (.cells x false)) (hx : x.length = 16) (hx1 : allOne x = true) :
    XRuns Tryz.prog gl0 F_slices_Insert_entry [.slice none 0 (.exact 0), .int .i64 (0 : Int), .slice (some (vb, 0)) 1 (.exact 1)] M fun v M' => v = .slice (some (M.next, 0)) 1 (.upto 16) ∧ M' = M.push (.cells x false) := by
  refine XRuns.walk mixed Tryz.func62 b_slices_Insert_entry n_slices_Insert_entry r_slices_Insert_entry (by rfl) ?_
  unfold X_slices_Insert_entry
  have e0 : ¬ ((1 : Nat) : Int) = 0 := by decide
  have s1 : vslice 16 (.slice none 0 (.exact 0)) (some 0) none none = some (.slice none 0 (.exact 0)) := rfl
  have srcv : srcCells 16 M 1 (.slice (some (vb, 0)) 1 (.exact 1)) = some x := by
    have := read_all hv
    rw [hx] at this
    simp only [srcCells, beq_dec, Nat.one_mul, Nat.reduceEqDiff, decide_false, cond_false]
    exact this
  have hap : vappend 16 160 M (.slice none 0 (.exact 0)) (.slice (some (vb, 0)) 1 (.exact 1)) = some (.slice (some (M.next, 0)) 1 (.upto 16), M.push (.cells x false)) := by
    simp only [vappend, srcLen, srcv, Option.bind_some, beq_dec, Nat.reduceEqDiff, decide_false, cond_false]
    rfl
  have z0 : asNat (.int .i64 (0 : Int)) = some 0 := rfl
  have l0 : ((0 : Nat) : Int) = 0 := rfl
  simp -dsimp only [↓x_seq', ↓x_ops, ↓x_skip, ↓x_ret, ↓x_exit, ↓x_block', ↓x_cond', cond_true', cond_false', ↓i_nil, ↓i_plain, ↓i_guard, xs_val, xs_call, xs_yield, xg_true, xg_false, ↓n_normal, ↓n_ret, ↓n_exit, ↓b_normal, ↓b_ret, ↓b_exit, ↓xe_normal, ↓xe_ret, e_some, yieldOf, go_sem, ↓reduceIte, Nat.reduceEqDiff, Nat.reduceLT, Nat.reduceSub, X_slices_Insert_entry_0, X_slices_Insert_entry_1, X_slices_Insert_entry_2, X_slices_Insert_entry_3, X_slices_Insert_entry_5, X_slices_Insert_entry_6, X_slices_Insert_entry_7, z0, as_nat_cast, Option.map_some, Option.map_none, Option.bind_some, Option.bind_none, id, s1, vof, e0, l0, decide_false, decide_true, hap]
  exact ⟨trivial, trivial⟩

theorem slice_inv {E : Emb} {b o n : Nat} {cap : Cap} {u : Value} (h : VR E (.slice (some (b, o)) n cap) u) (hn : n ≠ 0) : ∃ c d k c', u = .slice (some ⟨c, d + o, none⟩) n c' ∧ E b = some (c, d, k) ∧ CapR cap o k c' ∧ n ≤ c' := by
  generalize hv : V.slice (some (b, o)) n cap = v at h
  cases h <;> first | (cases hv; done) | skip
  · rename_i h1 h2 h3
    cases hv
    exact ⟨_, _, _, _, rfl, h1, h2, h3⟩
  · cases hv
    exact absurd rfl hn
theorem vr_cells {E : Emb} {M : Mem} {w : World} (hR : Rel E M w) {b c d k : Nat} (hE : E b = some (c, d, k)) {cs : List V} {ro : Bool} (hb : M.get b = some (.cells cs ro)) : ∀ v ∈ cs, ∃ u, VR E v u := fun v hv => by
  obtain ⟨o, ho, hr⟩ := hR.at_ b c d k hE
  rw [hb] at ho
  cases ho
  obtain ⟨arr, elem, fz, _, h2, _⟩ := hr
  obtain ⟨i, hi, e⟩ := List.getElem_of_mem hv
  obtain ⟨u, _, hu⟩ := h2 i v (by rw [List.getElem?_eq_getElem hi, e])
  exact ⟨u, hu⟩
theorem xr_ok {f : FuncId} {args : List V} {M : Mem} {v : V} {M' : Mem} (h : XRuns Tryz.prog gl0 f args M fun v' M1 => v' = v ∧ M1 = M') : Callable Tryz.prog f ∧ ∀ (E : Emb) (w : World) (args' : Array Value), Rel E M w → GOK gl0 E → VRs E args args'.toList →
    Calls Tryz.prog f args' w fun e w' => ∃ E' v', e = .returned v' ∧ VR E' v v' ∧ Rel E' M' w' ∧ Ext E M w E' M' w' :=
  ⟨h.1, fun E w args' h1 h2 h3 => (h.2 E w args' h1 h2 h3).mono fun _ _ ⟨E', v1, v', M1, a, b, c, d, r⟩ => by
    obtain ⟨rfl, rfl⟩ := r
    exact ⟨E', v', a, b, c, d⟩⟩
theorem pInsert_ok : CallOK Tryz.prog gl0 fun f' args M => if f' = F_slices_Insert_entry then pInsert args M else none := by
  intro f' args M v M' he
  simp only at he
  split at he
  case isFalse => cases he
  rename_i e
  subst e
  unfold pInsert at he
  split at he
  case h_2 => cases he
  rename_i s i vb
  split at he
  case h_2 => cases he
  rename_i x hv
  obtain ⟨hxx, he2⟩ := cond_some he
  clear he
  have he := he2
  clear he2
  simp only [Bool.and_eq_true] at hxx
  have hx := Nat.eq_of_beq_eq_true hxx.1
  have hx1 := hxx.2
  unfold insRow at he
  split at he
  · obtain ⟨h0, he2⟩ := cond_some he
    clear he
    have he := he2
    clear he2
    have h0 := Nat.eq_of_beq_eq_true h0
    subst h0
    cases he
    exact xr_ok (Insert_nil M vb x hv hx hx1)
  · rename_i b n
    split at he
    case h_2 => cases he
    rename_i cs hb
    obtain ⟨hcc, he2⟩ := cond_some he
    clear he
    cases he2
    simp only [Bool.and_eq_true, Bool.not_eq_true', ble_iff, decide_eq_true_eq] at hcc
    obtain ⟨q1, q2, q3, q4, q5⟩ := hcc
    have q1 := Nat.eq_of_beq_eq_true q1
    have q3 := Nat.ne_of_beq_eq_false q3
    by_cases hin : i = n
    · subst hin
      have : insAt cs x i = cs ++ x := by
        rw [insAt, List.take_of_length_le (by omega), List.drop_eq_nil_of_le (by omega), List.append_nil]
      rw [this]
      exact xr_ok (Insert_end M b vb i cs x hb q1 hv hx hx1 q4)
    · have hi : i < n := by omega
      obtain ⟨xs, rfl, hxs, rfl⟩ := chunks n cs q1 q5
      rw [insAt_rows hxs]
      have hc0 : Callable Tryz.prog F_slices_Insert_entry := ⟨_, Tryz.func62, (by kernel_rfl), (by kernel_rfl)⟩
      refine ⟨hc0, fun E w args' hR hG hA => ?_⟩
      have hlt : ∀ y o, M.get y = some o → y < M.next := fun y o ho => lt_of_get hR.wf ho
      obtain ⟨l⟩ := args'
      simp only at hA
      cases hA with
      | cons h1 hA =>
      cases hA with
      | cons h2 hA =>
      cases hA with
      | cons h3 hA =>
      cases hA
      obtain ⟨c0, d0, k0, c', rfl, hE, hc, hn⟩ := slice_inv h1 (by omega)
      obtain ⟨hc1, hc2⟩ := hc
      have hA2 : VRs E [.slice (some (b, 0)) xs.length (.both 16 c'), .int .i64 (i : Int), .slice (some (vb, 0)) 1 (.exact 1)] (⟨_ :: _ :: _ :: []⟩ : Array Value).toList := .cons (.slice hE ⟨rfl, hc1, hc2⟩ hn) (.cons h2 (.cons h3 .nil))
      refine ((Insert_mid M b vb c' i xs x hb hv hx hx1 hxs hi hn q4 q3 (hlt _ _ hb) (hlt _ _ hv)).2 E w _ hR hG hA2).mono ?_
      rintro e w' ⟨E', v1, v', M1, he, hvv, hR', hX, q, cap, rfl, hcap, hq, hget, hkeep⟩
      have hEv : ∃ cv dv kv, E vb = some (cv, dv, kv) := by
        cases h3 with
        | slice hEv _ _ => exact ⟨_, _, _, hEv⟩
      obtain ⟨cv, dv, kv, hEv⟩ := hEv
      obtain ⟨c1, d1, k1, c2, rfl, hE', hc', hn'⟩ := slice_inv hvv (by omega)
      · obtain ⟨hr1, hr2⟩ := hR.settle hR' hX hb hkeep hget hE' hq (by
          intro u hu
          rw [List.flatten_append, List.flatten_cons] at hu
          rcases List.mem_append.1 hu with hu | hu
          · exact vr_cells hR hE hb u (by
              rw [List.mem_flatten] at hu ⊢
              obtain ⟨l, hl, hul⟩ := hu
              exact ⟨l, List.mem_of_mem_take hl, hul⟩)
          · rcases List.mem_append.1 hu with hu | hu
            · exact vr_cells hR hEv hv u hu
            · exact vr_cells hR hE hb u (by
                rw [List.mem_flatten] at hu ⊢
                obtain ⟨l, hl, hul⟩ := hu
                exact ⟨l, List.mem_of_mem_drop hl, hul⟩))
        refine ⟨_, _, he, .slice (Emb.more_same _ _ _) ?_ hn', hr1, hr2⟩
        rcases hcap with rfl | rfl
        · exact hc'
        · exact hc'.2
  · cases he
end Go.Am.Tryz.O


/- A graph's links: a map of stamps; its Equal and Clone. (Written by mkg5.py off the tree's texts.) -/
namespace Go.Proofs
open Go.Shelf
def Tryz.cloneR_ren : Go.Shelf.Ren := ⟨fun | 5 => 69 | 7 => 119 | n => n, fun | 23 => 102 | 25 => 24 | 3 => 24 | 4 => 4 | 20 => 20 | n => n, fun | n => n⟩
theorem Tryz.cloneR : Go.Proofs.SlLaysW.n5 Tryz.prog Tryz.cloneR_ren := {
  mixed := by kernel_rfl
  f5 := ⟨Tryz.f69.name, by decide, Tryz.func69.trans (congrArg some (by kernel_rfl))⟩
  f7 := Tryz.func119.trans (congrArg some (by kernel_rfl))
  t4 := Tryz.underlying4
  a4 := Tryz.isAgg4
  z4 := Tryz.sizeOf4
  v4 := Tryz.zeroValue4
  t20 := Tryz.underlying20
  a20 := Tryz.isAgg20
  z20 := Tryz.sizeOf20
  v20 := Tryz.zeroValue20
  t23 := Tryz.underlying102
  a23 := Tryz.isAgg102
  z23 := Tryz.sizeOf102
  v23 := Tryz.zeroValue102 }
end Go.Proofs
namespace Go.Am.Tryz.Rf
open Go Go.Am Go.Am.Tryz Go.Proofs Go.Sort Go.Shelf
set_option maxRecDepth 100000
set_option linter.unusedSimpArgs false
set_option linter.unusedVariables false

abbrev Spot := St
def spC (s : Spot) : List V := [.int .i64 s.1, .int .i64 s.2]
def sp0 : Spot := (0, 0)
/-- A graph's links. -/
abbrev Tr := List (St × Spot)
def encM (l : Tr) : List (V × V) := l.map fun p => (.agg (stC p.1), .agg (spC p.2))
def getS : Tr → St → Option Spot
  | [], _ => none
  | p :: r, k => if k = p.1 then some p.2 else getS r k
def idxS : Tr → St → Option Nat
  | [], _ => none
  | p :: r, k => if k = p.1 then some 0 else (idxS r k).map (· + 1)

theorem mapIdx_is (k : St) : ∀ l : Tr, mapIdx ⟨true, [.int .i64, .int .i64]⟩ (.agg (stC k)) (encM l) = some (idxS l k)
  | [] => rfl
  | p :: r => by
    show (match vsame _ (.agg (stC k)) (.agg (stC p.1)) with | some true => _ | some false => _ | none => _) = _
    rw [st_same]
    unfold idxS
    by_cases h : k = p.1
    · simp only [h, decide_true, if_true]
    · simp only [h, decide_false, if_false]
      have := mapIdx_is k r
      unfold encM at this
      rw [this]
      rfl
theorem idx_get (k : St) : ∀ l : Tr, ((idxS l k).bind fun i => (encM l)[i]?.map (·.2)) = (getS l k).map fun s => .agg (spC s)
  | [] => rfl
  | p :: r => by
    unfold idxS getS
    by_cases h : k = p.1
    · simp only [h, if_true]; rfl
    · simp only [h, if_false]
      rw [← idx_get k r]
      cases idxS r k <;> rfl

/-- What a look tells. -/
def lookV (o : Option Spot) : V := match o with
  | some s => .tup [.agg (spC s), .bool true]
  | none => .tup [.agg (spC sp0), .bool false]
theorem look_is {M : Mem} {b : Nat} {l : Tr} (h : mapAt M b = some (encM l)) (k : St) : vlookup ⟨true, [.int .i64, .int .i64]⟩ (.agg [.int .i64 0, .int .i64 0]) true M (.map (some b)) (.agg (stC k)) = some (lookV (getS l k)) := by
  have hok : Sh.ok ⟨true, [.int .i64, .int .i64]⟩ (.agg (stC k)) = true := rfl
  simp only [vlookup, h, Option.bind_some, hok, cond_true, mapIdx_is, Option.map_some, idx_get]
  cases getS l k <;> rfl

theorem spC_len (s : Spot) : (spC s).length = 2 := rfl
theorem lookV_parts (o : Option Spot) : lookV o = .tup [.agg (spC (o.getD sp0)), .bool o.isSome] := by cases o <;> rfl
def decM : List (V × V) → Option Tr
  | [] => some []
  | (.agg [.int .i64 a, .int .i64 b], .agg [.int .i64 c, .int .i64 d]) :: r => (decM r).map (((a, b), (c, d)) :: ·)
  | _ :: _ => none
theorem decM_is : ∀ {es : List (V × V)} {l : Tr}, decM es = some l → es = encM l
  | [], l, h => by cases h; rfl
  | x :: r, l, h => by
    unfold decM at h
    split at h
    · rename_i h'; cases h'
    · rename_i a b c d r' he
      cases he
      simp only [Option.map_eq_some_iff] at h
      obtain ⟨l', h1, rfl⟩ := h
      rw [decM_is h1]
      rfl
    · cases h

def putS : Tr → St → Spot → Tr
  | [], n, s => [(n, s)]
  | p :: r, n, s => if n = p.1 then (n, s) :: r else p :: putS r n s
def delS : Tr → St → Tr
  | [], _ => []
  | p :: r, n => if n = p.1 then r else p :: delS r n

def keysS (l : Tr) : List St := l.map (·.1)
theorem decM_enc : ∀ l : Tr, decM (encM l) = some l
  | [] => rfl
  | p :: r => by
    show Option.map (fun x => ((p.1.1, p.1.2), (p.2.1, p.2.2)) :: x) (decM (encM r)) = _
    rw [decM_enc r]
    rfl
theorem enc_len (l : Tr) : (encM l).length = l.length := by simp [encM]

theorem get_put (n m : St) (s : Spot) : ∀ l : Tr, getS (putS l n s) m = if m = n then some s else getS l m
  | [] => by simp [putS, getS]
  | p :: r => by
    unfold putS
    by_cases h : n = p.1
    · simp only [h, if_true, getS]
      by_cases h2 : m = p.1 <;> simp [h2]
    · simp only [h, if_false, getS, get_put n m s r]
      by_cases h2 : m = p.1
      · have : m ≠ n := fun e => h (e.symm.trans h2)
        simp [h2, Ne.symm (h2 ▸ this)] 
        intro h3; exact absurd h3.symm h
      · simp [h2]
theorem get_mem {l : Tr} {n : St} : (getS l n).isSome = true ↔ n ∈ keysS l := by
  induction l with
  | nil => simp [getS, keysS]
  | cons p r ih =>
    unfold getS keysS
    by_cases h : n = p.1
    · simp [h]
    · simp only [h, if_false, List.map_cons, List.mem_cons, false_or]
      exact ih
theorem get_none {l : Tr} {n : St} : getS l n = none ↔ n ∉ keysS l := by
  rw [← get_mem]; cases getS l n <;> simp
theorem get_of_in {l : Tr} (hn : (keysS l).Nodup) {n : St} {s : Spot} (h : (n, s) ∈ l) : getS l n = some s := by
  induction l with
  | nil => cases h
  | cons p r ih =>
    unfold keysS at hn
    rw [List.map_cons, List.nodup_cons] at hn
    rcases List.mem_cons.mp h with h | h
    · subst h; simp [getS]
    · have : n ≠ p.1 := fun e => hn.1 (e ▸ List.mem_map_of_mem (f := (·.1)) h)
      simp only [getS, this, if_false]
      exact ih hn.2 h
theorem get_del (n m : St) : ∀ l : Tr, (keysS l).Nodup → getS (delS l n) m = if m = n then none else getS l m
  | [], _ => by simp [delS, getS]
  | p :: r, hn => by
    unfold keysS at hn
    rw [List.map_cons, List.nodup_cons] at hn
    unfold delS
    by_cases h : n = p.1
    · simp only [h, if_true, getS]
      by_cases h2 : m = p.1
      · simp only [h2, if_true]; exact get_none.mpr hn.1
      · simp [h2]
    · simp only [h, if_false, getS, get_del n m r hn.2]
      by_cases h2 : m = p.1
      · have : ¬ m = n := fun e => h (e.symm.trans h2)
        simp only [h2, if_true]
        rw [if_neg (fun e => h e.symm)]
      · simp [h2]
theorem keys_put (n : St) (s : Spot) : ∀ l : Tr, keysS (putS l n s) = if n ∈ keysS l then keysS l else keysS l ++ [n]
  | [] => by simp [putS, keysS]
  | p :: r => by
    have ih := keys_put n s r
    unfold putS
    unfold keysS at ih ⊢
    by_cases h : n = p.1
    · simp [h]
    · simp only [h, if_false, List.map_cons, ih, List.mem_cons, false_or]
      by_cases h2 : n ∈ r.map (·.1) <;> simp [h2]
theorem keys_del (n : St) : ∀ l : Tr, (keysS (delS l n)).Sublist (keysS l)
  | [] => by simp [delS, keysS]
  | p :: r => by
    unfold delS
    by_cases h : n = p.1
    · simp only [h, if_true, keysS, List.map_cons]; exact List.sublist_cons_self ..
    · simp only [h, if_false, keysS, List.map_cons]; exact (keys_del n r).cons_cons _
theorem keys_len (l : Tr) : (keysS l).length = l.length := by simp [keysS]

/-! ### ways up -/
theorem enc_lenI {M : Mem} {bm : Nat} {l : Tr} (h : mapAt M bm = some (encM l)) : vlenMap M (.map (some bm)) = some (.int .i64 (l.length : Int)) := by
  simp only [vlenMap, h, Option.map_some, enc_len]
theorem sp_same (a b : Spot) : vsame ⟨true, [.int .i64, .int .i64]⟩ (.agg (spC a)) (.agg (spC b)) = some (decide (a = b)) := st_same a b

/-- Do two maps tell the same of the first one's keys? -/
def eqB (l l' : Tr) : Bool := decide (l.length = l'.length) && (keysS l).all fun x => decide (getS l' x = getS l x)

theorem enc_at {l : Tr} (hn : (keysS l).Nodup) {i : Nat} {kv : V × V} (h : (encM l)[i]? = some kv) : ∃ x s, kv = (.agg (stC x), .agg (spC s)) ∧ x = (keysS l).getD i (0, 0) ∧ getS l x = some s ∧ x ∈ keysS l := by
  simp only [encM, List.getElem?_map, Option.map_eq_some_iff] at h
  obtain ⟨p, h1, rfl⟩ := h
  have hm := List.mem_of_getElem? h1
  refine ⟨p.1, p.2, rfl, ?_, get_of_in hn hm, List.mem_map_of_mem (f := (·.1)) hm⟩
  simp [keysS, List.getD_eq_getElem?_getD, h1]

set_option maxHeartbeats 2000000 in
theorem Equal_loop (it b1 b2 : Nat) (l l' : Tr) (hnd : (keysS l).Nodup) (ents : List MapEntry) (clock : Nat) (hl : ents.length = (keysS l).length) (hborn : Born ents clock) (M0 : Mem)
    (hb1 : M0.get b1 = some (.rmap (encM l) ents clock)) (hb2 : mapAt M0 b2 = some (encM l')) (l1 : b1 < M0.next) (l2 : b2 < M0.next) (hn1 : b1 ≠ it) (hn2 : b2 ≠ it)
    (Q : XQ) (hQ : ∀ fr M, (∀ x ∈ keysS l, getS l' x = getS l x) → (∀ c, c < M0.next → c ≠ it → M.get c = M0.get c) → Q (.exit 0) fr M) (hQx : ∀ fr M, (∃ x ∈ keysS l, getS l' x ≠ getS l x) → (∀ c, c < M0.next → c ≠ it → M.get c = M0.get c) → fr.rd 4 = .bool false → Q .ret fr M) :
    ∀ (f : Nat) (idx rest : List Nat) (seen : Array Nat) (pre : List St) (fr : Fr) (M : Mem), rest.length = f → Came ents (keysS l) seen pre idx rest → (∀ x ∈ pre, getS l' x = getS l x) → (∀ c, c < M0.next → c ≠ it → M.get c = M0.get c) → M0.next ≤ M.next → it < M0.next → M.get it = some (.mapIter (some b1) clock seen clock) → fr.rd 1 = .map (some b2) → fr.rd 15 = .ptr (some (it, 0)) →
    roundsX (WX Tryz.prog gl0 34 X_maps_Equal_Stamp_9 false) (f + 1) fr M Q := by
  intro f
  induction f with
  | zero =>
    intro idx rest seen pre fr M hf hC hpre hk hn hlt hit h1 h15
    rw [rounds_x_succ]
    refine xw_of ?_
    unfold X_maps_Equal_Stamp_9
    simp -dsimp only [↓x_seq', ↓x_ops, ↓x_skip, ↓x_ret, ↓x_exit, ↓x_block', ↓x_cond', cond_true', cond_false', ↓i_nil, ↓i_plain, ↓i_guard, xs_val, xs_call, xs_yield, xg_true, xg_false, ↓n_normal, ↓n_ret, ↓n_exit, ↓b_normal, ↓b_ret, ↓b_exit, ↓xe_normal, ↓xe_ret, e_some, yieldOf, go_sem, ↓reduceIte, Nat.reduceEqDiff, Nat.reduceLT, Nat.reduceSub, X_maps_Equal_Stamp_4]
    refine i_next (it := it) (b := b1) (clock := clock) (seen := seen) (show fr.rd 15 = _ from h15) hit ((hk _ l1 hn1).trans hb1) ?_ ?_
    · intro hfil
      simp -dsimp only [↓x_seq', ↓x_ops, ↓x_skip, ↓x_ret, ↓x_exit, ↓x_block', ↓x_cond', cond_true', cond_false', ↓i_nil, ↓i_plain, ↓i_guard, xs_val, xs_call, xs_yield, xg_true, xg_false, ↓n_normal, ↓n_ret, ↓n_exit, ↓b_normal, ↓b_ret, ↓b_exit, ↓xe_normal, ↓xe_ret, e_some, yieldOf, go_sem, ↓reduceIte, Nat.reduceEqDiff, Nat.reduceLT, Nat.reduceSub, List.getElem?_cons_zero]
      exact hQ _ _ (fun x hx => hpre x ((hC.done hborn hl hfil).mem_iff.mpr hx)) hk
    · intro i e kv hi hne hkv
      have := (hC.step hl hi hne).1
      rw [List.eq_nil_of_length_eq_zero hf] at this
      cases this
  | succ f ih =>
    intro idx rest seen pre fr M hf hC hpre hk hn hlt hit h1 h15
    rw [rounds_x_succ]
    refine xw_of ?_
    unfold X_maps_Equal_Stamp_9
    simp -dsimp only [↓x_seq', ↓x_ops, ↓x_skip, ↓x_ret, ↓x_exit, ↓x_block', ↓x_cond', cond_true', cond_false', ↓i_nil, ↓i_plain, ↓i_guard, xs_val, xs_call, xs_yield, xg_true, xg_false, ↓n_normal, ↓n_ret, ↓n_exit, ↓b_normal, ↓b_ret, ↓b_exit, ↓xe_normal, ↓xe_ret, e_some, yieldOf, go_sem, ↓reduceIte, Nat.reduceEqDiff, Nat.reduceLT, Nat.reduceSub, X_maps_Equal_Stamp_4]
    refine i_next (it := it) (b := b1) (clock := clock) (seen := seen) (show fr.rd 15 = _ from h15) hit ((hk _ l1 hn1).trans hb1) ?_ ?_
    · intro hfil
      simp -dsimp only [↓x_seq', ↓x_ops, ↓x_skip, ↓x_ret, ↓x_exit, ↓x_block', ↓x_cond', cond_true', cond_false', ↓i_nil, ↓i_plain, ↓i_guard, xs_val, xs_call, xs_yield, xg_true, xg_false, ↓n_normal, ↓n_ret, ↓n_exit, ↓b_normal, ↓b_ret, ↓b_exit, ↓xe_normal, ↓xe_ret, e_some, yieldOf, go_sem, ↓reduceIte, Nat.reduceEqDiff, Nat.reduceLT, Nat.reduceSub, List.getElem?_cons_zero]
      exact hQ _ _ (fun x hx => hpre x ((hC.done hborn hl hfil).mem_iff.mpr hx)) hk
    · intro i e kv hi hne hkv
      obtain ⟨hir, hC'⟩ := hC.step hl hi hne
      obtain ⟨x, s, hkv2, hx, hgx, hxm⟩ := enc_at hnd hkv
      rw [← hx] at hC'
      rw [hkv2] at hkv ⊢
      have hit1 : (M.set it (.mapIter (some b1) clock (seen.push e.born) clock)).get it = some (.mapIter (some b1) clock (seen.push e.born) clock) := Mem.get_set_same _ _ _
      have hk1 : ∀ c, c < M0.next → c ≠ it → (M.set it (.mapIter (some b1) clock (seen.push e.born) clock)).get c = M0.get c := fun c hc hne => (Mem.get_set_ne _ _ hne).trans (hk c hc hne)
      have hnn : (M.set it (.mapIter (some b1) clock (seen.push e.born) clock)).next = M.next := rfl
      generalize M.set it (.mapIter (some b1) clock (seen.push e.born) clock) = M1 at *
      simp -dsimp only [↓x_seq', ↓x_ops, ↓x_skip, ↓x_ret, ↓x_exit, ↓x_block', ↓x_cond', cond_true', cond_false', ↓i_nil, ↓i_plain, ↓i_guard, xs_val, xs_call, xs_yield, xg_true, xg_false, ↓n_normal, ↓n_ret, ↓n_exit, ↓b_normal, ↓b_ret, ↓b_exit, ↓xe_normal, ↓xe_ret, e_some, yieldOf, go_sem, ↓reduceIte, Nat.reduceEqDiff, Nat.reduceLT, Nat.reduceSub, List.getElem?_cons_zero, X_maps_Equal_Stamp_5]
      refine i_entry (it := it) (b := b1) (since := clock) (clock := clock) (seen := seen.push e.born) (by simp only [go_sem, ↓reduceIte, Nat.reduceEqDiff, Nat.reduceLT, Nat.reduceSub, h15]) hit1 ((hk1 _ l1 hn1).trans hb1) i e _ hi (by simp) hkv ?_
      have hcn : V.cells (.agg (stC x)) = stC x := rfl
      have hcs : ∀ s, V.cells (.agg (spC s)) = spC s := fun _ => rfl
      have w5 := write_full (M := (M1.push (.cells [.int .i64 0, .int .i64 0] false)).push (.cells [.int .i64 0, .int .i64 0] false)) (b := M1.next) (cs := [.int .i64 0, .int .i64 0]) (vs := stC x) (by rw [Mem.get_push_ne _ _ (by simp)]; exact Mem.get_push_same _ _) rfl rfl
      have w6 := write_full (M := ((M1.push (.cells [.int .i64 0, .int .i64 0] false)).push (.cells [.int .i64 0, .int .i64 0] false)).set M1.next (.cells (stC x) false)) (b := M1.next + 1) (cs := [.int .i64 0, .int .i64 0]) (vs := spC s) (by rw [Mem.get_set_ne _ _ (by omega)]; exact Mem.get_push_same (M1.push _) _) rfl rfl
      simp -dsimp only [↓x_seq', ↓x_ops, ↓x_skip, ↓x_ret, ↓x_exit, ↓x_block', ↓x_cond', cond_true', cond_false', ↓i_nil, ↓i_plain, ↓i_guard, xs_val, xs_call, xs_yield, xg_true, xg_false, ↓n_normal, ↓n_ret, ↓n_exit, ↓b_normal, ↓b_ret, ↓b_exit, ↓xe_normal, ↓xe_ret, e_some, yieldOf, go_sem, ↓reduceIte, Nat.reduceEqDiff, Nat.reduceLT, Nat.reduceSub, List.getElem?_cons_zero, List.getElem?_cons_succ, Mem.next_push, vstore, hcn, hcs, stC_len, spC_len, w5, w6, Nat.reduceEqDiff]
      have q5 : ((((M1.push (.cells [.int .i64 0, .int .i64 0] false)).push (.cells [.int .i64 0, .int .i64 0] false)).set M1.next (.cells (stC x) false)).set (M1.next + 1) (.cells (spC s) false)).get M1.next = some (.cells (stC x) false) := by rw [Mem.get_set_ne _ _ (by omega), Mem.get_set_same]
      have q6 : ((((M1.push (.cells [.int .i64 0, .int .i64 0] false)).push (.cells [.int .i64 0, .int .i64 0] false)).set M1.next (.cells (stC x) false)).set (M1.next + 1) (.cells (spC s) false)).get (M1.next + 1) = some (.cells (spC s) false) := Mem.get_set_same _ _ _
      have qk : ∀ c, c < M1.next → ((((M1.push (.cells [.int .i64 0, .int .i64 0] false)).push (.cells [.int .i64 0, .int .i64 0] false)).set M1.next (.cells (stC x) false)).set (M1.next + 1) (.cells (spC s) false)).get c = M1.get c := fun c hc => by rw [Mem.get_set_ne _ _ (by omega), Mem.get_set_ne _ _ (by omega), Mem.get_push_ne _ _ (by simp; omega), Mem.get_push_ne _ _ (by omega)]
      have qn : ((((M1.push (.cells [.int .i64 0, .int .i64 0] false)).push (.cells [.int .i64 0, .int .i64 0] false)).set M1.next (.cells (stC x) false)).set (M1.next + 1) (.cells (spC s) false)).next = M1.next + 2 := rfl
      clear w5 w6
      generalize (((M1.push (.cells [.int .i64 0, .int .i64 0] false)).push (.cells [.int .i64 0, .int .i64 0] false)).set M1.next (.cells (stC x) false)).set (M1.next + 1) (.cells (spC s) false) = M2 at *
      have hm2 : mapAt M2 b2 = some (encM l') := mapAt_keep hb2 ((qk _ (by omega)).trans (hk1 _ l2 hn2))
      have hlk := look_is hm2 x
      have hrn : rdCells (stC x) 0 2 = some (stC x) := rfl
      have hrs : ∀ s, rdCells (spC s) 0 2 = some (spC s) := fun _ => rfl
      have w7 := write_full (M := M2.push (.cells [.int .i64 0, .int .i64 0] false)) (b := M2.next) (vs := spC ((getS l' x).getD sp0)) (Mem.get_push_same _ _) rfl rfl
      simp -dsimp only [↓x_seq', ↓x_ops, ↓x_skip, ↓x_ret, ↓x_exit, ↓x_block', ↓x_cond', cond_true', cond_false', ↓i_nil, ↓i_plain, ↓i_guard, xs_val, xs_call, xs_yield, xg_true, xg_false, ↓n_normal, ↓n_ret, ↓n_exit, ↓b_normal, ↓b_ret, ↓b_exit, ↓xe_normal, ↓xe_ret, e_some, yieldOf, go_sem, ↓reduceIte, Nat.reduceEqDiff, Nat.reduceLT, Nat.reduceSub, X_maps_Equal_Stamp_6, h1, vload, vptr, Mem.read, q5, hrn, hlk, vof, lookV_parts, List.getElem?_cons_zero, List.getElem?_cons_succ, vstore, hcs, spC_len, w7, Nat.reduceEqDiff]
      have p6 : ((M2.push (.cells [.int .i64 0, .int .i64 0] false)).set M2.next (.cells (spC ((getS l' x).getD sp0)) false)).get (M1.next + 1) = some (.cells (spC s) false) := by rw [Mem.get_set_ne _ _ (by omega), Mem.get_push_ne _ _ (by omega)]; exact q6
      have p7 : ((M2.push (.cells [.int .i64 0, .int .i64 0] false)).set M2.next (.cells (spC ((getS l' x).getD sp0)) false)).get M2.next = some (.cells (spC ((getS l' x).getD sp0)) false) := Mem.get_set_same _ _ _
      have pk : ∀ c, c < M1.next → ((M2.push (.cells [.int .i64 0, .int .i64 0] false)).set M2.next (.cells (spC ((getS l' x).getD sp0)) false)).get c = M1.get c := fun c hc => by rw [Mem.get_set_ne _ _ (by omega), Mem.get_push_ne _ _ (by omega)]; exact qk c hc
      have pn : ((M2.push (.cells [.int .i64 0, .int .i64 0] false)).set M2.next (.cells (spC ((getS l' x).getD sp0)) false)).next = M1.next + 3 := by rw [Mem.next_set, Mem.next_push, qn]
      clear w7
      generalize (M2.push (.cells [.int .i64 0, .int .i64 0] false)).set M2.next (.cells (spC ((getS l' x).getD sp0)) false) = M3 at *
      have hkeep : ∀ c, c < M0.next → c ≠ it → M3.get c = M0.get c := fun c hc hne => (pk c (by omega)).trans (hk1 c hc hne)
      cases hs : getS l' x with
      | none =>
        simp -dsimp only [↓x_seq', ↓x_ops, ↓x_skip, ↓x_ret, ↓x_exit, ↓x_block', ↓x_cond', cond_true', cond_false', ↓i_nil, ↓i_plain, ↓i_guard, xs_val, xs_call, xs_yield, xg_true, xg_false, ↓n_normal, ↓n_ret, ↓n_exit, ↓b_normal, ↓b_ret, ↓b_exit, ↓xe_normal, ↓xe_ret, e_some, yieldOf, go_sem, ↓reduceIte, Nat.reduceEqDiff, Nat.reduceLT, Nat.reduceSub, X_maps_Equal_Stamp_7, X_maps_Equal_Stamp_8, Option.isSome_none, Bool.not_false]
        exact hQx _ _ ⟨x, hxm, by rw [hs, hgx]; simp⟩ hkeep (by simp only [go_sem, ↓reduceIte, Nat.reduceEqDiff, Nat.reduceLT, Nat.reduceSub])
      | some s' =>
        rw [hs] at p7
        by_cases hss : s = s'
        · simp -dsimp only [↓x_seq', ↓x_ops, ↓x_skip, ↓x_ret, ↓x_exit, ↓x_block', ↓x_cond', cond_true', cond_false', ↓i_nil, ↓i_plain, ↓i_guard, xs_val, xs_call, xs_yield, xg_true, xg_false, ↓n_normal, ↓n_ret, ↓n_exit, ↓b_normal, ↓b_ret, ↓b_exit, ↓xe_normal, ↓xe_ret, e_some, yieldOf, go_sem, ↓reduceIte, Nat.reduceEqDiff, Nat.reduceLT, Nat.reduceSub, X_maps_Equal_Stamp_7, X_maps_Equal_Stamp_8, Option.isSome_some, Bool.not_true, vload, vptr, Mem.read, p6, p7, hrs, Option.getD_some, sp_same, hss, decide_true]
          have hpre2 : ∀ y ∈ pre ++ [x], getS l' y = getS l y := fun y hy => by
            rcases List.mem_append.mp hy with hy | hy
            · exact hpre y hy
            · simp only [List.mem_singleton] at hy
              rw [hy, hs, hgx, hss]
          have hf2 : (rest.erase i).length = f := by rw [List.length_erase_of_mem hir]; omega
          have hit3 := (pk it (by omega)).trans hit1
          have hn3 : M0.next ≤ M3.next := by omega
          have ih2 := fun fr => ih (idx ++ [i]) (rest.erase i) (seen.push e.born) (pre ++ [x]) fr M3 hf2 hC' hpre2 hkeep hn3 hlt hit3
          refine ih2 _ ?_ ?_
          all_goals simp only [go_sem, ↓reduceIte, Nat.reduceEqDiff, Nat.reduceLT, Nat.reduceSub, h1, h15]
        · simp -dsimp only [↓x_seq', ↓x_ops, ↓x_skip, ↓x_ret, ↓x_exit, ↓x_block', ↓x_cond', cond_true', cond_false', ↓i_nil, ↓i_plain, ↓i_guard, xs_val, xs_call, xs_yield, xg_true, xg_false, ↓n_normal, ↓n_ret, ↓n_exit, ↓b_normal, ↓b_ret, ↓b_exit, ↓xe_normal, ↓xe_ret, e_some, yieldOf, go_sem, ↓reduceIte, Nat.reduceEqDiff, Nat.reduceLT, Nat.reduceSub, X_maps_Equal_Stamp_7, X_maps_Equal_Stamp_8, Option.isSome_some, Bool.not_true, vload, vptr, Mem.read, p6, p7, hrs, Option.getD_some, sp_same, hss, decide_false, Bool.not_false]
          exact hQx _ _ ⟨x, hxm, by rw [hs, hgx]; intro h; exact hss (Option.some.inj h).symm⟩ hkeep (by simp only [go_sem, ↓reduceIte, Nat.reduceEqDiff, Nat.reduceLT, Nat.reduceSub])

theorem Equal_runs (M : Mem) (b1 b2 : Nat) (l l' : Tr) (hnd : (keysS l).Nodup) (ents : List MapEntry) (clock : Nat) (hl : ents.length = (keysS l).length) (hborn : Born ents clock)
    (hb1 : M.get b1 = some (.rmap (encM l) ents clock)) (hb2 : mapAt M b2 = some (encM l')) (l1 : b1 < M.next) (l2 : b2 < M.next) :
    XP F_maps_Equal_Stamp [.map (some b1), .map (some b2)] M fun v M' => v = .bool (eqB l l') ∧ ∀ c, c < M.next → M'.get c = M.get c := by
  refine XR_opq fun R hR => ?_
  refine XRuns.walk mixed Tryz.func73 b_maps_Equal_Stamp n_maps_Equal_Stamp r_maps_Equal_Stamp (by rfl) ?_
  unfold X_maps_Equal_Stamp
  have hm1 : mapAt M b1 = some (encM l) := by unfold mapAt; rw [hb1]
  by_cases hln : l.length = l'.length
  · have hlni : (l.length : Int) = (l'.length : Int) := by omega
    simp -dsimp only [↓x_seq', ↓x_ops, ↓x_skip, ↓x_ret, ↓x_exit, ↓x_block', ↓x_cond', cond_true', cond_false', ↓i_nil, ↓i_plain, ↓i_guard, xs_val, xs_call, xs_yield, xg_true, xg_false, ↓n_normal, ↓n_ret, ↓n_exit, ↓b_normal, ↓b_ret, ↓b_exit, ↓xe_normal, ↓xe_ret, e_some, yieldOf, go_sem, ↓reduceIte, Nat.reduceEqDiff, Nat.reduceLT, Nat.reduceSub, X_maps_Equal_Stamp_0, X_maps_Equal_Stamp_1, X_maps_Equal_Stamp_3, enc_lenI hm1, enc_lenI hb2, hlni, ne_eq, not_true_eq_false, decide_false]
    refine i_range (b := b1) (clock := clock) (by simp only [go_sem, ↓reduceIte, Nat.reduceEqDiff, Nat.reduceLT, Nat.reduceSub]) hb1 ?_
    have hit : (M.push (.mapIter (some b1) clock #[] clock)).get M.next = some (.mapIter (some b1) clock #[] clock) := Mem.get_push_same _ _
    have hp : ∀ c, c < M.next → (M.push (.mapIter (some b1) clock #[] clock)).get c = M.get c := fun c hc => Mem.get_push_ne _ _ (by omega)
    have hnx : (M.push (.mapIter (some b1) clock #[] clock)).next = M.next + 1 := rfl
    simp -dsimp only [↓x_seq', ↓x_ops, ↓x_skip, ↓x_ret, ↓x_exit, ↓x_block', ↓x_cond', cond_true', cond_false', ↓i_nil, ↓i_plain, ↓i_guard, xs_val, xs_call, xs_yield, xg_true, xg_false, ↓n_normal, ↓n_ret, ↓n_exit, ↓b_normal, ↓b_ret, ↓b_exit, ↓xe_normal, ↓xe_ret, e_some, yieldOf, go_sem, ↓reduceIte, Nat.reduceEqDiff, Nat.reduceLT, Nat.reduceSub]
    refine ⟨(keysS l).length + 1, Equal_loop M.next b1 b2 l l' hnd ents clock hl hborn _ ((hp _ l1).trans hb1) (mapAt_keep hb2 (hp _ l2)) (by omega) (by omega) (by omega) (by omega) _ ?_ ?_ (keysS l).length [] (List.range (keysS l).length) #[] [] _ _ (by simp) ⟨by simp, rfl, rfl⟩ (fun x hx => by cases hx) (fun _ _ _ => rfl) (Nat.le_refl _) (by omega) hit ?_ ?_⟩
    · intro fr M' hall hk
      simp -dsimp only [↓x_seq', ↓x_ops, ↓x_skip, ↓x_ret, ↓x_exit, ↓x_block', ↓x_cond', cond_true', cond_false', ↓i_nil, ↓i_plain, ↓i_guard, xs_val, xs_call, xs_yield, xg_true, xg_false, ↓n_normal, ↓n_ret, ↓n_exit, ↓b_normal, ↓b_ret, ↓b_exit, ↓xe_normal, ↓xe_ret, e_some, yieldOf, go_sem, ↓reduceIte, Nat.reduceEqDiff, Nat.reduceLT, Nat.reduceSub, X_maps_Equal_Stamp_10]
      refine hR _ _ ⟨?_, fun c hc => (hk c (by omega) (by omega)).trans (hp c hc)⟩
      rw [eqB, decide_eq_true hln, Bool.true_and, List.all_eq_true.mpr fun x hx => decide_eq_true (hall x hx)]
    · intro fr M' hex hk h4
      simp -dsimp only [↓x_seq', ↓x_ops, ↓x_skip, ↓x_ret, ↓x_exit, ↓x_block', ↓x_cond', cond_true', cond_false', ↓i_nil, ↓i_plain, ↓i_guard, xs_val, xs_call, xs_yield, xg_true, xg_false, ↓n_normal, ↓n_ret, ↓n_exit, ↓b_normal, ↓b_ret, ↓b_exit, ↓xe_normal, ↓xe_ret, e_some, yieldOf, go_sem, ↓reduceIte, Nat.reduceEqDiff, Nat.reduceLT, Nat.reduceSub, h4]
      refine hR _ _ ⟨?_, fun c hc => (hk c (by omega) (by omega)).trans (hp c hc)⟩
      obtain ⟨x, hx, hne⟩ := hex
      have : (keysS l).all (fun x => decide (getS l' x = getS l x)) = false := by
        rw [List.all_eq_false]
        exact ⟨x, hx, by simpa using hne⟩
      rw [eqB, this, Bool.and_false]
    all_goals simp only [go_sem, ↓reduceIte, Nat.reduceEqDiff, Nat.reduceLT, Nat.reduceSub]
  · have hlni : ¬ (l.length : Int) = (l'.length : Int) := by omega
    simp -dsimp only [↓x_seq', ↓x_ops, ↓x_skip, ↓x_ret, ↓x_exit, ↓x_block', ↓x_cond', cond_true', cond_false', ↓i_nil, ↓i_plain, ↓i_guard, xs_val, xs_call, xs_yield, xg_true, xg_false, ↓n_normal, ↓n_ret, ↓n_exit, ↓b_normal, ↓b_ret, ↓b_exit, ↓xe_normal, ↓xe_ret, e_some, yieldOf, go_sem, ↓reduceIte, Nat.reduceEqDiff, Nat.reduceLT, Nat.reduceSub, X_maps_Equal_Stamp_0, X_maps_Equal_Stamp_1, X_maps_Equal_Stamp_2, enc_lenI hm1, enc_lenI hb2, hlni, ne_eq, not_false_eq_true, decide_true]
    exact hR _ _ ⟨by rw [eqB, decide_eq_false hln, Bool.false_and], fun _ _ => rfl⟩

def pEqual (args : List V) (M : Mem) : Option KeepR :=
  match args with
  | [.map (some b1), .map (some b2)] => (match M.get b1, M.get b2 with
    | some (.map es), some (.map es') => (decM es).bind fun l => (decM es').bind fun l' => cond (decide (keysS l).Nodup) (some (.flat (.bool (eqB l l')))) none
    | _, _ => none)
  | _ => none
theorem pEqual_ok : CallOK Tryz.prog gl0 fun f' args M => if f' = F_maps_Equal_Stamp then (pEqual args M).map fun r => r.res M else none := by
  refine callOK_keep ⟨_, Tryz.func73, (by kernel_rfl), (by kernel_rfl)⟩ ?_
  intro args M r h hwf
  unfold pEqual at h
  split at h
  · rename_i b1 b2
    split at h
    · rename_i es es' hb1 hb2
      simp only [Option.bind_eq_some_iff] at h
      obtain ⟨l, hl, l', hl', h⟩ := h
      obtain ⟨hnd, h⟩ := cond_some h
      have hnd := of_decide_eq_true hnd
      cases h
      have e1 := decM_is hl
      have e2 := decM_is hl'
      subst e1 e2
      refine ⟨[b1], fun E w us hR hA b hb => ?_, fun Mz hz => ?_⟩
      · simp only [List.mem_singleton] at hb
        subst hb
        refine ⟨⟨_, hb1⟩, ?_⟩
        cases hA with
        | cons h1 t => cases h1 with
          | map hE => exact ⟨_, hE⟩
      · obtain ⟨es'', ents, clock, hz1, hz2, hz3, hz4⟩ := hz.at_ b1 (by simp)
        rw [hb1] at hz1
        cases hz1
        have lt1 := lt_of_get hwf hb1
        have lt2 := lt_of_get hwf hb2
        rw [← hz.next] at lt1 lt2
        have hm2 : mapAt Mz b2 = some (encM l') := by
          by_cases e : b2 = b1
          · subst e
            rw [hb1] at hb2
            simp only [Option.some.injEq, O.map.injEq] at hb2
            unfold mapAt
            rw [hz2]
            simp only [hb2]
          · unfold mapAt
            rw [hz.other b2 (by simpa using e), hb2]
        refine (Equal_runs Mz b1 b2 l l' hnd ents clock (by rw [hz3, enc_len, keys_len]) hz4 hz2 hm2 lt1 lt2).mono ?_
        intro v M' hv
        exact ⟨fun c hc => hv.2 c (by rw [hz.next]; exact hc), rfl, hv.1⟩
    · cases h
  · cases h
theorem pClone_ok : CallOK Tryz.prog gl0 fun f' args M => if f' = F_maps_Clone_Stamp then pClone args M else none := by
  intro f' args M v M' he
  simp only at he
  split at he
  · rename_i e
    subst e
    unfold pClone at he
    split at he
    · rename_i b
      split at he
      · rename_i es hb
        cases he
        refine ⟨⟨_, Tryz.func69, (by kernel_rfl), (by kernel_rfl)⟩, fun E w args' hR hG hA => ?_⟩
        generalize hq : args'.toList = q at hA
        cases hA with
        | cons h1 t =>
          cases t
          cases h1 with
          | map hE =>
            rename_i c d k
            obtain rfl : args' = #[.map (some c)] := by cases args'; simp_all
            obtain ⟨o, ho, hor⟩ := hR.at_ b c d k hE
            rw [hb] at ho
            cases ho
            obtain ⟨ents, clock, hx, hER, hborn⟩ := hor
            have hc := AnyW.maps_Clone Tryz.cloneR c ents clock w hx
            refine hc.mono fun e w' ⟨he, hw⟩ => ?_
            subst hw
            have hle := Emb.more_le (x := (w.heap.size, 0, 0)) (hR.fresh (Nat.le_refl M.next))
            obtain ⟨r1, r2⟩ := hR.alloc (o := .map es) (x := .map ents clock) (k := 0) ⟨ents, clock, rfl, ⟨hER.1.mono hle, hER.2.mono hle⟩, hborn⟩
            exact ⟨_, _, he, .map (Emb.more_same _ _ _), r1, r2⟩
      · cases he
    · cases he
  · cases he
end Go.Am.Tryz.Rf


/- The graph's machine. -/
namespace Go.Am.Tryz.G
open Go Go.Am Go.Am.Tryz Go.Am.Tryz.O Go.Proofs Go.Sort Go.Shelf
set_option maxRecDepth 100000
set_option linter.unusedSimpArgs false
set_option linter.unusedVariables false

def Da : Decls := O.D2.addM F_maps_Clone_Stamp_Spot Tryz.pClone
def Db : Decls := Da.addM F_maps_Equal_Stamp_Spot (fun args M => (Tryz.pEqual args M).map fun r => r.res M)
def Dc : Decls := Db.addM F_slices_Insert_entry pInsert
def Dd : Decls := Dc.addM F_maps_Clone_Stamp Tryz.pClone
def D1 : Decls := Dd.addM F_maps_Equal_Stamp (fun args M => (Rf.pEqual args M).map fun r => r.res M)
theorem dok1 : DOK Tryz.prog gl0 D1 := ((((O.dok2.addM Tryz.pClone_ok).addM Tryz.pEqual_ok).addM pInsert_ok).addM Rf.pClone_ok).addM Rf.pEqual_ok
def Dk : Decls := ⟨codeOf (codesK ++ codes), D1.prim⟩
theorem dokk : DOK Tryz.prog gl0 Dk := ⟨dok1.mixed, fun f F hf => codesA_ok (f, F) (codeOf_get hf), dok1.prim⟩
theorem knows_closed : (callN Dk 400 F_law13_knows [] memG).map (·.1) = some (.bool true) := by kernel_rfl
end Go.Am.Tryz.G


/- No graph: what each function tells of it. -/
namespace Go.Am.Tryz.G
open Go Go.Am Go.Am.Tryz Go.Am.Tryz.O Go.Proofs Go.Sort Go.Shelf
set_option maxRecDepth 100000
set_option linter.unusedSimpArgs false
set_option linter.unusedVariables false

/-- The laws' 'knows' as a part. -/
def pKnowsG (args : List V) (M : Mem) : Option (V × Mem) :=
  match args with
  | [] => cond (isG M) (some (.bool true, M)) none
  | _ => none
theorem pKnowsG_ok : CallOK Tryz.prog gl0 fun f' args M => if f' = F_law13_knows then pKnowsG args M else none := by
  obtain ⟨⟨v, M'⟩, h1, h2⟩ := Option.map_eq_some_iff.mp knows_closed
  simp only at h2
  subst h2
  refine prim_env dokk (M0 := memG) rfl ?_ ?_ h1 ?_
  · intro b hb
    rw [memG, Env.next_mem] at hb
    rw [memG, Env.get_mem, List.getElem?_eq_none hb]
    rfl
  · intro x hx
    rcases gl_two hx with rfl | rfl
    · exact ⟨_, memG_0, rfl⟩
    · exact ⟨_, memG_1, rfl⟩
  · intro args M r h
    unfold pKnowsG at h
    split at h
    · obtain ⟨hg, h⟩ := cond_some h
      cases h
      refine ⟨rfl, rfl, fun x hx => ?_⟩
      rcases gl_two hx with rfl | rfl
      · rw [(isG_is hg).1, memG_0]
      · rw [(isG_is hg).2, memG_1]
    · cases h
def D2 : Decls := D1.addM F_law13_knows pKnowsG
theorem dok2 : DOK Tryz.prog gl0 D2 := dok1.addM pKnowsG_ok
theorem knowsG_p {M : Mem} (h : isG M = true) : Runs D2 F_law13_knows [] M fun v M' => v = .bool true ∧ M' = M :=
  Runs.prim (v := .bool true) (M' := M) rfl (by simp only [pKnowsG, h, cond_true]) ⟨rfl, rfl⟩

def NoGr (M : Mem) (t : V) : Prop := t = .ptr none ∨ ∃ gc a b rc, t = .ptr (some (gc, 0)) ∧ gc < M.next ∧ M.get gc = some (.cells [a, .ptr none, b] rc)
theorem NoGr.grew {M M' : Mem} {t : V} (h : NoGr M t) (hG : Grew M M') : NoGr M' t := by
  rcases h with rfl | ⟨gc, a, b, rc, rfl, h1, h2⟩
  · exact .inl rfl
  · exact .inr ⟨gc, a, b, rc, rfl, Nat.lt_of_lt_of_le h1 hG.next, (hG.old _ h1).trans h2⟩
theorem NoGr.none_ {M : Mem} {t : V} (h : NoGr M t) : Runs D2 F_graph_Graph_none [t] M fun v M' => v = .bool true ∧ M' = M := by
  refine R_opq fun R hR => ?_
  refine Runs.walk (F := A_graph_Graph_none) rfl (by rfl) (by rfl) ?_
  unfold A_graph_Graph_none
  rcases h with rfl | ⟨gc, a, b, rc, rfl, h1, h2⟩
  · simp -dsimp only [↓w_seq, ↓w_ops, ↓w_skip, ↓w_ret, ↓w_exit, ↓w_scope, ↓w_block, ↓w_cond, cond_true', cond_false', ↓t_nil, ↓t_plain, ↓t_guard, ↓t_gagain, ↓t_again, t_val, t_call, g_true, g_false, ga_true, ga_false, a_val, a_call, ↓n_normal, ↓n_ret, ↓n_exit, ↓b_normal, ↓b_ret, ↓b_exit, ↓e_normal, ↓e_ret, e_some, go_sem, ↓reduceIte, Nat.reduceEqDiff, Nat.reduceLT, Nat.reduceSub, A_graph_Graph_none_0, A_graph_Graph_none_1, nil_ptr, nil_ptr', Option.map_some]
    exact hR _ _ ⟨rfl, rfl⟩
  · simp -dsimp only [↓w_seq, ↓w_ops, ↓w_skip, ↓w_ret, ↓w_exit, ↓w_scope, ↓w_block, ↓w_cond, cond_true', cond_false', ↓t_nil, ↓t_plain, ↓t_guard, ↓t_gagain, ↓t_again, t_val, t_call, g_true, g_false, ga_true, ga_false, a_val, a_call, ↓n_normal, ↓n_ret, ↓n_exit, ↓b_normal, ↓b_ret, ↓b_exit, ↓e_normal, ↓e_ret, e_some, go_sem, ↓reduceIte, Nat.reduceEqDiff, Nat.reduceLT, Nat.reduceSub, A_graph_Graph_none_0, A_graph_Graph_none_1, nil_ptr, nil_ptr', Option.map_some, vload, vptr, Mem.read, h2, Nat.zero_add, List.getElem?_cons_zero, List.getElem?_cons_succ]
    exact hR _ _ ⟨rfl, rfl⟩
theorem f2 : fillCells [.int .i64 0, .int .i64 0] [] = some (stC (0, 0)) := rfl
theorem f3 : fillCells [.int .i64 0, .int .i64 0, .str []] [] = some (spC sp0) := rfl
theorem NoGr.spot {M : Mem} {t : V} (h : NoGr M t) (n : St) : Runs D2 F_graph_Graph_Spot [t, .agg (stC n)] M fun v M' => v = .tup [.agg (spC sp0), .bool false] ∧ Grew M M' := by
  refine R_opq fun R hR => ?_
  refine Runs.walk (F := A_graph_Graph_Spot) rfl (by rfl) (by rfl) ?_
  unfold A_graph_Graph_Spot
  have hcn : V.cells (.agg (stC n)) = stC n := rfl
  have hcs : V.cells (.agg (spC sp0)) = spC sp0 := rfl
  have hls : (spC sp0).length = 3 := rfl
  have hG1 := Grew.push M (.cells (stC n) false)
  simp -dsimp only [↓w_seq, ↓w_ops, ↓w_skip, ↓w_ret, ↓w_exit, ↓w_scope, ↓w_block, ↓w_cond, cond_true', cond_false', ↓t_nil, ↓t_plain, ↓t_guard, ↓t_gagain, ↓t_again, t_val, t_call, g_true, g_false, ga_true, ga_false, a_val, a_call, ↓n_normal, ↓n_ret, ↓n_exit, ↓b_normal, ↓b_ret, ↓b_exit, ↓e_normal, ↓e_ret, e_some, go_sem, ↓reduceIte, Nat.reduceEqDiff, Nat.reduceLT, Nat.reduceSub, A_graph_Graph_Spot_0, A_graph_Graph_Spot_1, hcn]
  generalize M.push (.cells (stC n) false) = M1 at *
  have hw := write_full (M := M1.push (.cells [.int .i64 0, .int .i64 0, .str []] false)) (b := M1.next) (vs := spC sp0) (Mem.get_push_same _ _) rfl rfl
  have g4 : ((M1.push (.cells [.int .i64 0, .int .i64 0, .str []] false)).set M1.next (.cells (spC sp0) false)).get M1.next = some (.cells (spC sp0) false) := Mem.get_set_same _ _ _
  have hG2 : Grew M1 ((M1.push (.cells [.int .i64 0, .int .i64 0, .str []] false)).set M1.next (.cells (spC sp0) false)) := (Grew.push M1 _).upd (Nat.le_refl _) (Upd.set _ _ _)
  have hGp := Grew.push M1 (.cells [.int .i64 0, .int .i64 0, .str []] false)
  refine call_eq (h.grew (hG1.trans hGp)).none_ ?_
  have hrs : rdCells (spC sp0) 0 3 = some (spC sp0) := rfl
  simp -dsimp only [↓w_seq, ↓w_ops, ↓w_skip, ↓w_ret, ↓w_exit, ↓w_scope, ↓w_block, ↓w_cond, cond_true', cond_false', ↓t_nil, ↓t_plain, ↓t_guard, ↓t_gagain, ↓t_again, t_val, t_call, g_true, g_false, ga_true, ga_false, a_val, a_call, ↓n_normal, ↓n_ret, ↓n_exit, ↓b_normal, ↓b_ret, ↓b_exit, ↓e_normal, ↓e_ret, e_some, go_sem, ↓reduceIte, Nat.reduceEqDiff, Nat.reduceLT, Nat.reduceSub, A_graph_Graph_Spot_2, f3, vof, Option.map_some, vstore, vptr, hcs, hls, hw, Nat.reduceEqDiff, vload, Mem.read, g4, hrs, Option.bind_some]
  exact hR _ _ ⟨rfl, hG1.trans hG2⟩
theorem NoGr.ref {M : Mem} {t : V} (h : NoGr M t) (n : St) : Runs D2 F_graph_Graph_Ref [t, .agg (stC n)] M fun v M' => v = .tup [.agg (stC (0, 0)), .bool false] ∧ Grew M M' := by
  refine R_opq fun R hR => ?_
  refine Runs.walk (F := A_graph_Graph_Ref) rfl (by rfl) (by rfl) ?_
  unfold A_graph_Graph_Ref
  have hcn : V.cells (.agg (stC n)) = stC n := rfl
  have hcs : V.cells (.agg (stC (0, 0))) = stC (0, 0) := rfl
  have hls : (stC (0, 0)).length = 2 := rfl
  have hG1 := Grew.push M (.cells (stC n) false)
  simp -dsimp only [↓w_seq, ↓w_ops, ↓w_skip, ↓w_ret, ↓w_exit, ↓w_scope, ↓w_block, ↓w_cond, cond_true', cond_false', ↓t_nil, ↓t_plain, ↓t_guard, ↓t_gagain, ↓t_again, t_val, t_call, g_true, g_false, ga_true, ga_false, a_val, a_call, ↓n_normal, ↓n_ret, ↓n_exit, ↓b_normal, ↓b_ret, ↓b_exit, ↓e_normal, ↓e_ret, e_some, go_sem, ↓reduceIte, Nat.reduceEqDiff, Nat.reduceLT, Nat.reduceSub, A_graph_Graph_Ref_0, A_graph_Graph_Ref_1, hcn]
  generalize M.push (.cells (stC n) false) = M1 at *
  have hw := write_full (M := M1.push (.cells [.int .i64 0, .int .i64 0] false)) (b := M1.next) (vs := stC (0, 0)) (Mem.get_push_same _ _) rfl rfl
  have g4 : ((M1.push (.cells [.int .i64 0, .int .i64 0] false)).set M1.next (.cells (stC (0, 0)) false)).get M1.next = some (.cells (stC (0, 0)) false) := Mem.get_set_same _ _ _
  have hG2 : Grew M1 ((M1.push (.cells [.int .i64 0, .int .i64 0] false)).set M1.next (.cells (stC (0, 0)) false)) := (Grew.push M1 _).upd (Nat.le_refl _) (Upd.set _ _ _)
  have hGp := Grew.push M1 (.cells [.int .i64 0, .int .i64 0] false)
  refine call_eq (h.grew (hG1.trans hGp)).none_ ?_
  have hrs : rdCells (stC (0, 0)) 0 2 = some (stC (0, 0)) := rfl
  simp -dsimp only [↓w_seq, ↓w_ops, ↓w_skip, ↓w_ret, ↓w_exit, ↓w_scope, ↓w_block, ↓w_cond, cond_true', cond_false', ↓t_nil, ↓t_plain, ↓t_guard, ↓t_gagain, ↓t_again, t_val, t_call, g_true, g_false, ga_true, ga_false, a_val, a_call, ↓n_normal, ↓n_ret, ↓n_exit, ↓b_normal, ↓b_ret, ↓b_exit, ↓e_normal, ↓e_ret, e_some, go_sem, ↓reduceIte, Nat.reduceEqDiff, Nat.reduceLT, Nat.reduceSub, A_graph_Graph_Ref_2, f2, vof, Option.map_some, vstore, vptr, hcs, hls, hw, Nat.reduceEqDiff, vload, Mem.read, g4, hrs, Option.bind_some]
  exact hR _ _ ⟨rfl, hG1.trans hG2⟩
theorem NoGr.has {M : Mem} {t : V} (h : NoGr M t) (n : St) : Runs D2 F_graph_Graph_Has [t, .agg (stC n)] M fun v M' => v = .bool false ∧ Grew M M' := by
  refine R_opq fun R hR => ?_
  refine Runs.walk (F := A_graph_Graph_Has) rfl (by rfl) (by rfl) ?_
  unfold A_graph_Graph_Has
  have hcn : V.cells (.agg (stC n)) = stC n := rfl
  have hG1 := Grew.push M (.cells (stC n) false)
  simp -dsimp only [↓w_seq, ↓w_ops, ↓w_skip, ↓w_ret, ↓w_exit, ↓w_scope, ↓w_block, ↓w_cond, cond_true', cond_false', ↓t_nil, ↓t_plain, ↓t_guard, ↓t_gagain, ↓t_again, t_val, t_call, g_true, g_false, ga_true, ga_false, a_val, a_call, ↓n_normal, ↓n_ret, ↓n_exit, ↓b_normal, ↓b_ret, ↓b_exit, ↓e_normal, ↓e_ret, e_some, go_sem, ↓reduceIte, Nat.reduceEqDiff, Nat.reduceLT, Nat.reduceSub, A_graph_Graph_Has_0, A_graph_Graph_Has_1, hcn]
  generalize M.push (.cells (stC n) false) = M1 at *
  refine call_eq (h.grew hG1).none_ ?_
  simp -dsimp only [↓w_seq, ↓w_ops, ↓w_skip, ↓w_ret, ↓w_exit, ↓w_scope, ↓w_block, ↓w_cond, cond_true', cond_false', ↓t_nil, ↓t_plain, ↓t_guard, ↓t_gagain, ↓t_again, t_val, t_call, g_true, g_false, ga_true, ga_false, a_val, a_call, ↓n_normal, ↓n_ret, ↓n_exit, ↓b_normal, ↓b_ret, ↓b_exit, ↓e_normal, ↓e_ret, e_some, go_sem, ↓reduceIte, Nat.reduceEqDiff, Nat.reduceLT, Nat.reduceSub, Bool.not_true]
  exact hR _ _ ⟨rfl, hG1⟩
theorem NoGr.done {M : Mem} {t : V} (h : NoGr M t) (n : St) : Runs D2 F_graph_Graph_Done [t, .agg (stC n)] M fun v M' => v = .bool false ∧ Grew M M' := by
  refine R_opq fun R hR => ?_
  refine Runs.walk (F := A_graph_Graph_Done) rfl (by rfl) (by rfl) ?_
  unfold A_graph_Graph_Done
  have hcn : V.cells (.agg (stC n)) = stC n := rfl
  have hG1 := Grew.push M (.cells (stC n) false)
  simp -dsimp only [↓w_seq, ↓w_ops, ↓w_skip, ↓w_ret, ↓w_exit, ↓w_scope, ↓w_block, ↓w_cond, cond_true', cond_false', ↓t_nil, ↓t_plain, ↓t_guard, ↓t_gagain, ↓t_again, t_val, t_call, g_true, g_false, ga_true, ga_false, a_val, a_call, ↓n_normal, ↓n_ret, ↓n_exit, ↓b_normal, ↓b_ret, ↓b_exit, ↓e_normal, ↓e_ret, e_some, go_sem, ↓reduceIte, Nat.reduceEqDiff, Nat.reduceLT, Nat.reduceSub, A_graph_Graph_Done_0, A_graph_Graph_Done_1, hcn]
  generalize M.push (.cells (stC n) false) = M1 at *
  refine call_eq (h.grew hG1).none_ ?_
  simp -dsimp only [↓w_seq, ↓w_ops, ↓w_skip, ↓w_ret, ↓w_exit, ↓w_scope, ↓w_block, ↓w_cond, cond_true', cond_false', ↓t_nil, ↓t_plain, ↓t_guard, ↓t_gagain, ↓t_again, t_val, t_call, g_true, g_false, ga_true, ga_false, a_val, a_call, ↓n_normal, ↓n_ret, ↓n_exit, ↓b_normal, ↓b_ret, ↓b_exit, ↓e_normal, ↓e_ret, e_some, go_sem, ↓reduceIte, Nat.reduceEqDiff, Nat.reduceLT, Nat.reduceSub, A_graph_Graph_Done_2]
  exact hR _ _ ⟨rfl, hG1⟩
theorem NoGr.row {M : Mem} {t : V} (h : NoGr M t) (n : St) : Runs D2 F_graph_Graph_Row [t, .agg (stC n)] M fun v M' => v = .slice none 0 (.exact 0) ∧ Grew M M' := by
  refine R_opq fun R hR => ?_
  refine Runs.walk (F := A_graph_Graph_Row) rfl (by rfl) (by rfl) ?_
  unfold A_graph_Graph_Row
  have hcn : V.cells (.agg (stC n)) = stC n := rfl
  have hG1 := Grew.push M (.cells (stC n) false)
  simp -dsimp only [↓w_seq, ↓w_ops, ↓w_skip, ↓w_ret, ↓w_exit, ↓w_scope, ↓w_block, ↓w_cond, cond_true', cond_false', ↓t_nil, ↓t_plain, ↓t_guard, ↓t_gagain, ↓t_again, t_val, t_call, g_true, g_false, ga_true, ga_false, a_val, a_call, ↓n_normal, ↓n_ret, ↓n_exit, ↓b_normal, ↓b_ret, ↓b_exit, ↓e_normal, ↓e_ret, e_some, go_sem, ↓reduceIte, Nat.reduceEqDiff, Nat.reduceLT, Nat.reduceSub, A_graph_Graph_Row_0, A_graph_Graph_Row_1, hcn]
  generalize M.push (.cells (stC n) false) = M1 at *
  refine call_eq (h.grew hG1).none_ ?_
  simp -dsimp only [↓w_seq, ↓w_ops, ↓w_skip, ↓w_ret, ↓w_exit, ↓w_scope, ↓w_block, ↓w_cond, cond_true', cond_false', ↓t_nil, ↓t_plain, ↓t_guard, ↓t_gagain, ↓t_again, t_val, t_call, g_true, g_false, ga_true, ga_false, a_val, a_call, ↓n_normal, ↓n_ret, ↓n_exit, ↓b_normal, ↓b_ret, ↓b_exit, ↓e_normal, ↓e_ret, e_some, go_sem, ↓reduceIte, Nat.reduceEqDiff, Nat.reduceLT, Nat.reduceSub, A_graph_Graph_Row_2]
  exact hR _ _ ⟨rfl, hG1⟩
theorem NoGr.above {M : Mem} {t : V} (h : NoGr M t) (n : St) : Runs D2 F_graph_Graph_Above [t, .agg (stC n)] M fun v M' => v = .slice none 0 (.exact 0) ∧ Grew M M' := by
  refine R_opq fun R hR => ?_
  refine Runs.walk (F := A_graph_Graph_Above) rfl (by rfl) (by rfl) ?_
  unfold A_graph_Graph_Above
  have hcn : V.cells (.agg (stC n)) = stC n := rfl
  have hG1 := Grew.push M (.cells (stC n) false)
  simp -dsimp only [↓w_seq, ↓w_ops, ↓w_skip, ↓w_ret, ↓w_exit, ↓w_scope, ↓w_block, ↓w_cond, cond_true', cond_false', ↓t_nil, ↓t_plain, ↓t_guard, ↓t_gagain, ↓t_again, t_val, t_call, g_true, g_false, ga_true, ga_false, a_val, a_call, ↓n_normal, ↓n_ret, ↓n_exit, ↓b_normal, ↓b_ret, ↓b_exit, ↓e_normal, ↓e_ret, e_some, go_sem, ↓reduceIte, Nat.reduceEqDiff, Nat.reduceLT, Nat.reduceSub, A_graph_Graph_Above_0, A_graph_Graph_Above_1, hcn]
  generalize M.push (.cells (stC n) false) = M1 at *
  refine call_eq (h.grew hG1).none_ ?_
  simp -dsimp only [↓w_seq, ↓w_ops, ↓w_skip, ↓w_ret, ↓w_exit, ↓w_scope, ↓w_block, ↓w_cond, cond_true', cond_false', ↓t_nil, ↓t_plain, ↓t_guard, ↓t_gagain, ↓t_again, t_val, t_call, g_true, g_false, ga_true, ga_false, a_val, a_call, ↓n_normal, ↓n_ret, ↓n_exit, ↓b_normal, ↓b_ret, ↓b_exit, ↓e_normal, ↓e_ret, e_some, go_sem, ↓reduceIte, Nat.reduceEqDiff, Nat.reduceLT, Nat.reduceSub, A_graph_Graph_Above_2]
  exact hR _ _ ⟨rfl, hG1⟩
theorem NoGr.nodes {M : Mem} {t : V} (h : NoGr M t) : Runs D2 F_graph_Graph_Nodes [t] M fun v M' => v = .slice none 0 (.exact 0) ∧ M' = M := by
  refine R_opq fun R hR => ?_
  refine Runs.walk (F := A_graph_Graph_Nodes) rfl (by rfl) (by rfl) ?_
  unfold A_graph_Graph_Nodes
  simp -dsimp only [↓w_seq, ↓w_ops, ↓w_skip, ↓w_ret, ↓w_exit, ↓w_scope, ↓w_block, ↓w_cond, cond_true', cond_false', ↓t_nil, ↓t_plain, ↓t_guard, ↓t_gagain, ↓t_again, t_val, t_call, g_true, g_false, ga_true, ga_false, a_val, a_call, ↓n_normal, ↓n_ret, ↓n_exit, ↓b_normal, ↓b_ret, ↓b_exit, ↓e_normal, ↓e_ret, e_some, go_sem, ↓reduceIte, Nat.reduceEqDiff, Nat.reduceLT, Nat.reduceSub, A_graph_Graph_Nodes_0, A_graph_Graph_Nodes_1]
  refine call_eq h.none_ ?_
  simp -dsimp only [↓w_seq, ↓w_ops, ↓w_skip, ↓w_ret, ↓w_exit, ↓w_scope, ↓w_block, ↓w_cond, cond_true', cond_false', ↓t_nil, ↓t_plain, ↓t_guard, ↓t_gagain, ↓t_again, t_val, t_call, g_true, g_false, ga_true, ga_false, a_val, a_call, ↓n_normal, ↓n_ret, ↓n_exit, ↓b_normal, ↓b_ret, ↓b_exit, ↓e_normal, ↓e_ret, e_some, go_sem, ↓reduceIte, Nat.reduceEqDiff, Nat.reduceLT, Nat.reduceSub, A_graph_Graph_Nodes_2]
  exact hR _ _ ⟨rfl, rfl⟩
theorem NoGr.count {M : Mem} {t : V} (h : NoGr M t) : Runs D2 F_graph_Graph_Count [t] M fun v M' => v = .int .i64 0 ∧ M' = M := by
  refine R_opq fun R hR => ?_
  refine Runs.walk (F := A_graph_Graph_Count) rfl (by rfl) (by rfl) ?_
  unfold A_graph_Graph_Count
  simp -dsimp only [↓w_seq, ↓w_ops, ↓w_skip, ↓w_ret, ↓w_exit, ↓w_scope, ↓w_block, ↓w_cond, cond_true', cond_false', ↓t_nil, ↓t_plain, ↓t_guard, ↓t_gagain, ↓t_again, t_val, t_call, g_true, g_false, ga_true, ga_false, a_val, a_call, ↓n_normal, ↓n_ret, ↓n_exit, ↓b_normal, ↓b_ret, ↓b_exit, ↓e_normal, ↓e_ret, e_some, go_sem, ↓reduceIte, Nat.reduceEqDiff, Nat.reduceLT, Nat.reduceSub, A_graph_Graph_Count_0, A_graph_Graph_Count_1]
  refine call_eq h.none_ ?_
  simp -dsimp only [↓w_seq, ↓w_ops, ↓w_skip, ↓w_ret, ↓w_exit, ↓w_scope, ↓w_block, ↓w_cond, cond_true', cond_false', ↓t_nil, ↓t_plain, ↓t_guard, ↓t_gagain, ↓t_again, t_val, t_call, g_true, g_false, ga_true, ga_false, a_val, a_call, ↓n_normal, ↓n_ret, ↓n_exit, ↓b_normal, ↓b_ret, ↓b_exit, ↓e_normal, ↓e_ret, e_some, go_sem, ↓reduceIte, Nat.reduceEqDiff, Nat.reduceLT, Nat.reduceSub, A_graph_Graph_Count_2]
  exact hR _ _ ⟨rfl, rfl⟩
theorem NoGr.same {M : Mem} {t u : V} (h : NoGr M t) : Runs D2 F_graph_Graph_Same [t, u] M fun v M' => v = .bool false ∧ M' = M := by
  refine R_opq fun R hR => ?_
  refine Runs.walk (F := A_graph_Graph_Same) rfl (by rfl) (by rfl) ?_
  unfold A_graph_Graph_Same
  simp -dsimp only [↓w_seq, ↓w_ops, ↓w_skip, ↓w_ret, ↓w_exit, ↓w_scope, ↓w_block, ↓w_cond, cond_true', cond_false', ↓t_nil, ↓t_plain, ↓t_guard, ↓t_gagain, ↓t_again, t_val, t_call, g_true, g_false, ga_true, ga_false, a_val, a_call, ↓n_normal, ↓n_ret, ↓n_exit, ↓b_normal, ↓b_ret, ↓b_exit, ↓e_normal, ↓e_ret, e_some, go_sem, ↓reduceIte, Nat.reduceEqDiff, Nat.reduceLT, Nat.reduceSub, A_graph_Graph_Same_0, A_graph_Graph_Same_1]
  refine call_eq h.none_ ?_
  simp -dsimp only [↓w_seq, ↓w_ops, ↓w_skip, ↓w_ret, ↓w_exit, ↓w_scope, ↓w_block, ↓w_cond, cond_true', cond_false', ↓t_nil, ↓t_plain, ↓t_guard, ↓t_gagain, ↓t_again, t_val, t_call, g_true, g_false, ga_true, ga_false, a_val, a_call, ↓n_normal, ↓n_ret, ↓n_exit, ↓b_normal, ↓b_ret, ↓b_exit, ↓e_normal, ↓e_ret, e_some, go_sem, ↓reduceIte, Nat.reduceEqDiff, Nat.reduceLT, Nat.reduceSub, Bool.not_true]
  exact hR _ _ ⟨rfl, rfl⟩
theorem NoGr.clone {M : Mem} {t : V} (h : NoGr M t) : Runs D2 F_graph_Graph_Clone [t] M fun v M' => v = .ptr none ∧ M' = M := by
  refine R_opq fun R hR => ?_
  refine Runs.walk (F := A_graph_Graph_Clone) rfl (by rfl) (by rfl) ?_
  unfold A_graph_Graph_Clone
  simp -dsimp only [↓w_seq, ↓w_ops, ↓w_skip, ↓w_ret, ↓w_exit, ↓w_scope, ↓w_block, ↓w_cond, cond_true', cond_false', ↓t_nil, ↓t_plain, ↓t_guard, ↓t_gagain, ↓t_again, t_val, t_call, g_true, g_false, ga_true, ga_false, a_val, a_call, ↓n_normal, ↓n_ret, ↓n_exit, ↓b_normal, ↓b_ret, ↓b_exit, ↓e_normal, ↓e_ret, e_some, go_sem, ↓reduceIte, Nat.reduceEqDiff, Nat.reduceLT, Nat.reduceSub, A_graph_Graph_Clone_0, A_graph_Graph_Clone_1]
  refine call_eq h.none_ ?_
  simp -dsimp only [↓w_seq, ↓w_ops, ↓w_skip, ↓w_ret, ↓w_exit, ↓w_scope, ↓w_block, ↓w_cond, cond_true', cond_false', ↓t_nil, ↓t_plain, ↓t_guard, ↓t_gagain, ↓t_again, t_val, t_call, g_true, g_false, ga_true, ga_false, a_val, a_call, ↓n_normal, ↓n_ret, ↓n_exit, ↓b_normal, ↓b_ret, ↓b_exit, ↓e_normal, ↓e_ret, e_some, go_sem, ↓reduceIte, Nat.reduceEqDiff, Nat.reduceLT, Nat.reduceSub, A_graph_Graph_Clone_2]
  exact hR _ _ ⟨rfl, rfl⟩
theorem NoGr.reaches {M : Mem} {t : V} (h : NoGr M t) (n m : St) (up : V) : Runs D2 F_graph_Graph_Reaches [t, .agg (stC n), .agg (stC m), up] M fun v M' => v = .bool false ∧ Grew M M' := by
  refine R_opq fun R hR => ?_
  refine Runs.walk (F := A_graph_Graph_Reaches) rfl (by rfl) (by rfl) ?_
  unfold A_graph_Graph_Reaches
  have hcn : V.cells (.agg (stC n)) = stC n := rfl
  have hcm : V.cells (.agg (stC m)) = stC m := rfl
  have hG1 := (Grew.push M (.cells (stC n) false)).trans (Grew.push _ (.cells (stC m) false))
  simp -dsimp only [↓w_seq, ↓w_ops, ↓w_skip, ↓w_ret, ↓w_exit, ↓w_scope, ↓w_block, ↓w_cond, cond_true', cond_false', ↓t_nil, ↓t_plain, ↓t_guard, ↓t_gagain, ↓t_again, t_val, t_call, g_true, g_false, ga_true, ga_false, a_val, a_call, ↓n_normal, ↓n_ret, ↓n_exit, ↓b_normal, ↓b_ret, ↓b_exit, ↓e_normal, ↓e_ret, e_some, go_sem, ↓reduceIte, Nat.reduceEqDiff, Nat.reduceLT, Nat.reduceSub, A_graph_Graph_Reaches_0, A_graph_Graph_Reaches_1, hcn, hcm]
  generalize (M.push (.cells (stC n) false)).push (.cells (stC m) false) = M1 at *
  refine call_eq (h.grew hG1).none_ ?_
  simp -dsimp only [↓w_seq, ↓w_ops, ↓w_skip, ↓w_ret, ↓w_exit, ↓w_scope, ↓w_block, ↓w_cond, cond_true', cond_false', ↓t_nil, ↓t_plain, ↓t_guard, ↓t_gagain, ↓t_again, t_val, t_call, g_true, g_false, ga_true, ga_false, a_val, a_call, ↓n_normal, ↓n_ret, ↓n_exit, ↓b_normal, ↓b_ret, ↓b_exit, ↓e_normal, ↓e_ret, e_some, go_sem, ↓reduceIte, Nat.reduceEqDiff, Nat.reduceLT, Nat.reduceSub, A_graph_Graph_Reaches_2]
  exact hR _ _ ⟨rfl, hG1⟩
theorem NoGr.insert {M : Mem} {t : V} (h : NoGr M t) (s : St) (x : List V) (hx : x.length = 12) : Runs D2 F_graph_Graph_Insert [t, .agg (stC s), .agg x] M fun v M' => v = .tup [.int .i64 0, .int .i64 1] ∧ Grew M M' := by
  refine R_opq fun R hR => ?_
  refine Runs.walk (F := A_graph_Graph_Insert) rfl (by rfl) (by rfl) ?_
  unfold A_graph_Graph_Insert
  have hcn : V.cells (.agg (stC s)) = stC s := rfl
  have hcm : V.cells (.agg x) = x := rfl
  have hG1 := (Grew.push M (.cells (stC s) false)).trans (Grew.push _ (.cells x false))
  simp -dsimp only [↓w_seq, ↓w_ops, ↓w_skip, ↓w_ret, ↓w_exit, ↓w_scope, ↓w_block, ↓w_cond, cond_true', cond_false', ↓t_nil, ↓t_plain, ↓t_guard, ↓t_gagain, ↓t_again, t_val, t_call, g_true, g_false, ga_true, ga_false, a_val, a_call, ↓n_normal, ↓n_ret, ↓n_exit, ↓b_normal, ↓b_ret, ↓b_exit, ↓e_normal, ↓e_ret, e_some, go_sem, ↓reduceIte, Nat.reduceEqDiff, Nat.reduceLT, Nat.reduceSub, A_graph_Graph_Insert_0, A_graph_Graph_Insert_1, hcn, hcm]
  generalize (M.push (.cells (stC s) false)).push (.cells x false) = M1 at *
  refine call_eq (h.grew hG1).none_ ?_
  simp -dsimp only [↓w_seq, ↓w_ops, ↓w_skip, ↓w_ret, ↓w_exit, ↓w_scope, ↓w_block, ↓w_cond, cond_true', cond_false', ↓t_nil, ↓t_plain, ↓t_guard, ↓t_gagain, ↓t_again, t_val, t_call, g_true, g_false, ga_true, ga_false, a_val, a_call, ↓n_normal, ↓n_ret, ↓n_exit, ↓b_normal, ↓b_ret, ↓b_exit, ↓e_normal, ↓e_ret, e_some, go_sem, ↓reduceIte, Nat.reduceEqDiff, Nat.reduceLT, Nat.reduceSub, A_graph_Graph_Insert_2]
  exact hR _ _ ⟨rfl, hG1⟩
end Go.Am.Tryz.G


/- Ops and writes in memory; Light; Own; New. -/
namespace Go.Am.Tryz.G
open Go Go.Am Go.Am.Tryz Go.Am.Tryz.O Go.Proofs Go.Sort Go.Shelf
set_option maxRecDepth 100000
set_option linter.unusedSimpArgs false
set_option linter.unusedVariables false

/-- An op, its path as it lies. -/
structure OpX where
  kind : Int
  node : St
  ref : St
  key : List UInt8
  pv : V
  prop : Int
  v1 : Int
  v2 : Int
  v3 : List UInt8
  on : Bool
def opC (x : OpX) : List V := [.int .i64 x.kind, .int .i64 x.node.1, .int .i64 x.node.2, .int .i64 x.ref.1, .int .i64 x.ref.2, .str x.key, x.pv, .int .i64 x.prop, .int .i64 x.v1, .int .i64 x.v2, .str x.v3, .bool x.on]
abbrev Wr := St × OpX
def wrC (x : Wr) : List V := stC x.1 ++ opC x.2
/-- How long a slice is. -/
def plen : V → Nat
  | .slice _ n _ => n
  | _ => 0
/-- Elements of so many cells behind a slice. -/
def SlC {α : Type} (k : Nat) (cv : α → List V) (M : Mem) (s : V) (xs : List α) : Prop := ∃ a cap, s = .slice a xs.length cap ∧ (xs = [] ∨ ∃ b o cs ro, a = some (b, o) ∧ M.get b = some (.cells cs ro) ∧ ∀ i (h : i < xs.length), rdCells cs (o + i * k) k = some (cv xs[i]))
theorem SlC.keep {α : Type} {k : Nat} {cv : α → List V} {M M' : Mem} {s : V} {xs : List α} (h : SlC k cv M s xs) (hk : ∀ b, s.blk = some b → M'.get b = M.get b) : SlC k cv M' s xs := by
  obtain ⟨a, cap, rfl, h⟩ := h
  refine ⟨a, cap, rfl, ?_⟩
  rcases h with h | ⟨b, o, cs, ro, rfl, h1, h2⟩
  · exact .inl h
  · exact .inr ⟨b, o, cs, ro, rfl, (hk _ rfl).trans h1, h2⟩
/-- A path in memory. -/
structure PathIn (M : Mem) (v : V) (path : List St) : Prop where
  s : SlR elSt M v path
  lt : ∀ b, v.blk = some b → b < M.next
  ln : path.length < 2 ^ 63
  nl : ∀ n cap, v = .slice none n cap → cap = .exact 0
theorem PathIn.grew {M M' : Mem} {v : V} {p : List St} (h : PathIn M v p) (hG : Grew M M') : PathIn M' v p := ⟨h.s.keep fun b hb => hG.old b (h.lt b hb), fun b hb => Nat.lt_of_lt_of_le (h.lt b hb) hG.next, h.ln, h.nl⟩
theorem PathIn.len {M : Mem} {v : V} {p : List St} (h : PathIn M v p) : ∃ a cap, v = .slice a p.length cap := by
  obtain ⟨a, cap, e, _⟩ := h.s
  exact ⟨a, cap, e⟩
theorem PathIn.plen {M : Mem} {v : V} {p : List St} (h : PathIn M v p) : plen v = p.length := by
  obtain ⟨a, cap, rfl⟩ := h.len
  rfl

def lightX (x : OpX) : Prop := plen x.pv ≤ 20 ∧ x.key.length ≤ 100 ∧ x.v3.length ≤ 200
/-- Writes handed in: each with its path, texts of a length that may be. -/
structure WrsIn (M : Mem) (s : V) (ws : List Wr) : Prop where
  sl : SlC 14 wrC M s ws
  lt : ∀ b, s.blk = some b → b < M.next
  p : ∀ w ∈ ws, ∃ path, PathIn M w.2.pv path
  k : ∀ w ∈ ws, w.2.key.length < 2 ^ 63 ∧ w.2.v3.length < 2 ^ 63
theorem WrsIn.grew {M M' : Mem} {s : V} {ws : List Wr} (h : WrsIn M s ws) (hG : Grew M M') : WrsIn M' s ws :=
  ⟨h.sl.keep fun b hb => hG.old b (h.lt b hb), fun b hb => Nat.lt_of_lt_of_le (h.lt b hb) hG.next, fun w hw => let ⟨p, hp⟩ := h.p w hw; ⟨p, hp.grew hG⟩, h.k⟩
theorem wr_at {M : Mem} {s : V} {ws : List Wr} (h : SlC 14 wrC M s ws) {i : Nat} (hi : i < ws.length) : ∃ b o cs ro cap, s = .slice (some (b, o)) ws.length cap ∧ M.get b = some (.cells cs ro) ∧ rdCells cs (o + i * 14) 14 = some (wrC ws[i]) ∧ rdCells cs (o + i * 14) 2 = some (stC ws[i].1) ∧ rdCells cs (o + i * 14 + 2) 12 = some (opC ws[i].2) ∧
    cs[o + i * 14 + 2 + 6]? = some ws[i].2.pv ∧ cs[o + i * 14 + 2 + 5]? = some (.str ws[i].2.key) ∧ cs[o + i * 14 + 2 + 8 + 2]? = some (.str ws[i].2.v3) := by
  obtain ⟨a, cap, rfl, h⟩ := h
  rcases h with h | ⟨b, o, cs, ro, rfl, h1, h2⟩
  · subst h; simp at hi
  · have h3 := h2 i hi
    exact ⟨b, o, cs, ro, cap, rfl, h1, h3, rd_part h3 0 2 (by decide), rd_part h3 2 12 (by decide), rd_cell h3 8 (by decide), rd_cell h3 7 (by decide), rd_cell h3 12 (by decide)⟩

theorem Light_loop (s : V) (ws : List Wr) (M : Mem) (h : WrsIn M s ws) (hl : ws.length < 2 ^ 62) {Q : AExit → Fr → Mem → Prop}
    (hE : ∀ fr, (∀ w ∈ ws.take 50, lightX w.2) → Q (.exit 0) fr M) (hR : ∀ fr, fr.rd 2 = .bool false → Q .ret fr M) :
    ∀ (f i : Nat) (fr : Fr), i + f = min ws.length 50 → (∀ w ∈ ws.take i, lightX w.2) → fr.rd 0 = s → fr.rd 3 = .int .i64 (i : Int) → WC D2 43 (.loop A_law13_ref12Light_6) fr M Q := by
  intro f
  induction f with
  | zero =>
    intro i fr hi hp h0 h3
    refine WC.loop (W_of ?_)
    unfold A_law13_ref12Light_6
    obtain ⟨a, cap, rfl, _⟩ := h.sl
    have hf : ∀ w ∈ ws.take 50, lightX w.2 := fun w hw => hp w (by
      rcases Nat.le_total ws.length 50 with hc | hc
      · rw [show i = ws.length by omega, List.take_length]; exact List.mem_of_mem_take hw
      · rw [show i = 50 by omega]; exact hw)
    by_cases h1 : i < ws.length
    · have h1' : (i : Int) < ws.length := by omega
      have h2' : ¬ (i : Int) < 50 := by omega
      simp -dsimp only [↓w_seq, ↓w_ops, ↓w_skip, ↓w_ret, ↓w_exit, ↓w_scope, ↓w_block, ↓w_cond, cond_true', cond_false', ↓t_nil, ↓t_plain, ↓t_guard, ↓t_gagain, ↓t_again, t_val, t_call, g_true, g_false, ga_true, ga_false, a_val, a_call, ↓n_normal, ↓n_ret, ↓n_exit, ↓b_normal, ↓b_ret, ↓b_exit, ↓e_normal, ↓e_ret, e_some, go_sem, ↓reduceIte, Nat.reduceEqDiff, Nat.reduceLT, Nat.reduceSub, A_law13_ref12Light_2, h0, h3, h1', h2', decide_true, decide_false]
      exact hE _ hf
    · have h1' : ¬ (i : Int) < ws.length := by omega
      simp -dsimp only [↓w_seq, ↓w_ops, ↓w_skip, ↓w_ret, ↓w_exit, ↓w_scope, ↓w_block, ↓w_cond, cond_true', cond_false', ↓t_nil, ↓t_plain, ↓t_guard, ↓t_gagain, ↓t_again, t_val, t_call, g_true, g_false, ga_true, ga_false, a_val, a_call, ↓n_normal, ↓n_ret, ↓n_exit, ↓b_normal, ↓b_ret, ↓b_exit, ↓e_normal, ↓e_ret, e_some, go_sem, ↓reduceIte, Nat.reduceEqDiff, Nat.reduceLT, Nat.reduceSub, A_law13_ref12Light_2, h0, h3, h1', decide_false]
      exact hE _ hf
  | succ f ih =>
    intro i fr hi hp h0 h3
    refine WC.loop (W_of ?_)
    unfold A_law13_ref12Light_6
    have hil : i < ws.length := by omega
    obtain ⟨b, o, cs, ro, cap, e, hM, _, _, _, r8, r7, r12⟩ := wr_at h.sl hil
    obtain ⟨path, hpath⟩ := h.p _ (List.getElem_mem hil)
    obtain ⟨pa, pc, hpv⟩ := hpath.len
    have hpl := hpath.plen
    rw [hpv] at r8
    rw [e] at h0
    have h1' : (i : Int) < ws.length := by omega
    have h2' : (i : Int) < 50 := by omega
    have e2 : i + 1 ≤ ws.length := by omega
    have h5' : (i : Int) + 1 = ((i + 1 : Nat) : Int) := by omega
    have hk := h.k _ (List.getElem_mem hil)
    have htk := take_snoc ws hil
    generalize ws[i] = x at *
    by_cases p1 : 20 < path.length
    · have p1' : (20 : Int) < path.length := by omega
      simp -dsimp only [↓w_seq, ↓w_ops, ↓w_skip, ↓w_ret, ↓w_exit, ↓w_scope, ↓w_block, ↓w_cond, cond_true', cond_false', ↓t_nil, ↓t_plain, ↓t_guard, ↓t_gagain, ↓t_again, t_val, t_call, g_true, g_false, ga_true, ga_false, a_val, a_call, ↓n_normal, ↓n_ret, ↓n_exit, ↓b_normal, ↓b_ret, ↓b_exit, ↓e_normal, ↓e_ret, e_some, go_sem, ↓reduceIte, Nat.reduceEqDiff, Nat.reduceLT, Nat.reduceSub, A_law13_ref12Light_2, A_law13_ref12Light_3, A_law13_ref12Light_4, h0, h3, h1', h2', e2, decide_true, decide_false, vload, vptr, hM, r8, p1']
      exact hR _ (by simp only [go_sem, ↓reduceIte, Nat.reduceEqDiff, Nat.reduceLT, Nat.reduceSub])
    · have p1' : ¬ (20 : Int) < path.length := by omega
      by_cases p2 : 100 < x.2.key.length
      · have p2' : (100 : Int) < x.2.key.length := by omega
        simp -dsimp only [↓w_seq, ↓w_ops, ↓w_skip, ↓w_ret, ↓w_exit, ↓w_scope, ↓w_block, ↓w_cond, cond_true', cond_false', ↓t_nil, ↓t_plain, ↓t_guard, ↓t_gagain, ↓t_again, t_val, t_call, g_true, g_false, ga_true, ga_false, a_val, a_call, ↓n_normal, ↓n_ret, ↓n_exit, ↓b_normal, ↓b_ret, ↓b_exit, ↓e_normal, ↓e_ret, e_some, go_sem, ↓reduceIte, Nat.reduceEqDiff, Nat.reduceLT, Nat.reduceSub, A_law13_ref12Light_2, A_law13_ref12Light_3, A_law13_ref12Light_4, h0, h3, h1', h2', e2, decide_true, decide_false, vload, vptr, hM, r8, p1', r7, p2']
        exact hR _ (by simp only [go_sem, ↓reduceIte, Nat.reduceEqDiff, Nat.reduceLT, Nat.reduceSub])
      · have p2' : ¬ (100 : Int) < x.2.key.length := by omega
        by_cases p3 : 200 < x.2.v3.length
        · have p3' : (200 : Int) < x.2.v3.length := by omega
          simp -dsimp only [↓w_seq, ↓w_ops, ↓w_skip, ↓w_ret, ↓w_exit, ↓w_scope, ↓w_block, ↓w_cond, cond_true', cond_false', ↓t_nil, ↓t_plain, ↓t_guard, ↓t_gagain, ↓t_again, t_val, t_call, g_true, g_false, ga_true, ga_false, a_val, a_call, ↓n_normal, ↓n_ret, ↓n_exit, ↓b_normal, ↓b_ret, ↓b_exit, ↓e_normal, ↓e_ret, e_some, go_sem, ↓reduceIte, Nat.reduceEqDiff, Nat.reduceLT, Nat.reduceSub, A_law13_ref12Light_2, A_law13_ref12Light_3, A_law13_ref12Light_4, h0, h3, h1', h2', e2, decide_true, decide_false, vload, vptr, hM, r8, p1', r7, p2', r12, p3']
          exact hR _ (by simp only [go_sem, ↓reduceIte, Nat.reduceEqDiff, Nat.reduceLT, Nat.reduceSub])
        · have p3' : ¬ (200 : Int) < x.2.v3.length := by omega
          simp -dsimp only [↓w_seq, ↓w_ops, ↓w_skip, ↓w_ret, ↓w_exit, ↓w_scope, ↓w_block, ↓w_cond, cond_true', cond_false', ↓t_nil, ↓t_plain, ↓t_guard, ↓t_gagain, ↓t_again, t_val, t_call, g_true, g_false, ga_true, ga_false, a_val, a_call, ↓n_normal, ↓n_ret, ↓n_exit, ↓b_normal, ↓b_ret, ↓b_exit, ↓e_normal, ↓e_ret, e_some, go_sem, ↓reduceIte, Nat.reduceEqDiff, Nat.reduceLT, Nat.reduceSub, A_law13_ref12Light_2, A_law13_ref12Light_3, A_law13_ref12Light_5, h0, h3, h1', h2', e2, decide_true, decide_false, vload, vptr, hM, r8, p1', r7, p2', r12, p3', h5', IntWalk.i64_in ((i + 1 : Nat) : Int) (by omega)]
          refine ih (i + 1) _ (by omega) (fun w hw => ?_) ?_ ?_
          · rw [htk] at hw
            rcases List.mem_append.1 hw with hw | hw
            · exact hp w hw
            · simp only [List.mem_singleton] at hw
              subst hw
              exact ⟨by rw [hpl]; omega, by omega, by omega⟩
          all_goals simp only [go_sem, ↓reduceIte, Nat.reduceEqDiff, Nat.reduceLT, Nat.reduceSub, h0, e]
theorem Light_runs (s : V) (ws : List Wr) (M : Mem) (h : WrsIn M s ws) (hl : ws.length < 2 ^ 62) : Runs D2 F_law13_Light [s] M fun v M' => (∃ b, v = .bool b ∧ (b = true → ws.length ≤ 40 ∧ ∀ w ∈ ws, lightX w.2)) ∧ M' = M := by
  have r12 : Runs D2 F_law13_ref12Light [s] M fun v M' => (∃ b, v = .bool b ∧ (b = true → ∀ w ∈ ws.take 50, lightX w.2)) ∧ M' = M := by
    refine R_opq fun R hR => ?_
    refine Runs.walk (F := A_law13_ref12Light) rfl (by rfl) (by rfl) ?_
    unfold A_law13_ref12Light
    simp -dsimp only [↓w_seq, ↓w_ops, ↓w_skip, ↓w_ret, ↓w_exit, ↓w_scope, ↓w_block, ↓w_cond, cond_true', cond_false', ↓t_nil, ↓t_plain, ↓t_guard, ↓t_gagain, ↓t_again, t_val, t_call, g_true, g_false, ga_true, ga_false, a_val, a_call, ↓n_normal, ↓n_ret, ↓n_exit, ↓b_normal, ↓b_ret, ↓b_exit, ↓e_normal, ↓e_ret, e_some, go_sem, ↓reduceIte, Nat.reduceEqDiff, Nat.reduceLT, Nat.reduceSub, A_law13_ref12Light_0, A_law13_ref12Light_1]
    refine Light_loop s ws M h hl ?_ ?_ (min ws.length 50) 0 _ (by omega) (by simp) ?_ ?_
    · intro fr hf
      simp -dsimp only [↓w_seq, ↓w_ops, ↓w_skip, ↓w_ret, ↓w_exit, ↓w_scope, ↓w_block, ↓w_cond, cond_true', cond_false', ↓t_nil, ↓t_plain, ↓t_guard, ↓t_gagain, ↓t_again, t_val, t_call, g_true, g_false, ga_true, ga_false, a_val, a_call, ↓n_normal, ↓n_ret, ↓n_exit, ↓b_normal, ↓b_ret, ↓b_exit, ↓e_normal, ↓e_ret, e_some, go_sem, ↓reduceIte, Nat.reduceEqDiff, Nat.reduceLT, Nat.reduceSub, A_law13_ref12Light_7]
      exact hR _ _ ⟨⟨true, rfl, fun _ => hf⟩, rfl⟩
    · intro fr h2
      simp -dsimp only [↓w_seq, ↓w_ops, ↓w_skip, ↓w_ret, ↓w_exit, ↓w_scope, ↓w_block, ↓w_cond, cond_true', cond_false', ↓t_nil, ↓t_plain, ↓t_guard, ↓t_gagain, ↓t_again, t_val, t_call, g_true, g_false, ga_true, ga_false, a_val, a_call, ↓n_normal, ↓n_ret, ↓n_exit, ↓b_normal, ↓b_ret, ↓b_exit, ↓e_normal, ↓e_ret, e_some, go_sem, ↓reduceIte, Nat.reduceEqDiff, Nat.reduceLT, Nat.reduceSub, h2]
      exact hR _ _ ⟨⟨false, rfl, fun h => by cases h⟩, rfl⟩
    all_goals simp only [go_sem, ↓reduceIte, Nat.reduceEqDiff, Nat.reduceLT, Nat.reduceSub]
    rfl
  refine R_opq fun R hR => ?_
  refine Runs.walk (F := A_law13_Light) rfl (by rfl) (by rfl) ?_
  unfold A_law13_Light
  obtain ⟨a, cap, e, _⟩ := h.sl
  simp -dsimp only [↓w_seq, ↓w_ops, ↓w_skip, ↓w_ret, ↓w_exit, ↓w_scope, ↓w_block, ↓w_cond, cond_true', cond_false', ↓t_nil, ↓t_plain, ↓t_guard, ↓t_gagain, ↓t_again, t_val, t_call, g_true, g_false, ga_true, ga_false, a_val, a_call, ↓n_normal, ↓n_ret, ↓n_exit, ↓b_normal, ↓b_ret, ↓b_exit, ↓e_normal, ↓e_ret, e_some, go_sem, ↓reduceIte, Nat.reduceEqDiff, Nat.reduceLT, Nat.reduceSub, A_law13_Light_0, A_law13_Light_1]
  refine call_of r12 ?_
  intro v M' hv
  obtain ⟨⟨b, hb, hf⟩, hM⟩ := hv
  rw [hb, hM]
  clear hb hM
  cases b with
  | false =>
    simp -dsimp only [↓w_seq, ↓w_ops, ↓w_skip, ↓w_ret, ↓w_exit, ↓w_scope, ↓w_block, ↓w_cond, cond_true', cond_false', ↓t_nil, ↓t_plain, ↓t_guard, ↓t_gagain, ↓t_again, t_val, t_call, g_true, g_false, ga_true, ga_false, a_val, a_call, ↓n_normal, ↓n_ret, ↓n_exit, ↓b_normal, ↓b_ret, ↓b_exit, ↓e_normal, ↓e_ret, e_some, go_sem, ↓reduceIte, Nat.reduceEqDiff, Nat.reduceLT, Nat.reduceSub]
    exact hR _ _ ⟨⟨false, rfl, fun h => by cases h⟩, rfl⟩
  | true =>
    by_cases h40 : ws.length ≤ 40
    · have h40' : (ws.length : Int) ≤ 40 := by omega
      simp -dsimp only [↓w_seq, ↓w_ops, ↓w_skip, ↓w_ret, ↓w_exit, ↓w_scope, ↓w_block, ↓w_cond, cond_true', cond_false', ↓t_nil, ↓t_plain, ↓t_guard, ↓t_gagain, ↓t_again, t_val, t_call, g_true, g_false, ga_true, ga_false, a_val, a_call, ↓n_normal, ↓n_ret, ↓n_exit, ↓b_normal, ↓b_ret, ↓b_exit, ↓e_normal, ↓e_ret, e_some, go_sem, ↓reduceIte, Nat.reduceEqDiff, Nat.reduceLT, Nat.reduceSub, e, h40', decide_true]
      exact hR _ _ ⟨⟨true, rfl, fun _ => ⟨h40, fun w hw => hf rfl w (by rw [List.take_of_length_le (by omega)]; exact hw)⟩⟩, rfl⟩
    · have h40' : ¬ (ws.length : Int) ≤ 40 := by omega
      simp -dsimp only [↓w_seq, ↓w_ops, ↓w_skip, ↓w_ret, ↓w_exit, ↓w_scope, ↓w_block, ↓w_cond, cond_true', cond_false', ↓t_nil, ↓t_plain, ↓t_guard, ↓t_gagain, ↓t_again, t_val, t_call, g_true, g_false, ga_true, ga_false, a_val, a_call, ↓n_normal, ↓n_ret, ↓n_exit, ↓b_normal, ↓b_ret, ↓b_exit, ↓e_normal, ↓e_ret, e_some, go_sem, ↓reduceIte, Nat.reduceEqDiff, Nat.reduceLT, Nat.reduceSub, e, h40', decide_false]
      exact hR _ _ ⟨⟨false, rfl, fun h => by cases h⟩, rfl⟩

theorem rd_split {cs l l' : List V} {o n m : Nat} (h : rdCells cs o n = some l) (h' : rdCells cs (o + n) m = some l') : rdCells cs o (n + m) = some (l ++ l') := by
  obtain ⟨h1, rfl⟩ := rdCells_some h
  obtain ⟨h2, rfl⟩ := rdCells_some h'
  unfold rdCells
  rw [ble_iff, decide_eq_true (by omega), cond_true, List.take_add, List.drop_drop]
theorem all_rd (cs : List V) : ∀ (path : List St) (o : Nat), o ≤ cs.length → (∀ i (h : i < path.length), rdCells cs (o + i * 2) 2 = some (stC path[i])) → rdCells cs o (path.length * 2) = some (elSt.all path)
  | [], o, ho, _ => by
    show rdCells cs o 0 = some []
    unfold rdCells
    rw [ble_iff, decide_eq_true (by omega), cond_true]
    simp
  | x :: path, o, ho, h => by
    have h0 : rdCells cs o 2 = some (stC x) := h 0 (by simp)
    have hle := (rdCells_some h0).1
    have ih := all_rd cs path (o + 2) hle fun i hi => by
      have := h (i + 1) (by simp; omega)
      rw [List.getElem_cons_succ] at this
      rw [← this]
      congr 1
      omega
    have := rd_split h0 ih
    rw [List.length_cons, show (path.length + 1) * 2 = 2 + path.length * 2 from by omega, this]
    simp [Elem.all, elSt]
theorem PathIn.src {M : Mem} {v : V} {p : List St} (h : PathIn M v p) (hne : p ≠ []) : srcCells 2 M p.length v = some (elSt.all p) := by
  obtain ⟨a, cap, rfl, h2⟩ := h.s
  rcases h2 with h2 | ⟨b, o, cs, ro, rfl, h3, h4⟩
  · exact absurd h2 hne
  · have hp : 0 < p.length := List.length_pos_iff.2 hne
    have h0 : rdCells cs (o + 0 * 2) 2 = some (stC p[0]) := h4 0 hp
    have ho := (rdCells_some h0).1
    have := all_rd cs p o (by omega) h4
    simp only [srcCells, beq_dec, decide_eq_false (show ¬ p.length = 0 by omega), cond_false, Mem.read, h3]
    exact this
end Go.Am.Tryz.G


/- The law's op as the program's; a new graph. -/
namespace Go.Am.Tryz.G
open Go Go.Am Go.Am.Tryz Go.Am.Tryz.O Go.Proofs Go.Sort Go.Shelf
set_option maxRecDepth 100000
set_option linter.unusedSimpArgs false
set_option linter.unusedVariables false

def zeroO : List V := [.int .i64 0, .int .i64 0, .int .i64 0, .int .i64 0, .int .i64 0, .str [], .slice none 0 (.exact 0), .int .i64 0, .int .i64 0, .int .i64 0, .str [], .bool false]
theorem Own_runs (M : Mem) (x : OpX) (path : List St) (hp : PathIn M x.pv path) (hpl : path.length ≤ 20) :
    Runs D2 F_law07_Own [.agg (opC x)] M fun v M' => ∃ p', v = .agg (opC { x with pv := p' }) ∧ Grew M M' ∧ PathIn M' p' path ∧ p'.one = true := by
  refine R_opq fun R hR => ?_
  refine Runs.walk (F := A_law07_Own) rfl (by rfl) (by rfl) ?_
  unfold A_law07_Own
  have hcx : V.cells (.agg (opC x)) = opC x := rfl
  have hG1 := Grew.push M (.cells (opC x) false)
  have g1 : (M.push (.cells (opC x) false)).get M.next = some (.cells (opC x) false) := Mem.get_push_same _ _
  have hn1 : (M.push (.cells (opC x) false)).next = M.next + 1 := rfl
  simp -dsimp only [↓w_seq, ↓w_ops, ↓w_skip, ↓w_ret, ↓w_exit, ↓w_scope, ↓w_block, ↓w_cond, cond_true', cond_false', ↓t_nil, ↓t_plain, ↓t_guard, ↓t_gagain, ↓t_again, t_val, t_call, g_true, g_false, ga_true, ga_false, a_val, a_call, ↓n_normal, ↓n_ret, ↓n_exit, ↓b_normal, ↓b_ret, ↓b_exit, ↓e_normal, ↓e_ret, e_some, go_sem, ↓reduceIte, Nat.reduceEqDiff, Nat.reduceLT, Nat.reduceSub, A_law07_Own_0, hcx]
  generalize M.push (.cells (opC x) false) = M1 at *
  have hG2 := Grew.push M1 (.cells zeroO false)
  have g2 : (M1.push (.cells zeroO false)).get M1.next = some (.cells zeroO false) := Mem.get_push_same _ _
  have hn2 : (M1.push (.cells zeroO false)).next = M1.next + 1 := rfl
  have g1' := (hG2.old _ (by omega)).trans g1
  simp only [zeroO] at hG2 g2 hn2 g1'
  generalize M1.push (.cells [.int .i64 0, .int .i64 0, .int .i64 0, .int .i64 0, .int .i64 0, .str [], .slice none 0 (.exact 0), .int .i64 0, .int .i64 0, .int .i64 0, .str [], .bool false] false) = M2 at *
  have k0 : (opC x)[0]? = some (.int .i64 x.kind) := rfl
  have k1 : rdCells (opC x) 1 2 = some (stC x.node) := rfl
  have k3 : rdCells (opC x) 3 2 = some (stC x.ref) := rfl
  have k5 : (opC x)[5]? = some (.str x.key) := rfl
  have k6 : (opC x)[6]? = some x.pv := rfl
  have k7 : (opC x)[7]? = some (.int .i64 x.prop) := rfl
  have k8 : rdCells (opC x) 8 3 = some [.int .i64 x.v1, .int .i64 x.v2, .str x.v3] := rfl
  have k11 : (opC x)[11]? = some (.bool x.on) := rfl
  obtain ⟨pa, pc, hpe⟩ := hp.len
  have hG3 := Grew.push M2 (.cells [] false)
  have hn3 : (M2.push (.cells [] false)).next = M2.next + 1 := rfl
  have g3 : (M2.push (.cells [] false)).get M2.next = some (.cells [] false) := Mem.get_push_same _ _
  have a1 := (hG3.old M.next (by omega)).trans g1'
  have a2 := (hG3.old M1.next (by omega)).trans g2
  have hp3 := ((hp.grew hG1).grew hG2).grew hG3
  have r0 : repl 0 (.agg [.int .i64 0, .int .i64 0] : V).cells = [] := rfl
  have f0 : fillCells [] [] = some [] := rfl
  have hfill : ∀ (a : Option (Nat × Nat)) (n : Nat) (c : Cap), fillCells [.int .i64 0, .int .i64 0, .int .i64 0, .int .i64 0, .int .i64 0, .str [], .slice none 0 (.exact 0), .int .i64 0, .int .i64 0, .int .i64 0, .str [], .bool false]
      [(0, 1, .int .i64 x.kind), (1, 2, .agg (stC x.node)), (3, 2, .agg (stC x.ref)), (5, 1, .str x.key), (6, 1, .slice a n c), (7, 1, .int .i64 x.prop), (8, 3, .agg [.int .i64 x.v1, .int .i64 x.v2, .str x.v3]), (11, 1, .bool x.on)] = some (opC { x with pv := .slice a n c }) := fun _ _ _ => rfl
  have k0' : (opC x)[0]? = some (.int .i64 x.kind) := rfl
  have step : ∀ (a : Option (Nat × Nat)) (n : Nat) (c : Cap) (M4 : Mem), Grew (M2.push (.cells [] false)) M4 → PathIn M4 (.slice a n c) path → (∀ b, V.blk (.slice a n c) = some b → b ≠ M1.next) → vappend 2 16 (M2.push (.cells [] false)) (.slice (some (M2.next, 0)) 0 (.exact 0)) x.pv = some (.slice a n c, M4) →
      WT D2 22 A_law07_Own_1 (Fr.put 22 (Fr.put 22 (frameOf 0 [V.agg (opC x)] T.nil) (some 1) (V.ptr (some (M.next, 0)))) (some 2) (V.ptr (some (M1.next, 0)))) M2 (K := nextQ (fun fr M => W D2 22 .ret fr M (Q := endQ [.cell 2 (some 12)] R) ⟨⟩) (endQ [.cell 2 (some 12)] R) .normal) ⟨⟩ := by
    intro a n c M4 hG4 hp4 hne hap
    have b1 := (hG4.old M.next (by omega)).trans a1
    have b2 := (hG4.old M1.next (by omega)).trans a2
    have hw := write_full (M := M4) (b := M1.next) (vs := opC { x with pv := .slice a n c }) b2 rfl rfl
    have hc' : V.cells (.agg (opC { x with pv := .slice a n c })) = opC { x with pv := .slice a n c } := rfl
    have hl' : (opC { x with pv := .slice a n c }).length = 12 := rfl
    have b3 : (M4.set M1.next (.cells (opC { x with pv := .slice a n c }) false)).get M1.next = some (.cells (opC { x with pv := .slice a n c }) false) := Mem.get_set_same _ _ _
    have hrd : rdCells (opC { x with pv := .slice a n c }) 0 12 = some (opC { x with pv := .slice a n c }) := rfl
    simp -dsimp only [↓w_seq, ↓w_ops, ↓w_skip, ↓w_ret, ↓w_exit, ↓w_scope, ↓w_block, ↓w_cond, cond_true', cond_false', ↓t_nil, ↓t_plain, ↓t_guard, ↓t_gagain, ↓t_again, t_val, t_call, g_true, g_false, ga_true, ga_false, a_val, a_call, ↓n_normal, ↓n_ret, ↓n_exit, ↓b_normal, ↓b_ret, ↓b_exit, ↓e_normal, ↓e_ret, e_some, go_sem, ↓reduceIte, Nat.reduceEqDiff, Nat.reduceLT, Nat.reduceSub, A_law07_Own_1, vload, vptr, Mem.read, g1', k0, k1, k3, k5, repl, f0, Option.map_some, a1, k6, k7, k8, k11, Nat.zero_add, hap]
    refine ⟨?_, ?_⟩
    · simp only [List.all_cons, List.all_nil, Bool.and_true, againOk, wantedA, cond_true, go_sem, ↓reduceIte, Nat.reduceEqDiff, Nat.reduceLT, Nat.reduceSub, vload, vptr, Mem.read, b1, k0, k1, k3, k5, k6, k7, k8, k11, sameCells, Nat.zero_add, Nat.add_zero, vof, Option.map_some, V.beq, V.beq_self, V.beqs_self, Bool.and_self, Nat.reduceAdd, Nat.reduceLeDiff, decide_true, cond_true]
    simp -dsimp only [↓w_seq, ↓w_ops, ↓w_skip, ↓w_ret, ↓w_exit, ↓w_scope, ↓w_block, ↓w_cond, cond_true', cond_false', ↓t_nil, ↓t_plain, ↓t_guard, ↓t_gagain, ↓t_again, t_val, t_call, g_true, g_false, ga_true, ga_false, a_val, a_call, ↓n_normal, ↓n_ret, ↓n_exit, ↓b_normal, ↓b_ret, ↓b_exit, ↓e_normal, ↓e_ret, e_some, go_sem, ↓reduceIte, Nat.reduceEqDiff, Nat.reduceLT, Nat.reduceSub, hfill, vof, Option.map_some, vstore, vptr, hc', hl', hw, Nat.reduceEqDiff, vload, Mem.read, b3, hrd, Option.bind_some, List.map_nil]
    refine hR _ _ ⟨_, rfl, ⟨?_, fun c hc => ?_⟩, ⟨hp4.s.keep fun b hb => Mem.get_set_ne _ _ (hne b hb), hp4.lt, hp4.ln, hp4.nl⟩, rfl⟩
    · have := hG1.next; have := hG2.next; have := hG3.next; have := hG4.next; simp only [Mem.next_set]; omega
    · rw [Mem.get_set_ne _ _ (by omega), hG4.old _ (by omega), hG3.old _ (by omega), hG2.old _ (by omega), hG1.old _ hc]
  by_cases hpn : path = []
  · have hap : vappend 2 16 (M2.push (.cells [] false)) (.slice (some (M2.next, 0)) 0 (.exact 0)) x.pv = some (.slice (some (M2.next, 0)) 0 (.exact 0), M2.push (.cells [] false)) := by
      rw [hpe, hpn]
      cases pa with
      | none =>
        have := hp.nl _ _ hpe
        subst this
        rfl
      | some p => rfl
    refine step _ _ _ _ (Grew.refl _) ⟨⟨some (M2.next, 0), .exact 0, by rw [hpn]; rfl, .inl hpn⟩, fun b hb => ?_, hp.ln, fun n cap h => by cases h⟩ (fun b hb => ?_) hap
    · simp only [V.blk, Option.some.injEq] at hb; subst hb; rw [hn3]; omega
    · simp only [V.blk, Option.some.injEq] at hb; subst hb; omega
  · have hl : path.length ≠ 0 := fun h => hpn (List.eq_nil_of_length_eq_zero h)
    have hmx : maxRoom = 17592186044416 := rfl
    have hsrc := hp3.src hpn
    have hsl : srcLen x.pv = some path.length := by rw [hpe]; rfl
    have hap : vappend 2 16 (M2.push (.cells [] false)) (.slice (some (M2.next, 0)) 0 (.exact 0)) x.pv = some (.slice (some (M2.next + 1, 0)) path.length (.upto 2), (M2.push (.cells [] false)).push (.cells (elSt.all path) false)) := by
      simp only [vappend, hsl, hsrc, Option.bind_some, beq_dec, decide_eq_false hl, cond_false, ble_iff, Nat.zero_add, decide_eq_false (show ¬ path.length ≤ 0 by omega), decide_eq_true (show path.length * 16 ≤ maxRoom by omega), decide_true, cond_true, Option.map_some, List.nil_append, hn3]
    refine step _ _ _ _ (Grew.push _ _) ⟨⟨_, _, rfl, .inr ⟨_, 0, elSt.all path, false, rfl, ?_, fun i hi => ?_⟩⟩, fun b hb => ?_, hp.ln, fun n cap h => by cases h⟩ (fun b hb => ?_) hap
    · rw [← hn3]; exact Mem.get_push_same _ _
    · rw [Nat.zero_add]; exact elSt.rd path i hi
    · simp only [V.blk, Option.some.injEq] at hb; subst hb; rw [Mem.next_push, hn3]; omega
    · simp only [V.blk, Option.some.injEq] at hb; subst hb; omega

theorem GNew_runs (M : Mem) : Runs D2 F_graph_New [] M fun v M' => ∃ gc tc bm rm, v = .ptr (some (gc, 0)) ∧ Grew M M' ∧ TreeIn M' tc bm [] ∧ M'.get gc = some (.cells [.slice none 0 (.exact 0), .ptr (some (tc, 0)), .map (some rm)] false) ∧ M'.get rm = some (.map []) ∧ M.next ≤ bm ∧ bm < tc ∧ tc < rm ∧ rm < gc ∧ gc < M'.next := by
  refine R_opq fun R hR => ?_
  refine Runs.walk (F := A_graph_New) rfl (by rfl) (by rfl) ?_
  unfold A_graph_New
  simp -dsimp only [↓w_seq, ↓w_ops, ↓w_skip, ↓w_ret, ↓w_exit, ↓w_scope, ↓w_block, ↓w_cond, cond_true', cond_false', ↓t_nil, ↓t_plain, ↓t_guard, ↓t_gagain, ↓t_again, t_val, t_call, g_true, g_false, ga_true, ga_false, a_val, a_call, ↓n_normal, ↓n_ret, ↓n_exit, ↓b_normal, ↓b_ret, ↓b_exit, ↓e_normal, ↓e_ret, e_some, go_sem, ↓reduceIte, Nat.reduceEqDiff, Nat.reduceLT, Nat.reduceSub, A_graph_New_0, A_graph_New_1]
  refine call_of (New_runs D2 rfl (by rfl) M) ?_
  intro v M1 hv
  rw [hv.1]
  obtain ⟨_, hG, hT⟩ := hv
  have hf : fillCells [.slice none 0 (.exact 0), .ptr none, .map none] [(1, 1, .ptr (some (M.next + 1, 0))), (2, 1, .map (some M1.next))] = some [.slice none 0 (.exact 0), .ptr (some (M.next + 1, 0)), .map (some M1.next)] := rfl
  have hG2 := (Grew.push M1 (.map [])).trans (Grew.push _ (.cells [.slice none 0 (.exact 0), .ptr (some (M.next + 1, 0)), .map (some M1.next)] false))
  have htl := hT.tl
  simp -dsimp only [↓w_seq, ↓w_ops, ↓w_skip, ↓w_ret, ↓w_exit, ↓w_scope, ↓w_block, ↓w_cond, cond_true', cond_false', ↓t_nil, ↓t_plain, ↓t_guard, ↓t_gagain, ↓t_again, t_val, t_call, g_true, g_false, ga_true, ga_false, a_val, a_call, ↓n_normal, ↓n_ret, ↓n_exit, ↓b_normal, ↓b_ret, ↓b_exit, ↓e_normal, ↓e_ret, e_some, go_sem, ↓reduceIte, Nat.reduceEqDiff, Nat.reduceLT, Nat.reduceSub, hf, vof, Option.map_some, V.cells, Mem.next_push]
  refine hR _ _ ⟨M1.next + 1, M.next + 1, M.next, M1.next, rfl, hG.trans hG2, hT.grew hG2, Mem.get_push_same (M1.push _) _, ?_, Nat.le_refl _, by omega, htl, by omega, by simp only [Mem.next_push]; omega⟩
  rw [Mem.get_push_ne _ _ (by simp), Mem.get_push_same]
theorem gnum_runs (M : Mem) (e : Int) : Runs D2 F_law13_num [.int .i64 e] M fun v M' => v = .int .i64 e ∧ M' = M := by
  refine R_opq fun R hR => ?_
  refine Runs.walk (F := A_law13_num) rfl (by rfl) (by rfl) ?_
  unfold A_law13_num
  simp -dsimp only [↓w_seq, ↓w_ops, ↓w_skip, ↓w_ret, ↓w_exit, ↓w_scope, ↓w_block, ↓w_cond, cond_true', cond_false', ↓t_nil, ↓t_plain, ↓t_guard, ↓t_gagain, ↓t_again, t_val, t_call, g_true, g_false, ga_true, ga_false, a_val, a_call, ↓n_normal, ↓n_ret, ↓n_exit, ↓b_normal, ↓b_ret, ↓b_exit, ↓e_normal, ↓e_ret, e_some, go_sem, ↓reduceIte, Nat.reduceEqDiff, Nat.reduceLT, Nat.reduceSub, A_law13_num_0, A_law13_num_1]
  exact hR _ _ ⟨rfl, rfl⟩
end Go.Am.Tryz.G


/- The law GraphNil answers true. -/
namespace Go.Am.Tryz.G
open Go Go.Am Go.Am.Tryz Go.Am.Tryz.O Go.Proofs Go.Sort Go.Shelf
set_option maxRecDepth 100000
set_option linter.unusedSimpArgs false
set_option linter.unusedVariables false

set_option maxHeartbeats 2000000 in
theorem nil_round (M : Mem) (b1 : Nat) (w : Wr) (path : List St) (t : V) (h : NoGr M t) (hb : M.get b1 = some (.cells (wrC w) false)) (lb : b1 < M.next) (hp : PathIn M w.2.pv path) (hpl : path.length ≤ 20) {Q : AExit → Fr → Mem → Prop} (i : Int) (fr : Fr) (r1 : fr.rd 1 = .ptr (some (b1, 0))) (r3 : fr.rd 3 = t) (r4 : fr.rd 4 = .int .i64 i)
    (hi : i = 0 ∨ i = 1) (hQ : ∀ fr' M' t', NoGr M' t' → Grew M M' → fr'.rd 1 = .ptr (some (b1, 0)) → fr'.rd 3 = t' → fr'.rd 4 = .int .i64 (i + 1) → Q .normal fr' M') : WC D2 112 A_law13_GraphNil_13 fr M Q := by
  refine W_of ?_
  unfold A_law13_GraphNil_13
  have q0 : rdCells (wrC w) 0 2 = some (stC w.1) := rfl
  have q2 : rdCells (wrC w) 2 12 = some (opC w.2) := rfl
  have hi2 : i < 2 := by omega
  simp -dsimp only [↓w_seq, ↓w_ops, ↓w_skip, ↓w_ret, ↓w_exit, ↓w_scope, ↓w_block, ↓w_cond, cond_true', cond_false', ↓t_nil, ↓t_plain, ↓t_guard, ↓t_gagain, ↓t_again, t_val, t_call, g_true, g_false, ga_true, ga_false, a_val, a_call, ↓n_normal, ↓n_ret, ↓n_exit, ↓b_normal, ↓b_ret, ↓b_exit, ↓e_normal, ↓e_ret, e_some, go_sem, ↓reduceIte, Nat.reduceEqDiff, Nat.reduceLT, Nat.reduceSub, A_law13_GraphNil_5, A_law13_GraphNil_6, r1, r3, r4, hi2, decide_true, vload, vptr, Mem.read, hb, q0, q2, Nat.zero_add, Nat.add_zero]
  refine callA_by (k := ⟨⟩) (l' := ⟨⟩) (g' := ⟨⟩) (Own_runs M w.2 path hp hpl) ?_
  intro v M1 hv
  obtain ⟨p', hv1, hG1, hp1, hone1⟩ := hv
  rw [hv1]
  clear hv1
  have hb1 := (hG1.old _ lb).trans hb
  refine ⟨?_, ?_⟩
  · simp only [List.all_cons, List.all_nil, Bool.and_true, againOk, wantedA, cond_true, go_sem, ↓reduceIte, Nat.reduceEqDiff, Nat.reduceLT, Nat.reduceSub, r1, vload, vptr, Mem.read, hb1, q0, Nat.zero_add, Nat.add_zero, vof, Option.map_some, V.beq_self, V.beqs_self, Nat.reduceAdd, Nat.reduceLeDiff, decide_true, cond_true]
  simp -dsimp only [↓w_seq, ↓w_ops, ↓w_skip, ↓w_ret, ↓w_exit, ↓w_scope, ↓w_block, ↓w_cond, cond_true', cond_false', ↓t_nil, ↓t_plain, ↓t_guard, ↓t_gagain, ↓t_again, t_val, t_call, g_true, g_false, ga_true, ga_false, a_val, a_call, ↓n_normal, ↓n_ret, ↓n_exit, ↓b_normal, ↓b_ret, ↓b_exit, ↓e_normal, ↓e_ret, e_some, go_sem, ↓reduceIte, Nat.reduceEqDiff, Nat.reduceLT, Nat.reduceSub]
  refine call_of ((h.grew hG1).insert w.1 (opC { w.2 with pv := p' }) rfl) ?_
  intro v M2 hv
  rw [hv.1]
  have hG2 := hG1.trans hv.2
  clear hv
  have hb2 := (hG2.old _ lb).trans hb
  simp -dsimp only [↓w_seq, ↓w_ops, ↓w_skip, ↓w_ret, ↓w_exit, ↓w_scope, ↓w_block, ↓w_cond, cond_true', cond_false', ↓t_nil, ↓t_plain, ↓t_guard, ↓t_gagain, ↓t_again, t_val, t_call, g_true, g_false, ga_true, ga_false, a_val, a_call, ↓n_normal, ↓n_ret, ↓n_exit, ↓b_normal, ↓b_ret, ↓b_exit, ↓e_normal, ↓e_ret, e_some, go_sem, ↓reduceIte, Nat.reduceEqDiff, Nat.reduceLT, Nat.reduceSub, List.getElem?_cons_zero, List.getElem?_cons_succ, vof, A_law13_GraphNil_7, r1, r3, vload, vptr, Mem.read, hb2, q0, Nat.zero_add, Nat.add_zero]
  refine call_of ((h.grew hG2).spot w.1) ?_
  intro v M3 hv
  rw [hv.1]
  have hG3 := hG2.trans hv.2
  clear hv
  have hw3 := write_full (M := M3.push (.cells [.int .i64 0, .int .i64 0, .str []] false)) (b := M3.next) (vs := spC sp0) (Mem.get_push_same _ _) rfl rfl
  have hcs : V.cells (.agg (spC sp0)) = spC sp0 := rfl
  have hls : (spC sp0).length = 3 := rfl
  simp -dsimp only [↓w_seq, ↓w_ops, ↓w_skip, ↓w_ret, ↓w_exit, ↓w_scope, ↓w_block, ↓w_cond, cond_true', cond_false', ↓t_nil, ↓t_plain, ↓t_guard, ↓t_gagain, ↓t_again, t_val, t_call, g_true, g_false, ga_true, ga_false, a_val, a_call, ↓n_normal, ↓n_ret, ↓n_exit, ↓b_normal, ↓b_ret, ↓b_exit, ↓e_normal, ↓e_ret, e_some, go_sem, ↓reduceIte, Nat.reduceEqDiff, Nat.reduceLT, Nat.reduceSub, List.getElem?_cons_zero, List.getElem?_cons_succ, vof, vstore, vptr, hcs, hls, hw3, Nat.reduceEqDiff]
  have hG4 : Grew M ((M3.push (.cells [.int .i64 0, .int .i64 0, .str []] false)).set M3.next (.cells (spC sp0) false)) := hG3.trans ((Grew.push M3 _).upd (Nat.le_refl _) (Upd.set _ _ _))
  generalize (M3.push (.cells [.int .i64 0, .int .i64 0, .str []] false)).set M3.next (.cells (spC sp0) false) = M4 at *
  have hb4 := (hG4.old _ lb).trans hb
  simp -dsimp only [↓w_seq, ↓w_ops, ↓w_skip, ↓w_ret, ↓w_exit, ↓w_scope, ↓w_block, ↓w_cond, cond_true', cond_false', ↓t_nil, ↓t_plain, ↓t_guard, ↓t_gagain, ↓t_again, t_val, t_call, g_true, g_false, ga_true, ga_false, a_val, a_call, ↓n_normal, ↓n_ret, ↓n_exit, ↓b_normal, ↓b_ret, ↓b_exit, ↓e_normal, ↓e_ret, e_some, go_sem, ↓reduceIte, Nat.reduceEqDiff, Nat.reduceLT, Nat.reduceSub, A_law13_GraphNil_8, r1, r3, vload, vptr, Mem.read, hb4, q0, Nat.zero_add, Nat.add_zero]
  refine call_of ((h.grew hG4).ref w.1) ?_
  intro v M5 hv
  rw [hv.1]
  have hG5 := hG4.trans hv.2
  clear hv
  have hw5 := write_full (M := M5.push (.cells [.int .i64 0, .int .i64 0] false)) (b := M5.next) (vs := stC (0, 0)) (Mem.get_push_same _ _) rfl rfl
  have hcs : V.cells (.agg (stC (0, 0))) = stC (0, 0) := rfl
  have hls : (stC (0, 0)).length = 2 := rfl
  simp -dsimp only [↓w_seq, ↓w_ops, ↓w_skip, ↓w_ret, ↓w_exit, ↓w_scope, ↓w_block, ↓w_cond, cond_true', cond_false', ↓t_nil, ↓t_plain, ↓t_guard, ↓t_gagain, ↓t_again, t_val, t_call, g_true, g_false, ga_true, ga_false, a_val, a_call, ↓n_normal, ↓n_ret, ↓n_exit, ↓b_normal, ↓b_ret, ↓b_exit, ↓e_normal, ↓e_ret, e_some, go_sem, ↓reduceIte, Nat.reduceEqDiff, Nat.reduceLT, Nat.reduceSub, List.getElem?_cons_zero, List.getElem?_cons_succ, vof, vstore, vptr, hcs, hls, hw5, Nat.reduceEqDiff]
  have hG6 : Grew M ((M5.push (.cells [.int .i64 0, .int .i64 0] false)).set M5.next (.cells (stC (0, 0)) false)) := hG5.trans ((Grew.push M5 _).upd (Nat.le_refl _) (Upd.set _ _ _))
  generalize (M5.push (.cells [.int .i64 0, .int .i64 0] false)).set M5.next (.cells (stC (0, 0)) false) = M6 at *
  have hb6 := (hG6.old _ lb).trans hb
  have h6 := h.grew hG6
  refine WT_abs (fun fr => fr.rd 1 = .ptr (some (b1, 0)) ∧ fr.rd 3 = t ∧ fr.rd 4 = .int .i64 i ∧ fr.rd 6 = .int .i64 1 ∧ fr.rd 8 = .bool false ∧ fr.rd 10 = .bool false) ?_ ?_
  · simp only [go_sem, ↓reduceIte, Nat.reduceEqDiff, Nat.reduceLT, Nat.reduceSub, r1, r3, r4]
    exact ⟨trivial, trivial, trivial, trivial, trivial, trivial⟩
  clear r1 r3 r4 fr
  rintro fr ⟨r1, r3, r4, r6, r8, r10⟩
  simp -dsimp only [↓w_seq, ↓w_ops, ↓w_skip, ↓w_ret, ↓w_exit, ↓w_scope, ↓w_block, ↓w_cond, cond_true', cond_false', ↓t_nil, ↓t_plain, ↓t_guard, ↓t_gagain, ↓t_again, t_val, t_call, g_true, g_false, ga_true, ga_false, a_val, a_call, ↓n_normal, ↓n_ret, ↓n_exit, ↓b_normal, ↓b_ret, ↓b_exit, ↓e_normal, ↓e_ret, e_some, go_sem, ↓reduceIte, Nat.reduceEqDiff, Nat.reduceLT, Nat.reduceSub, A_law13_GraphNil_9, r6]
  refine call_eq (gnum_runs M6 1) ?_
  simp -dsimp only [↓w_seq, ↓w_ops, ↓w_skip, ↓w_ret, ↓w_exit, ↓w_scope, ↓w_block, ↓w_cond, cond_true', cond_false', ↓t_nil, ↓t_plain, ↓t_guard, ↓t_gagain, ↓t_again, t_val, t_call, g_true, g_false, ga_true, ga_false, a_val, a_call, ↓n_normal, ↓n_ret, ↓n_exit, ↓b_normal, ↓b_ret, ↓b_exit, ↓e_normal, ↓e_ret, e_some, go_sem, ↓reduceIte, Nat.reduceEqDiff, Nat.reduceLT, Nat.reduceSub, r1, r3, r8, r10, decide_true, Bool.not_true, vload, vptr, Mem.read, hb6, q0, Nat.zero_add, Nat.add_zero]
  refine call_of (h6.done w.1) ?_
  intro v M7 hv
  rw [hv.1]
  have hG7 := hG6.trans hv.2
  clear hv
  have hb7 := (hG7.old _ lb).trans hb
  simp -dsimp only [↓w_seq, ↓w_ops, ↓w_skip, ↓w_ret, ↓w_exit, ↓w_scope, ↓w_block, ↓w_cond, cond_true', cond_false', ↓t_nil, ↓t_plain, ↓t_guard, ↓t_gagain, ↓t_again, t_val, t_call, g_true, g_false, ga_true, ga_false, a_val, a_call, ↓n_normal, ↓n_ret, ↓n_exit, ↓b_normal, ↓b_ret, ↓b_exit, ↓e_normal, ↓e_ret, e_some, go_sem, ↓reduceIte, Nat.reduceEqDiff, Nat.reduceLT, Nat.reduceSub, r1, r3, vload, vptr, Mem.read, hb7, q0, Nat.zero_add, Nat.add_zero]
  refine call_of ((h.grew hG7).has w.1) ?_
  intro v M8 hv
  rw [hv.1]
  have hG8 := hG7.trans hv.2
  clear hv
  have hb8 := (hG8.old _ lb).trans hb
  simp -dsimp only [↓w_seq, ↓w_ops, ↓w_skip, ↓w_ret, ↓w_exit, ↓w_scope, ↓w_block, ↓w_cond, cond_true', cond_false', ↓t_nil, ↓t_plain, ↓t_guard, ↓t_gagain, ↓t_again, t_val, t_call, g_true, g_false, ga_true, ga_false, a_val, a_call, ↓n_normal, ↓n_ret, ↓n_exit, ↓b_normal, ↓b_ret, ↓b_exit, ↓e_normal, ↓e_ret, e_some, go_sem, ↓reduceIte, Nat.reduceEqDiff, Nat.reduceLT, Nat.reduceSub, r1, r3, vload, vptr, Mem.read, hb8, q0, Nat.zero_add, Nat.add_zero]
  refine call_of ((h.grew hG8).reaches w.1 w.1 (.bool true)) ?_
  intro v M9 hv
  rw [hv.1]
  have hG9 := hG8.trans hv.2
  clear hv
  have hb9 := (hG9.old _ lb).trans hb
  have h9 := h.grew hG9
  simp -dsimp only [↓w_seq, ↓w_ops, ↓w_skip, ↓w_ret, ↓w_exit, ↓w_scope, ↓w_block, ↓w_cond, cond_true', cond_false', ↓t_nil, ↓t_plain, ↓t_guard, ↓t_gagain, ↓t_again, t_val, t_call, g_true, g_false, ga_true, ga_false, a_val, a_call, ↓n_normal, ↓n_ret, ↓n_exit, ↓b_normal, ↓b_ret, ↓b_exit, ↓e_normal, ↓e_ret, e_some, go_sem, ↓reduceIte, Nat.reduceEqDiff, Nat.reduceLT, Nat.reduceSub, r1, r3, vload, vptr, Mem.read, hb9, q0, Nat.zero_add, Nat.add_zero]
  refine callA_by (k := ⟨⟩) (l' := ⟨⟩) (g' := ⟨⟩) h9.count ?_
  intro v MA hv
  rw [hv.1, hv.2]
  clear hv MA
  refine ⟨?_, ?_⟩
  · simp only [List.all_cons, List.all_nil, Bool.and_true, againOk, wantedA, cond_true, go_sem, ↓reduceIte, Nat.reduceEqDiff, Nat.reduceLT, Nat.reduceSub, r1, vload, vptr, Mem.read, hb9, q0, Nat.zero_add, Nat.add_zero, vof, Option.map_some, V.beq_self, V.beqs_self, Nat.reduceAdd, Nat.reduceLeDiff, decide_true, cond_true, Bool.not_false, Bool.and_self]
  simp -dsimp only [↓w_seq, ↓w_ops, ↓w_skip, ↓w_ret, ↓w_exit, ↓w_scope, ↓w_block, ↓w_cond, cond_true', cond_false', ↓t_nil, ↓t_plain, ↓t_guard, ↓t_gagain, ↓t_again, t_val, t_call, g_true, g_false, ga_true, ga_false, a_val, a_call, ↓n_normal, ↓n_ret, ↓n_exit, ↓b_normal, ↓b_ret, ↓b_exit, ↓e_normal, ↓e_ret, e_some, go_sem, ↓reduceIte, Nat.reduceEqDiff, Nat.reduceLT, Nat.reduceSub]
  refine callA_by (k := ⟨⟩) (l' := ⟨⟩) (g' := ⟨⟩) (h9.row w.1) ?_
  intro v MA hv
  rw [hv.1]
  have hGA := hG9.trans hv.2
  clear hv
  have hbA := (hGA.old _ lb).trans hb
  have hA := h.grew hGA
  refine ⟨?_, ?_⟩
  · simp only [List.all_cons, List.all_nil, Bool.and_true, againOk, wantedA, cond_true, go_sem, ↓reduceIte, Nat.reduceEqDiff, Nat.reduceLT, Nat.reduceSub, r1, vload, vptr, Mem.read, hbA, q0, Nat.zero_add, Nat.add_zero, vof, Option.map_some, V.beq_self, V.beqs_self, Nat.reduceAdd, Nat.reduceLeDiff, decide_true, cond_true, Bool.not_false, Bool.and_self]
  have z0 : ((0 : Nat) : Int) = 0 := rfl
  have z1 : IntKind.i64.wrap ((0 : Int) + 0) = 0 := by decide
  simp -dsimp only [↓w_seq, ↓w_ops, ↓w_skip, ↓w_ret, ↓w_exit, ↓w_scope, ↓w_block, ↓w_cond, cond_true', cond_false', ↓t_nil, ↓t_plain, ↓t_guard, ↓t_gagain, ↓t_again, t_val, t_call, g_true, g_false, ga_true, ga_false, a_val, a_call, ↓n_normal, ↓n_ret, ↓n_exit, ↓b_normal, ↓b_ret, ↓b_exit, ↓e_normal, ↓e_ret, e_some, go_sem, ↓reduceIte, Nat.reduceEqDiff, Nat.reduceLT, Nat.reduceSub, z0, z1]
  refine callA_by (k := ⟨⟩) (l' := ⟨⟩) (g' := ⟨⟩) hA.nodes ?_
  intro v MB hv
  rw [hv.1, hv.2]
  clear hv MB
  refine ⟨?_, ?_⟩
  · simp only [List.all_cons, List.all_nil, Bool.and_true, againOk, wantedA, cond_true, go_sem, ↓reduceIte, Nat.reduceEqDiff, Nat.reduceLT, Nat.reduceSub, r1, vload, vptr, Mem.read, hbA, q0, Nat.zero_add, Nat.add_zero, vof, Option.map_some, V.beq_self, V.beqs_self, Nat.reduceAdd, Nat.reduceLeDiff, decide_true, cond_true, Bool.not_false, Bool.and_self]
  simp -dsimp only [↓w_seq, ↓w_ops, ↓w_skip, ↓w_ret, ↓w_exit, ↓w_scope, ↓w_block, ↓w_cond, cond_true', cond_false', ↓t_nil, ↓t_plain, ↓t_guard, ↓t_gagain, ↓t_again, t_val, t_call, g_true, g_false, ga_true, ga_false, a_val, a_call, ↓n_normal, ↓n_ret, ↓n_exit, ↓b_normal, ↓b_ret, ↓b_exit, ↓e_normal, ↓e_ret, e_some, go_sem, ↓reduceIte, Nat.reduceEqDiff, Nat.reduceLT, Nat.reduceSub, z0, z1]
  refine callT_abs (fun fr => fr.rd 1 = .ptr (some (b1, 0)) ∧ fr.rd 3 = t ∧ fr.rd 4 = .int .i64 i ∧ fr.rd 73 = .bool false ∧ fr.rd 85 = .int .i64 0) ?_ ?_
  · refine ⟨?_, ?_, ?_, ?_, ?_⟩
    all_goals simp only [go_sem, ↓reduceIte, Nat.reduceEqDiff, Nat.reduceLT, Nat.reduceSub, r1, r3, r4]
  clear r1 r3 r4 r6 r8 r10 fr
  intro fr hfr
  have r1 := hfr.1
  have r3 := hfr.2.1
  have r4 := hfr.2.2.1
  have r73 := hfr.2.2.2.1
  have r85 := hfr.2.2.2.2
  clear hfr
  refine call_of (hA.above w.1) ?_
  intro v MB hv
  rw [hv.1]
  have hGB := hGA.trans hv.2
  clear hv
  have hB := h.grew hGB
  simp -dsimp only [↓w_seq, ↓w_ops, ↓w_skip, ↓w_ret, ↓w_exit, ↓w_scope, ↓w_block, ↓w_cond, cond_true', cond_false', ↓t_nil, ↓t_plain, ↓t_guard, ↓t_gagain, ↓t_again, t_val, t_call, g_true, g_false, ga_true, ga_false, a_val, a_call, ↓n_normal, ↓n_ret, ↓n_exit, ↓b_normal, ↓b_ret, ↓b_exit, ↓e_normal, ↓e_ret, e_some, go_sem, ↓reduceIte, Nat.reduceEqDiff, Nat.reduceLT, Nat.reduceSub, r73, r85, z0, z1, decide_true, Bool.not_true, r3]
  refine call_eq (hB.same (u := t)) ?_
  simp -dsimp only [↓w_seq, ↓w_ops, ↓w_skip, ↓w_ret, ↓w_exit, ↓w_scope, ↓w_block, ↓w_cond, cond_true', cond_false', ↓t_nil, ↓t_plain, ↓t_guard, ↓t_gagain, ↓t_again, t_val, t_call, g_true, g_false, ga_true, ga_false, a_val, a_call, ↓n_normal, ↓n_ret, ↓n_exit, ↓b_normal, ↓b_ret, ↓b_exit, ↓e_normal, ↓e_ret, e_some, go_sem, ↓reduceIte, Nat.reduceEqDiff, Nat.reduceLT, Nat.reduceSub, r3]
  refine call_of (GNew_runs MB) ?_
  intro v MC hv
  obtain ⟨gc, tc, bm, rm, hv, hGC', _⟩ := hv
  rw [hv]
  clear hv
  have hGC := hGB.trans hGC'
  have hC := h.grew hGC
  simp -dsimp only [↓w_seq, ↓w_ops, ↓w_skip, ↓w_ret, ↓w_exit, ↓w_scope, ↓w_block, ↓w_cond, cond_true', cond_false', ↓t_nil, ↓t_plain, ↓t_guard, ↓t_gagain, ↓t_again, t_val, t_call, g_true, g_false, ga_true, ga_false, a_val, a_call, ↓n_normal, ↓n_ret, ↓n_exit, ↓b_normal, ↓b_ret, ↓b_exit, ↓e_normal, ↓e_ret, e_some, go_sem, ↓reduceIte, Nat.reduceEqDiff, Nat.reduceLT, Nat.reduceSub, r3]
  refine call_eq (hC.same (u := .ptr (some (gc, 0)))) ?_
  simp -dsimp only [↓w_seq, ↓w_ops, ↓w_skip, ↓w_ret, ↓w_exit, ↓w_scope, ↓w_block, ↓w_cond, cond_true', cond_false', ↓t_nil, ↓t_plain, ↓t_guard, ↓t_gagain, ↓t_again, t_val, t_call, g_true, g_false, ga_true, ga_false, a_val, a_call, ↓n_normal, ↓n_ret, ↓n_exit, ↓b_normal, ↓b_ret, ↓b_exit, ↓e_normal, ↓e_ret, e_some, go_sem, ↓reduceIte, Nat.reduceEqDiff, Nat.reduceLT, Nat.reduceSub, r3]
  refine call_eq hC.clone ?_
  have f3' : fillCells [.slice none 0 (.exact 0), .ptr none, .map none] [] = some [.slice none 0 (.exact 0), .ptr none, .map none] := rfl
  have hcz : V.cells (.agg [.slice none 0 (.exact 0), .ptr none, .map none]) = [.slice none 0 (.exact 0), .ptr none, .map none] := rfl
  have hGD := hGC.trans (Grew.push MC (.cells [.slice none 0 (.exact 0), .ptr none, .map none] false))
  have hN : NoGr (MC.push (.cells [.slice none 0 (.exact 0), .ptr none, .map none] false)) (.ptr (some (MC.next, 0))) := .inr ⟨MC.next, _, _, false, rfl, by simp, Mem.get_push_same _ _⟩
  have hi3 : IntKind.i64.wrap (i + 1) = i + 1 := IntWalk.i64_in _ (by omega)
  simp -dsimp only [↓w_seq, ↓w_ops, ↓w_skip, ↓w_ret, ↓w_exit, ↓w_scope, ↓w_block, ↓w_cond, cond_true', cond_false', ↓t_nil, ↓t_plain, ↓t_guard, ↓t_gagain, ↓t_again, t_val, t_call, g_true, g_false, ga_true, ga_false, a_val, a_call, ↓n_normal, ↓n_ret, ↓n_exit, ↓b_normal, ↓b_ret, ↓b_exit, ↓e_normal, ↓e_ret, e_some, go_sem, ↓reduceIte, Nat.reduceEqDiff, Nat.reduceLT, Nat.reduceSub, nil_ptr, nil_ptr', Option.map_some, A_law13_GraphNil_11, A_law13_GraphNil_12, f3', hcz, vof, r4, hi3]
  refine hQ _ _ _ hN hGD ?_ ?_ ?_
  all_goals simp only [go_sem, ↓reduceIte, Nat.reduceEqDiff, Nat.reduceLT, Nat.reduceSub, r1]

theorem graph_nil_runs (w : Wr) (path : List St) (M0 : Mem) (hp : PathIn M0 w.2.pv path) (hk : w.2.key.length < 2 ^ 63 ∧ w.2.v3.length < 2 ^ 63) (hg : isG M0 = true) (hn : 2 ≤ M0.next) :
    Runs D2 F_law13_GraphNil [.agg (wrC w)] M0 fun v _ => v = .bool true := by
  refine R_opq fun R hR => ?_
  refine Runs.walk (F := A_law13_GraphNil) rfl (by rfl) (by rfl) ?_
  unfold A_law13_GraphNil
  have hcw : V.cells (.agg (wrC w)) = wrC w := rfl
  have hrw : rdCells (wrC w) 0 14 = some (wrC w) := rfl
  have hG1 := Grew.push M0 (.cells (wrC w) false)
  have g1 : (M0.push (.cells (wrC w) false)).get M0.next = some (.cells (wrC w) false) := Mem.get_push_same _ _
  have hn1 : (M0.push (.cells (wrC w) false)).next = M0.next + 1 := rfl
  simp -dsimp only [↓w_seq, ↓w_ops, ↓w_skip, ↓w_ret, ↓w_exit, ↓w_scope, ↓w_block, ↓w_cond, cond_true', cond_false', ↓t_nil, ↓t_plain, ↓t_guard, ↓t_gagain, ↓t_again, t_val, t_call, g_true, g_false, ga_true, ga_false, a_val, a_call, ↓n_normal, ↓n_ret, ↓n_exit, ↓b_normal, ↓b_ret, ↓b_exit, ↓e_normal, ↓e_ret, e_some, go_sem, ↓reduceIte, Nat.reduceEqDiff, Nat.reduceLT, Nat.reduceSub, A_law13_GraphNil_0, hcw]
  generalize M0.push (.cells (wrC w) false) = M1 at *
  have hf : fillCells [.int .i64 0, .int .i64 0, .int .i64 0, .int .i64 0, .int .i64 0, .int .i64 0, .int .i64 0, .str [], .slice none 0 (.exact 0), .int .i64 0, .int .i64 0, .int .i64 0, .str [], .bool false] [(0, 14, .agg (wrC w))] = some (wrC w) := rfl
  have hG2 := Grew.push M1 (.cells (wrC w) false)
  have g2 : (M1.push (.cells (wrC w) false)).get M1.next = some (.cells (wrC w) false) := Mem.get_push_same _ _
  have hn2 : (M1.push (.cells (wrC w) false)).next = M1.next + 1 := rfl
  simp -dsimp only [↓w_seq, ↓w_ops, ↓w_skip, ↓w_ret, ↓w_exit, ↓w_scope, ↓w_block, ↓w_cond, cond_true', cond_false', ↓t_nil, ↓t_plain, ↓t_guard, ↓t_gagain, ↓t_again, t_val, t_call, g_true, g_false, ga_true, ga_false, a_val, a_call, ↓n_normal, ↓n_ret, ↓n_exit, ↓b_normal, ↓b_ret, ↓b_exit, ↓e_normal, ↓e_ret, e_some, go_sem, ↓reduceIte, Nat.reduceEqDiff, Nat.reduceLT, Nat.reduceSub, A_law13_GraphNil_1, vload, Mem.read, g1, hrw, repl, List.append_nil, hf, Option.map_some, Nat.zero_add]
  have g1' := (hG2.old _ (by omega)).trans g1
  generalize M1.push (.cells (wrC w) false) = M2 at *
  have hG := hG1.trans hG2
  have hg2 : isG M2 = true := isG_keep hg hn hG.old
  have hW : WrsIn M2 (.slice (some (M1.next, 0)) 1 (.exact 1)) [w] := by
    refine ⟨⟨some (M1.next, 0), .exact 1, rfl, .inr ⟨M1.next, 0, wrC w, false, rfl, g2, fun j hj => ?_⟩⟩, fun b hb => ?_, fun x hx => ?_, fun x hx => ?_⟩
    · have : j = 0 := by simp at hj; omega
      subst this
      exact hrw
    · simp only [V.blk, Option.some.injEq] at hb; omega
    · simp only [List.mem_singleton] at hx; subst hx; exact ⟨path, (hp.grew hG1).grew hG2⟩
    · simp only [List.mem_singleton] at hx; subst hx; exact hk
  refine call_of (Light_runs _ [w] M2 hW (by simp)) ?_
  intro v M' hv
  obtain ⟨⟨b, hb, hL⟩, hM'⟩ := hv
  rw [hb, hM']
  clear hb hM'
  cases b with
  | false =>
    simp -dsimp only [↓w_seq, ↓w_ops, ↓w_skip, ↓w_ret, ↓w_exit, ↓w_scope, ↓w_block, ↓w_cond, cond_true', cond_false', ↓t_nil, ↓t_plain, ↓t_guard, ↓t_gagain, ↓t_again, t_val, t_call, g_true, g_false, ga_true, ga_false, a_val, a_call, ↓n_normal, ↓n_ret, ↓n_exit, ↓b_normal, ↓b_ret, ↓b_exit, ↓e_normal, ↓e_ret, e_some, go_sem, ↓reduceIte, Nat.reduceEqDiff, Nat.reduceLT, Nat.reduceSub, A_law13_GraphNil_2, Bool.not_false]
    refine call_eq (knowsG_p hg2) ?_
    simp -dsimp only [↓w_seq, ↓w_ops, ↓w_skip, ↓w_ret, ↓w_exit, ↓w_scope, ↓w_block, ↓w_cond, cond_true', cond_false', ↓t_nil, ↓t_plain, ↓t_guard, ↓t_gagain, ↓t_again, t_val, t_call, g_true, g_false, ga_true, ga_false, a_val, a_call, ↓n_normal, ↓n_ret, ↓n_exit, ↓b_normal, ↓b_ret, ↓b_exit, ↓e_normal, ↓e_ret, e_some, go_sem, ↓reduceIte, Nat.reduceEqDiff, Nat.reduceLT, Nat.reduceSub]
    exact hR _ _ rfl
  | true =>
    have hpl : path.length ≤ 20 := by rw [← hp.plen]; exact ((hL rfl).2 w (by simp)).1
    simp -dsimp only [↓w_seq, ↓w_ops, ↓w_skip, ↓w_ret, ↓w_exit, ↓w_scope, ↓w_block, ↓w_cond, cond_true', cond_false', ↓t_nil, ↓t_plain, ↓t_guard, ↓t_gagain, ↓t_again, t_val, t_call, g_true, g_false, ga_true, ga_false, a_val, a_call, ↓n_normal, ↓n_ret, ↓n_exit, ↓b_normal, ↓b_ret, ↓b_exit, ↓e_normal, ↓e_ret, e_some, go_sem, ↓reduceIte, Nat.reduceEqDiff, Nat.reduceLT, Nat.reduceSub, A_law13_GraphNil_3, A_law13_GraphNil_4, Bool.not_true]
    refine WC.loop ?_
    refine nil_round M2 M0.next w path (.ptr none) (.inl rfl) g1' (by omega) ((hp.grew hG1).grew hG2) hpl 0 _ ?_ ?_ ?_ (.inl rfl) ?_
    · simp only [go_sem, ↓reduceIte, Nat.reduceEqDiff, Nat.reduceLT, Nat.reduceSub]
    · simp only [go_sem, ↓reduceIte, Nat.reduceEqDiff, Nat.reduceLT, Nat.reduceSub]
    · simp only [go_sem, ↓reduceIte, Nat.reduceEqDiff, Nat.reduceLT, Nat.reduceSub]
    intro fr3 M3 t3 hN3 hG3 k1 k3 k4
    refine WC.loop ?_
    refine nil_round M3 M0.next w path t3 hN3 ((hG3.old _ (by omega)).trans g1') (by have := hG3.next; omega) (((hp.grew hG1).grew hG2).grew hG3) hpl 1 _ k1 k3 k4 (.inr rfl) ?_
    intro fr4 M4 t4 hN4 hG4 m1 m3 m4
    refine WC.loop (W_of ?_)
    unfold A_law13_GraphNil_13
    have n2 : ¬ ((1 : Int) + 1 < 2) := by decide
    simp -dsimp only [↓w_seq, ↓w_ops, ↓w_skip, ↓w_ret, ↓w_exit, ↓w_scope, ↓w_block, ↓w_cond, cond_true', cond_false', ↓t_nil, ↓t_plain, ↓t_guard, ↓t_gagain, ↓t_again, t_val, t_call, g_true, g_false, ga_true, ga_false, a_val, a_call, ↓n_normal, ↓n_ret, ↓n_exit, ↓b_normal, ↓b_ret, ↓b_exit, ↓e_normal, ↓e_ret, e_some, go_sem, ↓reduceIte, Nat.reduceEqDiff, Nat.reduceLT, Nat.reduceSub, A_law13_GraphNil_5, m4, n2, decide_false, A_law13_GraphNil_14]
    refine call_eq (knowsG_p (isG_keep hg2 (by omega) (hG3.trans hG4).old)) ?_
    simp -dsimp only [↓w_seq, ↓w_ops, ↓w_skip, ↓w_ret, ↓w_exit, ↓w_scope, ↓w_block, ↓w_cond, cond_true', cond_false', ↓t_nil, ↓t_plain, ↓t_guard, ↓t_gagain, ↓t_again, t_val, t_call, g_true, g_false, ga_true, ga_false, a_val, a_call, ↓n_normal, ↓n_ret, ↓n_exit, ↓b_normal, ↓b_ret, ↓b_exit, ↓e_normal, ↓e_ret, e_some, go_sem, ↓reduceIte, Nat.reduceEqDiff, Nat.reduceLT, Nat.reduceSub]
    exact hR _ _ rfl
end Go.Am.Tryz.G


/- The row: arguments in which slices stand in structs, as deep as they go; a law's run from memory in which they stand. -/
namespace Go.Am
open Go Go.RowKit Go.ChangeShapes Go.WideShapes

/-- The kinds of cells of data. -/
inductive DK where
  | bool
  | int (k : IntKind)
  | str
  | sl (ks : List DK)

mutual
/-- A cell of such a kind; a slice's elements stand in a block that is only read. -/
inductive DFit (M : Mem) : DK → V → Prop where
  | bool (b : Bool) : DFit M .bool (.bool b)
  | int (k : IntKind) (n : Int) (h : (Lit.int k n).wf = true) : DFit M (.int k) (.int k n)
  | str (s : List UInt8) (h : s.length ≤ maxLen) : DFit M .str (.str s)
  | nil (ks : List DK) : DFit M (.sl ks) (.slice none 0 (.exact 0))
  | zero (ks : List DK) (b : Nat) (h : b < M.next) : DFit M (.sl ks) (.slice (some (b, 0)) 0 (.exact 0))
  | sl {ks : List DK} {b len cap : Nat} {rows : List (List V)} (hl : len ≤ cap) (hm : cap ≤ maxLen) (hb : M.get b = some (.cells rows.flatten true)) (hlt : b < M.next) (hr : rows.length = cap) (h : DRows M ks rows) : DFit M (.sl ks) (.slice (some (b, 0)) len (.exact cap))
inductive DFits (M : Mem) : List DK → List V → Prop where
  | nil : DFits M [] []
  | cons {k : DK} {ks : List DK} {v : V} {vs : List V} (h : DFit M k v) (t : DFits M ks vs) : DFits M (k :: ks) (v :: vs)
inductive DRows (M : Mem) : List DK → List (List V) → Prop where
  | nil {ks : List DK} : DRows M ks []
  | cons {ks : List DK} {r : List V} {rs : List (List V)} (h : DFits M ks r) (t : DRows M ks rs) : DRows M ks (r :: rs)
end

theorem DFits.length {M : Mem} : ∀ {ks : List DK} {vs : List V}, DFits M ks vs → vs.length = ks.length
  | _, _, .nil => rfl
  | _, _, .cons _ t => by simp [DFits.length t]
theorem DFits.app {M : Mem} : ∀ {a : List DK} {x : List V} {b : List DK} {y : List V}, DFits M a x → DFits M b y → DFits M (a ++ b) (x ++ y)
  | _, _, _, _, .nil, h => h
  | _, _, _, _, .cons a t, h => .cons a (DFits.app t h)
theorem DRows.all {M : Mem} {ks : List DK} : ∀ {rows : List (List V)}, DRows M ks rows → ∀ r ∈ rows, DFits M ks r
  | _, .nil, r, h => by cases h
  | _, .cons a t, r, h => by
    rcases List.mem_cons.1 h with rfl | h
    · exact a
    · exact DRows.all t r h
mutual
theorem DFit.mono {M M' : Mem} (hn : M.next ≤ M'.next) (hk : ∀ b, b < M.next → M'.get b = M.get b) : ∀ {k : DK} {v : V}, DFit M k v → DFit M' k v
  | _, _, .bool b => .bool b
  | _, _, .int k n h => .int k n h
  | _, _, .str s h => .str s h
  | _, _, .nil ks => .nil ks
  | _, _, .zero ks b h => .zero ks b (Nat.lt_of_lt_of_le h hn)
  | _, _, .sl hl hm hb hlt hr h => .sl hl hm ((hk _ hlt).trans hb) (Nat.lt_of_lt_of_le hlt hn) hr (DRows.mono hn hk h)
theorem DFits.mono {M M' : Mem} (hn : M.next ≤ M'.next) (hk : ∀ b, b < M.next → M'.get b = M.get b) : ∀ {ks : List DK} {vs : List V}, DFits M ks vs → DFits M' ks vs
  | _, _, .nil => .nil
  | _, _, .cons h t => .cons (DFit.mono hn hk h) (DFits.mono hn hk t)
theorem DRows.mono {M M' : Mem} (hn : M.next ≤ M'.next) (hk : ∀ b, b < M.next → M'.get b = M.get b) : ∀ {ks : List DK} {rs : List (List V)}, DRows M ks rs → DRows M' ks rs
  | _, _, .nil => .nil
  | _, _, .cons h t => .cons (DFits.mono hn hk h) (DRows.mono hn hk t)
end

def shapesD (g : TypeId → Option (List DK)) (c : TypeId → Nat) : List Field → Nat → Option (List DK)
  | [], _ => some []
  | f :: fs, off => if f.offset = off then
      match g f.type with
      | none => none
      | some ks => if ks.length = c f.type then (shapesD g c fs (off + ks.length)).map (ks ++ ·) else none
    else none
/-- What cells a type of data is made of. -/
def shapeD (P : Program) : Nat → TypeId → Option (List DK)
  | 0, _ => none
  | n + 1, t =>
    match P.underlying t with
    | some .bool => some [.bool]
    | some (.int k) => some [.int k]
    | some .string => some [.str]
    | some (.slice e) => match shapeD P n e with
      | some ks => if ks.length = P.cellsOf e ∧ 0 < ks.length then some [.sl ks] else none
      | none => none
    | some (.struct fs) =>
      match shapesD (shapeD P n) P.cellsOf fs.toList 0 with
      | some ks => if ks.length = P.cellsOf t then some ks else none
      | none => none
    | _ => none

/-! ### blocks only read, that may point to one another -/
def EnvOk (l : Env) (w : World) : Prop := ∀ (i : Nat) (x : List V × Nat × Nat × Nat), l[i]? = some x → ∃ arr elem fz, w.heap[x.2.1]? = some (.cells arr elem fz) ∧ CR l.emb x.1 arr x.2.2.1 ∧ x.2.2.1 + x.2.2.2 = arr.size
theorem emb_app {l l' : Env} : Emb.le l.emb (l ++ l').emb := fun b x h => by
  simp only [Env.emb, Option.map_eq_some_iff] at h ⊢
  obtain ⟨y, hy, rfl⟩ := h
  exact ⟨y, by rw [List.getElem?_append_left (List.getElem?_eq_some_iff.1 hy).1]; exact hy, rfl⟩
theorem mem_app {l l' : Env} : l.mem.next ≤ (l ++ l').mem.next ∧ ∀ b, b < l.mem.next → (l ++ l').mem.get b = l.mem.get b := by
  refine ⟨by rw [Env.next_mem, Env.next_mem, List.length_append]; omega, fun b hb => ?_⟩
  rw [Env.next_mem] at hb
  rw [Env.get_mem, Env.get_mem, List.getElem?_append_left hb]
theorem CR.mono' {E E' : Emb} (hE : Emb.le E E') {cs : List V} {arr : Array Value} {d : Nat} (h : CR E cs arr d) : CR E' cs arr d := fun i v hi => by
  obtain ⟨u, hu, hr⟩ := h i v hi
  exact ⟨u, hu, hr.mono hE⟩
theorem EnvOk.flat {l : Env} {w : World} (h : l.ok w) : EnvOk l w := fun i x hx => by
  obtain ⟨arr, elem, fz, a, b, c⟩ := h x (List.mem_of_getElem? hx)
  exact ⟨arr, elem, fz, a, b _, c⟩
theorem EnvOk.snoc {l : Env} {w : World} (h : EnvOk l w) {x : List V × Nat × Nat × Nat} {arr : Array Value} {elem : TypeId} {fz : Nat × Nat} (h1 : w.heap[x.2.1]? = some (.cells arr elem fz)) (h2 : CR l.emb x.1 arr x.2.2.1) (h3 : x.2.2.1 + x.2.2.2 = arr.size) : EnvOk (l ++ [x]) w := fun i y hy => by
  rcases Nat.lt_or_ge i l.length with hi | hi
  · rw [List.getElem?_append_left hi] at hy
    obtain ⟨arr, elem, fz, a, b, c⟩ := h i y hy
    exact ⟨arr, elem, fz, a, b.mono' emb_app, c⟩
  · rw [List.getElem?_append_right hi] at hy
    obtain ⟨hi0, e⟩ : i - l.length = 0 ∧ x = y := by
      cases hq : i - l.length with
      | zero => rw [hq] at hy; simp at hy; exact ⟨rfl, hy⟩
      | succ k => rw [hq] at hy; simp at hy
    subst e
    exact ⟨arr, elem, fz, h1, h2.mono' emb_app, h3⟩
theorem EnvOk.rel {l : Env} {w : World} (h : EnvOk l w) : Rel l.emb l.mem w := by
  have hat : ∀ b c d k, l.emb b = some (c, d, k) → ∃ x, l[b]? = some x ∧ x.2 = (c, d, k) := fun b c d k hb => by
    simp only [Env.emb, Option.map_eq_some_iff] at hb
    exact hb
  refine ⟨fun b c d k hb => ?_, fun b c d k hb => ?_, fun b b' c d k d' k' hb _ ho _ => ?_, fun b hb => ?_⟩
  · obtain ⟨⟨cs, c', d', k'⟩, hx, he⟩ := hat b c d k hb
    cases he
    obtain ⟨arr, elem, fz, h1, h2, h3⟩ := h _ _ hx
    exact ⟨.cells cs true, by rw [l.get_mem, hx]; rfl, arr, elem, fz, h1, h2, h3, fun hf => by cases hf⟩
  · obtain ⟨⟨cs, c', d', k'⟩, hx, he⟩ := hat b c d k hb
    cases he
    obtain ⟨arr, elem, fz, h1, _⟩ := h _ _ hx
    exact (Array.getElem?_eq_some_iff.mp h1).1
  · obtain ⟨x, hx, _⟩ := hat b c d k hb
    have : l.mem.get b = some (.cells x.1 true) := by rw [l.get_mem, hx]; rfl
    simp only [own, this] at ho
  · rw [l.next_mem] at hb
    rw [l.get_mem, List.getElem?_eq_none hb]
    rfl
/-- A law that is true, of arguments some of which are only read. -/
theorem law_deep {P : Program} {gl : Nat → Bool} {D : Decls} (hD : DOK P gl D) {f : FuncId} {args : List V} {args' : Array Value} {w : World} {l : Env} (hg : ∀ x, gl x = true → ∃ k, l.emb x = some (x, 0, k)) (hl : EnvOk l w) (hA : VRs l.emb args args'.toList) (h : Runs D f args l.mem fun v _ => v = .bool true) :
    Calls P f args' w fun e w' => e = .returned (.bool true) ∧ Below w.heap.size w w' := by
  obtain ⟨k, v, M', hr, rfl⟩ := h
  obtain ⟨_, hs⟩ := callN_sound hD k f args l.mem _ M' hr
  refine (hs l.emb w args' hl.rel hg hA).mono fun e w' ⟨E', v', he, hv', _, hX⟩ => ?_
  cases hv'
  refine ⟨he, hX.os, hX.tape, hX.output, hX.size, fun c hc => hX.keep c hc fun b d k hb => ?_⟩
  simp only [Env.emb, Option.map_eq_some_iff] at hb
  obtain ⟨x, hx, _⟩ := hb
  exact ⟨_, by rw [l.get_mem, hx]; rfl, rfl⟩

/-! ### what is read -/
/-- From some blocks on: cells can be told by the machine's, with some blocks more. -/
def Opens (W : World) (ks : List DK) (cs : List Value) : Prop := ∀ l : Env, EnvOk l W → 0 < l.length → ∃ l' vs, EnvOk (l ++ l') W ∧ VRs (l ++ l').emb vs cs ∧ DFits (l ++ l').mem ks vs
theorem Opens.nil (W : World) : Opens W [] [] := fun l h _ => ⟨[], [], by simpa using h, .nil, .nil⟩
theorem Opens.app {W : World} {a b : List DK} {x y : List Value} (h : Opens W a x) (h' : Opens W b y) : Opens W (a ++ b) (x ++ y) := fun l hl h0 => by
  obtain ⟨l1, vs1, a1, a2, a3⟩ := h l hl h0
  obtain ⟨l2, vs2, b1, b2, b3⟩ := h' (l ++ l1) a1 (by simp; omega)
  refine ⟨l1 ++ l2, vs1 ++ vs2, by rw [← List.append_assoc]; exact b1, ?_, ?_⟩
  · rw [← List.append_assoc]
    exact (a2.mono emb_app).app b2
  · rw [← List.append_assoc]
    exact (a3.mono mem_app.1 mem_app.2).app b3
theorem Opens.flat {W : World} {k : DK} {u : Value} {v : V} (hr : ∀ E, VR E v u) (hf : ∀ M, DFit M k v) : Opens W [k] [u] := fun l hl _ => ⟨[], [v], by simpa using hl, .cons (hr _) .nil, .cons (hf _) .nil⟩
theorem opens_rows {W : World} {ks : List DK} : ∀ (css : List (List Value)), (∀ cs ∈ css, Opens W ks cs) → ∀ l : Env, EnvOk l W → 0 < l.length → ∃ l' rows, EnvOk (l ++ l') W ∧ VRs (l ++ l').emb rows.flatten css.flatten ∧ DRows (l ++ l').mem ks rows ∧ rows.length = css.length
  | [], _, l, hl, _ => ⟨[], [], by simpa using hl, .nil, .nil, rfl⟩
  | cs :: css, h, l, hl, h0 => by
    obtain ⟨l1, vs1, a1, a2, a3⟩ := h cs (List.mem_cons_self ..) l hl h0
    obtain ⟨l2, rows, b1, b2, b3, b4⟩ := opens_rows css (fun c hc => h c (List.mem_cons_of_mem _ hc)) (l ++ l1) a1 (by simp; omega)
    refine ⟨l1 ++ l2, vs1 :: rows, by rw [← List.append_assoc]; exact b1, ?_, ?_, by simp [b4]⟩
    · rw [← List.append_assoc, List.flatten_cons, List.flatten_cons]
      exact (a2.mono emb_app).app b2
    · rw [← List.append_assoc]
      exact .cons (a3.mono mem_app.1 mem_app.2) b3
end Go.Am


/- The row: data read of arguments, as deep as it goes: told by the machine's cells; and read again behind a run that keeps what was. -/
namespace Go.Am
open Go Go.RowKit Go.ChangeShapes Go.WideShapes

theorem mapM_mono {α β : Type} {F G : α → Option β} (h : ∀ a b, F a = some b → G a = some b) : ∀ {l : List α} {xs : List β}, l.mapM F = some xs → l.mapM G = some xs
  | [], xs, hm => by simpa using hm
  | a :: l, xs, hm => by
    rw [List.mapM_cons] at hm ⊢
    simp only [Option.bind_eq_bind, Option.bind_eq_some_iff, Option.pure_def, Option.some.injEq] at hm ⊢
    obtain ⟨y, hy, ys, hys, rfl⟩ := hm
    exact ⟨y, h _ _ hy, ys, mapM_mono h hys, rfl⟩

section
variable {H : Type} {enc : TypeId × Value → H} {P : Program} {W : World}

/-- Read again, behind whatever keeps what was. -/
def Shuts (enc : TypeId × Value → H) (P : Program) (W : World) (t : TypeId) (cs : List Value) (x : DataW H × List MemPlace) : Prop :=
  ∀ W', Below W.heap.size W W' → ∃ fuel, DataW.trod enc P W' 0 (fun b => decide (b < W.heap.size)) true fuel t cs = some x

theorem fields_deep {m : Nat} {g : TypeId → Option (List DK)} {c : TypeId → Nat}
    (hrec : ∀ t ks, g t = some ks → ∀ cs x, DataW.trod enc P W 0 (fun _ => true) true m t cs = some x → Shuts enc P W t cs x ∧ Opens W ks cs) :
    ∀ (fs : List Field) off ks, shapesD g c fs off = some ks → ∀ (cs : List Value) (xs : List (DataW H × List MemPlace)),
      fs.mapM (fun f => DataW.trod enc P W 0 (fun _ => true) true m f.type ((cs.drop f.offset).take (c f.type))) = some xs →
      Opens W ks ((cs.drop off).take ks.length) ∧ ∀ W', Below W.heap.size W W' → ∃ m', fs.mapM (fun f => DataW.trod enc P W' 0 (fun b => decide (b < W.heap.size)) true m' f.type ((cs.drop f.offset).take (c f.type))) = some xs
  | [], off, ks, h, cs, xs, hm => by
    simp only [shapesD, Option.some.injEq] at h
    subst h
    simp only [List.mapM_nil, Option.pure_def, Option.some.injEq] at hm
    subst hm
    exact ⟨by simpa using Opens.nil W, fun _ _ => ⟨0, rfl⟩⟩
  | f :: fs, off, ks, h, cs, xs, hm => by
    simp only [shapesD] at h
    split at h
    · rename_i ho
      split at h
      · cases h
      · rename_i k1 hk
        split at h
        · rename_i hl
          rw [Option.map_eq_some_iff] at h
          obtain ⟨k2, h2, rfl⟩ := h
          rw [List.mapM_cons] at hm
          simp only [Option.bind_eq_bind, Option.bind_eq_some_iff, Option.pure_def, Option.some.injEq] at hm
          obtain ⟨y, hy, ys, hys, rfl⟩ := hm
          obtain ⟨s1, o1⟩ := hrec _ _ hk _ _ hy
          obtain ⟨o2, s2⟩ := fields_deep hrec fs _ _ h2 cs ys hys
          refine ⟨?_, fun W' hB => ?_⟩
          · rw [List.length_append, List.take_add, List.drop_drop]
            rw [ho, ← hl] at o1
            exact o1.app o2
          · obtain ⟨m1, h1⟩ := s1 W' hB
            obtain ⟨m2, h2⟩ := s2 W' hB
            refine ⟨max m1 m2, ?_⟩
            rw [List.mapM_cons, DataW.trod_le (Nat.le_max_left m1 m2) h1, mapM_mono (fun f b hb => DataW.trod_le (Nat.le_max_right m1 m2) hb) h2]
            rfl
        · cases h
    · cases h

theorem cell_spot {w : World} {a : Addr} {v : Value} (h : w.cell? a = some v) : a.spot = none ∧ ∃ arr elem fz, w.heap[a.block]? = some (.cells arr elem fz) ∧ arr[a.off]? = some v := by
  unfold World.cell? at h
  split at h
  · rename_i c elem fz hh
    split at h
    · cases h
    · rename_i hs
      exact ⟨by simpa using hs, c, elem, fz, hh, h⟩
  · cases h

theorem deep_trod : ∀ (n : Nat) (t : TypeId) (ks : List DK), shapeD P n t = some ks → ∀ (fuel : Nat) (cs : List Value) (x : DataW H × List MemPlace), DataW.trod enc P W 0 (fun _ => true) true fuel t cs = some x →
    Shuts enc P W t cs x ∧ Opens W ks cs
  | 0, _, _, h, _, _, _, _ => by simp [shapeD] at h
  | n + 1, t, ks, h, fuel, cs, x, hx => by
    unfold shapeD at h
    split at h
    · rename_i hu
      cases h
      obtain ⟨a, _, c⟩ := flat_trod 1 t [.bool] (by simp [shape, hu]) fuel cs x hx
      obtain ⟨v, r, rfl, ⟨b, rfl⟩, hr⟩ := a.cons_of
      obtain rfl := hr.nil_of
      exact ⟨fun W' _ => ⟨fuel, c _ _ _⟩, Opens.flat (v := .bool b) (fun _ => .bool b) fun _ => .bool b⟩
    · rename_i k hu
      cases h
      obtain ⟨a, _, c⟩ := flat_trod 1 t [.int k] (by simp [shape, hu]) fuel cs x hx
      obtain ⟨v, r, rfl, ⟨m, rfl, hw⟩, hr⟩ := a.cons_of
      obtain rfl := hr.nil_of
      exact ⟨fun W' _ => ⟨fuel, c _ _ _⟩, Opens.flat (v := .int k m) (fun _ => .int k m) fun _ => .int k m hw⟩
    · rename_i hu
      cases h
      obtain ⟨a, _, c⟩ := flat_trod 1 t [.str] (by simp [shape, hu]) fuel cs x hx
      obtain ⟨v, r, rfl, ⟨s, rfl, hw⟩, hr⟩ := a.cons_of
      obtain rfl := hr.nil_of
      exact ⟨fun W' _ => ⟨fuel, c _ _ _⟩, Opens.flat (v := .str s.data.toList) (fun _ => .str s) fun _ => .str _ (by simpa using hw)⟩
    · rename_i e hu
      split at h
      · rename_i ks' hk
        split at h
        · rename_i hl
          cases h
          obtain ⟨hl1, hl0⟩ := hl
          rcases Go.Deep.open_slice hu hx with ⟨rfl, rfl⟩ | ⟨a, len, cap, m, n', D, Pl, rfl, _, hlc, hcm, hm, rfl, hall⟩
          · refine ⟨fun W' _ => ?_, Opens.flat (v := .slice none 0 (.exact 0)) (fun _ => .sliceNil) fun _ => .nil _⟩
            obtain ⟨f, hf⟩ := shut_slice_nil (enc := enc) (P := P) (w := W') (base := 0) (spare := fun b => decide (b < W.heap.size)) (held := true) hu
            exact ⟨f, hf⟩
          · simp only [if_true] at hm
            subst hm
            rw [← hl1] at hall ⊢
            have hrec : ∀ i, i < m → ∃ cs', W.cells? 0 (a.add (i * ks'.length)) ks'.length = some cs' ∧ Shuts enc P W e cs' (D i, Pl i) ∧ Opens W ks' cs' := fun i hi => by
              obtain ⟨cs', h1, h2⟩ := hall i hi
              exact ⟨cs', h1, deep_trod n e ks' hk n' cs' _ h2⟩
            rcases Nat.eq_zero_or_pos m with hz | hz
            · subst hz
              have hl0' : len = 0 := by omega
              subst hl0'
              refine ⟨fun W' bel => ?_, fun l hl h0 => ⟨[], [.slice (some (0, 0)) 0 (.exact 0)], by simpa using hl, ?_, ?_⟩⟩
              · by_cases hb : a.block < W.heap.size
                · obtain ⟨k, hk'⟩ := Go.Deep.shut_slice_whole_cells (enc := enc) (w := W') (base := 0) (spare := fun b => decide (b < W.heap.size)) (held := true) hu (Nat.zero_le _) (Nat.le_refl 0) hcm (by simpa using hb) D Pl (fun i hi => by omega)
                  exact ⟨k, by rw [hl1]; simpa using hk'⟩
                · obtain ⟨k, hk'⟩ := Go.Deep.shut_slice_cells (enc := enc) (w := W') (base := 0) (spare := fun b => decide (b < W.heap.size)) (held := true) hu (Nat.zero_le _) (Nat.le_refl 0) hcm (by simpa using hb) D Pl (fun i hi => by omega)
                  exact ⟨k, by rw [hl1]; simpa using hk'⟩
              · have hE : l.emb 0 = some l[0].2 := by simp [Env.emb, List.getElem?_eq_getElem h0]
                rw [List.append_nil]
                exact .cons (.sliceZero (c := l[0].2.1) (d := l[0].2.2.1) (k := l[0].2.2.2) hE rfl) .nil
              · rw [List.append_nil]
                exact .cons (.zero _ 0 (by rw [Env.next_mem]; exact h0)) .nil
            · obtain ⟨c0, hc0, _⟩ := hrec 0 hz
              obtain ⟨hcl0, hcat0⟩ := cells_at hc0
              have h00 := hcat0 0 hl0
              rw [List.getElem?_eq_getElem (by omega)] at h00
              have hadd0 : (a.add (0 * ks'.length)).add 0 = a := by simp [Addr.add]
              rw [hadd0] at h00
              obtain ⟨hspot, arr, elem, fz, harr, hoff0⟩ := cell_spot h00
              have hlt : a.block < W.heap.size := (Array.getElem?_eq_some_iff.mp harr).1
              refine ⟨fun W' bel => ?_, fun l hl h0 => ?_⟩
              · obtain ⟨k, hk'⟩ := Go.Deep.shut_slice_whole_cells (enc := enc) (w := W') (base := 0) (spare := fun b => decide (b < W.heap.size)) (held := true) hu (Nat.zero_le _) hlc hcm (by simpa using hlt) D Pl (fun i hi => by
                  rw [← hl1]
                  obtain ⟨cs', h1, h2, _⟩ := hrec i hi
                  obtain ⟨f, hf⟩ := h2 W' bel
                  exact ⟨cs', f, (cells_keep bel.block hl0 h1).1, hf⟩)
                exact ⟨k, by rw [hl1]; exact hk'⟩
              · have hX : ∀ i : Fin m, ∃ cs', W.cells? 0 (a.add (i.1 * ks'.length)) ks'.length = some cs' ∧ Opens W ks' cs' := fun i => by
                  obtain ⟨cs', h1, _, h2⟩ := hrec i.1 i.2
                  exact ⟨cs', h1, h2⟩
                obtain ⟨X, hX⟩ := Classical.axiomOfChoice hX
                have hat : ∀ i (h : i < m) j, j < ks'.length → arr[a.off + i * ks'.length + j]? = (X ⟨i, h⟩)[j]? := fun i h j hj => by
                  obtain ⟨_, h2⟩ := cells_at (hX ⟨i, h⟩).1
                  rw [← h2 j hj, add_spec hspot, add_spec rfl]
                  unfold World.cell?
                  simp only [harr]
                  rfl
                obtain ⟨l', rows, e1, e2, e3, e4⟩ := opens_rows (List.ofFn X) (fun cs hcs => by
                  obtain ⟨i, rfl⟩ := List.mem_ofFn.mp hcs
                  exact (hX i).2) l hl h0
                have hflat : ∀ j u, (List.ofFn X).flatten[j]? = some u → arr[a.off + j]? = some u := fun j u hu' => by
                  refine flat_at (es := ks'.length) (List.ofFn X) a.off ?_ ?_ j u hu'
                  · intro r hr
                    obtain ⟨i, rfl⟩ := List.mem_ofFn.mp hr
                    exact (cells_at (hX i).1).1
                  · intro i hi j' hj'
                    have hi' : i < m := by simpa using hi
                    rw [hat i hi' j' hj']
                    simp
                have hoff : a.off < arr.size := (Array.getElem?_eq_some_iff.mp hoff0).1
                have hsn := e1.snoc (x := (rows.flatten, a.block, a.off, arr.size - a.off)) harr (fun i v hv => by
                  obtain ⟨u, hu', hr⟩ := e2.get i v hv
                  exact ⟨u, hflat i u hu', hr⟩) (by simp only; omega)
                rw [List.append_assoc] at hsn
                have hEb : (l ++ (l' ++ [(rows.flatten, a.block, a.off, arr.size - a.off)])).emb (l ++ l').length = some (a.block, a.off, arr.size - a.off) := by
                  rw [← List.append_assoc]
                  simp [Env.emb]
                have hMb : (l ++ (l' ++ [(rows.flatten, a.block, a.off, arr.size - a.off)])).mem.get (l ++ l').length = some (.cells rows.flatten true) := by
                  rw [← List.append_assoc, Env.get_mem]
                  simp
                refine ⟨l' ++ [(rows.flatten, a.block, a.off, arr.size - a.off)], [.slice (some ((l ++ l').length, 0)) len (.exact m)], hsn, ?_, ?_⟩
                · have ha : a = ⟨a.block, a.off + 0, none⟩ := by rw [← add_spec hspot 0]; rfl
                  rw [ha]
                  exact .cons (.slice hEb rfl hlc) .nil
                · have hmm := mem_app (l := l ++ l') (l' := [(rows.flatten, a.block, a.off, arr.size - a.off)])
                  rw [List.append_assoc] at hmm
                  refine .cons (.sl hlc hcm hMb ?_ (by rw [e4]; simp) (e3.mono hmm.1 hmm.2)) .nil
                  rw [Env.next_mem]
                  simp
        · cases h
      · cases h
    · rename_i fs hu
      split at h
      · rename_i kk hk
        split at h
        · rename_i hl
          cases h
          cases fuel with
          | zero => simp [DataW.trod] at hx
          | succ m =>
            obtain ⟨xs, hlen, hmm, rfl⟩ := trod_struct_un hu hx
            obtain ⟨a, b⟩ := fields_deep (fun t ks hs cs x hx => deep_trod n t ks hs m cs x hx) fs.toList 0 ks hk cs xs hmm
            refine ⟨fun W' bel => ?_, ?_⟩
            · obtain ⟨m', hm'⟩ := b W' bel
              exact ⟨_, trod_struct_mk hu hlen hm'⟩
            · rw [List.drop_zero, hl, ← hlen, List.take_length] at a
              exact a
        · cases h
      · cases h
    · cases h

/-- A struct handed in by value. -/
theorem open_struct {fs : Array Field} {t : TypeId} {ks : List DK} {n b0 : Nat} {v : Value} {d : DataW H} {p : List MemPlace} (hs : P.underlying t = some (.struct fs)) (hk : shapeD P n t = some ks)
    (hv : Value.okWide P W .any b0 t v) (h : DataW.Trod enc P W 0 (fun _ => true) true t v d p) :
    ∃ cs, v = .agg cs ∧ Opens W ks cs.toList ∧ ∀ W', Below W.heap.size W W' → DataW.Trod enc P W' 0 (fun b => decide (b < W.heap.size)) true t v d p := by
  obtain ⟨cs, rfl, hsz⟩ := okWide_struct hs hv
  obtain ⟨fuel, hf⟩ := h
  obtain ⟨a, b⟩ := deep_trod n t ks hk fuel _ _ hf
  exact ⟨cs, rfl, b, fun W' bel => a W' bel⟩
end
end Go.Am


/- Writes handed in, as they lie. -/
namespace Go.Am.Tryz.G
open Go Go.Am Go.Am.Tryz Go.Am.Tryz.O Go.Proofs Go.Sort Go.Shelf
set_option maxRecDepth 100000
set_option linter.unusedSimpArgs false
set_option linter.unusedVariables false

abbrev stK : List DK := [.int .i64, .int .i64]
abbrev opK : List DK := [.int .i64, .int .i64, .int .i64, .int .i64, .int .i64, .str, .sl stK, .int .i64, .int .i64, .int .i64, .str, .bool]
abbrev wrK : List DK := .int .i64 :: .int .i64 :: opK
theorem st_of {M : Mem} {vs : List V} (h : DFits M stK vs) : ∃ x : St, vs = stC x := by
  cases h with
  | cons h1 t => cases h1 with
    | int _ a _ => cases t with
      | cons h2 t => cases h2 with
        | int _ b _ => cases t; exact ⟨(a, b), rfl⟩
theorem sts_of {M : Mem} : ∀ {rows : List (List V)}, DRows M stK rows → ∃ xs : List St, rows.flatten = elSt.all xs ∧ xs.length = rows.length
  | _, .nil => ⟨[], rfl, rfl⟩
  | _, .cons h t => by
    obtain ⟨x, rfl⟩ := st_of h
    obtain ⟨xs, e, hl⟩ := sts_of t
    refine ⟨x :: xs, ?_, by simp [hl]⟩
    rw [List.flatten_cons, e]
    simp [Elem.all, elSt]
theorem path_of {M : Mem} {v : V} (h : DFit M (.sl stK) v) : ∃ path, PathIn M v path := by
  have hmx : maxLen = 2 ^ 63 - 1 := rfl
  cases h with
  | nil => exact ⟨[], ⟨none, .exact 0, rfl, .inl rfl⟩, fun b hb => (by cases hb), by simp, fun n cap e => by cases e; rfl⟩
  | zero _ b hb => exact ⟨[], ⟨_, .exact 0, rfl, .inl rfl⟩, fun c hc => by simp only [V.blk, Option.some.injEq] at hc; omega, by simp, fun n cap e => by cases e⟩
  | @sl _ b len cap rows hl hm hb hlt hr h =>
    obtain ⟨xs, e, hx⟩ := sts_of h
    have hln : (xs.take len).length = len := by rw [List.length_take]; omega
    refine ⟨xs.take len, ⟨some (b, 0), .exact cap, by rw [hln], .inr ⟨b, 0, elSt.all xs, true, rfl, by rw [← e]; exact hb, fun i hi => ?_⟩⟩, fun c hc => by simp only [V.blk, Option.some.injEq] at hc; omega, by rw [hln]; omega, fun n c e => by cases e⟩
    rw [Nat.zero_add, List.getElem_take]
    exact elSt.rd xs i (by rw [List.length_take] at hi; omega)
theorem op_of {M : Mem} {vs : List V} (h : DFits M opK vs) : ∃ x : OpX, vs = opC x ∧ (∃ path, PathIn M x.pv path) ∧ x.key.length < 2 ^ 63 ∧ x.v3.length < 2 ^ 63 := by
  have hmx : maxLen = 2 ^ 63 - 1 := rfl
  cases h with | cons h0 t =>
  cases h0 with | int _ kind _ =>
  cases t with | cons h1 t =>
  cases h1 with | int _ n1 _ =>
  cases t with | cons h2 t =>
  cases h2 with | int _ n2 _ =>
  cases t with | cons h3 t =>
  cases h3 with | int _ r1 _ =>
  cases t with | cons h4 t =>
  cases h4 with | int _ r2 _ =>
  cases t with | cons h5 t =>
  cases h5 with | str key hk =>
  cases t with | cons h6 t =>
  obtain ⟨path, hp⟩ := path_of h6
  cases t with | cons h7 t =>
  cases h7 with | int _ prop _ =>
  cases t with | cons h8 t =>
  cases h8 with | int _ v1 _ =>
  cases t with | cons h9 t =>
  cases h9 with | int _ v2 _ =>
  cases t with | cons h10 t =>
  cases h10 with | str v3 hv3 =>
  cases t with | cons h11 t =>
  cases h11 with | bool on =>
  cases t
  exact ⟨⟨kind, (n1, n2), (r1, r2), key, _, prop, v1, v2, v3, on⟩, rfl, ⟨path, hp⟩, by simp only; omega, by simp only; omega⟩
theorem wr_of {M : Mem} {vs : List V} (h : DFits M wrK vs) : ∃ w : Wr, vs = wrC w ∧ (∃ path, PathIn M w.2.pv path) ∧ w.2.key.length < 2 ^ 63 ∧ w.2.v3.length < 2 ^ 63 := by
  cases h with | cons h0 t =>
  cases h0 with | int _ s1 _ =>
  cases t with | cons h1 t =>
  cases h1 with | int _ s2 _ =>
  obtain ⟨x, rfl, hp, hk⟩ := op_of t
  exact ⟨((s1, s2), x), rfl, hp, hk⟩
end Go.Am.Tryz.G


/- What the condition on the program's two listed variables gives; slices of acts handed in. -/
set_option linter.unusedSimpArgs false
set_option linter.unusedVariables false
namespace Go.Proofs.YtefigbdkennhaaaGreatDoor.laid
open Go.ChangeShapes Go.WideShapes Go.ChangeAt Go.RowKit

theorem own : ownKnob Tryz.prog.godebug = none := by kernel_rfl
theorem gRoot : Tryz.prog.globalNamed "diorama/op.root" = some 0 := by kernel_rfl
theorem gTrash : Tryz.prog.globalNamed "diorama/op.trash" = some 1 := by kernel_rfl
theorem tRoot : (Tryz.prog.globals[0]?).map (·.type) = some 24 := by kernel_rfl
theorem tTrash : (Tryz.prog.globals[1]?).map (·.type) = some 24 := by kernel_rfl
abbrev two : List (String × DataW Unit) := [("diorama/op.root", Rows.laid_diorama_op_root), ("diorama/op.trash", Rows.laid_diorama_op_trash)]

/-- The door's own heap meets the condition. -/
theorem door_met (os : Os) (args : Array Value) : laidMetH Tryz.prog two ((World.doorLaid Tryz.prog 400 os).forCall (fun _ _ => 0) ⟨#[], args, []⟩).memory :=
  laidMetH_of_parts3 (fuel := 8) (laidMet_of_run' 8 (by kernel_rfl) (by kernel_rfl)) (by kernel_rfl) (by kernel_rfl)

theorem stamp_read {W : World} {fuel : Nat} {cs : List Value} {p : List MemPlace} {a b : Int} (h : DataW.trod (fun _ => ()) Tryz.prog W 0 (fun _ => true) false fuel 24 cs = some (.agg [.lit (.int .i64 a), .lit (.int .i64 b)], p)) :
    cs = [.int .i64 a, .int .i64 b] := by
  obtain ⟨y0, y1, n, hx, hl, h0, h1⟩ := trod_struct2 Tryz.underlying24 h
  have c29 : Tryz.prog.cellsOf 24 = 2 := by kernel_rfl
  have c3 : Tryz.prog.cellsOf 3 = 1 := by kernel_rfl
  rw [c29] at hl
  simp only [c3] at h0 h1
  obtain ⟨k0, e0, f0, _⟩ := DataW.trod_int Tryz.underlying3 h0
  obtain ⟨k1, e1, f1, _⟩ := DataW.trod_int Tryz.underlying3 h1
  match cs, hl with
  | [c, d], _ =>
    simp at e0 e1
    subst e0 e1 f0 f1
    simp only [Prod.mk.injEq, DataW.agg.injEq, List.cons.injEq, DataW.lit.injEq, Lit.int.injEq, true_and, and_true] at hx
    obtain ⟨⟨rfl, rfl⟩, _⟩ := hx
    rfl
/-- What the condition gives: the two variables' rows. -/
theorem of_laid {W : World} (h : laidMetH Tryz.prog two W) : ∃ k0 k1, Go.Am.Env.ok [(Go.Am.Tryz.stC (0, 0), 0, 0, k0), (Go.Am.Tryz.stC (0, 1), 1, 0, k1)] W := by
  rw [MakeChecks.laidMetH_plain _ _ _ (by kernel_rfl)] at h
  obtain ⟨ps, ⟨g0, t0, cs0, f0, p0, q0, hg0, ht0, hv0, hd0, ⟨g1, t1, cs1, f1, p1, q1, hg1, ht1, hv1, hd1, _, _⟩, _⟩, _, _⟩ := h
  obtain rfl := Option.some.inj (gRoot.symm.trans hg0)
  obtain rfl := Option.some.inj (gTrash.symm.trans hg1)
  obtain rfl := Option.some.inj (tRoot.symm.trans ht0)
  obtain rfl := Option.some.inj (tTrash.symm.trans ht1)
  have r0 := stamp_read hd0
  have r1 := stamp_read hd1
  have key : ∀ (n : String) (g : Nat) (cs : Array Value) (x : Go.Am.Tryz.St), Tryz.prog.globalNamed n = some g → W.var? Tryz.prog n = some cs → cs.toList = [.int .i64 x.1, .int .i64 x.2] →
      ∃ arr elem fz, W.heap[g]? = some (.cells arr elem fz) ∧ (∀ E, Go.Am.CR E (Go.Am.Tryz.stC x) arr 0) ∧ 0 + arr.size = arr.size ∧ arr.size = 2 := by
    intro n g cs x hg hv hl
    simp only [World.var?, hg, Option.bind_some] at hv
    split at hv
    · rename_i arr elem fz hh
      cases hv
      refine ⟨_, elem, fz, hh, fun E i v hi => ?_, Nat.zero_add _, by rw [← Array.length_toList, hl]; rfl⟩
      have e : ∀ j, cs[j]? = ([Value.int .i64 x.1, Value.int .i64 x.2] : List Value)[j]? := fun j => by rw [← hl, Array.getElem?_toList]
      rw [Nat.zero_add, e]
      match i, hi with
      | 0, hi => cases hi; exact ⟨_, rfl, .int _ _⟩
      | 1, hi => cases hi; exact ⟨_, rfl, .int _ _⟩
    · cases hv
  obtain ⟨a0, el0, fz0, h1, h2, h3, s0⟩ := key _ 0 cs0 (0, 0) gRoot hv0 r0
  obtain ⟨a1, el1, fz1, i1, i2, i3, s1⟩ := key _ 1 cs1 (0, 1) gTrash hv1 r1
  refine ⟨a0.size, a1.size, fun x hx => ?_⟩
  simp only [List.mem_cons, List.not_mem_nil, or_false] at hx
  rcases hx with rfl | rfl
  · exact ⟨a0, el0, fz0, h1, h2, h3⟩
  · exact ⟨a1, el1, fz1, i1, i2, i3⟩
theorem glob_at {k0 k1 : Nat} {l : Go.Am.Env} : ∀ x, Go.Am.Tryz.gl0 x = true → ∃ k, Go.Am.Env.emb ((Go.Am.Tryz.stC (0, 0), 0, 0, k0) :: (Go.Am.Tryz.stC (0, 1), 1, 0, k1) :: l) x = some (x, 0, k) := fun x hx => by
  rcases Go.Am.Tryz.gl_two hx with rfl | rfl
  · exact ⟨k0, rfl⟩
  · exact ⟨k1, rfl⟩
theorem glob_is {k0 k1 : Nat} {l : Go.Am.Env} : Go.Am.Tryz.isG (Go.Am.Env.mem ((Go.Am.Tryz.stC (0, 0), 0, 0, k0) :: (Go.Am.Tryz.stC (0, 1), 1, 0, k1) :: l)) = true :=
  Go.Am.Tryz.isG_mk (by rw [Go.Am.Env.get_mem]; rfl) (by rw [Go.Am.Env.get_mem]; rfl)
end Go.Proofs.YtefigbdkennhaaaGreatDoor.laid


