/- The machine and what is proved of its runs, part 5: what each part says stands at its head. -/
import Derived.Test.YtefigbdkennhaaaGreatDoorJ4
import Derived.Deep.Slices
import Derived.Below
import Derived.Shelf.SlSortCmp.NoneTotal
import Derived.Shelf.SlGeneric
set_option linter.unusedSimpArgs false
set_option linter.unusedVariables false
set_option linter.unusedSectionVars false
/- The row: slices of flat elements handed in; a law's run from memory in which they stand. -/
namespace Go.Am
open Go Go.RowKit Go.ChangeShapes Go.WideShapes

/-! ### memory that is only read -/
/-- Blocks only read: their cells; where they stand in the world. -/
abbrev Env := List (List V × Nat × Nat × Nat)
def Env.mem : Env → Mem
  | l => l.foldl (fun M x => M.push (.cells x.1 true)) mem0
def Env.emb (l : Env) : Emb := fun b => l[b]?.map (·.2)
def Env.ok (l : Env) (w : World) : Prop := ∀ x ∈ l, ∃ arr elem fz, w.heap[x.2.1]? = some (.cells arr elem fz) ∧ (∀ E, CR E x.1 arr x.2.2.1) ∧ x.2.2.1 + x.2.2.2 = arr.size

theorem env_fold : ∀ (l : Env) (M : Mem), (∀ b, M.next ≤ b → M.get b = none) →
    (l.foldl (fun M x => M.push (.cells x.1 true)) M).next = M.next + l.length ∧ (∀ b, b < M.next → (l.foldl (fun M x => M.push (.cells x.1 true)) M).get b = M.get b) ∧
    (∀ i, (l.foldl (fun M x => M.push (.cells x.1 true)) M).get (M.next + i) = l[i]?.map fun x => .cells x.1 true)
  | [], M, hM => ⟨rfl, fun _ _ => rfl, fun i => by simpa using hM _ (by omega)⟩
  | x :: l, M, hM => by
    have h1 : ∀ b, (M.push (.cells x.1 true)).next ≤ b → (M.push (.cells x.1 true)).get b = none := fun b hb => by
      rw [Mem.next_push] at hb
      rw [Mem.get_push_ne _ _ (by omega)]
      exact hM b (by omega)
    obtain ⟨a, b, c⟩ := env_fold l (M.push (.cells x.1 true)) h1
    simp only [List.foldl_cons]
    refine ⟨by rw [a, Mem.next_push, List.length_cons]; omega, fun d hd => ?_, fun i => ?_⟩
    · rw [b d (by rw [Mem.next_push]; omega), Mem.get_push_ne _ _ (by omega)]
    · cases i with
      | zero => rw [Nat.add_zero, b _ (by rw [Mem.next_push]; omega), Mem.get_push_same]; rfl
      | succ i =>
        have := c i
        rw [Mem.next_push] at this
        rw [show M.next + (i + 1) = M.next + 1 + i from by omega, this]
        rfl
theorem Env.next_mem (l : Env) : l.mem.next = l.length := by
  have := (env_fold l mem0 (fun b _ => rfl)).1
  simpa [Env.mem, mem0] using this
theorem Env.get_mem (l : Env) (i : Nat) : l.mem.get i = l[i]?.map fun x => .cells x.1 true := by
  have := (env_fold l mem0 (fun b _ => rfl)).2.2 i
  simpa [Env.mem, mem0] using this

theorem Env.rel {l : Env} {w : World} (h : l.ok w) : Rel l.emb l.mem w := by
  have hat : ∀ b c d k, l.emb b = some (c, d, k) → ∃ x, l[b]? = some x ∧ x.2 = (c, d, k) := fun b c d k hb => by
    simp only [Env.emb, Option.map_eq_some_iff] at hb
    exact hb
  refine ⟨fun b c d k hb => ?_, fun b c d k hb => ?_, fun b b' c d k d' k' hb _ ho _ => ?_, fun b hb => ?_⟩
  · obtain ⟨⟨cs, c', d', k'⟩, hx, he⟩ := hat b c d k hb
    cases he
    obtain ⟨arr, elem, fz, h1, h2, h3⟩ := h _ (List.mem_of_getElem? hx)
    exact ⟨.cells cs true, by rw [l.get_mem, hx]; rfl, arr, elem, fz, h1, h2 _, h3, fun hf => by cases hf⟩
  · obtain ⟨⟨cs, c', d', k'⟩, hx, he⟩ := hat b c d k hb
    cases he
    obtain ⟨arr, elem, fz, h1, _⟩ := h _ (List.mem_of_getElem? hx)
    exact (Array.getElem?_eq_some_iff.mp h1).1
  · obtain ⟨x, hx, _⟩ := hat b c d k hb
    have : l.mem.get b = some (.cells x.1 true) := by rw [l.get_mem, hx]; rfl
    simp only [own, this] at ho
  · rw [l.next_mem] at hb
    rw [l.get_mem, List.getElem?_eq_none hb]
    rfl

/-! ### what is read of a slice -/
theorem flat_at {arr : Array Value} {es : Nat} : ∀ (rows : List (List Value)) (off : Nat), (∀ r ∈ rows, r.length = es) → (∀ i (h : i < rows.length), ∀ j, j < es → arr[off + i * es + j]? = rows[i][j]?) → ∀ (j : Nat) (u : Value), rows.flatten[j]? = some u → arr[off + j]? = some u
  | [], _, _, _, j, u, h => by simp at h
  | r :: rs, off, hr, ha, j, u, h => by
    have hrl := hr r (List.mem_cons_self ..)
    rw [List.flatten_cons] at h
    rcases Nat.lt_or_ge j es with hj | hj
    · rw [List.getElem?_append_left (by omega)] at h
      have := ha 0 (by simp) j hj
      rw [Nat.zero_mul, Nat.add_zero] at this
      rw [this]
      exact h
    · rw [List.getElem?_append_right (by omega), hrl] at h
      have := flat_at rs (off + es) (fun r hr' => hr r (List.mem_cons_of_mem _ hr')) (fun i hi j hj => by
        have := ha (i + 1) (by simp; omega) j hj
        rw [List.getElem_cons_succ] at this
        rw [← this]
        congr 1
        rw [Nat.add_mul]; omega) (j - es) u h
      rw [← this]
      congr 1
      omega

section
variable {H : Type} {enc : TypeId × Value → H} {P : Program} {W : World}

theorem cells_at {w : World} {a : Addr} {n : Nat} {cs : List Value} (h : w.cells? 0 a n = some cs) : cs.length = n ∧ ∀ i, i < n → w.cell? (a.add i) = cs[i]? := by
  unfold World.cells? at h
  rw [if_pos (Nat.zero_le _)] at h
  have hl := mapM_some_length h
  rw [List.length_range] at hl
  refine ⟨hl, fun i hi => ?_⟩
  have := mapM_some_get h i i (by rw [List.getElem?_range hi])
  exact this

theorem cells_keep {w w' : World} (hb : ∀ c, c < w.heap.size → w'.heap[c]? = w.heap[c]?) {a : Addr} {n : Nat} {cs : List Value} (hn : 0 < n) (h : w.cells? 0 a n = some cs) : w'.cells? 0 a n = some cs ∧ a.block < w.heap.size := by
  obtain ⟨hl, hc⟩ := cells_at h
  have h0 := hc 0 hn
  rw [List.getElem?_eq_getElem (by omega)] at h0
  have hlt : a.block < w.heap.size := by
    unfold World.cell? at h0
    split at h0
    · rename_i c _ _ hh
      have := (Array.getElem?_eq_some_iff.mp hh).1
      simpa [Addr.add] using this
    · cases h0
  refine ⟨?_, hlt⟩
  rw [← h]
  unfold World.cells?
  rw [if_pos (Nat.zero_le _), if_pos (Nat.zero_le _)]
  congr 1
  funext i
  unfold World.cell?
  have : (a.add i).block = a.block := by unfold Addr.add; split <;> rfl
  rw [this, hb _ hlt]

theorem add_spec {a : Addr} (hs : a.spot = none) (n : Nat) : a.add n = ⟨a.block, a.off + n, none⟩ := by
  unfold Addr.add
  split
  · rename_i h
    subst h
    obtain ⟨b, o, s⟩ := a
    simp only at hs
    subst hs
    rfl
  · rfl

end
end Go.Am


/- Stamps: how they stand in cells, how they are compared, sorted. -/
namespace Go.Proofs
open Go.Shelf
def Tryz.sortSt_ren : Go.Shelf.Ren := ⟨fun | 6 => 142 | 15 => 150 | 14 => 155 | 28 => 166 | 29 => 167 | 20 => 168 | 21 => 169 | 22 => 170 | 23 => 171 | 24 => 172 | 25 => 173 | 26 => 174 | 27 => 175 | 46 => 182 | 47 => 178 | 48 => 179 | 49 => 183 | 50 => 184 | 57 => 186 | n => n, fun | 22 => 58 | 24 => 24 | 25 => 130 | 3 => 3 | 39 => 189 | 0 => 0 | 53 => 206 | 55 => 208 | 4 => 4 | 46 => 200 | 45 => 199 | 50 => 113 | 5 => 5 | 9 => 9 | 66 => 214 | 70 => 218 | 76 => 222 | 77 => 82 | n => n, fun | n => n⟩
theorem Tryz.sortSt : Go.Proofs.SlLaysF0.n6 Tryz.prog Tryz.sortSt_ren := {
  mixed := by kernel_rfl
  f6 := ⟨Tryz.f142.name, by decide, Tryz.func142.trans (congrArg some (by kernel_rfl))⟩
  f14 := ⟨Tryz.f155.name, by decide, Tryz.func155.trans (congrArg some (by kernel_rfl))⟩
  f15 := Tryz.func150.trans (congrArg some (by kernel_rfl))
  f20 := ⟨Tryz.f168.name, by decide, Tryz.func168.trans (congrArg some (by kernel_rfl))⟩
  f21 := ⟨Tryz.f169.name, by decide, Tryz.func169.trans (congrArg some (by kernel_rfl))⟩
  f22 := ⟨Tryz.f170.name, by decide, Tryz.func170.trans (congrArg some (by kernel_rfl))⟩
  f23 := ⟨Tryz.f171.name, by decide, Tryz.func171.trans (congrArg some (by kernel_rfl))⟩
  f24 := ⟨Tryz.f172.name, by decide, Tryz.func172.trans (congrArg some (by kernel_rfl))⟩
  f25 := ⟨Tryz.f173.name, by decide, Tryz.func173.trans (congrArg some (by kernel_rfl))⟩
  f26 := ⟨Tryz.f174.name, by decide, Tryz.func174.trans (congrArg some (by kernel_rfl))⟩
  f27 := ⟨Tryz.f175.name, by decide, Tryz.func175.trans (congrArg some (by kernel_rfl))⟩
  f28 := Tryz.func166.trans (congrArg some (by kernel_rfl))
  f29 := Tryz.func167.trans (congrArg some (by kernel_rfl))
  f46 := ⟨Tryz.f182.name, by decide, Tryz.func182.trans (congrArg some (by kernel_rfl))⟩
  f47 := Tryz.func178.trans (congrArg some (by kernel_rfl))
  f48 := Tryz.func179.trans (congrArg some (by kernel_rfl))
  f49 := ⟨Tryz.f183.name, by decide, Tryz.func183.trans (congrArg some (by kernel_rfl))⟩
  f50 := ⟨Tryz.f184.name, by decide, Tryz.func184.trans (congrArg some (by kernel_rfl))⟩
  f57 := ⟨Tryz.f186.name, by decide, Tryz.func186.trans (congrArg some (by kernel_rfl))⟩
  t0 := Tryz.underlying0
  a0 := Tryz.isAgg0
  z0 := Tryz.sizeOf0
  v0 := Tryz.zeroValue0
  t3 := Tryz.underlying3
  a3 := Tryz.isAgg3
  z3 := Tryz.sizeOf3
  v3 := Tryz.zeroValue3
  t4 := Tryz.underlying4
  a4 := Tryz.isAgg4
  z4 := Tryz.sizeOf4
  v4 := Tryz.zeroValue4
  t5 := Tryz.underlying5
  a5 := Tryz.isAgg5
  z5 := Tryz.sizeOf5
  v5 := Tryz.zeroValue5
  t9 := Tryz.underlying9
  a9 := Tryz.isAgg9
  z9 := Tryz.sizeOf9
  v9 := Tryz.zeroValue9
  t22 := Tryz.underlying58
  a22 := Tryz.isAgg58
  z22 := Tryz.sizeOf58
  v22 := Tryz.zeroValue58
  t25 := Tryz.underlying130
  a25 := Tryz.isAgg130
  z25 := Tryz.sizeOf130
  v25 := Tryz.zeroValue130
  t39 := Tryz.underlying189
  a39 := Tryz.isAgg189
  z39 := Tryz.sizeOf189
  v39 := Tryz.zeroValue189
  t45 := Tryz.underlying199
  a45 := Tryz.isAgg199
  z45 := Tryz.sizeOf199
  v45 := Tryz.zeroValue199
  t46 := Tryz.underlying200
  a46 := Tryz.isAgg200
  z46 := Tryz.sizeOf200
  v46 := Tryz.zeroValue200
  t50 := Tryz.underlying113
  a50 := Tryz.isAgg113
  z50 := Tryz.sizeOf113
  v50 := Tryz.zeroValue113
  t53 := Tryz.underlying206
  a53 := Tryz.isAgg206
  z53 := Tryz.sizeOf206
  v53 := Tryz.zeroValue206
  t55 := Tryz.underlying208
  a55 := Tryz.isAgg208
  z55 := Tryz.sizeOf208
  v55 := Tryz.zeroValue208
  t66 := Tryz.underlying214
  a66 := Tryz.isAgg214
  z66 := Tryz.sizeOf214
  v66 := Tryz.zeroValue214
  t70 := Tryz.underlying218
  a70 := Tryz.isAgg218
  z70 := Tryz.sizeOf218
  v70 := Tryz.zeroValue218
  t76 := Tryz.underlying222
  a76 := Tryz.isAgg222
  z76 := Tryz.sizeOf222
  v76 := Tryz.zeroValue222
  t77 := Tryz.underlying82
  a77 := Tryz.isAgg82
  z77 := Tryz.sizeOf82
  v77 := Tryz.zeroValue82 }
end Go.Proofs
namespace Go.Am.Tryz
open Go Go.Am Go.Proofs Go.Sort Go.Shelf
set_option maxRecDepth 100000
set_option linter.unusedSimpArgs false
set_option linter.unusedVariables false

def D0 : Decls := ⟨codeOf codes, fun _ => none⟩
theorem dok0 : DOK Tryz.prog gl0 D0 := dok_codes mixed codes_ok

/-! ### stamps -/
abbrev St := Int × Int
def stC (s : St) : List V := [.int .i64 s.1, .int .i64 s.2]
def cmpSt (a b : St) : Int := if a = b then 0 else if a.1 < b.1 ∨ a.1 = b.1 ∧ a.2 < b.2 then -1 else 1

theorem stamp_Compare_runs (D : Decls) (hp : D.prim F_stamp_Compare = none) (hc : D.code.get F_stamp_Compare = some A_stamp_Compare) (a b : St) (M : Mem) : Runs D F_stamp_Compare [.agg (stC a), .agg (stC b)] M fun v M' => v = .int .i64 (cmpSt a b) ∧ Grew M M' := by
  refine Runs.walk (F := A_stamp_Compare) hp hc (by rfl) ?_
  unfold A_stamp_Compare
  obtain ⟨a1, a2⟩ := a
  obtain ⟨b1, b2⟩ := b
  simp only [stC]
  have hG : Grew M ((M.push (.cells [.int .i64 a1, .int .i64 a2] false)).push (.cells [.int .i64 b1, .int .i64 b2] false)) := (Grew.push M _).trans (Grew.push _ _)
  by_cases h1 : a1 = b1 ∧ a2 = b2
  · obtain ⟨rfl, rfl⟩ := h1
    simp -dsimp only [↓w_seq, ↓w_ops, ↓w_skip, ↓w_ret, ↓w_exit, ↓w_scope, ↓w_block, ↓w_cond, cond_true', cond_false', ↓t_nil, ↓t_plain, ↓t_guard, ↓t_gagain, ↓t_again, t_val, t_call, g_true, g_false, ga_true, ga_false, a_val, a_call, ↓n_normal, ↓n_ret, ↓n_exit, ↓b_normal, ↓b_ret, ↓b_exit, ↓e_normal, ↓e_ret, e_some, go_sem, ↓reduceIte, Nat.reduceEqDiff, Nat.reduceLT, Nat.reduceSub, A_stamp_Compare_0, A_stamp_Compare_1, A_stamp_Compare_2, A_stamp_Compare_3, A_stamp_Compare_4, A_stamp_Compare_5, Int.lt_irrefl, true_and, and_true, false_and, and_false, and_self, same_two, same_sib, same_spot, vload, vptr, vof, V.cells, Mem.read, rdCells, Mem.get_push, Mem.next_push, Nat.left_eq_add, Nat.add_eq_left, Nat.add_left_cancel_iff, Nat.add_right_cancel_iff, Nat.reduceAdd, Nat.add_zero, Nat.zero_add, Nat.add_assoc, Nat.reduceLeDiff, Nat.reduceBEq, List.length_cons, List.length_nil, List.drop_zero, List.drop_succ_cons, List.take_succ_cons, List.take_zero, List.take_nil, List.drop_nil, List.getElem?_cons_zero, List.getElem?_cons_succ, reduceCtorEq, Nat.succ_ne_self, Nat.one_ne_zero, Nat.le_refl, ne_eq, not_false_eq_true, and_self]
    exact ⟨by simp [cmpSt], hG⟩
  · have hne : ¬ ((a1, a2) : St) = (b1, b2) := fun e => h1 (by cases e; exact ⟨rfl, rfl⟩)
    by_cases h2 : a1 < b1
    · simp -dsimp only [↓w_seq, ↓w_ops, ↓w_skip, ↓w_ret, ↓w_exit, ↓w_scope, ↓w_block, ↓w_cond, cond_true', cond_false', ↓t_nil, ↓t_plain, ↓t_guard, ↓t_gagain, ↓t_again, t_val, t_call, g_true, g_false, ga_true, ga_false, a_val, a_call, ↓n_normal, ↓n_ret, ↓n_exit, ↓b_normal, ↓b_ret, ↓b_exit, ↓e_normal, ↓e_ret, e_some, go_sem, ↓reduceIte, Nat.reduceEqDiff, Nat.reduceLT, Nat.reduceSub, A_stamp_Compare_0, A_stamp_Compare_1, A_stamp_Compare_2, A_stamp_Compare_3, A_stamp_Compare_4, A_stamp_Compare_5, Int.lt_irrefl, true_and, and_true, false_and, and_false, and_self, same_two, same_sib, same_spot, vload, vptr, vof, V.cells, Mem.read, rdCells, Mem.get_push, Mem.next_push, Nat.left_eq_add, Nat.add_eq_left, Nat.add_left_cancel_iff, Nat.add_right_cancel_iff, Nat.reduceAdd, Nat.add_zero, Nat.zero_add, Nat.add_assoc, Nat.reduceLeDiff, Nat.reduceBEq, List.length_cons, List.length_nil, List.drop_zero, List.drop_succ_cons, List.take_succ_cons, List.take_zero, List.take_nil, List.drop_nil, List.getElem?_cons_zero, List.getElem?_cons_succ, reduceCtorEq, Nat.succ_ne_self, Nat.one_ne_zero, Nat.le_refl, ne_eq, not_false_eq_true, h1, h2]
      exact ⟨by simp [cmpSt, hne, h2], hG⟩
    · by_cases h3 : a1 = b1
      · have h5 : ¬ a2 = b2 := fun e => h1 ⟨h3, e⟩
        subst h3
        by_cases h4 : a2 < b2
        · simp -dsimp only [↓w_seq, ↓w_ops, ↓w_skip, ↓w_ret, ↓w_exit, ↓w_scope, ↓w_block, ↓w_cond, cond_true', cond_false', ↓t_nil, ↓t_plain, ↓t_guard, ↓t_gagain, ↓t_again, t_val, t_call, g_true, g_false, ga_true, ga_false, a_val, a_call, ↓n_normal, ↓n_ret, ↓n_exit, ↓b_normal, ↓b_ret, ↓b_exit, ↓e_normal, ↓e_ret, e_some, go_sem, ↓reduceIte, Nat.reduceEqDiff, Nat.reduceLT, Nat.reduceSub, A_stamp_Compare_0, A_stamp_Compare_1, A_stamp_Compare_2, A_stamp_Compare_3, A_stamp_Compare_4, A_stamp_Compare_5, Int.lt_irrefl, true_and, and_true, false_and, and_false, and_self, same_two, same_sib, same_spot, vload, vptr, vof, V.cells, Mem.read, rdCells, Mem.get_push, Mem.next_push, Nat.left_eq_add, Nat.add_eq_left, Nat.add_left_cancel_iff, Nat.add_right_cancel_iff, Nat.reduceAdd, Nat.add_zero, Nat.zero_add, Nat.add_assoc, Nat.reduceLeDiff, Nat.reduceBEq, List.length_cons, List.length_nil, List.drop_zero, List.drop_succ_cons, List.take_succ_cons, List.take_zero, List.take_nil, List.drop_nil, List.getElem?_cons_zero, List.getElem?_cons_succ, reduceCtorEq, Nat.succ_ne_self, Nat.one_ne_zero, Nat.le_refl, ne_eq, not_false_eq_true, h5, h2, h4]
          exact ⟨by simp [cmpSt, h5, h4], hG⟩
        · simp -dsimp only [↓w_seq, ↓w_ops, ↓w_skip, ↓w_ret, ↓w_exit, ↓w_scope, ↓w_block, ↓w_cond, cond_true', cond_false', ↓t_nil, ↓t_plain, ↓t_guard, ↓t_gagain, ↓t_again, t_val, t_call, g_true, g_false, ga_true, ga_false, a_val, a_call, ↓n_normal, ↓n_ret, ↓n_exit, ↓b_normal, ↓b_ret, ↓b_exit, ↓e_normal, ↓e_ret, e_some, go_sem, ↓reduceIte, Nat.reduceEqDiff, Nat.reduceLT, Nat.reduceSub, A_stamp_Compare_0, A_stamp_Compare_1, A_stamp_Compare_2, A_stamp_Compare_3, A_stamp_Compare_4, A_stamp_Compare_5, Int.lt_irrefl, true_and, and_true, false_and, and_false, and_self, same_two, same_sib, same_spot, vload, vptr, vof, V.cells, Mem.read, rdCells, Mem.get_push, Mem.next_push, Nat.left_eq_add, Nat.add_eq_left, Nat.add_left_cancel_iff, Nat.add_right_cancel_iff, Nat.reduceAdd, Nat.add_zero, Nat.zero_add, Nat.add_assoc, Nat.reduceLeDiff, Nat.reduceBEq, List.length_cons, List.length_nil, List.drop_zero, List.drop_succ_cons, List.take_succ_cons, List.take_zero, List.take_nil, List.drop_nil, List.getElem?_cons_zero, List.getElem?_cons_succ, reduceCtorEq, Nat.succ_ne_self, Nat.one_ne_zero, Nat.le_refl, ne_eq, not_false_eq_true, h5, h2, h4]
          exact ⟨by simp [cmpSt, h5, h4], hG⟩
      · simp -dsimp only [↓w_seq, ↓w_ops, ↓w_skip, ↓w_ret, ↓w_exit, ↓w_scope, ↓w_block, ↓w_cond, cond_true', cond_false', ↓t_nil, ↓t_plain, ↓t_guard, ↓t_gagain, ↓t_again, t_val, t_call, g_true, g_false, ga_true, ga_false, a_val, a_call, ↓n_normal, ↓n_ret, ↓n_exit, ↓b_normal, ↓b_ret, ↓b_exit, ↓e_normal, ↓e_ret, e_some, go_sem, ↓reduceIte, Nat.reduceEqDiff, Nat.reduceLT, Nat.reduceSub, A_stamp_Compare_0, A_stamp_Compare_1, A_stamp_Compare_2, A_stamp_Compare_3, A_stamp_Compare_4, A_stamp_Compare_5, Int.lt_irrefl, true_and, and_true, false_and, and_false, and_self, same_two, same_sib, same_spot, vload, vptr, vof, V.cells, Mem.read, rdCells, Mem.get_push, Mem.next_push, Nat.left_eq_add, Nat.add_eq_left, Nat.add_left_cancel_iff, Nat.add_right_cancel_iff, Nat.reduceAdd, Nat.add_zero, Nat.zero_add, Nat.add_assoc, Nat.reduceLeDiff, Nat.reduceBEq, List.length_cons, List.length_nil, List.drop_zero, List.drop_succ_cons, List.take_succ_cons, List.take_zero, List.take_nil, List.drop_nil, List.getElem?_cons_zero, List.getElem?_cons_succ, reduceCtorEq, Nat.succ_ne_self, Nat.one_ne_zero, Nat.le_refl, ne_eq, not_false_eq_true, h1, h2, h3]
        exact ⟨by simp [cmpSt, hne, h2, h3], hG⟩

def ltSt (a b : St) : Bool := decide (a.1 < b.1 ∨ a.1 = b.1 ∧ a.2 < b.2)
theorem ltOf_St (a b : St) : ltOf cmpSt a b = ltSt a b := by
  unfold ltOf cmpSt ltSt
  by_cases h : a = b
  · subst h; simp
  · by_cases h2 : a.1 < b.1 ∨ a.1 = b.1 ∧ a.2 < b.2
    · simp [h, h2]
    · simp [h, h2]
theorem swo_St : SWO ltSt where
  irrefl x := by unfold ltSt; simp
  trans x y z h1 h2 := by
    unfold ltSt at *
    simp only [decide_eq_true_eq] at *
    omega
  ntrans x y z h1 h2 := by
    unfold ltSt at *
    simp only [decide_eq_false_iff_not] at *
    omega
theorem tot_St (x y : St) (h1 : ltSt x y = false) (h2 : ltSt y x = false) : x = y := by
  obtain ⟨a, b⟩ := x
  obtain ⟨c, d⟩ := y
  unfold ltSt at h1 h2
  simp only [decide_eq_false_iff_not] at h1 h2
  have : a = c := by omega
  have : b = d := by omega
  simp [*]

def elSt : Elem St where
  k := 2
  cv := stC
  enc x := [.int .i64 x.1, .int .i64 x.2]
  dec := fun | [.int .i64 a, .int .i64 b] => some (a, b) | _ => none
  k_pos := by omega
  len _ := rfl
  elen _ := rfl
  dec_some cs x h := by
    split at h <;> cases h
    rfl
  dec_cv _ := rfl
  rel E x := .cons (.int _ _) (.cons (.int _ _) .nil)
  rel_eq E x us h := by
    cases h with
    | cons h1 t => cases t with
      | cons h2 t => cases t; cases h1; cases h2; rfl
  one x v hv := by simp at hv; rcases hv with rfl | rfl <;> rfl
  one' _ := rfl
  flat _ := rfl

/-! ### the sort: the compare alone, no variable in sight -/
def gln : Nat → Bool := fun _ => false
theorem cmp_code : cFunc Tryz.prog gln Tryz.f107 = some A_stamp_Compare := by kernel_rfl
def Dc : Decls := ⟨codeOf [(F_stamp_Compare, A_stamp_Compare)], fun _ => none⟩
theorem dokc : DOK Tryz.prog gln Dc := dok_codes mixed (by
  intro x hx
  simp only [List.mem_singleton] at hx
  subst hx
  exact ⟨_, Tryz.func107, (by kernel_rfl), cmp_code⟩)
theorem sortSt_ok : CallOK Tryz.prog gl0 fun f' args M => if f' = F_slices_SortFunc_Stamp then sortP elSt F_stamp_Compare ltSt args M else none := by
  have h := sort_callOK (P := Tryz.prog) (gl := gl0) (α := St) Tryz.sortSt elSt Tryz.isAgg24 Tryz.sizeOf24 cmpSt (by rw [show ltOf cmpSt = ltSt from funext fun a => funext fun b => ltOf_St a b]; exact swo_St)
    (by rw [show ltOf cmpSt = ltSt from funext fun a => funext fun b => ltOf_St a b]; exact tot_St) F_stamp_Compare ⟨_, Tryz.func107, (by kernel_rfl), (by kernel_rfl)⟩ ⟨_, Tryz.func142, (by kernel_rfl), (by kernel_rfl)⟩ (by
      intro x y w
      obtain ⟨k, v, M', hr, rfl, _⟩ := stamp_Compare_runs Dc rfl (by rfl) x y mem0
      obtain ⟨_, hs⟩ := callN_sound dokc k _ _ mem0 _ M' hr
      refine (hs emb0 w #[.agg (elSt.enc x).toArray, .agg (elSt.enc y).toArray] (rel0 w) (fun x hx => by cases hx) (.cons (.agg (elSt.rel _ x)) (.cons (.agg (elSt.rel _ y)) .nil))).mono ?_
      rintro e w' ⟨E', v', rfl, hv', _, hX⟩
      cases hv'
      exact ⟨rfl, grown_of hX⟩)
  rw [show ltOf cmpSt = ltSt from funext fun a => funext fun b => ltOf_St a b] at h
  exact h
def D1 : Decls := D0.addM F_slices_SortFunc_Stamp (sortP elSt F_stamp_Compare ltSt)
theorem dok1 : DOK Tryz.prog gl0 D1 := dok0.addM sortSt_ok
end Go.Am.Tryz


/- Stamps that a function hands on, one by one, collected: slices.AppendSeq, slices.Collect. -/
namespace Go.Am.Tryz
open Go Go.Am Go.Proofs Go.Sort Go.Shelf
set_option maxRecDepth 100000
set_option linter.unusedSimpArgs false
set_option linter.unusedVariables false

abbrev XP := XRuns Tryz.prog gl0
/-- What is so while stamps come. -/
structure CollJ (M : Mem) (lp : LoopState → Option Code → O) (pre : List St) (M' : Mem) : Prop where
  old : ∀ c, c < M.next → M'.get c = M.get c
  next : M.next + 2 ≤ M'.next
  loop : M'.get (M.next + 1) = some (lp .ready none)
  box : ∃ s, M'.get M.next = some (.cells [s] false) ∧ Hold (M.next + 2) M' 2 s pre.length (elSt.all pre) ∧ (pre = [] → s = .slice none 0 (.exact 0))

theorem CollJ.other {M : Mem} {lp : LoopState → Option Code → O} {pre : List St} {M1 M2 : Mem} (h : CollJ M lp pre M1) (hn : M1.next ≤ M2.next) (hk : ∀ c, c < M1.next → (∀ b s k l, M1.get c ≠ some (.mapIter b s k l)) → M2.get c = M1.get c) (hold : ∀ c, c < M.next → M2.get c = M1.get c)
    (hlp : ∀ st p b s k l, lp st p ≠ .mapIter b s k l) : CollJ M lp pre M2 := by
  obtain ⟨a, b, c, s, d, e, e'⟩ := h
  refine ⟨fun q hq => (hold q hq).trans (a q hq), by omega, ?_, s, ?_, e.keep (fun q hq => hk q (e.blk_le hq).2.1 ?_) hn, e'⟩
  · rw [hk _ (by omega) (fun b s k l => by rw [c]; intro h; exact hlp _ _ _ _ _ _ (Option.some.inj h))]; exact c
  · rw [hk _ (by omega) (fun b s k l => by rw [d]; intro h; cases h)]; exact d
  · intro b s k l
    rw [(e.blk_le hq).2.2]
    intro h; cases h

/-- A variable that holds a spot. -/
def isSpot (M : Mem) (c : Nat) : Prop := ∃ a b t, M.get c = some (.cells [.int .i64 a, .int .i64 b, .str t] false)
/-- A function that is ranged over, with such a variable of its own. -/
def SeqP {α : Type} (f : FuncId) (first captured : List V) (cv : α → V) (G : Mem → Prop) (S Sp : List α → Prop) (N : Nat) : Prop :=
  ∀ (b : Nat) (J Jx : List α → Mem → Prop) (M : Mem),
    (∀ pre M, J pre M → G M) →
    (∀ pre M o, J pre M → J pre (M.push o)) →
    (∀ pre M o o', J pre M → J pre ((M.push o).set M.next o')) →
    (∀ pre M' c b s n l, J pre M' → M.next ≤ c → isIter M' c → J pre (M'.set c (.mapIter b s n l))) →
    (∀ pre M' c x y t, J pre M' → M.next ≤ c → isSpot M' c → J pre (M'.set c (.cells [.int .i64 x, .int .i64 y, .str t] false))) →
    (∀ pre x M', J pre M' → pre.length < N → XYield Tryz.prog gl0 b [cv x] M' fun v M'' => (v = .bool true ∧ J (pre ++ [x]) M'' ∧ M'.next ≤ M''.next ∧ (∀ c, c < M'.next → isIter M' c → M''.get c = M'.get c) ∧ ∀ c, M.next ≤ c → c < M'.next → isSpot M' c → M''.get c = M'.get c) ∨ (v = .bool false ∧ Jx (pre ++ [x]) M'')) →
    J [] M →
    XRuns Tryz.prog gl0 f (first ++ [.yld b] ++ captured) M fun _ M' => (∃ xs, S xs ∧ J xs M') ∨ ∃ pre, Sp pre ∧ Jx pre M'
theorem SeqP.of {α : Type} {f : FuncId} {first captured : List V} {cv : α → V} {G : Mem → Prop} {S Sp : List α → Prop} {N : Nat} (h : SeqX Tryz.prog gl0 f first captured cv G S Sp N) : SeqP f first captured cv G S Sp N :=
  fun b J Jx M hG hp hps hi _ hY hJ => h b J Jx M hG hp hps hi (fun pre x M' h1 h2 => (hY pre x M' h1 h2).mono fun v M'' h => by
    rcases h with ⟨a, b, c, d, _⟩ | h
    · exact .inl ⟨a, b, c, d⟩
    · exact .inr h) hJ

theorem stC_len (x : St) : (stC x).length = 2 := rfl
theorem AppendSeq_runs {f : FuncId} {first captured : List V} {G : Mem → Prop} {S Sp : List St → Prop} {N : Nat} (hseq : SeqP f first captured (fun x => .agg (stC x)) G S Sp N) (hN : (N + 1) * 16 ≤ maxRoom) (M : Mem)
    (hG : ∀ M', (∀ c, c < M.next → M'.get c = M.get c) → M.next ≤ M'.next → G M') :
    XP F_slices_AppendSeq_Stamp [.slice none 0 (.exact 0), .fn f first captured] M fun v M' => ∃ xs, S xs ∧ (∀ c, c < M.next → M'.get c = M.get c) ∧ Hold M.next M' 2 v xs.length (elSt.all xs) ∧ (xs = [] → v = .slice none 0 (.exact 0)) := by
  refine XRuns.walk mixed Tryz.func144 b_slices_AppendSeq_Stamp n_slices_AppendSeq_Stamp r_slices_AppendSeq_Stamp (by rfl) ?_
  unfold X_slices_AppendSeq_Stamp
  simp -dsimp only [↓x_seq', ↓x_ops, ↓x_skip, ↓x_ret, ↓x_exit, ↓x_block', ↓x_cond', cond_true', cond_false', ↓i_nil, ↓i_plain, ↓i_guard, xs_val, xs_call, xs_yield, xg_true, xg_false, ↓n_normal, ↓n_ret, ↓n_exit, ↓b_normal, ↓b_ret, ↓b_exit, ↓xe_normal, ↓xe_ret, e_some, yieldOf, go_sem, ↓reduceIte, Nat.reduceEqDiff, Nat.reduceLT, Nat.reduceSub, X_slices_AppendSeq_Stamp_0, X_slices_AppendSeq_Stamp_1, X_slices_AppendSeq_Stamp_2, X_slices_AppendSeq_Stamp_3, X_slices_AppendSeq_Stamp_6, Int.lt_irrefl, true_and, and_true, false_and, and_false, and_self, same_two, same_sib, same_spot, vload, vptr, vof, V.cells, Mem.read, rdCells, Mem.get_push, Mem.next_push, Nat.left_eq_add, Nat.add_eq_left, Nat.add_left_cancel_iff, Nat.add_right_cancel_iff, Nat.reduceAdd, Nat.add_zero, Nat.zero_add, Nat.add_assoc, Nat.reduceLeDiff, Nat.reduceBEq, List.length_cons, List.length_nil, List.drop_zero, List.drop_succ_cons, List.take_succ_cons, List.take_zero, List.take_nil, List.drop_nil, List.getElem?_cons_zero, List.getElem?_cons_succ, reduceCtorEq, Nat.succ_ne_self, Nat.one_ne_zero, Nat.le_refl, ne_eq, not_false_eq_true]
  refine x_range' _ _ _ _ _ (f := f) (first := first) (captured := captured) (by simp only [go_sem, ↓reduceIte, Nat.reduceEqDiff, Nat.reduceLT, Nat.reduceSub]) ?_
  intro lp hlp hY
  have hb0 : (M.push (.cells [.slice none 0 (.exact 0)] false)).next = M.next + 1 := rfl
  rw [hb0] at hY ⊢
  have hst : CollJ M lp [] ((M.push (.cells [.slice none 0 (.exact 0)] false)).push (lp .ready none)) := by
    refine ⟨fun c hc => ?_, by simp, ?_, .slice none 0 (.exact 0), ?_, .nil, fun _ => rfl⟩
    · rw [Mem.get_push_ne _ _ (by simp; omega), Mem.get_push_ne _ _ (by omega)]
    · rw [← hb0, Mem.get_push_same]
    · rw [Mem.get_push_ne _ _ (by simp), Mem.get_push_same]
  refine (hseq (M.next + 1) (CollJ M lp) (fun _ _ => False) _ (fun pre M' h => hG M' h.old (by have := h.next; omega)) (fun pre M' o h => ?_) (fun pre M' o o' h => ?_) (fun pre M' c b s k l h hcn hi => ?_) (fun pre M' c a b t h hcn hi => ?_) (fun pre x M' h hlen => ?_) hst).mono ?_
  · exact h.other (by simp) (fun c hc _ => Mem.get_push_ne _ _ (by omega)) (fun c hc => Mem.get_push_ne _ _ (by have := h.next; omega)) hlp
  · have hn : ∀ c, c ≠ M'.next → ((M'.push o).set M'.next o').get c = M'.get c := fun c hc => by rw [Mem.get_set_ne _ _ hc, Mem.get_push_ne _ _ hc]
    exact h.other (by simp) (fun c hc _ => hn c (by omega)) (fun c hc => hn c (by have := h.next; omega)) hlp
  · obtain ⟨b', s', k', l', hi⟩ := hi
    refine h.other (by simp) (fun c' _ hc' => Mem.get_set_ne _ _ (fun e => hc' b' s' k' l' (by rw [e]; exact hi))) (fun c' hc' => Mem.get_set_ne _ _ (by simp at hcn; omega)) hlp
  · obtain ⟨p1, p2, p3, hi⟩ := hi
    obtain ⟨a1, a2, a3, s1, a4, a5, a6⟩ := h
    have hc : M.next + 2 ≤ c := hcn
    refine ⟨fun c' hc' => (Mem.get_set_ne _ _ (by omega)).trans (a1 c' hc'), a2, (Mem.get_set_ne _ _ (by omega)).trans a3, s1, (Mem.get_set_ne _ _ (by omega)).trans a4, a5.keep (fun c' hc' => Mem.get_set_ne _ _ (fun e => ?_)) (Nat.le_refl _), a6⟩
    subst e
    have hh := (a5.blk_le hc').2.2
    rw [hi] at hh
    have hlen := a5.len
    simp only [Option.some.injEq, O.cells.injEq, and_true] at hh
    rw [← hh] at hlen
    simp at hlen
    omega
  · -- a round
    refine hY [.agg (stC x)] M' _ h.loop rfl ?_
    unfold X_slices_AppendSeq_Stamp_4 X_slices_AppendSeq_Stamp_5
    obtain ⟨s, hbox, hH, _⟩ := h.box
    have hnx := h.next
    have hw0 := write_full (M := M'.push (.cells [.int .i64 0, .int .i64 0] false)) (b := M'.next) (vs := stC x) (Mem.get_push_same _ _) rfl rfl
    simp -dsimp only [↓x_seq', ↓x_ops, ↓x_skip, ↓x_ret, ↓x_exit, ↓x_block', ↓x_cond', cond_true', cond_false', ↓i_nil, ↓i_plain, ↓i_guard, xs_val, xs_call, xs_yield, xg_true, xg_false, ↓n_normal, ↓n_ret, ↓n_exit, ↓b_normal, ↓b_ret, ↓b_exit, ↓xe_normal, ↓xe_ret, e_some, yieldOf, go_sem, ↓reduceIte, Nat.reduceEqDiff, Nat.reduceLT, Nat.reduceSub, X_slices_AppendSeq_Stamp_0, X_slices_AppendSeq_Stamp_1, X_slices_AppendSeq_Stamp_2, X_slices_AppendSeq_Stamp_3, X_slices_AppendSeq_Stamp_6, Int.lt_irrefl, true_and, and_true, false_and, and_false, and_self, same_two, same_sib, same_spot, vload, vptr, vof, V.cells, Mem.read, rdCells, Mem.get_push, Mem.next_push, Nat.left_eq_add, Nat.add_eq_left, Nat.add_left_cancel_iff, Nat.add_right_cancel_iff, Nat.reduceAdd, Nat.add_zero, Nat.zero_add, Nat.add_assoc, Nat.reduceLeDiff, Nat.reduceBEq, List.length_cons, List.length_nil, List.drop_zero, List.drop_succ_cons, List.take_succ_cons, List.take_zero, List.take_nil, List.drop_nil, List.getElem?_cons_zero, List.getElem?_cons_succ, reduceCtorEq, Nat.succ_ne_self, Nat.one_ne_zero, Nat.le_refl, ne_eq, not_false_eq_true, putAll', List.zip_cons_cons, List.zip_nil_right, List.foldl_cons, List.foldl_nil, vstore, hw0, stC_len]
    -- the memory with the round's own variable
    have k1 : ∀ c, c ≠ M'.next → ((M'.push (.cells [.int .i64 0, .int .i64 0] false)).set M'.next (.cells (stC x) false)).get c = M'.get c := fun c hc => by rw [Mem.get_set_ne _ _ hc, Mem.get_push_ne _ _ hc]
    have k2 : ((M'.push (.cells [.int .i64 0, .int .i64 0] false)).set M'.next (.cells (stC x) false)).get M'.next = some (.cells (stC x) false) := Mem.get_set_same _ _ _
    have k3 : ((M'.push (.cells [.int .i64 0, .int .i64 0] false)).set M'.next (.cells (stC x) false)).next = M'.next + 1 := rfl
    generalize (M'.push (.cells [.int .i64 0, .int .i64 0] false)).set M'.next (.cells (stC x) false) = M1 at *
    refine ⟨rfl, (k1 _ (by omega)).trans h.loop, ?_⟩
    have l1 : ∀ c, c ≠ M.next + 1 → (M1.set (M.next + 1) (lp .busy none)).get c = M1.get c := fun c hc => Mem.get_set_ne _ _ hc
    have l2 : (M1.set (M.next + 1) (lp .busy none)).get (M.next + 1) = some (lp .busy none) := Mem.get_set_same _ _ _
    have l3 : (M1.set (M.next + 1) (lp .busy none)).next = M'.next + 1 := k3
    generalize M1.set (M.next + 1) (lp .busy none) = M2 at *
    have hb2 : M2.get M.next = some (.cells [s] false) := by rw [l1 _ (by omega), k1 _ (by omega)]; exact hbox
    have hx2 : M2.get M'.next = some (.cells (stC x) false) := by rw [l1 _ (by omega)]; exact k2
    have hH2 : Hold (M.next + 2) M2 2 s pre.length (elSt.all pre) := hH.keep (fun c hc => by have := hH.blk_le hc; rw [l1 _ (by omega), k1 _ (by omega)]) (by omega)
    simp -dsimp only [↓x_seq', ↓x_ops, ↓x_skip, ↓x_ret, ↓x_exit, ↓x_block', ↓x_cond', cond_true', cond_false', ↓i_nil, ↓i_plain, ↓i_guard, xs_val, xs_call, xs_yield, xg_true, xg_false, ↓n_normal, ↓n_ret, ↓n_exit, ↓b_normal, ↓b_ret, ↓b_exit, ↓xe_normal, ↓xe_ret, e_some, yieldOf, go_sem, ↓reduceIte, Nat.reduceEqDiff, Nat.reduceLT, Nat.reduceSub, X_slices_AppendSeq_Stamp_0, X_slices_AppendSeq_Stamp_1, X_slices_AppendSeq_Stamp_2, X_slices_AppendSeq_Stamp_3, X_slices_AppendSeq_Stamp_6, Int.lt_irrefl, true_and, and_true, false_and, and_false, and_self, same_two, same_sib, same_spot, vload, vptr, vof, V.cells, Mem.read, rdCells, Mem.get_push, Mem.next_push, Nat.left_eq_add, Nat.add_eq_left, Nat.add_left_cancel_iff, Nat.add_right_cancel_iff, Nat.reduceAdd, Nat.add_zero, Nat.zero_add, Nat.add_assoc, Nat.reduceLeDiff, Nat.reduceBEq, List.length_cons, List.length_nil, List.drop_zero, List.drop_succ_cons, List.take_succ_cons, List.take_zero, List.take_nil, List.drop_nil, List.getElem?_cons_zero, List.getElem?_cons_succ, reduceCtorEq, Nat.succ_ne_self, Nat.one_ne_zero, Nat.le_refl, ne_eq, not_false_eq_true, hb2, hx2, stC, fillCells, repl, wrCells, List.append_nil]
    have hH3 : Hold (M.next + 2) (M2.push (.cells (stC x) false)) 2 s pre.length (elSt.all pre) := hH2.keep (fun c hc => Mem.get_push_ne _ _ (by have := hH2.blk_le hc; omega)) (by simp)
    obtain ⟨M4, hap, hH4, hn4, ho4⟩ := hH3.append (bytes := 16) (m := 1) (x := .slice (some (M2.next, 0)) 1 (.exact 1)) (new := stC x) (by simp; omega) rfl
      (by
        have := read_all (Mem.get_push_same M2 (.cells (stC x) false))
        simp only [srcCells, beq_dec, Nat.one_mul, Nat.reduceEqDiff, decide_false, cond_false]
        exact this) (by omega) rfl (by omega) rfl
    simp only [stC] at hap
    rw [hap]
    have hne4 : ∀ c, c < M'.next → s.blk ≠ some c → c ≠ M.next + 1 → M4.get c = M'.get c := fun c hc hs hl => by
      rw [ho4 c (by simp; omega) hs, Mem.get_push_ne _ _ (by omega), l1 _ hl, k1 _ (by omega)]
    have hsn : s.blk ≠ some M.next := fun e => by have := (hH.blk_le e).1; omega
    have hsl : s.blk ≠ some (M.next + 1) := fun e => by have := (hH.blk_le e).1; omega
    have hb4 : M4.get M.next = some (.cells [s] false) := by rw [hne4 _ (by omega) hsn (by omega)]; exact hbox
    simp only [Mem.next_push] at hap hH4 hn4 ho4
    have hw4 := write_one (v := .slice (some (M2.next + 1, 0)) (pre.length + 1) (.upto 2)) hb4 (show 0 < 1 by omega) rfl
    simp -dsimp only [↓x_seq', ↓x_ops, ↓x_skip, ↓x_ret, ↓x_exit, ↓x_block', ↓x_cond', cond_true', cond_false', ↓i_nil, ↓i_plain, ↓i_guard, xs_val, xs_call, xs_yield, xg_true, xg_false, ↓n_normal, ↓n_ret, ↓n_exit, ↓b_normal, ↓b_ret, ↓b_exit, ↓xe_normal, ↓xe_ret, e_some, yieldOf, go_sem, ↓reduceIte, Nat.reduceEqDiff, Nat.reduceLT, Nat.reduceSub, X_slices_AppendSeq_Stamp_0, X_slices_AppendSeq_Stamp_1, X_slices_AppendSeq_Stamp_2, X_slices_AppendSeq_Stamp_3, X_slices_AppendSeq_Stamp_6, Int.lt_irrefl, true_and, and_true, false_and, and_false, and_self, same_two, same_sib, same_spot, vload, vptr, vof, V.cells, Mem.read, rdCells, Mem.get_push, Mem.next_push, Nat.left_eq_add, Nat.add_eq_left, Nat.add_left_cancel_iff, Nat.add_right_cancel_iff, Nat.reduceAdd, Nat.add_zero, Nat.zero_add, Nat.add_assoc, Nat.reduceLeDiff, Nat.reduceBEq, List.length_cons, List.length_nil, List.drop_zero, List.drop_succ_cons, List.take_succ_cons, List.take_zero, List.take_nil, List.drop_nil, List.getElem?_cons_zero, List.getElem?_cons_succ, reduceCtorEq, Nat.succ_ne_self, Nat.one_ne_zero, Nat.le_refl, ne_eq, not_false_eq_true, vstore, hw4, List.set_cons_zero]
    have u := Upd.set M4 M.next (.cells [.slice (some (M2.next + 1, 0)) (pre.length + 1) (.upto 2)] false)
    generalize M4.set M.next (.cells [.slice (some (M2.next + 1, 0)) (pre.length + 1) (.upto 2)] false) = M5 at *
    have hl5 : M5.get (M.next + 1) = some (lp .busy none) := by
      rw [u.other _ (by omega), ho4 _ (by omega) hsl, Mem.get_push_ne _ _ (by omega)]; exact l2
    refine ⟨hl5, .inl ⟨rfl, ⟨fun c hc => ?_, ?_, Mem.get_set_same _ _ _, ?_⟩, by simp only [Mem.next_set]; rw [u.next, hn4]; omega, fun c hc hi => ?_, fun c hcl hc hi => ?_⟩⟩
    · rw [Mem.get_set_ne _ _ (by omega), u.other _ (by omega), hne4 c (by omega) (fun e => by have := (hH.blk_le e).1; omega) (by omega)]
      exact h.old c hc
    · simp only [Mem.next_set]; rw [u.next, hn4]; omega
    · refine ⟨.slice (some (M2.next + 1, 0)) (pre.length + 1) (.upto 2), ?_, ?_, fun h => by simp at h⟩
      · rw [Mem.get_set_ne _ _ (by omega)]; exact u.at_
      · have e1 : elSt.all (pre ++ [x]) = elSt.all pre ++ stC x := by simp [Elem.all, elSt]
        rw [e1, List.length_append, List.length_cons, List.length_nil]
        refine hH4.keep (fun c hc => ?_) (by simp only [Mem.next_set]; rw [u.next]; exact Nat.le_refl _)
        have := hH4.blk_le hc
        simp only [V.blk, Option.some.injEq] at hc
        rw [Mem.get_set_ne _ _ (by omega), u.other _ (by omega)]
    · obtain ⟨b', s', k', l', hi⟩ := hi
      have c1 : c ≠ M.next + 1 := fun e => by
        rw [e] at hi; rw [h.loop] at hi; exact hlp _ _ _ _ _ _ (Option.some.inj hi)
      have c2 : c ≠ M.next := fun e => by rw [e] at hi; rw [hbox] at hi; cases hi
      rw [Mem.get_set_ne _ _ c1, u.other _ c2]
      exact hne4 c hc (fun e => by rw [(hH.blk_le e).2.2] at hi; cases hi) c1
    · have hcl' : M.next + 2 ≤ c := hcl
      obtain ⟨p1, p2, p3, hi⟩ := hi
      rw [Mem.get_set_ne _ _ (by omega), u.other _ (by omega)]
      refine hne4 c hc (fun e => ?_) (by omega)
      have hh := (hH.blk_le e).2.2
      rw [hi] at hh
      have hlen := hH.len
      simp only [Option.some.injEq, O.cells.injEq, and_true] at hh
      rw [← hh] at hlen
      simp at hlen
      omega
  · -- all have come
    intro v M' h
    rcases h with ⟨xs, hS, hJ⟩ | ⟨pre, _, hS⟩
    · refine .inl ⟨hJ.loop, ?_⟩
      obtain ⟨s, hbox, hH, hnil⟩ := hJ.box
      have hnx := hJ.next
      have k1 : ∀ c, c ≠ M.next + 1 → (M'.set (M.next + 1) (lp .exhausted none)).get c = M'.get c := fun c hc => Mem.get_set_ne _ _ hc
      have k2 : (M'.set (M.next + 1) (lp .exhausted none)).next = M'.next := rfl
      generalize M'.set (M.next + 1) (lp .exhausted none) = M2 at *
      have hb2 : M2.get M.next = some (.cells [s] false) := (k1 _ (by omega)).trans hbox
      simp -dsimp only [↓x_seq', ↓x_ops, ↓x_skip, ↓x_ret, ↓x_exit, ↓x_block', ↓x_cond', cond_true', cond_false', ↓i_nil, ↓i_plain, ↓i_guard, xs_val, xs_call, xs_yield, xg_true, xg_false, ↓n_normal, ↓n_ret, ↓n_exit, ↓b_normal, ↓b_ret, ↓b_exit, ↓xe_normal, ↓xe_ret, e_some, yieldOf, go_sem, ↓reduceIte, Nat.reduceEqDiff, Nat.reduceLT, Nat.reduceSub, X_slices_AppendSeq_Stamp_0, X_slices_AppendSeq_Stamp_1, X_slices_AppendSeq_Stamp_2, X_slices_AppendSeq_Stamp_3, X_slices_AppendSeq_Stamp_6, Int.lt_irrefl, true_and, and_true, false_and, and_false, and_self, same_two, same_sib, same_spot, vload, vptr, vof, V.cells, Mem.read, rdCells, Mem.get_push, Mem.next_push, Nat.left_eq_add, Nat.add_eq_left, Nat.add_left_cancel_iff, Nat.add_right_cancel_iff, Nat.reduceAdd, Nat.add_zero, Nat.zero_add, Nat.add_assoc, Nat.reduceLeDiff, Nat.reduceBEq, List.length_cons, List.length_nil, List.drop_zero, List.drop_succ_cons, List.take_succ_cons, List.take_zero, List.take_nil, List.drop_nil, List.getElem?_cons_zero, List.getElem?_cons_succ, reduceCtorEq, Nat.succ_ne_self, Nat.one_ne_zero, Nat.le_refl, ne_eq, not_false_eq_true, hb2]
      refine ⟨xs, hS, fun c hc => (k1 c (by omega)).trans (hJ.old c hc), ?_, hnil⟩
      exact (hH.keep (fun c hc => k1 c (by have := (hH.blk_le hc).1; omega)) (by omega)).lower (by omega)
    · exact hS.elim

theorem Collect_runs {f : FuncId} {first captured : List V} {G : Mem → Prop} {S Sp : List St → Prop} {N : Nat} (hseq : SeqP f first captured (fun x => .agg (stC x)) G S Sp N) (hN : (N + 1) * 16 ≤ maxRoom) (M : Mem)
    (hG : ∀ M', (∀ c, c < M.next → M'.get c = M.get c) → M.next ≤ M'.next → G M') :
    XP F_slices_Collect_Stamp [.fn f first captured] M fun v M' => ∃ xs, S xs ∧ (∀ c, c < M.next → M'.get c = M.get c) ∧ Hold M.next M' 2 v xs.length (elSt.all xs) ∧ (xs = [] → v = .slice none 0 (.exact 0)) := by
  refine XRuns.walk mixed Tryz.func117 b_slices_Collect_Stamp n_slices_Collect_Stamp r_slices_Collect_Stamp (by rfl) ?_
  unfold X_slices_Collect_Stamp
  simp -dsimp only [↓x_seq', ↓x_ops, ↓x_skip, ↓x_ret, ↓x_exit, ↓x_block', ↓x_cond', cond_true', cond_false', ↓i_nil, ↓i_plain, ↓i_guard, xs_val, xs_call, xs_yield, xg_true, xg_false, ↓n_normal, ↓n_ret, ↓n_exit, ↓b_normal, ↓b_ret, ↓b_exit, ↓xe_normal, ↓xe_ret, e_some, yieldOf, go_sem, ↓reduceIte, Nat.reduceEqDiff, Nat.reduceLT, Nat.reduceSub, X_slices_Collect_Stamp_0, X_slices_Collect_Stamp_1, Int.lt_irrefl, true_and, and_true, false_and, and_false, and_self, same_two, same_sib, same_spot, vload, vptr, vof, V.cells, Mem.read, rdCells, Mem.get_push, Mem.next_push, Nat.left_eq_add, Nat.add_eq_left, Nat.add_left_cancel_iff, Nat.add_right_cancel_iff, Nat.reduceAdd, Nat.add_zero, Nat.zero_add, Nat.add_assoc, Nat.reduceLeDiff, Nat.reduceBEq, List.length_cons, List.length_nil, List.drop_zero, List.drop_succ_cons, List.take_succ_cons, List.take_zero, List.take_nil, List.drop_nil, List.getElem?_cons_zero, List.getElem?_cons_succ, reduceCtorEq, Nat.succ_ne_self, Nat.one_ne_zero, Nat.le_refl, ne_eq, not_false_eq_true]
  refine xcall_of (AppendSeq_runs hseq hN M hG) ?_
  intro v M' h
  simp -dsimp only [↓x_seq', ↓x_ops, ↓x_skip, ↓x_ret, ↓x_exit, ↓x_block', ↓x_cond', cond_true', cond_false', ↓i_nil, ↓i_plain, ↓i_guard, xs_val, xs_call, xs_yield, xg_true, xg_false, ↓n_normal, ↓n_ret, ↓n_exit, ↓b_normal, ↓b_ret, ↓b_exit, ↓xe_normal, ↓xe_ret, e_some, yieldOf, go_sem, ↓reduceIte, Nat.reduceEqDiff, Nat.reduceLT, Nat.reduceSub, X_slices_Collect_Stamp_0, X_slices_Collect_Stamp_1, Int.lt_irrefl, true_and, and_true, false_and, and_false, and_self, same_two, same_sib, same_spot, vload, vptr, vof, V.cells, Mem.read, rdCells, Mem.get_push, Mem.next_push, Nat.left_eq_add, Nat.add_eq_left, Nat.add_left_cancel_iff, Nat.add_right_cancel_iff, Nat.reduceAdd, Nat.add_zero, Nat.zero_add, Nat.add_assoc, Nat.reduceLeDiff, Nat.reduceBEq, List.length_cons, List.length_nil, List.drop_zero, List.drop_succ_cons, List.take_succ_cons, List.take_zero, List.take_nil, List.drop_nil, List.getElem?_cons_zero, List.getElem?_cons_succ, reduceCtorEq, Nat.succ_ne_self, Nat.one_ne_zero, Nat.le_refl, ne_eq, not_false_eq_true]
  exact h
end Go.Am.Tryz


/- A map's keys handed on, in whatever order; slices.SortedFunc of them as a part. -/
namespace Go.Am.Tryz
open Go Go.Am Go.Proofs Go.Sort Go.Shelf
set_option maxRecDepth 100000
set_option linter.unusedSimpArgs false
set_option linter.unusedVariables false

/-- Which entries have come: their places; those that have not. -/
structure Came (ents : List MapEntry) (ks : List St) (seen : Array Nat) (pre : List St) (idx rest : List Nat) : Prop where
  perm : (idx ++ rest).Perm (List.range ks.length)
  pre_ : pre = idx.map fun i => ks.getD i (0, 0)
  seen_ : seen.toList = idx.map fun i => (ents[i]?.map (·.born)).getD 0

theorem born_inj {ents : List MapEntry} {clock : Nat} (h : Born ents clock) {i j : Nat} {e e' : MapEntry} (hi : ents[i]? = some e) (hj : ents[j]? = some e') (he : e.born = e'.born) : i = j := by
  obtain ⟨hil, rfl⟩ := List.getElem?_eq_some_iff.mp hi
  obtain ⟨hjl, rfl⟩ := List.getElem?_eq_some_iff.mp hj
  have hp := h.1
  rw [List.pairwise_iff_getElem] at hp
  rcases Nat.lt_trichotomy i j with h1 | h1 | h1
  · have := hp i j (by simpa using hil) (by simpa using hjl) h1
    simp only [List.getElem_map] at this
    omega
  · exact h1
  · have := hp j i (by simpa using hjl) (by simpa using hil) h1
    simp only [List.getElem_map] at this
    omega

theorem Came.done {ents : List MapEntry} {clock : Nat} {ks : List St} {seen : Array Nat} {pre : List St} {idx rest : List Nat} (h : Came ents ks seen pre idx rest) (hb : Born ents clock) (hl : ents.length = ks.length) (hf : ents.filter (notSeen seen) = []) : pre.Perm ks := by
  have hr : rest = [] := by
    cases hrr : rest with
    | nil => rfl
    | cons j rs =>
      exfalso
      have hp := h.perm
      rw [hrr] at hp
      have hj : j < ents.length := by
        have : j ∈ List.range ks.length := hp.mem_iff.mp (by simp)
        rw [hl]; simpa using this
      have hnd : (idx ++ j :: rs).Nodup := hp.nodup_iff.mpr List.nodup_range
      have : ents[j] ∈ ents.filter (notSeen seen) := by
        rw [List.mem_filter]
        refine ⟨List.getElem_mem hj, ?_⟩
        unfold notSeen
        rw [Bool.not_eq_true', ← Bool.not_eq_true]
        intro hc
        rw [Array.contains_iff_mem, ← Array.mem_toList_iff, h.seen_, List.mem_map] at hc
        obtain ⟨i, hi, hie⟩ := hc
        have hil : i < ents.length := by
          have : i ∈ List.range ks.length := hp.mem_iff.mp (by simp [hi])
          rw [hl]; simpa using this
        rw [List.getElem?_eq_getElem hil] at hie
        simp only [Option.map_some, Option.getD_some] at hie
        have := born_inj hb (List.getElem?_eq_getElem hil) (List.getElem?_eq_getElem hj) hie
        subst this
        rw [List.nodup_append] at hnd
        exact hnd.2.2 _ hi _ (List.mem_cons_self ..) rfl
      rw [hf] at this
      cases this
  have hp := h.perm
  rw [hr, List.append_nil] at hp
  rw [h.pre_]
  have h2 := hp.map fun i => ks.getD i (0, 0)
  refine h2.trans (List.Perm.of_eq ?_)
  apply List.ext_getElem
  · simp
  · intro i h1 h2
    simp [List.getD_eq_getElem?_getD, List.getElem?_eq_getElem (show i < ks.length by simpa using h2)]

theorem Came.step {ents : List MapEntry} {ks : List St} {seen : Array Nat} {pre : List St} {idx rest : List Nat} (h : Came ents ks seen pre idx rest) (hl : ents.length = ks.length) {i : Nat} {e : MapEntry} (hi : ents[i]? = some e) (hn : notSeen seen e = true) :
    i ∈ rest ∧ Came ents ks (seen.push e.born) (pre ++ [ks.getD i (0, 0)]) (idx ++ [i]) (rest.erase i) := by
  obtain ⟨hil, hie⟩ := List.getElem?_eq_some_iff.mp hi
  have hr : i ∈ rest := by
    have hm : i ∈ idx ++ rest := h.perm.mem_iff.mpr (by simp; omega)
    rcases List.mem_append.mp hm with hm | hm
    · exfalso
      unfold notSeen at hn
      rw [Bool.not_eq_true', ← Bool.not_eq_true] at hn
      apply hn
      rw [Array.contains_iff_mem, ← Array.mem_toList_iff, h.seen_, List.mem_map]
      exact ⟨i, hm, by rw [hi]; rfl⟩
    · exact hm
  refine ⟨hr, ?_, by rw [h.pre_]; simp, by rw [Array.toList_push, h.seen_]; simp [hi]⟩
  refine List.Perm.trans ?_ h.perm
  rw [List.append_assoc]
  exact List.Perm.append_left idx (List.perm_cons_erase hr).symm

theorem Keys_loop (b bx bm it : Nat) (ro : Bool) (es : List (V × V)) (ents : List MapEntry) (clock : Nat) (ks : List St) (hks : ∀ (i : Nat) (kv : V × V), es[i]? = some kv → kv.1 = V.agg (stC (ks.getD i (0, 0)))) (hl : ents.length = ks.length) (hborn : Born ents clock) (J Jx : List St → Mem → Prop) (M0 : Mem)
    (hG : ∀ pre M, J pre M → M.get bx = some (.cells [.map (some bm)] ro) ∧ M.get bm = some (.rmap es ents clock)) (hps : ∀ pre M o o', J pre M → J pre ((M.push o).set M.next o')) (hit0 : M0.next ≤ it)
    (hset : ∀ pre M' c b s n l, J pre M' → M0.next ≤ c → isIter M' c → J pre (M'.set c (.mapIter b s n l)))
    (hY : ∀ pre x M', J pre M' → pre.length < ks.length → XYield Tryz.prog gl0 b [.agg (stC x)] M' fun v M'' => (v = .bool true ∧ J (pre ++ [x]) M'' ∧ M'.next ≤ M''.next ∧ ∀ c, c < M'.next → isIter M' c → M''.get c = M'.get c) ∨ (v = .bool false ∧ Jx (pre ++ [x]) M''))
    (Q : XQ) (hQ : ∀ fr M xs, xs.Perm ks → J xs M → Q (.exit 0) fr M) (hQx : ∀ pre fr M, Jx pre M → Q .ret fr M) :
    ∀ (f : Nat) (idx rest : List Nat) (seen : Array Nat) (pre : List St) (fr : Fr) (M : Mem), rest.length = f → Came ents ks seen pre idx rest → J pre M → it < M.next → M.get it = some (.mapIter (some bm) clock seen clock) → fr.rd 0 = .yld b → fr.rd 5 = .ptr (some (it, 0)) →
    roundsX (WX Tryz.prog gl0 14 X_maps_Keys_Stamp_Spot_c1_4 false) (f + 1) fr M Q := by
  intro f
  induction f with
  | zero =>
    intro idx rest seen pre fr M hf hC hJ hlt hit h0 h5
    rw [rounds_x_succ]
    refine xw_of ?_
    unfold X_maps_Keys_Stamp_Spot_c1_4
    simp -dsimp only [↓x_seq', ↓x_ops, ↓x_skip, ↓x_ret, ↓x_exit, ↓x_block', ↓x_cond', cond_true', cond_false', ↓i_nil, ↓i_plain, ↓i_guard, xs_val, xs_call, xs_yield, xg_true, xg_false, ↓n_normal, ↓n_ret, ↓n_exit, ↓b_normal, ↓b_ret, ↓b_exit, ↓xe_normal, ↓xe_ret, e_some, yieldOf, go_sem, ↓reduceIte, Nat.reduceEqDiff, Nat.reduceLT, Nat.reduceSub, X_maps_Keys_Stamp_Spot_c1_0, X_maps_Keys_Stamp_Spot_c1_1, X_maps_Keys_Stamp_Spot_c1_2, X_maps_Keys_Stamp_Spot_c1_3]
    refine i_next (it := it) (b := bm) (clock := clock) (seen := seen) (show fr.rd 5 = _ from h5) hit (hG _ _ hJ).2 ?_ ?_
    · intro hfil
      simp -dsimp only [↓x_seq', ↓x_ops, ↓x_skip, ↓x_ret, ↓x_exit, ↓x_block', ↓x_cond', cond_true', cond_false', ↓i_nil, ↓i_plain, ↓i_guard, xs_val, xs_call, xs_yield, xg_true, xg_false, ↓n_normal, ↓n_ret, ↓n_exit, ↓b_normal, ↓b_ret, ↓b_exit, ↓xe_normal, ↓xe_ret, e_some, yieldOf, go_sem, ↓reduceIte, Nat.reduceEqDiff, Nat.reduceLT, Nat.reduceSub, X_maps_Keys_Stamp_Spot_c1_0, X_maps_Keys_Stamp_Spot_c1_1, X_maps_Keys_Stamp_Spot_c1_2, X_maps_Keys_Stamp_Spot_c1_3, List.getElem?_cons_zero]
      exact hQ _ _ _ (hC.done hborn hl hfil) hJ
    · intro i e kv hi hn hkv
      have := (hC.step hl hi hn).1
      rw [List.eq_nil_of_length_eq_zero hf] at this
      cases this
  | succ f ih =>
    intro idx rest seen pre fr M hf hC hJ hlt hit h0 h5
    rw [rounds_x_succ]
    refine xw_of ?_
    unfold X_maps_Keys_Stamp_Spot_c1_4
    simp -dsimp only [↓x_seq', ↓x_ops, ↓x_skip, ↓x_ret, ↓x_exit, ↓x_block', ↓x_cond', cond_true', cond_false', ↓i_nil, ↓i_plain, ↓i_guard, xs_val, xs_call, xs_yield, xg_true, xg_false, ↓n_normal, ↓n_ret, ↓n_exit, ↓b_normal, ↓b_ret, ↓b_exit, ↓xe_normal, ↓xe_ret, e_some, yieldOf, go_sem, ↓reduceIte, Nat.reduceEqDiff, Nat.reduceLT, Nat.reduceSub, X_maps_Keys_Stamp_Spot_c1_0, X_maps_Keys_Stamp_Spot_c1_1, X_maps_Keys_Stamp_Spot_c1_2, X_maps_Keys_Stamp_Spot_c1_3]
    refine i_next (it := it) (b := bm) (clock := clock) (seen := seen) (show fr.rd 5 = _ from h5) hit (hG _ _ hJ).2 ?_ ?_
    · intro hfil
      simp -dsimp only [↓x_seq', ↓x_ops, ↓x_skip, ↓x_ret, ↓x_exit, ↓x_block', ↓x_cond', cond_true', cond_false', ↓i_nil, ↓i_plain, ↓i_guard, xs_val, xs_call, xs_yield, xg_true, xg_false, ↓n_normal, ↓n_ret, ↓n_exit, ↓b_normal, ↓b_ret, ↓b_exit, ↓xe_normal, ↓xe_ret, e_some, yieldOf, go_sem, ↓reduceIte, Nat.reduceEqDiff, Nat.reduceLT, Nat.reduceSub, X_maps_Keys_Stamp_Spot_c1_0, X_maps_Keys_Stamp_Spot_c1_1, X_maps_Keys_Stamp_Spot_c1_2, X_maps_Keys_Stamp_Spot_c1_3, List.getElem?_cons_zero]
      exact hQ _ _ _ (hC.done hborn hl hfil) hJ
    · intro i e kv hi hn hkv
      obtain ⟨hir, hC'⟩ := hC.step hl hi hn
      have hk1 := hks i kv hkv
      have hJ1 := hset pre M it (some bm) clock (seen.push e.born) clock hJ hit0 ⟨_, _, _, _, hit⟩
      have hit1 : (M.set it (.mapIter (some bm) clock (seen.push e.born) clock)).get it = some (.mapIter (some bm) clock (seen.push e.born) clock) := Mem.get_set_same _ _ _
      have hn1 : (M.set it (.mapIter (some bm) clock (seen.push e.born) clock)).next = M.next := rfl
      generalize M.set it (.mapIter (some bm) clock (seen.push e.born) clock) = M1 at *
      simp -dsimp only [↓x_seq', ↓x_ops, ↓x_skip, ↓x_ret, ↓x_exit, ↓x_block', ↓x_cond', cond_true', cond_false', ↓i_nil, ↓i_plain, ↓i_guard, xs_val, xs_call, xs_yield, xg_true, xg_false, ↓n_normal, ↓n_ret, ↓n_exit, ↓b_normal, ↓b_ret, ↓b_exit, ↓xe_normal, ↓xe_ret, e_some, yieldOf, go_sem, ↓reduceIte, Nat.reduceEqDiff, Nat.reduceLT, Nat.reduceSub, X_maps_Keys_Stamp_Spot_c1_0, X_maps_Keys_Stamp_Spot_c1_1, X_maps_Keys_Stamp_Spot_c1_2, X_maps_Keys_Stamp_Spot_c1_3, List.getElem?_cons_zero]
      refine i_entry (it := it) (b := bm) (since := clock) (clock := clock) (seen := seen.push e.born) (by simp only [go_sem, ↓reduceIte, Nat.reduceEqDiff, Nat.reduceLT, Nat.reduceSub, h5]) hit1 (hG _ _ hJ1).2 i e kv hi (by simp) hkv ?_
      rw [hk1]
      have hw0 := write_full (M := M1.push (.cells [.int .i64 0, .int .i64 0] false)) (b := M1.next) (vs := stC (ks.getD i (0, 0))) (Mem.get_push_same _ _) rfl rfl
      have hrd2 : rdCells (stC (ks.getD i (0, 0))) 0 2 = some (stC (ks.getD i (0, 0))) := rfl
      simp -dsimp only [↓x_seq', ↓x_ops, ↓x_skip, ↓x_ret, ↓x_exit, ↓x_block', ↓x_cond', cond_true', cond_false', ↓i_nil, ↓i_plain, ↓i_guard, xs_val, xs_call, xs_yield, xg_true, xg_false, ↓n_normal, ↓n_ret, ↓n_exit, ↓b_normal, ↓b_ret, ↓b_exit, ↓xe_normal, ↓xe_ret, e_some, yieldOf, go_sem, ↓reduceIte, Nat.reduceEqDiff, Nat.reduceLT, Nat.reduceSub, X_maps_Keys_Stamp_Spot_c1_0, X_maps_Keys_Stamp_Spot_c1_1, X_maps_Keys_Stamp_Spot_c1_2, X_maps_Keys_Stamp_Spot_c1_3, h0, List.getElem?_cons_zero, vstore, V.cells, stC_len, hw0, vload, Mem.read, Mem.get_set_same, hrd2, Nat.reduceEqDiff]
      have hJ2 := hps _ _ (.cells [.int .i64 0, .int .i64 0] false) (.cells (stC (ks.getD i (0, 0))) false) hJ1
      have hti : pre.length < ks.length := by
        have h1 := hC.perm.length_eq
        have h2 : rest.length = f + 1 := hf
        rw [hC.pre_, List.length_map]
        simp at h1
        omega
      refine xyield_of (hY _ (ks.getD i (0, 0)) _ hJ2 hti) ?_
      have hit2 : ((M1.push (.cells [.int .i64 0, .int .i64 0] false)).set M1.next (.cells (stC (ks.getD i (0, 0))) false)).get it = some (.mapIter (some bm) clock (seen.push e.born) clock) := by
        rw [Mem.get_set_ne _ _ (by omega), Mem.get_push_ne _ _ (by omega)]; exact hit1
      rintro v M2 (⟨rfl, hJ3, hn3, hk3⟩ | ⟨rfl, hJ3⟩)
      · simp -dsimp only [↓x_seq', ↓x_ops, ↓x_skip, ↓x_ret, ↓x_exit, ↓x_block', ↓x_cond', cond_true', cond_false', ↓i_nil, ↓i_plain, ↓i_guard, xs_val, xs_call, xs_yield, xg_true, xg_false, ↓n_normal, ↓n_ret, ↓n_exit, ↓b_normal, ↓b_ret, ↓b_exit, ↓xe_normal, ↓xe_ret, e_some, yieldOf, go_sem, ↓reduceIte, Nat.reduceEqDiff, Nat.reduceLT, Nat.reduceSub, X_maps_Keys_Stamp_Spot_c1_0, X_maps_Keys_Stamp_Spot_c1_1, X_maps_Keys_Stamp_Spot_c1_2, X_maps_Keys_Stamp_Spot_c1_3]
        have hnn : ((M1.push (.cells [.int .i64 0, .int .i64 0] false)).set M1.next (.cells (stC (ks.getD i (0, 0))) false)).next = M1.next + 1 := rfl
        rw [hnn] at hn3 hk3
        refine ih (idx ++ [i]) (rest.erase i) (seen.push e.born) _ _ M2 (by rw [List.length_erase_of_mem hir]; omega) hC' hJ3 (by omega) ((hk3 it (by omega) ⟨_, _, _, _, hit2⟩).trans hit2) ?_ ?_
        all_goals simp only [go_sem, ↓reduceIte, Nat.reduceEqDiff, Nat.reduceLT, Nat.reduceSub, h0, h5]
      · simp -dsimp only [↓x_seq', ↓x_ops, ↓x_skip, ↓x_ret, ↓x_exit, ↓x_block', ↓x_cond', cond_true', cond_false', ↓i_nil, ↓i_plain, ↓i_guard, xs_val, xs_call, xs_yield, xg_true, xg_false, ↓n_normal, ↓n_ret, ↓n_exit, ↓b_normal, ↓b_ret, ↓b_exit, ↓xe_normal, ↓xe_ret, e_some, yieldOf, go_sem, ↓reduceIte, Nat.reduceEqDiff, Nat.reduceLT, Nat.reduceSub, X_maps_Keys_Stamp_Spot_c1_0, X_maps_Keys_Stamp_Spot_c1_1, X_maps_Keys_Stamp_Spot_c1_2, X_maps_Keys_Stamp_Spot_c1_3]
        exact hQx _ _ _ hJ3
end Go.Am.Tryz


/- slices.SortedFunc of a map's keys, as a part. -/
namespace Go.Am.Tryz
open Go Go.Am Go.Proofs Go.Sort Go.Shelf
set_option maxRecDepth 100000
set_option linter.unusedSimpArgs false
set_option linter.unusedVariables false

theorem Keys_seq (bx bm : Nat) (ro : Bool) (es : List (V × V)) (ents : List MapEntry) (clock : Nat) (ks : List St) (hks : ∀ (i : Nat) (kv : V × V), es[i]? = some kv → kv.1 = V.agg (stC (ks.getD i (0, 0)))) (hl : ents.length = ks.length) (hborn : Born ents clock) :
    SeqX Tryz.prog gl0 F_maps_Keys_Stamp_Spot_c1 [] [.ptr (some (bx, 0))] (fun x => .agg (stC x)) (fun M => M.get bx = some (.cells [.map (some bm)] ro) ∧ M.get bm = some (.rmap es ents clock)) (fun ys => ys.Perm ks) (fun _ => True) ks.length := by
  intro b J Jx M hG hp hps hi hY hJ
  refine XRuns.walk mixed Tryz.func143 b_maps_Keys_Stamp_Spot_c1 n_maps_Keys_Stamp_Spot_c1 r_maps_Keys_Stamp_Spot_c1 (by rfl) ?_
  unfold X_maps_Keys_Stamp_Spot_c1
  obtain ⟨h1, h2⟩ := hG _ _ hJ
  simp -dsimp only [↓x_seq', ↓x_ops, ↓x_skip, ↓x_ret, ↓x_exit, ↓x_block', ↓x_cond', cond_true', cond_false', ↓i_nil, ↓i_plain, ↓i_guard, xs_val, xs_call, xs_yield, xg_true, xg_false, ↓n_normal, ↓n_ret, ↓n_exit, ↓b_normal, ↓b_ret, ↓b_exit, ↓xe_normal, ↓xe_ret, e_some, yieldOf, go_sem, ↓reduceIte, Nat.reduceEqDiff, Nat.reduceLT, Nat.reduceSub, X_maps_Keys_Stamp_Spot_c1_0, X_maps_Keys_Stamp_Spot_c1_1, X_maps_Keys_Stamp_Spot_c1_2, X_maps_Keys_Stamp_Spot_c1_3, Int.lt_irrefl, true_and, and_true, false_and, and_false, and_self, same_two, same_sib, same_spot, vload, vptr, vof, V.cells, Mem.read, rdCells, Mem.get_push, Mem.next_push, Nat.left_eq_add, Nat.add_eq_left, Nat.add_left_cancel_iff, Nat.add_right_cancel_iff, Nat.reduceAdd, Nat.add_zero, Nat.zero_add, Nat.add_assoc, Nat.reduceLeDiff, Nat.reduceBEq, List.length_cons, List.length_nil, List.drop_zero, List.drop_succ_cons, List.take_succ_cons, List.take_zero, List.take_nil, List.drop_nil, List.getElem?_cons_zero, List.getElem?_cons_succ, reduceCtorEq, Nat.succ_ne_self, Nat.one_ne_zero, Nat.le_refl, ne_eq, not_false_eq_true, List.singleton_append, h1]
  refine i_range (b := bm) (clock := clock) (by simp only [go_sem, ↓reduceIte, Nat.reduceEqDiff, Nat.reduceLT, Nat.reduceSub]) h2 ?_
  have hJ1 := hp [] M (.mapIter (some bm) clock #[] clock) hJ
  have hit : (M.push (.mapIter (some bm) clock #[] clock)).get M.next = some (.mapIter (some bm) clock #[] clock) := Mem.get_push_same _ _
  simp -dsimp only [↓x_seq', ↓x_ops, ↓x_skip, ↓x_ret, ↓x_exit, ↓x_block', ↓x_cond', cond_true', cond_false', ↓i_nil, ↓i_plain, ↓i_guard, xs_val, xs_call, xs_yield, xg_true, xg_false, ↓n_normal, ↓n_ret, ↓n_exit, ↓b_normal, ↓b_ret, ↓b_exit, ↓xe_normal, ↓xe_ret, e_some, yieldOf, go_sem, ↓reduceIte, Nat.reduceEqDiff, Nat.reduceLT, Nat.reduceSub]
  refine ⟨ks.length + 1, Keys_loop b bx bm M.next ro es ents clock ks hks hl hborn J Jx M hG hps (Nat.le_refl _) hi hY _ ?_ ?_ ks.length [] (List.range ks.length) #[] [] _ _ (by simp) ⟨by simp, rfl, rfl⟩ hJ1 (by simp) hit ?_ ?_⟩
  · intro fr M' xs hx h
    simp -dsimp only [↓x_seq', ↓x_ops, ↓x_skip, ↓x_ret, ↓x_exit, ↓x_block', ↓x_cond', cond_true', cond_false', ↓i_nil, ↓i_plain, ↓i_guard, xs_val, xs_call, xs_yield, xg_true, xg_false, ↓n_normal, ↓n_ret, ↓n_exit, ↓b_normal, ↓b_ret, ↓b_exit, ↓xe_normal, ↓xe_ret, e_some, yieldOf, go_sem, ↓reduceIte, Nat.reduceEqDiff, Nat.reduceLT, Nat.reduceSub]
    exact .inl ⟨xs, hx, h⟩
  · intro pre fr M' h
    simp -dsimp only [↓x_seq', ↓x_ops, ↓x_skip, ↓x_ret, ↓x_exit, ↓x_block', ↓x_cond', cond_true', cond_false', ↓i_nil, ↓i_plain, ↓i_guard, xs_val, xs_call, xs_yield, xg_true, xg_false, ↓n_normal, ↓n_ret, ↓n_exit, ↓b_normal, ↓b_ret, ↓b_exit, ↓xe_normal, ↓xe_ret, e_some, yieldOf, go_sem, ↓reduceIte, Nat.reduceEqDiff, Nat.reduceLT, Nat.reduceSub]
    exact .inr ⟨pre, trivial, h⟩
  all_goals simp only [go_sem, ↓reduceIte, Nat.reduceEqDiff, Nat.reduceLT, Nat.reduceSub]

theorem SortFunc_hold {lo : Nat} {M : Mem} {s : V} {xs : List St} (h : Hold lo M 2 s xs.length (elSt.all xs)) (hn : xs.length ≤ maxRoom) :
    Runs D1 F_slices_SortFunc_Stamp [s, .fn F_stamp_Compare [] []] M fun v M' => Hold lo M' 2 s xs.length (elSt.all (isort ltSt xs)) ∧ (∀ c, c < lo → M'.get c = M.get c) := by
  have hd := elSt.decs_all xs
  have hl := elSt.all_len (isort ltSt xs)
  rw [isort_len] at hl
  generalize hq : xs.length = n at *
  generalize hc : elSt.all xs = cs at *
  cases h with
  | nil =>
    have : xs = [] := List.eq_nil_of_length_eq_zero hq
    subst this
    exact Runs.prim rfl rfl ⟨.nil, fun _ _ => rfl⟩
  | row h1 h2 h3 h4 =>
    rename_i b
    refine Runs.prim (v := .tup []) (M' := M.set b (.cells (elSt.all (isort ltSt xs)) false)) rfl ?_ ⟨.row (Mem.get_set_same _ _ _) hl h3 (by simpa using h4), fun c hc => Mem.get_set_ne _ _ (by omega)⟩
    simp only [sortP, Nat.beq_refl, cond_true, ble_iff, decide_eq_true hn, h1, hd, Option.map_some]

theorem SortedFunc_runs {f : FuncId} {first captured : List V} {G : Mem → Prop} {S Sp : List St → Prop} {N : Nat} (hseq : SeqP f first captured (fun x => .agg (stC x)) G S Sp N) (hN : (N + 1) * 16 ≤ maxRoom) (hS : ∀ xs, S xs → xs.length ≤ maxRoom) (M : Mem)
    (hG : ∀ M', (∀ c, c < M.next → M'.get c = M.get c) → M.next ≤ M'.next → G M') :
    XP F_slices_SortedFunc_Stamp [.fn f first captured, .fn F_stamp_Compare [] []] M fun v M' => ∃ xs, S xs ∧ (∀ c, c < M.next → M'.get c = M.get c) ∧ Hold M.next M' 2 v xs.length (elSt.all (isort ltSt xs)) ∧ (xs = [] → v = .slice none 0 (.exact 0)) := by
  refine XRuns.walk mixed Tryz.func115 b_slices_SortedFunc_Stamp n_slices_SortedFunc_Stamp r_slices_SortedFunc_Stamp (by rfl) ?_
  unfold X_slices_SortedFunc_Stamp
  simp -dsimp only [↓x_seq', ↓x_ops, ↓x_skip, ↓x_ret, ↓x_exit, ↓x_block', ↓x_cond', cond_true', cond_false', ↓i_nil, ↓i_plain, ↓i_guard, xs_val, xs_call, xs_yield, xg_true, xg_false, ↓n_normal, ↓n_ret, ↓n_exit, ↓b_normal, ↓b_ret, ↓b_exit, ↓xe_normal, ↓xe_ret, e_some, yieldOf, go_sem, ↓reduceIte, Nat.reduceEqDiff, Nat.reduceLT, Nat.reduceSub, X_slices_SortedFunc_Stamp_0, X_slices_SortedFunc_Stamp_1, X_slices_SortedFunc_Stamp_2, X_slices_SortedFunc_Stamp_3, Int.lt_irrefl, true_and, and_true, false_and, and_false, and_self, same_two, same_sib, same_spot, vload, vptr, vof, V.cells, Mem.read, rdCells, Mem.get_push, Mem.next_push, Nat.left_eq_add, Nat.add_eq_left, Nat.add_left_cancel_iff, Nat.add_right_cancel_iff, Nat.reduceAdd, Nat.add_zero, Nat.zero_add, Nat.add_assoc, Nat.reduceLeDiff, Nat.reduceBEq, List.length_cons, List.length_nil, List.drop_zero, List.drop_succ_cons, List.take_succ_cons, List.take_zero, List.take_nil, List.drop_nil, List.getElem?_cons_zero, List.getElem?_cons_succ, reduceCtorEq, Nat.succ_ne_self, Nat.one_ne_zero, Nat.le_refl, ne_eq, not_false_eq_true]
  refine xcall_of (Collect_runs hseq hN M hG) ?_
  rintro v M1 ⟨xs, h1, h2, h3, h6⟩
  simp -dsimp only [↓x_seq', ↓x_ops, ↓x_skip, ↓x_ret, ↓x_exit, ↓x_block', ↓x_cond', cond_true', cond_false', ↓i_nil, ↓i_plain, ↓i_guard, xs_val, xs_call, xs_yield, xg_true, xg_false, ↓n_normal, ↓n_ret, ↓n_exit, ↓b_normal, ↓b_ret, ↓b_exit, ↓xe_normal, ↓xe_ret, e_some, yieldOf, go_sem, ↓reduceIte, Nat.reduceEqDiff, Nat.reduceLT, Nat.reduceSub, X_slices_SortedFunc_Stamp_0, X_slices_SortedFunc_Stamp_1, X_slices_SortedFunc_Stamp_2, X_slices_SortedFunc_Stamp_3, Int.lt_irrefl, true_and, and_true, false_and, and_false, and_self, same_two, same_sib, same_spot, vload, vptr, vof, V.cells, Mem.read, rdCells, Mem.get_push, Mem.next_push, Nat.left_eq_add, Nat.add_eq_left, Nat.add_left_cancel_iff, Nat.add_right_cancel_iff, Nat.reduceAdd, Nat.add_zero, Nat.zero_add, Nat.add_assoc, Nat.reduceLeDiff, Nat.reduceBEq, List.length_cons, List.length_nil, List.drop_zero, List.drop_succ_cons, List.take_succ_cons, List.take_zero, List.take_nil, List.drop_nil, List.getElem?_cons_zero, List.getElem?_cons_succ, reduceCtorEq, Nat.succ_ne_self, Nat.one_ne_zero, Nat.le_refl, ne_eq, not_false_eq_true]
  refine xcall_of (XRuns.of_runs dok1 (SortFunc_hold h3 (hS xs h1))) ?_
  rintro v2 M2 ⟨h4, h5⟩
  simp -dsimp only [↓x_seq', ↓x_ops, ↓x_skip, ↓x_ret, ↓x_exit, ↓x_block', ↓x_cond', cond_true', cond_false', ↓i_nil, ↓i_plain, ↓i_guard, xs_val, xs_call, xs_yield, xg_true, xg_false, ↓n_normal, ↓n_ret, ↓n_exit, ↓b_normal, ↓b_ret, ↓b_exit, ↓xe_normal, ↓xe_ret, e_some, yieldOf, go_sem, ↓reduceIte, Nat.reduceEqDiff, Nat.reduceLT, Nat.reduceSub, X_slices_SortedFunc_Stamp_0, X_slices_SortedFunc_Stamp_1, X_slices_SortedFunc_Stamp_2, X_slices_SortedFunc_Stamp_3, Int.lt_irrefl, true_and, and_true, false_and, and_false, and_self, same_two, same_sib, same_spot, vload, vptr, vof, V.cells, Mem.read, rdCells, Mem.get_push, Mem.next_push, Nat.left_eq_add, Nat.add_eq_left, Nat.add_left_cancel_iff, Nat.add_right_cancel_iff, Nat.reduceAdd, Nat.add_zero, Nat.zero_add, Nat.add_assoc, Nat.reduceLeDiff, Nat.reduceBEq, List.length_cons, List.length_nil, List.drop_zero, List.drop_succ_cons, List.take_succ_cons, List.take_zero, List.take_nil, List.drop_nil, List.getElem?_cons_zero, List.getElem?_cons_succ, reduceCtorEq, Nat.succ_ne_self, Nat.one_ne_zero, Nat.le_refl, ne_eq, not_false_eq_true]
  exact ⟨xs, h1, fun c hc => (h5 c hc).trans (h2 c hc), h4, h6⟩


theorem sorted_unique : ∀ {l l' : List St}, l.Pairwise (fun a b => ltSt b a = false) → l'.Pairwise (fun a b => ltSt b a = false) → l.Perm l' → l = l'
  | [], l', _, _, hp => hp.nil_eq
  | a :: l, [], _, _, hp => absurd hp.length_eq (by simp)
  | a :: l, b :: l', h, h', hp => by
    have hab : a = b := by
      have ha : a ∈ b :: l' := hp.mem_iff.mp (List.mem_cons_self ..)
      have hb : b ∈ a :: l := hp.mem_iff.mpr (List.mem_cons_self ..)
      rcases List.mem_cons.mp ha with e | ha
      · exact e
      rcases List.mem_cons.mp hb with e | hb
      · exact e.symm
      exact tot_St _ _ ((List.pairwise_cons.mp h').1 a ha) ((List.pairwise_cons.mp h).1 b hb)
    subst hab
    rw [sorted_unique (List.pairwise_cons.mp h).2 (List.pairwise_cons.mp h').2 (List.Perm.cons_inv hp)]
theorem isort_perm_eq {l l' : List St} (h : l.Perm l') : isort ltSt l = isort ltSt l' :=
  sorted_unique (isort_sorted swo_St l) (isort_sorted swo_St l') (((isort_perm ltSt l).trans h).trans (isort_perm ltSt l').symm)

/-- A map's keys, as stamps. -/
def keysOf : List (V × V) → Option (List St)
  | [] => some []
  | (.agg [.int .i64 a, .int .i64 b], _) :: r => (keysOf r).map ((a, b) :: ·)
  | _ :: _ => none
theorem keysOf_is : ∀ {es : List (V × V)} {ks : List St}, keysOf es = some ks → ks.length = es.length ∧ ∀ (i : Nat) (kv : V × V), es[i]? = some kv → kv.1 = V.agg (stC (ks.getD i (0, 0)))
  | [], ks, h => by
    cases h
    exact ⟨rfl, fun i kv h => by simp at h⟩
  | x :: r, ks, h => by
    unfold keysOf at h
    split at h
    · rename_i h'; cases h'
    · rename_i a b v r' he
      cases he
      simp only [Option.map_eq_some_iff] at h
      obtain ⟨ks', h1, rfl⟩ := h
      obtain ⟨h2, h3⟩ := keysOf_is h1
      refine ⟨by simp [h2], fun i kv hi => ?_⟩
      cases i with
      | zero => simp at hi; subst hi; rfl
      | succ i =>
        simp only [List.getElem?_cons_succ] at hi
        have := h3 i kv hi
        rw [this]
        simp [List.getD_eq_getElem?_getD]
    · cases h

/-- What a map's keys come to, sorted. -/
def pSortedK (args : List V) (M : Mem) : Option KeepR :=
  match args with
  | [.fn f1 [] [.ptr (some (bx, 0))], .fn f2 [] []] => cond (Nat.beq f1 F_maps_Keys_Stamp_Spot_c1) (cond (Nat.beq f2 F_stamp_Compare) (match M.get bx with
    | some (.cells [.map (some bm)] _) => (match M.get bm with
      | some (.map es) => (keysOf es).bind fun ks => cond (Nat.ble ((ks.length + 1) * 16) maxRoom) (some (match ks with
        | [] => .flat (.slice none 0 (.exact 0))
        | x :: xs => .row (xs.length + 1) 2 (elSt.all (isort ltSt (x :: xs))))) none
      | _ => none)
    | _ => none) none) none
  | _ => none
end Go.Am.Tryz


/- The keys sorted, as a part of the machine. -/
namespace Go.Am.Tryz
open Go Go.Am Go.Proofs Go.Sort Go.Shelf
set_option maxRecDepth 100000
set_option linter.unusedSimpArgs false
set_option linter.unusedVariables false

theorem pSortedK_ok : CallOK Tryz.prog gl0 fun f' args M => if f' = F_slices_SortedFunc_Stamp then (pSortedK args M).map fun r => r.res M else none := by
  refine callOK_keep ⟨_, Tryz.func115, (by kernel_rfl), (by kernel_rfl)⟩ ?_
  intro args M r h hwf
  unfold pSortedK at h
  split at h
  · rename_i f1 bx f2
    obtain ⟨e1, h1⟩ := cond_some h
    clear h
    obtain ⟨e2, h⟩ := cond_some h1
    clear h1
    obtain rfl : f1 = F_maps_Keys_Stamp_Spot_c1 := Nat.eq_of_beq_eq_true e1
    obtain rfl : f2 = F_stamp_Compare := Nat.eq_of_beq_eq_true e2
    split at h
    · rename_i bm ro hbx
      split at h
      · rename_i es hbm
        simp only [Option.bind_eq_some_iff] at h
        obtain ⟨ks, hks, h⟩ := h
        obtain ⟨hl, h⟩ := cond_some h
        rw [ble_iff, decide_eq_true_eq] at hl
        obtain ⟨hlen, hkey⟩ := keysOf_is hks
        have hne : bx ≠ bm := by rintro rfl; rw [hbx] at hbm; cases hbm
        refine ⟨[bm], fun E w us hR hA b hb => ?_, fun Mz hz => ?_⟩
        · simp only [List.mem_singleton] at hb
          subst hb
          refine ⟨⟨es, hbm⟩, ?_⟩
          cases hA with
          | cons h1 t =>
            cases h1 with
            | fn ha hb =>
              rename_i b'
              generalize hq : b'.toList = q at hb
              cases hb with
              | cons h2 t2 =>
                cases h2 with
                | ptr hE =>
                  obtain ⟨o, ho, hr⟩ := hR.at_ _ _ _ _ hE
                  rw [hbx] at ho
                  cases ho
                  obtain ⟨arr, elem, fz, hx, hCR, _⟩ := hr
                  obtain ⟨u, hu, hv⟩ := hCR 0 _ rfl
                  cases hv with
                  | map hE2 => exact ⟨_, hE2⟩
        · obtain ⟨es', ents, clock, hz1, hz2, hz3, hz4⟩ := hz.at_ bm (by simp)
          rw [hbm] at hz1
          cases hz1
          have hlt : ∀ c o, Mz.get c = some o → c < Mz.next := fun c o hc => by
            rcases Nat.lt_or_ge c Mz.next with h1 | h1
            · exact h1
            · by_cases hcb : c = bm
              · subst hcb
                rw [hwf c (by rw [← hz.next]; exact h1)] at hbm; cases hbm
              · rw [hz.other c (by simpa using hcb), hwf c (by rw [← hz.next]; exact h1)] at hc; cases hc
          have hbz : Mz.get bx = some (.cells [.map (some bm)] ro) := (hz.other bx (by simpa using hne)).trans hbx
          have hle : ks.length ≤ maxRoom := Nat.le_trans (by omega) hl
          refine (SortedFunc_runs (SeqP.of (Keys_seq bx bm ro es ents clock ks hkey (by omega) hz4)) hl (fun ys h => by rw [h.length_eq]; exact hle) Mz ?_).mono ?_
          · intro M' hk _
            exact ⟨(hk bx (hlt _ _ hbz)).trans hbz, (hk bm (hlt _ _ hz2)).trans hz2⟩
          · rintro v M' ⟨ys, hp, h1, h2, h6⟩
            rw [isort_perm_eq hp, hp.length_eq] at h2
            cases h
            refine ⟨fun c hc => h1 c (by rw [hz.next]; exact hc), ?_⟩
            cases hx : ks with
            | nil =>
              subst hx
              exact ⟨rfl, h6 (List.Perm.eq_nil hp)⟩
            | cons x l =>
              subst hx
              refine ⟨elSt.all_flat _, ?_⟩
              generalize hq : elSt.all (isort ltSt (x :: l)) = cs at h2
              generalize hn : (x :: l).length = n at h2
              cases h2 with
              | nil => simp at hn
              | row a b c d => exact ⟨_, by rw [← hz.next]; exact c, by rw [← hn]; rfl, a⟩
      · cases h
    · cases h
  · cases h

def D1t : Decls := D1.addM F_slices_SortedFunc_Stamp (fun args M => (pSortedK args M).map fun r => r.res M)
theorem dok1t : DOK Tryz.prog gl0 D1t := dok1.addM pSortedK_ok
end Go.Am.Tryz


/- Nodes' spots in a map; what stands above. -/
namespace Go.Am.Tryz
open Go Go.Am Go.Proofs Go.Sort Go.Shelf
set_option maxRecDepth 100000
set_option linter.unusedSimpArgs false
set_option linter.unusedVariables false

abbrev Spot := St × List UInt8
def spC (s : Spot) : List V := [.int .i64 s.1.1, .int .i64 s.1.2, .str s.2]
def sp0 : Spot := ((0, 0), [])
/-- A tree's map. -/
abbrev Tr := List (St × Spot)
def encM (l : Tr) : List (V × V) := l.map fun p => (.agg (stC p.1), .agg (spC p.2))
def getS : Tr → St → Option Spot
  | [], _ => none
  | p :: r, k => if k = p.1 then some p.2 else getS r k
def idxS : Tr → St → Option Nat
  | [], _ => none
  | p :: r, k => if k = p.1 then some 0 else (idxS r k).map (· + 1)

theorem st_same (a b : St) : vsame ⟨true, [.int .i64, .int .i64]⟩ (.agg (stC a)) (.agg (stC b)) = some (decide (a = b)) := by
  obtain ⟨a1, a2⟩ := a
  obtain ⟨b1, b2⟩ := b
  simp only [stC]
  rw [same_two]
  simp [Prod.ext_iff]

theorem mapIdx_is (k : St) : ∀ l : Tr, mapIdx ⟨true, [.int .i64, .int .i64]⟩ (.agg (stC k)) (encM l) = some (idxS l k)
  | [] => rfl
  | p :: r => by
    show (match vsame _ (.agg (stC k)) (.agg (stC p.1)) with | some true => _ | some false => _ | none => _) = _
    rw [st_same]
    unfold idxS
    by_cases h : k = p.1
    · simp only [h, decide_true, if_true]
    · simp only [h, decide_false, if_false]
      have := mapIdx_is k r
      unfold encM at this
      rw [this]
      rfl
theorem idx_get (k : St) : ∀ l : Tr, ((idxS l k).bind fun i => (encM l)[i]?.map (·.2)) = (getS l k).map fun s => .agg (spC s)
  | [] => rfl
  | p :: r => by
    unfold idxS getS
    by_cases h : k = p.1
    · simp only [h, if_true]; rfl
    · simp only [h, if_false]
      rw [← idx_get k r]
      cases idxS r k <;> rfl

/-- What a look tells. -/
def lookV (o : Option Spot) : V := match o with
  | some s => .tup [.agg (spC s), .bool true]
  | none => .tup [.agg (spC sp0), .bool false]
theorem look_is {M : Mem} {b : Nat} {l : Tr} (h : mapAt M b = some (encM l)) (k : St) : vlookup ⟨true, [.int .i64, .int .i64]⟩ (.agg [.int .i64 0, .int .i64 0, .str []]) true M (.map (some b)) (.agg (stC k)) = some (lookV (getS l k)) := by
  have hok : Sh.ok ⟨true, [.int .i64, .int .i64]⟩ (.agg (stC k)) = true := rfl
  simp only [vlookup, h, Option.bind_some, hok, cond_true, mapIdx_is, Option.map_some, idx_get]
  cases getS l k <;> rfl

def upL (l : Tr) : Nat → St → Option (List St)
  | 0, _ => none
  | f + 1, n => match getS l n with
    | none => some []
    | some s => (upL l f s.1).map (s.1 :: ·)

theorem x_dops {P : Program} {gl : Nat → Bool} {n : Nat} {fr : Fr} {M : Mem} {Q : XQ} {D : Decls} (hD : DOK P gl D) {l : List Item} {q : Tg Q} (h : W D n (.ops l) fr M (Q := Q) ⟨⟩) : xw P gl n (.dops l) false fr M q := by
  obtain ⟨k, e, fr', M', hx, hq⟩ := h
  show WX P gl n (.dops l) false fr M Q
  simp only [exec, Option.map_eq_some_iff] at hx
  obtain ⟨⟨f2, m2⟩, h1, h2⟩ := hx
  cases h2
  exact ⟨rfl, callN D k, _, _, callN_sound hD k, h1, hq⟩
end Go.Am.Tryz


/- What stands above a node, handed on. -/
namespace Go.Am.Tryz
open Go Go.Am Go.Proofs Go.Sort Go.Shelf
set_option maxRecDepth 100000
set_option linter.unusedSimpArgs false
set_option linter.unusedVariables false

def PathN (l : Tr) (n : St) (r : List St) : Prop := ∃ f, upL l f n = some r
def PathO (l : Tr) : Option Spot → List St → Prop
  | none, ys => ys = []
  | some s, ys => ∃ r, ys = s.1 :: r ∧ PathN l s.1 r
theorem PathN.look {l : Tr} {n : St} {r : List St} (h : PathN l n r) : PathO l (getS l n) r := by
  obtain ⟨f, h⟩ := h
  cases f with
  | zero => cases h
  | succ f =>
    unfold upL at h
    cases hg : getS l n with
    | none => rw [hg] at h; cases h; rfl
    | some s =>
      rw [hg] at h
      simp only [Option.map_eq_some_iff] at h
      obtain ⟨r', h1, rfl⟩ := h
      exact ⟨r', rfl, f, h1⟩

theorem spC_len (s : Spot) : (spC s).length = 3 := rfl
theorem lookV_parts (o : Option Spot) : lookV o = .tup [.agg (spC (o.getD sp0)), .bool o.isSome] := by cases o <;> rfl

set_option maxHeartbeats 1000000 in
theorem Up_loop (b bt tc bm : Nat) (rt rc : Bool) (l : Tr) (N : Nat) (J Jx : List St → Mem → Prop) (M0 : Mem) (path : List St)
    (hG : ∀ pre M, J pre M → M.get bt = some (.cells [.ptr (some (tc, 0))] rt) ∧ M.get tc = some (.cells [.map (some bm)] rc) ∧ mapAt M bm = some (encM l))
    (hps : ∀ pre M o o', J pre M → J pre ((M.push o).set M.next o'))
    (hsp : ∀ pre M' c x y t, J pre M' → M0.next ≤ c → isSpot M' c → J pre (M'.set c (.cells [.int .i64 x, .int .i64 y, .str t] false)))
    (hY : ∀ pre x M', J pre M' → pre.length < N → XYield Tryz.prog gl0 b [.agg (stC x)] M' fun v M'' => (v = .bool true ∧ J (pre ++ [x]) M'' ∧ M'.next ≤ M''.next ∧ (∀ c, c < M'.next → isIter M' c → M''.get c = M'.get c) ∧ ∀ c, M0.next ≤ c → c < M'.next → isSpot M' c → M''.get c = M'.get c) ∨ (v = .bool false ∧ Jx (pre ++ [x]) M''))
    (Q : XQ) (hQ : ∀ fr M, J path M → Q (.exit 0) fr M) (hQx : ∀ pre fr M, pre <+: path → Jx pre M → Q .ret fr M) :
    ∀ (ys pre : List St) (os : Option Spot) (c4 : Nat) (fr : Fr) (M : Mem), PathO l os ys → pre ++ ys = path → path.length ≤ N → J pre M → M0.next ≤ M.next → M0.next ≤ c4 → c4 < M.next → M.get c4 = some (.cells (spC (os.getD sp0)) false) →
      fr.rd 0 = .yld b → fr.rd 1 = .ptr (some (bt, 0)) → fr.rd 4 = .ptr (some (c4, 0)) → fr.rd 5 = .bool os.isSome → roundsX (WX Tryz.prog gl0 32 X_tree_Tree_up_c1_6 false) (ys.length + 1) fr M Q := by
  intro ys
  induction ys with
  | nil =>
    intro pre os c4 fr M hp hpre hN hJ hMn hc0 hc1 hc h0 h1 h4 h5
    have ho : os = none := by
      cases os with
      | none => rfl
      | some s => obtain ⟨r, e, _⟩ := hp; cases e
    subst ho
    rw [rounds_x_succ]
    refine xw_of ?_
    unfold X_tree_Tree_up_c1_6
    simp only [Option.isSome_none] at h5
    simp -dsimp only [↓x_seq', ↓x_ops, ↓x_skip, ↓x_ret, ↓x_exit, ↓x_block', ↓x_cond', cond_true', cond_false', ↓i_nil, ↓i_plain, ↓i_guard, xs_val, xs_call, xs_yield, xg_true, xg_false, ↓n_normal, ↓n_ret, ↓n_exit, ↓b_normal, ↓b_ret, ↓b_exit, ↓xe_normal, ↓xe_ret, e_some, yieldOf, go_sem, ↓reduceIte, Nat.reduceEqDiff, Nat.reduceLT, Nat.reduceSub, X_tree_Tree_up_c1_0, X_tree_Tree_up_c1_1, X_tree_Tree_up_c1_2, X_tree_Tree_up_c1_3, X_tree_Tree_up_c1_4, X_tree_Tree_up_c1_5, h5]
    rw [List.append_nil] at hpre
    subst hpre
    exact hQ _ _ hJ
  | cons y r ih =>
    intro pre os c4 fr M hp hpre hN hJ hMn hc0 hc1 hc h0 h1 h4 h5
    obtain ⟨s, rfl⟩ : ∃ s, os = some s := by
      cases os with
      | none => cases hp
      | some s => exact ⟨s, rfl⟩
    obtain ⟨r', e, hpath⟩ := hp
    cases e
    simp only [Option.isSome_some] at h5
    simp only [Option.getD_some] at hc
    rw [rounds_x_succ]
    refine xw_of ?_
    unfold X_tree_Tree_up_c1_6
    have hrd2 : rdCells (spC s) 0 2 = some (stC s.1) := rfl
    have hrd3 : rdCells (spC s) 0 3 = some (spC s) := rfl
    simp -dsimp only [↓x_seq', ↓x_ops, ↓x_skip, ↓x_ret, ↓x_exit, ↓x_block', ↓x_cond', cond_true', cond_false', ↓i_nil, ↓i_plain, ↓i_guard, xs_val, xs_call, xs_yield, xg_true, xg_false, ↓n_normal, ↓n_ret, ↓n_exit, ↓b_normal, ↓b_ret, ↓b_exit, ↓xe_normal, ↓xe_ret, e_some, yieldOf, go_sem, ↓reduceIte, Nat.reduceEqDiff, Nat.reduceLT, Nat.reduceSub, X_tree_Tree_up_c1_0, X_tree_Tree_up_c1_1, X_tree_Tree_up_c1_2, X_tree_Tree_up_c1_3, X_tree_Tree_up_c1_4, X_tree_Tree_up_c1_5, h0, h4, h5, vload, vptr, Mem.read, hc, hrd2, Nat.add_zero]
    have hlen : pre.length < N := by
      have := congrArg List.length hpre
      simp at this
      omega
    refine xyield_of (hY pre s.1 M hJ hlen) ?_
    rintro v M2 (⟨rfl, hJ2, hn2, _, hk2⟩ | ⟨rfl, hJ2⟩)
    · have hc2 : M2.get c4 = some (.cells (spC s) false) := (hk2 c4 hc0 hc1 ⟨_, _, _, hc⟩).trans hc
      have hw0 := write_full (M := M2.push (.cells [.int .i64 0, .int .i64 0, .str []] false)) (b := M2.next) (vs := spC s) (Mem.get_push_same _ _) rfl rfl
      simp -dsimp only [↓x_seq', ↓x_ops, ↓x_skip, ↓x_ret, ↓x_exit, ↓x_block', ↓x_cond', cond_true', cond_false', ↓i_nil, ↓i_plain, ↓i_guard, xs_val, xs_call, xs_yield, xg_true, xg_false, ↓n_normal, ↓n_ret, ↓n_exit, ↓b_normal, ↓b_ret, ↓b_exit, ↓xe_normal, ↓xe_ret, e_some, yieldOf, go_sem, ↓reduceIte, Nat.reduceEqDiff, Nat.reduceLT, Nat.reduceSub, X_tree_Tree_up_c1_0, X_tree_Tree_up_c1_1, X_tree_Tree_up_c1_2, X_tree_Tree_up_c1_3, X_tree_Tree_up_c1_4, X_tree_Tree_up_c1_5, h4, vload, vptr, Mem.read, hc2, hrd3, Nat.add_zero, vstore, V.cells, spC_len, hw0, Nat.reduceEqDiff]
      have hJ3 := hps _ _ (.cells [.int .i64 0, .int .i64 0, .str []] false) (.cells (spC s) false) hJ2
      have hc3 : ((M2.push (.cells [.int .i64 0, .int .i64 0, .str []] false)).set M2.next (.cells (spC s) false)).get M2.next = some (.cells (spC s) false) := Mem.get_set_same _ _ _
      have hn3 : ((M2.push (.cells [.int .i64 0, .int .i64 0, .str []] false)).set M2.next (.cells (spC s) false)).next = M2.next + 1 := rfl
      generalize (M2.push (.cells [.int .i64 0, .int .i64 0, .str []] false)).set M2.next (.cells (spC s) false) = M3 at *
      obtain ⟨g1, g2, g3⟩ := hG _ _ hJ3
      refine x_dops dok0 ?_
      have hlk := look_is g3 s.1
      have hw3 := write_full (M := M3) (b := M2.next) (vs := spC ((getS l s.1).getD sp0)) hc3 rfl rfl
      have hJ4 : J (pre ++ [s.1]) (M3.set M2.next (.cells (spC ((getS l s.1).getD sp0)) false)) := hsp _ M3 M2.next ((getS l s.1).getD sp0).1.1 ((getS l s.1).getD sp0).1.2 ((getS l s.1).getD sp0).2 hJ3 (by omega) ⟨_, _, _, hc3⟩
      simp -dsimp only [↓w_seq, ↓w_ops, ↓w_skip, ↓w_ret, ↓w_exit, ↓w_scope, ↓w_block, ↓w_cond, cond_true', cond_false', ↓t_nil, ↓t_plain, ↓t_guard, ↓t_gagain, ↓t_again, t_val, t_call, g_true, g_false, ga_true, ga_false, a_val, a_call, ↓n_normal, ↓n_ret, ↓n_exit, ↓b_normal, ↓b_ret, ↓b_exit, ↓e_normal, ↓e_ret, e_some, go_sem, ↓reduceIte, Nat.reduceEqDiff, Nat.reduceLT, Nat.reduceSub, X_tree_Tree_up_c1_0, X_tree_Tree_up_c1_1, X_tree_Tree_up_c1_2, X_tree_Tree_up_c1_3, X_tree_Tree_up_c1_4, X_tree_Tree_up_c1_5, h1, vload, vptr, Mem.read, g1, g2, hc3, hrd2, Nat.add_zero, List.getElem?_cons_zero, List.getElem?_cons_succ, hlk, lookV_parts, vstore, V.cells, spC_len, hw3, Nat.reduceEqDiff]
      have hc4 : (M3.set M2.next (.cells (spC ((getS l s.1).getD sp0)) false)).get M2.next = some (.cells (spC ((getS l s.1).getD sp0)) false) := Mem.get_set_same _ _ _
      have hn4 : (M3.set M2.next (.cells (spC ((getS l s.1).getD sp0)) false)).next = M2.next + 1 := hn3
      generalize M3.set M2.next (.cells (spC ((getS l s.1).getD sp0)) false) = M4 at *
      have q1 : M0.next ≤ M2.next := by omega
      have q2 : M0.next ≤ M4.next := by rw [hn4]; omega
      have q3 : M2.next < M4.next := by rw [hn4]; exact Nat.lt_succ_self _
      have q4 : pre ++ [s.1] ++ r = path := by rw [← hpre]; simp
      have q5 := hpath.look
      clear hw3 hw0 hlk hG hY hsp hps hQ hQx
      have ih' := ih (pre ++ [s.1]) (getS l s.1) M2.next
      have ih2 := fun fr => ih' fr M4 q5 q4 hN hJ4 q2 q1 q3 hc4
      refine ih2 _ ?_ ?_ ?_ ?_
      all_goals simp only [go_sem, ↓reduceIte, Nat.reduceEqDiff, Nat.reduceLT, Nat.reduceSub, h0, h1]
    · simp -dsimp only [↓x_seq', ↓x_ops, ↓x_skip, ↓x_ret, ↓x_exit, ↓x_block', ↓x_cond', cond_true', cond_false', ↓i_nil, ↓i_plain, ↓i_guard, xs_val, xs_call, xs_yield, xg_true, xg_false, ↓n_normal, ↓n_ret, ↓n_exit, ↓b_normal, ↓b_ret, ↓b_exit, ↓xe_normal, ↓xe_ret, e_some, yieldOf, go_sem, ↓reduceIte, Nat.reduceEqDiff, Nat.reduceLT, Nat.reduceSub, X_tree_Tree_up_c1_0, X_tree_Tree_up_c1_1, X_tree_Tree_up_c1_2, X_tree_Tree_up_c1_3, X_tree_Tree_up_c1_4, X_tree_Tree_up_c1_5]
      refine hQx _ _ _ ⟨r, ?_⟩ hJ2
      rw [← hpre]; simp
end Go.Am.Tryz


/- tree.up's function, as one that is ranged over. -/
namespace Go.Am.Tryz
open Go Go.Am Go.Proofs Go.Sort Go.Shelf
set_option maxRecDepth 100000
set_option linter.unusedSimpArgs false
set_option linter.unusedVariables false

set_option maxHeartbeats 1000000 in
theorem Up_seq (bt bn tc bm : Nat) (rt rn rc : Bool) (l : Tr) (n : St) (path : List St) (hp : PathN l n path) :
    SeqP F_tree_Tree_up_c1 [] [.ptr (some (bt, 0)), .ptr (some (bn, 0))] (fun x => .agg (stC x))
      (fun M => (M.get bt = some (.cells [.ptr (some (tc, 0))] rt) ∧ M.get tc = some (.cells [.map (some bm)] rc) ∧ mapAt M bm = some (encM l)) ∧ M.get bn = some (.cells (stC n) rn)) (fun ys => ys = path) (fun pre => pre <+: path) path.length := by
  intro b J Jx M hG hpu hps hi hsp hY hJ
  refine XRuns.walk mixed Tryz.func136 b_tree_Tree_up_c1 n_tree_Tree_up_c1 r_tree_Tree_up_c1 (by rfl) ?_
  unfold X_tree_Tree_up_c1
  obtain ⟨⟨g1, g2, g3⟩, g4⟩ := hG _ _ hJ
  have hlk := look_is g3 n
  have hrd2 : rdCells (stC n) 0 2 = some (stC n) := rfl
  have hw0 := write_full (M := M.push (.cells [.int .i64 0, .int .i64 0, .str []] false)) (b := M.next) (vs := spC ((getS l n).getD sp0)) (Mem.get_push_same _ _) rfl rfl
  simp -dsimp only [↓x_seq', ↓x_ops, ↓x_skip, ↓x_ret, ↓x_exit, ↓x_block', ↓x_cond', cond_true', cond_false', ↓i_nil, ↓i_plain, ↓i_guard, xs_val, xs_call, xs_yield, xg_true, xg_false, ↓n_normal, ↓n_ret, ↓n_exit, ↓b_normal, ↓b_ret, ↓b_exit, ↓xe_normal, ↓xe_ret, e_some, yieldOf, go_sem, ↓reduceIte, Nat.reduceEqDiff, Nat.reduceLT, Nat.reduceSub, List.singleton_append, List.cons_append, List.nil_append]
  refine x_dops dok0 ?_
  simp -dsimp only [↓w_seq, ↓w_ops, ↓w_skip, ↓w_ret, ↓w_exit, ↓w_scope, ↓w_block, ↓w_cond, cond_true', cond_false', ↓t_nil, ↓t_plain, ↓t_guard, ↓t_gagain, ↓t_again, t_val, t_call, g_true, g_false, ga_true, ga_false, a_val, a_call, ↓n_normal, ↓n_ret, ↓n_exit, ↓b_normal, ↓b_ret, ↓b_exit, ↓e_normal, ↓e_ret, e_some, go_sem, ↓reduceIte, Nat.reduceEqDiff, Nat.reduceLT, Nat.reduceSub, X_tree_Tree_up_c1_0, X_tree_Tree_up_c1_1, X_tree_Tree_up_c1_2, X_tree_Tree_up_c1_3, X_tree_Tree_up_c1_4, X_tree_Tree_up_c1_5, vload, vptr, Mem.read, g1, g2, g4, hrd2, Nat.add_zero, List.getElem?_cons_zero, List.getElem?_cons_succ, hlk, lookV_parts, vstore, V.cells, spC_len, hw0, Nat.reduceEqDiff, List.singleton_append, List.cons_append, List.nil_append]
  have hJ1 := hps _ _ (.cells [.int .i64 0, .int .i64 0, .str []] false) (.cells (spC ((getS l n).getD sp0)) false) hJ
  have hc1 : ((M.push (.cells [.int .i64 0, .int .i64 0, .str []] false)).set M.next (.cells (spC ((getS l n).getD sp0)) false)).get M.next = some (.cells (spC ((getS l n).getD sp0)) false) := Mem.get_set_same _ _ _
  have hn1 : ((M.push (.cells [.int .i64 0, .int .i64 0, .str []] false)).set M.next (.cells (spC ((getS l n).getD sp0)) false)).next = M.next + 1 := rfl
  generalize (M.push (.cells [.int .i64 0, .int .i64 0, .str []] false)).set M.next (.cells (spC ((getS l n).getD sp0)) false) = M1 at *
  have q3 : M.next < M1.next := by rw [hn1]; exact Nat.lt_succ_self _
  have q2 : M.next ≤ M1.next := Nat.le_of_lt q3
  have q5 := hp.look
  have hG' : ∀ pre M, J pre M → M.get bt = some (.cells [.ptr (some (tc, 0))] rt) ∧ M.get tc = some (.cells [.map (some bm)] rc) ∧ mapAt M bm = some (encM l) := fun pre M h => (hG pre M h).1
  clear hw0 hlk hpu hi
  simp -dsimp only [↓x_seq', ↓x_ops, ↓x_skip, ↓x_ret, ↓x_exit, ↓x_block', ↓x_cond', cond_true', cond_false', ↓i_nil, ↓i_plain, ↓i_guard, xs_val, xs_call, xs_yield, xg_true, xg_false, ↓n_normal, ↓n_ret, ↓n_exit, ↓b_normal, ↓b_ret, ↓b_exit, ↓xe_normal, ↓xe_ret, e_some, yieldOf, go_sem, ↓reduceIte, Nat.reduceEqDiff, Nat.reduceLT, Nat.reduceSub]
  refine ⟨path.length + 1, ?_⟩
  have key := fun Q hQ hQx => Up_loop b bt tc bm rt rc l path.length J Jx M path hG' hps hsp hY Q hQ hQx path [] (getS l n) M.next
  have key2 := fun Q hQ hQx fr => key Q hQ hQx fr M1 q5 rfl (Nat.le_refl _) hJ1 q2 (Nat.le_refl _) q3 hc1
  refine key2 _ ?_ ?_ _ ?_ ?_ ?_ ?_
  · intro fr M' h
    simp -dsimp only [↓x_seq', ↓x_ops, ↓x_skip, ↓x_ret, ↓x_exit, ↓x_block', ↓x_cond', cond_true', cond_false', ↓i_nil, ↓i_plain, ↓i_guard, xs_val, xs_call, xs_yield, xg_true, xg_false, ↓n_normal, ↓n_ret, ↓n_exit, ↓b_normal, ↓b_ret, ↓b_exit, ↓xe_normal, ↓xe_ret, e_some, yieldOf, go_sem, ↓reduceIte, Nat.reduceEqDiff, Nat.reduceLT, Nat.reduceSub]
    exact .inl ⟨path, rfl, h⟩
  · intro pre fr M' hpre h
    simp -dsimp only [↓x_seq', ↓x_ops, ↓x_skip, ↓x_ret, ↓x_exit, ↓x_block', ↓x_cond', cond_true', cond_false', ↓i_nil, ↓i_plain, ↓i_guard, xs_val, xs_call, xs_yield, xg_true, xg_false, ↓n_normal, ↓n_ret, ↓n_exit, ↓b_normal, ↓b_ret, ↓b_exit, ↓xe_normal, ↓xe_ret, e_some, yieldOf, go_sem, ↓reduceIte, Nat.reduceEqDiff, Nat.reduceLT, Nat.reduceSub]
    exact .inr ⟨pre, hpre, h⟩
  all_goals simp only [go_sem, ↓reduceIte, Nat.reduceEqDiff, Nat.reduceLT, Nat.reduceSub]
end Go.Am.Tryz


/- Small functions of the tree: none, node, up; Above. -/
namespace Go.Am.Tryz
open Go Go.Am Go.Proofs Go.Sort Go.Shelf
set_option maxRecDepth 100000
set_option linter.unusedSimpArgs false
set_option linter.unusedVariables false

theorem nil_ptr : vnil .ptr (.ptr none) (.ptr none) = some true := rfl
theorem nil_ptr' (x : Nat × Nat) : vnil .ptr (.ptr (some x)) (.ptr none) = some false := rfl
theorem nil_map : vnil .map (.map none) (.map none) = some true := rfl
theorem nil_map' (x : Nat) : vnil .map (.map (some x)) (.map none) = some false := rfl

theorem none_nil (D : Decls) (hp : D.prim F_tree_Tree_none = none) (hc : D.code.get F_tree_Tree_none = some A_tree_Tree_none) (M : Mem) : Runs D F_tree_Tree_none [.ptr none] M fun v M' => v = .bool true ∧ M' = M := by
  refine Runs.walk (F := A_tree_Tree_none) hp hc (by rfl) ?_
  unfold A_tree_Tree_none
  simp -dsimp only [↓w_seq, ↓w_ops, ↓w_skip, ↓w_ret, ↓w_exit, ↓w_scope, ↓w_block, ↓w_cond, cond_true', cond_false', ↓t_nil, ↓t_plain, ↓t_guard, ↓t_gagain, ↓t_again, t_val, t_call, g_true, g_false, ga_true, ga_false, a_val, a_call, ↓n_normal, ↓n_ret, ↓n_exit, ↓b_normal, ↓b_ret, ↓b_exit, ↓e_normal, ↓e_ret, e_some, go_sem, ↓reduceIte, Nat.reduceEqDiff, Nat.reduceLT, Nat.reduceSub, A_tree_Tree_none_0, A_tree_Tree_none_1, nil_ptr, nil_ptr', nil_map, nil_map', Option.map_some]
  exact ⟨trivial, trivial⟩
theorem none_empty (D : Decls) (hp : D.prim F_tree_Tree_none = none) (hc : D.code.get F_tree_Tree_none = some A_tree_Tree_none) (M : Mem) (tc : Nat) (rc : Bool) (h : M.get tc = some (.cells [.map none] rc)) : Runs D F_tree_Tree_none [.ptr (some (tc, 0))] M fun v M' => v = .bool true ∧ M' = M := by
  refine Runs.walk (F := A_tree_Tree_none) hp hc (by rfl) ?_
  unfold A_tree_Tree_none
  simp -dsimp only [↓w_seq, ↓w_ops, ↓w_skip, ↓w_ret, ↓w_exit, ↓w_scope, ↓w_block, ↓w_cond, cond_true', cond_false', ↓t_nil, ↓t_plain, ↓t_guard, ↓t_gagain, ↓t_again, t_val, t_call, g_true, g_false, ga_true, ga_false, a_val, a_call, ↓n_normal, ↓n_ret, ↓n_exit, ↓b_normal, ↓b_ret, ↓b_exit, ↓e_normal, ↓e_ret, e_some, go_sem, ↓reduceIte, Nat.reduceEqDiff, Nat.reduceLT, Nat.reduceSub, A_tree_Tree_none_0, A_tree_Tree_none_1, nil_ptr, nil_ptr', nil_map, nil_map', Option.map_some, vload, vptr, Mem.read, h, Nat.add_zero, List.getElem?_cons_zero]
  exact ⟨trivial, trivial⟩
theorem none_some (D : Decls) (hp : D.prim F_tree_Tree_none = none) (hc : D.code.get F_tree_Tree_none = some A_tree_Tree_none) (M : Mem) (tc bm : Nat) (rc : Bool) (h : M.get tc = some (.cells [.map (some bm)] rc)) : Runs D F_tree_Tree_none [.ptr (some (tc, 0))] M fun v M' => v = .bool false ∧ M' = M := by
  refine Runs.walk (F := A_tree_Tree_none) hp hc (by rfl) ?_
  unfold A_tree_Tree_none
  simp -dsimp only [↓w_seq, ↓w_ops, ↓w_skip, ↓w_ret, ↓w_exit, ↓w_scope, ↓w_block, ↓w_cond, cond_true', cond_false', ↓t_nil, ↓t_plain, ↓t_guard, ↓t_gagain, ↓t_again, t_val, t_call, g_true, g_false, ga_true, ga_false, a_val, a_call, ↓n_normal, ↓n_ret, ↓n_exit, ↓b_normal, ↓b_ret, ↓b_exit, ↓e_normal, ↓e_ret, e_some, go_sem, ↓reduceIte, Nat.reduceEqDiff, Nat.reduceLT, Nat.reduceSub, A_tree_Tree_none_0, A_tree_Tree_none_1, nil_ptr, nil_ptr', nil_map, nil_map', Option.map_some, vload, vptr, Mem.read, h, Nat.add_zero, List.getElem?_cons_zero]
  exact ⟨trivial, trivial⟩

theorem node_runs (D : Decls) (hp : D.prim F_tree_Tree_node = none) (hc : D.code.get F_tree_Tree_node = some A_tree_Tree_node) (M : Mem) (tc bm : Nat) (rc : Bool) (l : Tr) (n : St) (htc : tc < M.next) (hbm : bm < M.next) (h : M.get tc = some (.cells [.map (some bm)] rc)) (h2 : mapAt M bm = some (encM l)) :
    Runs D F_tree_Tree_node [.ptr (some (tc, 0)), .agg (stC n)] M fun v M' => v = .bool (getS l n).isSome ∧ Grew M M' := by
  refine Runs.walk (F := A_tree_Tree_node) hp hc (by rfl) ?_
  unfold A_tree_Tree_node
  have k1 : (M.push (.cells (stC n) false)).get tc = some (.cells [.map (some bm)] rc) := (Mem.get_push_ne _ _ (by omega)).trans h
  have k2 : mapAt (M.push (.cells (stC n) false)) bm = some (encM l) := by
    unfold mapAt at h2 ⊢
    rw [Mem.get_push_ne _ _ (by omega)]
    exact h2
  have k3 : (M.push (.cells (stC n) false)).get M.next = some (.cells (stC n) false) := Mem.get_push_same _ _
  have hn1 : (M.push (.cells (stC n) false)).next = M.next + 1 := rfl
  have hG1 : Grew M (M.push (.cells (stC n) false)) := Grew.push _ _
  simp -dsimp only [↓w_seq, ↓w_ops, ↓w_skip, ↓w_ret, ↓w_exit, ↓w_scope, ↓w_block, ↓w_cond, cond_true', cond_false', ↓t_nil, ↓t_plain, ↓t_guard, ↓t_gagain, ↓t_again, t_val, t_call, g_true, g_false, ga_true, ga_false, a_val, a_call, ↓n_normal, ↓n_ret, ↓n_exit, ↓b_normal, ↓b_ret, ↓b_exit, ↓e_normal, ↓e_ret, e_some, go_sem, ↓reduceIte, Nat.reduceEqDiff, Nat.reduceLT, Nat.reduceSub, A_tree_Tree_node_0, A_tree_Tree_node_1, A_tree_Tree_node_2, V.cells]
  generalize M.push (.cells (stC n) false) = M1 at *
  have hlk := look_is k2 n
  have hrd2 : rdCells (stC n) 0 2 = some (stC n) := rfl
  have hw0 := write_full (M := M1.push (.cells [.int .i64 0, .int .i64 0, .str []] false)) (b := M1.next) (vs := spC ((getS l n).getD sp0)) (Mem.get_push_same _ _) rfl rfl
  simp -dsimp only [↓w_seq, ↓w_ops, ↓w_skip, ↓w_ret, ↓w_exit, ↓w_scope, ↓w_block, ↓w_cond, cond_true', cond_false', ↓t_nil, ↓t_plain, ↓t_guard, ↓t_gagain, ↓t_again, t_val, t_call, g_true, g_false, ga_true, ga_false, a_val, a_call, ↓n_normal, ↓n_ret, ↓n_exit, ↓b_normal, ↓b_ret, ↓b_exit, ↓e_normal, ↓e_ret, e_some, go_sem, ↓reduceIte, Nat.reduceEqDiff, Nat.reduceLT, Nat.reduceSub, A_tree_Tree_node_0, A_tree_Tree_node_1, A_tree_Tree_node_2, vload, vptr, Mem.read, k1, k3, hrd2, Nat.add_zero, List.getElem?_cons_zero, List.getElem?_cons_succ, hlk, lookV_parts, vstore, V.cells, spC_len, hw0, Nat.reduceEqDiff]
  have hu := Upd.set (M1.push (.cells [.int .i64 0, .int .i64 0, .str []] false)) M1.next (.cells (spC ((getS l n).getD sp0)) false)
  exact ⟨trivial, (hG1.trans (Grew.push _ _)).upd (by omega) hu⟩

theorem up_runs (D : Decls) (hp : D.prim F_tree_Tree_up = none) (hc : D.code.get F_tree_Tree_up = some A_tree_Tree_up) (M : Mem) (t : V) (ht : t.one = true) (htc : t.cells = [t]) (n : St) :
    Runs D F_tree_Tree_up [t, .agg (stC n)] M fun v M' => v = .fn F_tree_Tree_up_c1 [] [.ptr (some (M.next, 0)), .ptr (some (M.next + 1, 0))] ∧ M' = (M.push (.cells [t] false)).push (.cells (stC n) false) := by
  refine Runs.walk (F := A_tree_Tree_up) hp hc (by rfl) ?_
  unfold A_tree_Tree_up
  have hcn : V.cells (.agg (stC n)) = stC n := rfl
  simp -dsimp only [↓w_seq, ↓w_ops, ↓w_skip, ↓w_ret, ↓w_exit, ↓w_scope, ↓w_block, ↓w_cond, cond_true', cond_false', ↓t_nil, ↓t_plain, ↓t_guard, ↓t_gagain, ↓t_again, t_val, t_call, g_true, g_false, ga_true, ga_false, a_val, a_call, ↓n_normal, ↓n_ret, ↓n_exit, ↓b_normal, ↓b_ret, ↓b_exit, ↓e_normal, ↓e_ret, e_some, go_sem, ↓reduceIte, Nat.reduceEqDiff, Nat.reduceLT, Nat.reduceSub, A_tree_Tree_up_0, A_tree_Tree_up_1, htc, hcn, Mem.next_push]
  exact ⟨trivial, trivial⟩
end Go.Am.Tryz


/- tree.Above. -/
namespace Go.Am.Tryz
open Go Go.Am Go.Proofs Go.Sort Go.Shelf
set_option maxRecDepth 100000
set_option linter.unusedSimpArgs false
set_option linter.unusedVariables false

theorem mapAt_keep {M M' : Mem} {b : Nat} {es : List (V × V)} (h : mapAt M b = some es) (hk : M'.get b = M.get b) : mapAt M' b = some es := by
  unfold mapAt at h ⊢
  rw [hk]
  exact h
set_option maxHeartbeats 1000000 in
theorem Above_runs (M : Mem) (tc bm : Nat) (rc : Bool) (l : Tr) (n : St) (path : List St) (htc : tc < M.next) (hbm : bm < M.next) (h : M.get tc = some (.cells [.map (some bm)] rc)) (h2 : mapAt M bm = some (encM l)) (hp : PathN l n path) (hN : (path.length + 1) * 16 ≤ maxRoom) :
    XP F_tree_Tree_Above [.ptr (some (tc, 0)), .agg (stC n)] M fun v M' => (∀ c, c < M.next → M'.get c = M.get c) ∧ Hold M.next M' 2 v path.length (elSt.all path) ∧ (path = [] → v = .slice none 0 (.exact 0)) := by
  refine XRuns.walk mixed Tryz.func65 b_tree_Tree_Above n_tree_Tree_Above r_tree_Tree_Above (by rfl) ?_
  unfold X_tree_Tree_Above
  have k1 : (M.push (.cells (stC n) false)).get tc = some (.cells [.map (some bm)] rc) := (Mem.get_push_ne _ _ (by omega)).trans h
  have k2 : mapAt (M.push (.cells (stC n) false)) bm = some (encM l) := mapAt_keep h2 (Mem.get_push_ne _ _ (by omega))
  have k3 : (M.push (.cells (stC n) false)).get M.next = some (.cells (stC n) false) := Mem.get_push_same _ _
  have hn1 : (M.push (.cells (stC n) false)).next = M.next + 1 := rfl
  have hG1 : Grew M (M.push (.cells (stC n) false)) := Grew.push _ _
  have hcn : V.cells (.agg (stC n)) = stC n := rfl
  have hrd2 : rdCells (stC n) 0 2 = some (stC n) := rfl
  simp -dsimp only [↓x_seq', ↓x_ops, ↓x_skip, ↓x_ret, ↓x_exit, ↓x_block', ↓x_cond', cond_true', cond_false', ↓i_nil, ↓i_plain, ↓i_guard, xs_val, xs_call, xs_yield, xg_true, xg_false, ↓n_normal, ↓n_ret, ↓n_exit, ↓b_normal, ↓b_ret, ↓b_exit, ↓xe_normal, ↓xe_ret, e_some, yieldOf, go_sem, ↓reduceIte, Nat.reduceEqDiff, Nat.reduceLT, Nat.reduceSub, X_tree_Tree_Above_0, X_tree_Tree_Above_1, X_tree_Tree_Above_2, X_tree_Tree_Above_3, hcn]
  generalize M.push (.cells (stC n) false) = M1 at *
  refine xcall_of (XRuns.of_runs dok0 (none_some D0 rfl (by rfl) M1 tc bm rc k1)) ?_
  intro v M2 hv
  rw [hv.1, hv.2]
  simp -dsimp only [↓x_seq', ↓x_ops, ↓x_skip, ↓x_ret, ↓x_exit, ↓x_block', ↓x_cond', cond_true', cond_false', ↓i_nil, ↓i_plain, ↓i_guard, xs_val, xs_call, xs_yield, xg_true, xg_false, ↓n_normal, ↓n_ret, ↓n_exit, ↓b_normal, ↓b_ret, ↓b_exit, ↓xe_normal, ↓xe_ret, e_some, yieldOf, go_sem, ↓reduceIte, Nat.reduceEqDiff, Nat.reduceLT, Nat.reduceSub, X_tree_Tree_Above_0, X_tree_Tree_Above_1, X_tree_Tree_Above_2, X_tree_Tree_Above_3, vload, Mem.read, k3, hrd2]
  refine xcall_of (XRuns.of_runs dok0 (up_runs D0 rfl (by rfl) M1 (.ptr (some (tc, 0))) rfl rfl n)) ?_
  intro v M2 hv
  rw [hv.1]
  have hG2 : Grew M1 M2 := by rw [hv.2]; exact (Grew.push _ _).trans (Grew.push _ _)
  have b1 : M2.get M1.next = some (.cells [.ptr (some (tc, 0))] false) := by rw [hv.2, Mem.get_push_ne _ _ (by simp), Mem.get_push_same]
  have b2 : M2.get (M1.next + 1) = some (.cells (stC n) false) := by rw [hv.2]; exact Mem.get_push_same (M1.push _) _
  have hn2 : M2.next = M1.next + 2 := by rw [hv.2]; rfl
  clear hv
  simp -dsimp only [↓x_seq', ↓x_ops, ↓x_skip, ↓x_ret, ↓x_exit, ↓x_block', ↓x_cond', cond_true', cond_false', ↓i_nil, ↓i_plain, ↓i_guard, xs_val, xs_call, xs_yield, xg_true, xg_false, ↓n_normal, ↓n_ret, ↓n_exit, ↓b_normal, ↓b_ret, ↓b_exit, ↓xe_normal, ↓xe_ret, e_some, yieldOf, go_sem, ↓reduceIte, Nat.reduceEqDiff, Nat.reduceLT, Nat.reduceSub, X_tree_Tree_Above_0, X_tree_Tree_Above_1, X_tree_Tree_Above_2, X_tree_Tree_Above_3]
  have c1 : M2.get tc = some (.cells [.map (some bm)] rc) := (hG2.old _ (by omega)).trans k1
  have c2 : mapAt M2 bm = some (encM l) := mapAt_keep k2 (hG2.old _ (by omega))
  refine xcall_of (Collect_runs (Up_seq M1.next (M1.next + 1) tc bm false false rc l n path hp) hN M2 ?_) ?_
  · intro M' hk _
    exact ⟨⟨(hk _ (by omega)).trans b1, (hk _ (by omega)).trans c1, mapAt_keep c2 (hk _ (by omega))⟩, (hk _ (by omega)).trans b2⟩
  · intro v M3 hv
    obtain ⟨xs, rfl, ho, hH, hnil⟩ := hv
    simp -dsimp only [↓x_seq', ↓x_ops, ↓x_skip, ↓x_ret, ↓x_exit, ↓x_block', ↓x_cond', cond_true', cond_false', ↓i_nil, ↓i_plain, ↓i_guard, xs_val, xs_call, xs_yield, xg_true, xg_false, ↓n_normal, ↓n_ret, ↓n_exit, ↓b_normal, ↓b_ret, ↓b_exit, ↓xe_normal, ↓xe_ret, e_some, yieldOf, go_sem, ↓reduceIte, Nat.reduceEqDiff, Nat.reduceLT, Nat.reduceSub, X_tree_Tree_Above_0, X_tree_Tree_Above_1, X_tree_Tree_Above_2, X_tree_Tree_Above_3]
    refine ⟨fun c hc => ?_, hH.lower (by omega), hnil⟩
    rw [ho c (by omega), hG2.old c (by omega)]
    exact hG1.old c hc
end Go.Am.Tryz


/- tree.Above as a part. -/
namespace Go.Am.Tryz
open Go Go.Am Go.Proofs Go.Sort Go.Shelf
set_option maxRecDepth 100000
set_option linter.unusedSimpArgs false
set_option linter.unusedVariables false

def decM : List (V × V) → Option Tr
  | [] => some []
  | (.agg [.int .i64 a, .int .i64 b], .agg [.int .i64 c, .int .i64 d, .str k]) :: r => (decM r).map (((a, b), ((c, d), k)) :: ·)
  | _ :: _ => none
theorem decM_is : ∀ {es : List (V × V)} {l : Tr}, decM es = some l → es = encM l
  | [], l, h => by cases h; rfl
  | x :: r, l, h => by
    unfold decM at h
    split at h
    · rename_i h'; cases h'
    · rename_i a b c d k r' he
      cases he
      simp only [Option.map_eq_some_iff] at h
      obtain ⟨l', h1, rfl⟩ := h
      rw [decM_is h1]
      rfl
    · cases h

theorem Above_nil (M : Mem) (n : St) : XP F_tree_Tree_Above [.ptr none, .agg (stC n)] M fun v M' => v = .slice none 0 (.exact 0) ∧ ∀ c, c < M.next → M'.get c = M.get c := by
  refine XRuns.walk mixed Tryz.func65 b_tree_Tree_Above n_tree_Tree_Above r_tree_Tree_Above (by rfl) ?_
  unfold X_tree_Tree_Above
  have hcn : V.cells (.agg (stC n)) = stC n := rfl
  simp -dsimp only [↓x_seq', ↓x_ops, ↓x_skip, ↓x_ret, ↓x_exit, ↓x_block', ↓x_cond', cond_true', cond_false', ↓i_nil, ↓i_plain, ↓i_guard, xs_val, xs_call, xs_yield, xg_true, xg_false, ↓n_normal, ↓n_ret, ↓n_exit, ↓b_normal, ↓b_ret, ↓b_exit, ↓xe_normal, ↓xe_ret, e_some, yieldOf, go_sem, ↓reduceIte, Nat.reduceEqDiff, Nat.reduceLT, Nat.reduceSub, X_tree_Tree_Above_0, X_tree_Tree_Above_1, X_tree_Tree_Above_2, X_tree_Tree_Above_3, hcn]
  refine xcall_of (XRuns.of_runs dok0 (none_nil D0 rfl (by rfl) _)) ?_
  intro v M2 hv
  rw [hv.1, hv.2]
  simp -dsimp only [↓x_seq', ↓x_ops, ↓x_skip, ↓x_ret, ↓x_exit, ↓x_block', ↓x_cond', cond_true', cond_false', ↓i_nil, ↓i_plain, ↓i_guard, xs_val, xs_call, xs_yield, xg_true, xg_false, ↓n_normal, ↓n_ret, ↓n_exit, ↓b_normal, ↓b_ret, ↓b_exit, ↓xe_normal, ↓xe_ret, e_some, yieldOf, go_sem, ↓reduceIte, Nat.reduceEqDiff, Nat.reduceLT, Nat.reduceSub, X_tree_Tree_Above_0, X_tree_Tree_Above_1, X_tree_Tree_Above_2, X_tree_Tree_Above_3]
  exact ⟨trivial, fun c hc => Mem.get_push_ne _ _ (by omega)⟩
theorem Above_empty (M : Mem) (n : St) (tc : Nat) (rc : Bool) (htc : tc < M.next) (h : M.get tc = some (.cells [.map none] rc)) : XP F_tree_Tree_Above [.ptr (some (tc, 0)), .agg (stC n)] M fun v M' => v = .slice none 0 (.exact 0) ∧ ∀ c, c < M.next → M'.get c = M.get c := by
  refine XRuns.walk mixed Tryz.func65 b_tree_Tree_Above n_tree_Tree_Above r_tree_Tree_Above (by rfl) ?_
  unfold X_tree_Tree_Above
  have hcn : V.cells (.agg (stC n)) = stC n := rfl
  have k1 : (M.push (.cells (stC n) false)).get tc = some (.cells [.map none] rc) := (Mem.get_push_ne _ _ (by omega)).trans h
  simp -dsimp only [↓x_seq', ↓x_ops, ↓x_skip, ↓x_ret, ↓x_exit, ↓x_block', ↓x_cond', cond_true', cond_false', ↓i_nil, ↓i_plain, ↓i_guard, xs_val, xs_call, xs_yield, xg_true, xg_false, ↓n_normal, ↓n_ret, ↓n_exit, ↓b_normal, ↓b_ret, ↓b_exit, ↓xe_normal, ↓xe_ret, e_some, yieldOf, go_sem, ↓reduceIte, Nat.reduceEqDiff, Nat.reduceLT, Nat.reduceSub, X_tree_Tree_Above_0, X_tree_Tree_Above_1, X_tree_Tree_Above_2, X_tree_Tree_Above_3, hcn]
  refine xcall_of (XRuns.of_runs dok0 (none_empty D0 rfl (by rfl) _ tc rc k1)) ?_
  intro v M2 hv
  rw [hv.1, hv.2]
  simp -dsimp only [↓x_seq', ↓x_ops, ↓x_skip, ↓x_ret, ↓x_exit, ↓x_block', ↓x_cond', cond_true', cond_false', ↓i_nil, ↓i_plain, ↓i_guard, xs_val, xs_call, xs_yield, xg_true, xg_false, ↓n_normal, ↓n_ret, ↓n_exit, ↓b_normal, ↓b_ret, ↓b_exit, ↓xe_normal, ↓xe_ret, e_some, yieldOf, go_sem, ↓reduceIte, Nat.reduceEqDiff, Nat.reduceLT, Nat.reduceSub, X_tree_Tree_Above_0, X_tree_Tree_Above_1, X_tree_Tree_Above_2, X_tree_Tree_Above_3]
  exact ⟨trivial, fun c hc => Mem.get_push_ne _ _ (by omega)⟩

/-- What stands above, read off memory. -/
def pAbove (args : List V) (M : Mem) : Option KeepR :=
  match args with
  | [.ptr none, .agg [.int .i64 a, .int .i64 b]] => some (.flat (.slice none 0 (.exact 0)))
  | [.ptr (some (tc, 0)), .agg [.int .i64 a, .int .i64 b]] => (match M.get tc with
    | some (.cells [.map none] _) => some (.flat (.slice none 0 (.exact 0)))
    | some (.cells [.map (some bm)] _) => (match M.get bm with
      | some (.map es) => (decM es).bind fun l => (upL l (l.length + 1) (a, b)).bind fun path => cond (Nat.ble ((path.length + 1) * 16) maxRoom) (some (match path with
        | [] => .flat (.slice none 0 (.exact 0))
        | x :: xs => .row (xs.length + 1) 2 (elSt.all (x :: xs)))) none
      | _ => none)
    | _ => none)
  | _ => none

theorem pAbove_ok : CallOK Tryz.prog gl0 fun f' args M => if f' = F_tree_Tree_Above then (pAbove args M).map fun r => r.res M else none := by
  refine callOK_keep ⟨_, Tryz.func65, (by kernel_rfl), (by kernel_rfl)⟩ ?_
  intro args M r h hwf
  refine ⟨[], fun _ _ _ _ _ b hb => absurd hb (by simp), fun Mz hz => ?_⟩
  have hMz : ∀ c, Mz.get c = M.get c := fun c => hz.other c (by simp)
  have hlt : ∀ c o, Mz.get c = some o → c < Mz.next := fun c o hc => by
    rcases Nat.lt_or_ge c Mz.next with h1 | h1
    · exact h1
    · rw [hMz, hwf c (by rw [← hz.next]; exact h1)] at hc; cases hc
  unfold pAbove at h
  split at h
  · rename_i a b
    cases h
    refine (Above_nil Mz (a, b)).mono ?_
    intro v M' hv
    exact ⟨fun c hc => hv.2 c (by rw [hz.next]; exact hc), rfl, hv.1⟩
  · rename_i tc a b
    split at h
    · rename_i rc htc
      cases h
      have htz : Mz.get tc = some (.cells [.map none] rc) := (hMz tc).trans htc
      refine (Above_empty Mz (a, b) tc rc (hlt _ _ htz) htz).mono ?_
      intro v M' hv
      exact ⟨fun c hc => hv.2 c (by rw [hz.next]; exact hc), rfl, hv.1⟩
    · rename_i bm rc htc
      split at h
      · rename_i es hbm
        simp only [Option.bind_eq_some_iff] at h
        obtain ⟨l, hl, path, hp, h⟩ := h
        obtain ⟨hN, h⟩ := cond_some h
        rw [ble_iff, decide_eq_true_eq] at hN
        have he := decM_is hl
        subst he
        have htz : Mz.get tc = some (.cells [.map (some bm)] rc) := (hMz tc).trans htc
        have hbz : Mz.get bm = some (.map (encM l)) := (hMz bm).trans hbm
        refine (Above_runs Mz tc bm rc l (a, b) path (hlt _ _ htz) (hlt _ _ hbz) htz (by unfold mapAt; rw [hbz]) ⟨_, hp⟩ hN).mono ?_
        rintro v M' ⟨h1, h2, h6⟩
        cases h
        refine ⟨fun c hc => h1 c (by rw [hz.next]; exact hc), ?_⟩
        cases hx : path with
        | nil => exact ⟨rfl, h6 hx⟩
        | cons x xs =>
          subst hx
          refine ⟨elSt.all_flat _, ?_⟩
          generalize hq : elSt.all (x :: xs) = cs at h2
          generalize hn : (x :: xs).length = n at h2
          cases h2 with
          | nil => simp at hn
          | row a b c d => exact ⟨_, by rw [← hz.next]; exact c, by rw [← hn]; rfl, a⟩
      · cases h
    · cases h
  · cases h
def D1u : Decls := D1t.addM F_tree_Tree_Above (fun args M => (pAbove args M).map fun r => r.res M)
theorem dok1u : DOK Tryz.prog gl0 D1u := dok1t.addM pAbove_ok
end Go.Am.Tryz


/- tree.Within. -/
namespace Go.Am.Tryz
open Go Go.Am Go.Proofs Go.Sort Go.Shelf
set_option maxRecDepth 100000
set_option linter.unusedSimpArgs false
set_option linter.unusedVariables false

structure WinJ (M5 : Mem) (lp : LoopState → Option Code → O) (p : St) (pre : List St) (M' : Mem) : Prop where
  old : ∀ c, c < M5.next → M'.get c = M5.get c
  loop : M'.get M5.next = some (lp .ready none)
  next : M5.next + 1 ≤ M'.next
  not_ : p ∉ pre

/-- The way up, looked through: whether one is met. -/
theorem Win_range (M5 : Mem) (p n : St) (b4 b5 b6 : Nat) (fv : V) (fr : Fr) (tc bm bt bn : Nat) (rc : Bool) (l : Tr) (path : List St) (hp : PathN l n path) (Q : XQ)
    (h4 : M5.get b4 = some (.cells (stC p) false)) (h5 : M5.get b5 = some (.cells (stC n) false)) (h6 : M5.get b6 = some (.cells [.bool false] false)) (l4 : b4 < M5.next) (l5 : b5 < M5.next) (l6 : b6 < M5.next)
    (g1 : M5.get bt = some (.cells [.ptr (some (tc, 0))] false)) (g2 : M5.get tc = some (.cells [.map (some bm)] rc)) (g3 : mapAt M5 bm = some (encM l)) (g4 : M5.get bn = some (.cells (stC n) false)) (q1 : bt < M5.next) (q2 : tc < M5.next) (q3 : bm < M5.next) (q4 : bn < M5.next)
    (f4 : fr.rd 4 = .ptr (some (b4, 0))) (f6 : fr.rd 6 = .ptr (some (b6, 0))) (f18 : fr.rd 18 = .fn F_tree_Tree_up_c1 [] [.ptr (some (bt, 0)), .ptr (some (bn, 0))])
    (hQ : ∀ M', p ∉ path → (∀ c, c < M5.next → M'.get c = M5.get c) → M5.next ≤ M'.next → Q .normal fr M') (hQr : ∀ M', p ∈ path → (∀ c, c < M5.next → c ≠ b6 → M'.get c = M5.get c) → M'.get b6 = some (.cells [.bool true] false) → Q .ret fr M') :
    xw Tryz.prog gl0 26 (.range (.tmp 18) [19] X_tree_Tree_Within_7 X_tree_Tree_Within_8) false fr M5 (Q := Q) ⟨⟩ := by
  refine x_range' _ _ _ _ _ (f := F_tree_Tree_up_c1) (first := []) (captured := [.ptr (some (bt, 0)), .ptr (some (bn, 0))]) f18 ?_
  intro lp hlp hY
  have hst : WinJ M5 lp p [] (M5.push (lp .ready none)) := ⟨fun c hc => Mem.get_push_ne _ _ (by omega), Mem.get_push_same _ _, by simp, by simp⟩
  refine (Up_seq bt bn tc bm false false rc l n path hp M5.next (WinJ M5 lp p) (fun pre M' => p ∈ pre ∧ (∀ c, c < M5.next → c ≠ b6 → M'.get c = M5.get c) ∧ M'.get b6 = some (.cells [.bool true] false) ∧ M'.get M5.next = some (lp .done (some .ret))) _ (fun pre M' h => ?_) (fun pre M' o h => ?_) (fun pre M' o o' h => ?_) (fun pre M' c b s k l h hcn hi => ?_) (fun pre M' c a b t h hcn hi => ?_) (fun pre x M' h hlen => ?_) hst).mono ?_
  · exact ⟨⟨(h.old _ q1).trans g1, (h.old _ q2).trans g2, mapAt_keep g3 (h.old _ q3)⟩, (h.old _ q4).trans g4⟩
  · have hn := h.next
    exact ⟨fun c hc => (Mem.get_push_ne _ _ (by omega)).trans (h.old c hc), (Mem.get_push_ne _ _ (by omega)).trans h.loop, by simp; omega, h.not_⟩
  · have hn := h.next
    have hk : ∀ c, c ≠ M'.next → ((M'.push o).set M'.next o').get c = M'.get c := fun c hc => by rw [Mem.get_set_ne _ _ hc, Mem.get_push_ne _ _ hc]
    exact ⟨fun c hc => (hk c (by omega)).trans (h.old c hc), (hk _ (by omega)).trans h.loop, by simp; omega, h.not_⟩
  · have hc : M5.next + 1 ≤ c := hcn
    exact ⟨fun c' hc' => (Mem.get_set_ne _ _ (by omega)).trans (h.old c' hc'), (Mem.get_set_ne _ _ (by omega)).trans h.loop, h.next, h.not_⟩
  · have hc : M5.next + 1 ≤ c := hcn
    exact ⟨fun c' hc' => (Mem.get_set_ne _ _ (by omega)).trans (h.old c' hc'), (Mem.get_set_ne _ _ (by omega)).trans h.loop, h.next, h.not_⟩
  · refine hY [.agg (stC x)] M' _ h.loop rfl ?_
    unfold X_tree_Tree_Within_7 X_tree_Tree_Within_8
    have hnx := h.next
    have hrx : rdCells (stC x) 0 2 = some (stC x) := rfl
    have hrp : rdCells (stC p) 0 2 = some (stC p) := rfl
    have hw0 := write_full (M := M'.push (.cells [.int .i64 0, .int .i64 0] false)) (b := M'.next) (vs := stC x) (Mem.get_push_same _ _) rfl rfl
    simp -dsimp only [↓x_seq', ↓x_ops, ↓x_skip, ↓x_ret, ↓x_exit, ↓x_block', ↓x_cond', cond_true', cond_false', ↓i_nil, ↓i_plain, ↓i_guard, xs_val, xs_call, xs_yield, xg_true, xg_false, ↓n_normal, ↓n_ret, ↓n_exit, ↓b_normal, ↓b_ret, ↓b_exit, ↓xe_normal, ↓xe_ret, e_some, yieldOf, go_sem, ↓reduceIte, Nat.reduceEqDiff, Nat.reduceLT, Nat.reduceSub, X_tree_Tree_Within_0, X_tree_Tree_Within_1, X_tree_Tree_Within_2, X_tree_Tree_Within_3, X_tree_Tree_Within_4, X_tree_Tree_Within_5, X_tree_Tree_Within_6, X_tree_Tree_Within_9, putAll', List.zip_cons_cons, List.zip_nil_right, List.foldl_cons, List.foldl_nil, vstore, V.cells, stC_len, hw0, Nat.reduceEqDiff]
    have k1 : ∀ c, c ≠ M'.next → ((M'.push (.cells [.int .i64 0, .int .i64 0] false)).set M'.next (.cells (stC x) false)).get c = M'.get c := fun c hc => by rw [Mem.get_set_ne _ _ hc, Mem.get_push_ne _ _ hc]
    have k2 : ((M'.push (.cells [.int .i64 0, .int .i64 0] false)).set M'.next (.cells (stC x) false)).get M'.next = some (.cells (stC x) false) := Mem.get_set_same _ _ _
    have k3 : ((M'.push (.cells [.int .i64 0, .int .i64 0] false)).set M'.next (.cells (stC x) false)).next = M'.next + 1 := rfl
    generalize (M'.push (.cells [.int .i64 0, .int .i64 0] false)).set M'.next (.cells (stC x) false) = M1 at *
    refine ⟨rfl, (k1 _ (by omega)).trans h.loop, ?_⟩
    have l1 : ∀ c, c ≠ M5.next → (M1.set M5.next (lp .busy none)).get c = M1.get c := fun c hc => Mem.get_set_ne _ _ hc
    have l2 : (M1.set M5.next (lp .busy none)).get M5.next = some (lp .busy none) := Mem.get_set_same _ _ _
    have l3 : (M1.set M5.next (lp .busy none)).next = M'.next + 1 := k3
    generalize M1.set M5.next (lp .busy none) = M2 at *
    have hx2 : M2.get M'.next = some (.cells (stC x) false) := by rw [l1 _ (by omega)]; exact k2
    have hkeep : ∀ c, c < M5.next → M2.get c = M5.get c := fun c hc => by rw [l1 _ (by omega), k1 _ (by omega)]; exact h.old c hc
    have h42 := (hkeep _ l4).trans h4
    have h62 := (hkeep _ l6).trans h6
    by_cases hxp : x = p
    · have hw6 := write_one (v := .bool true) h62 (show 0 < 1 by omega) rfl
      simp -dsimp only [↓x_seq', ↓x_ops, ↓x_skip, ↓x_ret, ↓x_exit, ↓x_block', ↓x_cond', cond_true', cond_false', ↓i_nil, ↓i_plain, ↓i_guard, xs_val, xs_call, xs_yield, xg_true, xg_false, ↓n_normal, ↓n_ret, ↓n_exit, ↓b_normal, ↓b_ret, ↓b_exit, ↓xe_normal, ↓xe_ret, e_some, yieldOf, go_sem, ↓reduceIte, Nat.reduceEqDiff, Nat.reduceLT, Nat.reduceSub, X_tree_Tree_Within_0, X_tree_Tree_Within_1, X_tree_Tree_Within_2, X_tree_Tree_Within_3, X_tree_Tree_Within_4, X_tree_Tree_Within_5, X_tree_Tree_Within_6, X_tree_Tree_Within_9, f4, f6, vload, Mem.read, hx2, h42, hrx, hrp, st_same, hxp, decide_true, vstore, V.cells, List.length_cons, List.length_nil, Nat.zero_add, hw6, List.set_cons_zero]
      have u := Upd.set M2 b6 (.cells [.bool true] false)
      generalize M2.set b6 (.cells [.bool true] false) = M6 at *
      refine ⟨(u.other _ (by omega)).trans l2, .inr ⟨rfl, by simp [hxp], fun c hc hne => ?_, ?_, Mem.get_set_same _ _ _⟩⟩
      · rw [Mem.get_set_ne _ _ (by omega), u.other _ hne]; exact hkeep c hc
      · rw [Mem.get_set_ne _ _ (by omega)]; exact u.at_
    · simp -dsimp only [↓x_seq', ↓x_ops, ↓x_skip, ↓x_ret, ↓x_exit, ↓x_block', ↓x_cond', cond_true', cond_false', ↓i_nil, ↓i_plain, ↓i_guard, xs_val, xs_call, xs_yield, xg_true, xg_false, ↓n_normal, ↓n_ret, ↓n_exit, ↓b_normal, ↓b_ret, ↓b_exit, ↓xe_normal, ↓xe_ret, e_some, yieldOf, go_sem, ↓reduceIte, Nat.reduceEqDiff, Nat.reduceLT, Nat.reduceSub, X_tree_Tree_Within_0, X_tree_Tree_Within_1, X_tree_Tree_Within_2, X_tree_Tree_Within_3, X_tree_Tree_Within_4, X_tree_Tree_Within_5, X_tree_Tree_Within_6, X_tree_Tree_Within_9, f4, f6, vload, Mem.read, hx2, h42, hrx, hrp, st_same, hxp, decide_false]
      have hq : ∀ c, c ≠ M5.next → c ≠ M'.next → (M2.set M5.next (lp .ready none)).get c = M'.get c := fun c h1 h2 => by rw [Mem.get_set_ne _ _ h1, l1 _ h1, k1 _ h2]
      refine ⟨l2, .inl ⟨rfl, ⟨fun c hc => (hq c (by omega) (by omega)).trans (h.old c hc), Mem.get_set_same _ _ _, by simp only [Mem.next_set]; omega, ?_⟩, by simp only [Mem.next_set]; omega, fun c hc hi => ?_, fun c hcl hc hi => ?_⟩⟩
      · intro hm
        rcases List.mem_append.mp hm with hm | hm
        · exact h.not_ hm
        · simp only [List.mem_singleton] at hm
          exact hxp hm.symm
      · refine hq c (fun e => ?_) (by omega)
        obtain ⟨b', s', k', l', hi⟩ := hi
        rw [e, h.loop] at hi
        exact hlp _ _ _ _ _ _ (Option.some.inj hi)
      · have hcl' : M5.next + 1 ≤ c := hcl
        exact hq c (by omega) (by omega)
  · intro v M' h
    rcases h with ⟨xs, rfl, hJ⟩ | ⟨pre, hpre, hin, ho, h6', hl'⟩
    · refine .inl ⟨hJ.loop, ?_⟩
      have hn := hJ.next
      exact hQ _ hJ.not_ (fun c hc => (Mem.get_set_ne _ _ (by omega)).trans (hJ.old c hc)) (by simp only [Mem.next_set]; omega)
    · refine .inr (.inl ⟨hl', ?_⟩)
      exact hQr _ (hpre.subset hin) (fun c hc hne => (Mem.get_set_ne _ _ (by omega)).trans (ho c hc hne)) ((Mem.get_set_ne _ _ (by omega)).trans h6')
end Go.Am.Tryz


/- tree.Within, whole. -/
namespace Go.Am.Tryz
open Go Go.Am Go.Proofs Go.Sort Go.Shelf
set_option maxRecDepth 100000
set_option linter.unusedSimpArgs false
set_option linter.unusedVariables false

theorem XR_opq {P : Program} {gl : Nat → Bool} {f : FuncId} {args : List V} {M : Mem} {R : V → Mem → Prop} (h : ∀ R' : V → Mem → Prop, (∀ v M', R v M' → R' v M') → XRuns P gl f args M R') : XRuns P gl f args M R := h R fun _ _ h => h
theorem R_opq {D : Decls} {f : FuncId} {args : List V} {M : Mem} {R : V → Mem → Prop} (h : ∀ R' : V → Mem → Prop, (∀ v M', R v M' → R' v M') → Runs D f args M R') : Runs D f args M R := h R fun _ _ h => h

set_option maxHeartbeats 1000000 in
theorem Within_runs (M : Mem) (tc bm : Nat) (rc : Bool) (l : Tr) (p n : St) (path : List St) (htc : tc < M.next) (hbm : bm < M.next) (h : M.get tc = some (.cells [.map (some bm)] rc)) (h2 : mapAt M bm = some (encM l)) (hp : PathN l n path) :
    XP F_tree_Tree_Within [.ptr (some (tc, 0)), .agg (stC p), .agg (stC n)] M fun v M' => (∀ c, c < M.next → M'.get c = M.get c) ∧ v = .bool ((getS l n).isSome && (decide (p ∈ path) || decide (p = n))) := by
  refine XR_opq fun R hR => ?_
  refine XRuns.walk mixed Tryz.func53 b_tree_Tree_Within n_tree_Tree_Within r_tree_Tree_Within (by rfl) ?_
  unfold X_tree_Tree_Within
  have hcn : ∀ x : St, V.cells (.agg (stC x)) = stC x := fun _ => rfl
  have hrn : rdCells (stC n) 0 2 = some (stC n) := rfl
  have hrp : rdCells (stC p) 0 2 = some (stC p) := rfl
  simp -dsimp only [↓x_seq', ↓x_ops, ↓x_skip, ↓x_ret, ↓x_exit, ↓x_block', ↓x_cond', cond_true', cond_false', ↓i_nil, ↓i_plain, ↓i_guard, xs_val, xs_call, xs_yield, xg_true, xg_false, ↓n_normal, ↓n_ret, ↓n_exit, ↓b_normal, ↓b_ret, ↓b_exit, ↓xe_normal, ↓xe_ret, e_some, yieldOf, go_sem, ↓reduceIte, Nat.reduceEqDiff, Nat.reduceLT, Nat.reduceSub, X_tree_Tree_Within_0, X_tree_Tree_Within_1, X_tree_Tree_Within_2, X_tree_Tree_Within_3, X_tree_Tree_Within_4, X_tree_Tree_Within_5, X_tree_Tree_Within_6, X_tree_Tree_Within_9, hcn, Mem.next_push]
  have g4 : (((M.push (.cells (stC p) false)).push (.cells (stC n) false)).push (.cells [.bool false] false)).get M.next = some (.cells (stC p) false) := by
    rw [Mem.get_push_ne _ _ (by simp; omega), Mem.get_push_ne _ _ (by simp), Mem.get_push_same]
  have g5 : (((M.push (.cells (stC p) false)).push (.cells (stC n) false)).push (.cells [.bool false] false)).get (M.next + 1) = some (.cells (stC n) false) := by
    rw [Mem.get_push_ne _ _ (by simp)]; exact Mem.get_push_same (M.push _) _
  have g6 : (((M.push (.cells (stC p) false)).push (.cells (stC n) false)).push (.cells [.bool false] false)).get (M.next + 1 + 1) = some (.cells [.bool false] false) := Mem.get_push_same ((M.push _).push _) _
  have gk : Grew M (((M.push (.cells (stC p) false)).push (.cells (stC n) false)).push (.cells [.bool false] false)) := ((Grew.push _ _).trans (Grew.push _ _)).trans (Grew.push _ _)
  have hn1 : (((M.push (.cells (stC p) false)).push (.cells (stC n) false)).push (.cells [.bool false] false)).next = M.next + 3 := rfl
  generalize ((M.push (.cells (stC p) false)).push (.cells (stC n) false)).push (.cells [.bool false] false) = M1 at *
  have k1 : M1.get tc = some (.cells [.map (some bm)] rc) := (gk.old _ htc).trans h
  have k2 : mapAt M1 bm = some (encM l) := mapAt_keep h2 (gk.old _ hbm)
  refine xcall_of (XRuns.of_runs dok0 (none_some D0 rfl (by rfl) M1 tc bm rc k1)) ?_
  intro v M2 hv
  rw [hv.1, hv.2]
  clear hv
  simp -dsimp only [↓x_seq', ↓x_ops, ↓x_skip, ↓x_ret, ↓x_exit, ↓x_block', ↓x_cond', cond_true', cond_false', ↓i_nil, ↓i_plain, ↓i_guard, xs_val, xs_call, xs_yield, xg_true, xg_false, ↓n_normal, ↓n_ret, ↓n_exit, ↓b_normal, ↓b_ret, ↓b_exit, ↓xe_normal, ↓xe_ret, e_some, yieldOf, go_sem, ↓reduceIte, Nat.reduceEqDiff, Nat.reduceLT, Nat.reduceSub, X_tree_Tree_Within_0, X_tree_Tree_Within_1, X_tree_Tree_Within_2, X_tree_Tree_Within_3, X_tree_Tree_Within_4, X_tree_Tree_Within_5, X_tree_Tree_Within_6, X_tree_Tree_Within_9, vload, Mem.read, g5, hrn]
  refine xcall_of (XRuns.of_runs dok0 (node_runs D0 rfl (by rfl) M1 tc bm rc l n (by omega) (by omega) k1 k2)) ?_
  intro v M2 hv
  rw [hv.1]
  have hG2 := hv.2
  clear hv
  have h42 : M2.get M.next = some (.cells (stC p) false) := (hG2.old _ (by omega)).trans g4
  have h52 : M2.get (M.next + 1) = some (.cells (stC n) false) := (hG2.old _ (by omega)).trans g5
  have h62 : M2.get (M.next + 1 + 1) = some (.cells [.bool false] false) := (hG2.old _ (by omega)).trans g6
  have m1 : M2.get tc = some (.cells [.map (some bm)] rc) := (hG2.old _ (by omega)).trans k1
  have m2 : mapAt M2 bm = some (encM l) := mapAt_keep k2 (hG2.old _ (by omega))
  have hold : ∀ c, c < M.next → M2.get c = M.get c := fun c hc => (hG2.old c (by omega)).trans (gk.old c hc)
  have hn2 := hG2.next
  rw [hn1] at hn2
  clear hG2 gk g4 g5 g6 k1 k2 h h2 hn1
  cases hs : (getS l n).isSome with
  | false =>
    have hw6 := write_one (v := .bool false) h62 (show 0 < 1 by omega) rfl
    simp -dsimp only [↓x_seq', ↓x_ops, ↓x_skip, ↓x_ret, ↓x_exit, ↓x_block', ↓x_cond', cond_true', cond_false', ↓i_nil, ↓i_plain, ↓i_guard, xs_val, xs_call, xs_yield, xg_true, xg_false, ↓n_normal, ↓n_ret, ↓n_exit, ↓b_normal, ↓b_ret, ↓b_exit, ↓xe_normal, ↓xe_ret, e_some, yieldOf, go_sem, ↓reduceIte, Nat.reduceEqDiff, Nat.reduceLT, Nat.reduceSub, X_tree_Tree_Within_0, X_tree_Tree_Within_1, X_tree_Tree_Within_2, X_tree_Tree_Within_3, X_tree_Tree_Within_4, X_tree_Tree_Within_5, X_tree_Tree_Within_6, X_tree_Tree_Within_9, vstore, V.cells, List.length_cons, List.length_nil, Nat.zero_add, hw6, List.set_cons_zero]
    have hs6 := Mem.get_set_same M2 (M.next + 1 + 1) (.cells [.bool false] false)
    have ho6 : ∀ c, c ≠ M.next + 1 + 1 → (M2.set (M.next + 1 + 1) (.cells [.bool false] false)).get c = M2.get c := fun c hc => Mem.get_set_ne _ _ hc
    generalize M2.set (M.next + 1 + 1) (.cells [.bool false] false) = M6 at *
    simp -dsimp only [↓x_seq', ↓x_ops, ↓x_skip, ↓x_ret, ↓x_exit, ↓x_block', ↓x_cond', cond_true', cond_false', ↓i_nil, ↓i_plain, ↓i_guard, xs_val, xs_call, xs_yield, xg_true, xg_false, ↓n_normal, ↓n_ret, ↓n_exit, ↓b_normal, ↓b_ret, ↓b_exit, ↓xe_normal, ↓xe_ret, e_some, yieldOf, go_sem, ↓reduceIte, Nat.reduceEqDiff, Nat.reduceLT, Nat.reduceSub, vload, vptr, Mem.read, hs6, List.getElem?_cons_zero, Option.bind_some, oneOf]
    exact hR _ _ ⟨fun c hc => (ho6 c (by omega)).trans (hold c hc), by rw [hs]; rfl⟩
  | true =>
    simp -dsimp only [↓x_seq', ↓x_ops, ↓x_skip, ↓x_ret, ↓x_exit, ↓x_block', ↓x_cond', cond_true', cond_false', ↓i_nil, ↓i_plain, ↓i_guard, xs_val, xs_call, xs_yield, xg_true, xg_false, ↓n_normal, ↓n_ret, ↓n_exit, ↓b_normal, ↓b_ret, ↓b_exit, ↓xe_normal, ↓xe_ret, e_some, yieldOf, go_sem, ↓reduceIte, Nat.reduceEqDiff, Nat.reduceLT, Nat.reduceSub, X_tree_Tree_Within_3, X_tree_Tree_Within_2, vload, Mem.read, h52, hrn]
    refine xcall_of (XRuns.of_runs dok0 (up_runs D0 rfl (by rfl) M2 (.ptr (some (tc, 0))) rfl rfl n)) ?_
    intro v M3 hv
    rw [hv.1]
    have hG3 : Grew M2 M3 := by rw [hv.2]; exact (Grew.push _ _).trans (Grew.push _ _)
    have b1 : M3.get M2.next = some (.cells [.ptr (some (tc, 0))] false) := by rw [hv.2, Mem.get_push_ne _ _ (by simp), Mem.get_push_same]
    have b2 : M3.get (M2.next + 1) = some (.cells (stC n) false) := by rw [hv.2]; exact Mem.get_push_same (M2.push _) _
    have hn3 : M3.next = M2.next + 2 := by rw [hv.2]; rfl
    clear hv
    simp -dsimp only [↓x_seq', ↓x_ops, ↓x_skip, ↓x_ret, ↓x_exit, ↓x_block', ↓x_cond', cond_true', cond_false', ↓i_nil, ↓i_plain, ↓i_guard, xs_val, xs_call, xs_yield, xg_true, xg_false, ↓n_normal, ↓n_ret, ↓n_exit, ↓b_normal, ↓b_ret, ↓b_exit, ↓xe_normal, ↓xe_ret, e_some, yieldOf, go_sem, ↓reduceIte, Nat.reduceEqDiff, Nat.reduceLT, Nat.reduceSub, X_tree_Tree_Within_3]
    have h43 := (hG3.old _ (by omega)).trans h42
    have h53 := (hG3.old _ (by omega)).trans h52
    have h63 := (hG3.old _ (by omega)).trans h62
    have n1 := (hG3.old tc (by omega)).trans m1
    have n2 := mapAt_keep m2 (hG3.old bm (by omega))
    have hold3 : ∀ c, c < M.next → M3.get c = M.get c := fun c hc => (hG3.old c (by omega)).trans (hold c hc)
    clear hG3
    refine Win_range M3 p n M.next (M.next + 1) (M.next + 1 + 1) .undef _ tc bm M2.next (M2.next + 1) rc l path hp _ h43 h53 h63 (by omega) (by omega) (by omega) b1 n1 n2 b2 (by omega) (by omega) (by omega) (by omega) (by simp only [go_sem, ↓reduceIte, Nat.reduceEqDiff, Nat.reduceLT, Nat.reduceSub]) (by simp only [go_sem, ↓reduceIte, Nat.reduceEqDiff, Nat.reduceLT, Nat.reduceSub]) (by simp only [go_sem, ↓reduceIte, Nat.reduceEqDiff, Nat.reduceLT, Nat.reduceSub]) ?_ ?_
    · intro M4 hnp ho4 hn4
      have h44 := (ho4 _ (by omega)).trans h43
      have h54 := (ho4 _ (by omega)).trans h53
      have h64 := (ho4 _ (by omega)).trans h63
      have hw6 := write_one (v := .bool (decide (p = n))) h64 (show 0 < 1 by omega) rfl
      simp -dsimp only [↓x_seq', ↓x_ops, ↓x_skip, ↓x_ret, ↓x_exit, ↓x_block', ↓x_cond', cond_true', cond_false', ↓i_nil, ↓i_plain, ↓i_guard, xs_val, xs_call, xs_yield, xg_true, xg_false, ↓n_normal, ↓n_ret, ↓n_exit, ↓b_normal, ↓b_ret, ↓b_exit, ↓xe_normal, ↓xe_ret, e_some, yieldOf, go_sem, ↓reduceIte, Nat.reduceEqDiff, Nat.reduceLT, Nat.reduceSub, X_tree_Tree_Within_0, X_tree_Tree_Within_1, X_tree_Tree_Within_2, X_tree_Tree_Within_3, X_tree_Tree_Within_4, X_tree_Tree_Within_5, X_tree_Tree_Within_6, X_tree_Tree_Within_9, vload, Mem.read, h44, h54, hrn, hrp, st_same, vstore, V.cells, List.length_cons, List.length_nil, Nat.zero_add, hw6, List.set_cons_zero]
      have hs6 := Mem.get_set_same M4 (M.next + 1 + 1) (.cells [.bool (decide (p = n))] false)
      have ho6 : ∀ c, c ≠ M.next + 1 + 1 → (M4.set (M.next + 1 + 1) (.cells [.bool (decide (p = n))] false)).get c = M4.get c := fun c hc => Mem.get_set_ne _ _ hc
      generalize M4.set (M.next + 1 + 1) (.cells [.bool (decide (p = n))] false) = M6 at *
      simp -dsimp only [↓x_seq', ↓x_ops, ↓x_skip, ↓x_ret, ↓x_exit, ↓x_block', ↓x_cond', cond_true', cond_false', ↓i_nil, ↓i_plain, ↓i_guard, xs_val, xs_call, xs_yield, xg_true, xg_false, ↓n_normal, ↓n_ret, ↓n_exit, ↓b_normal, ↓b_ret, ↓b_exit, ↓xe_normal, ↓xe_ret, e_some, yieldOf, go_sem, ↓reduceIte, Nat.reduceEqDiff, Nat.reduceLT, Nat.reduceSub, vload, vptr, Mem.read, hs6, List.getElem?_cons_zero, Option.bind_some, oneOf]
      exact hR _ _ ⟨fun c hc => (ho6 c (by omega)).trans ((ho4 c (by omega)).trans (hold3 c hc)), by rw [hs]; simp only [hnp, decide_false, Bool.false_or, Bool.true_and]⟩
    · intro M4 hin ho4 h64
      simp -dsimp only [↓x_seq', ↓x_ops, ↓x_skip, ↓x_ret, ↓x_exit, ↓x_block', ↓x_cond', cond_true', cond_false', ↓i_nil, ↓i_plain, ↓i_guard, xs_val, xs_call, xs_yield, xg_true, xg_false, ↓n_normal, ↓n_ret, ↓n_exit, ↓b_normal, ↓b_ret, ↓b_exit, ↓xe_normal, ↓xe_ret, e_some, yieldOf, go_sem, ↓reduceIte, Nat.reduceEqDiff, Nat.reduceLT, Nat.reduceSub, vload, vptr, Mem.read, h64, List.getElem?_cons_zero, Option.bind_some, oneOf]
      exact hR _ _ ⟨fun c hc => (ho4 c (by omega) (by omega)).trans (hold3 c hc), by rw [hs]; simp only [hin, decide_true, Bool.true_or, Bool.true_and]⟩
end Go.Am.Tryz


/- Trees, plainly: what adding, moving and dropping come to, and that each way up ends. -/
namespace Go.Am.Tryz
open Go Go.Am Go.Proofs Go.Sort Go.Shelf
set_option maxRecDepth 100000
set_option linter.unusedSimpArgs false
set_option linter.unusedVariables false

def putS : Tr → St → Spot → Tr
  | [], n, s => [(n, s)]
  | p :: r, n, s => if n = p.1 then (n, s) :: r else p :: putS r n s
def delS : Tr → St → Tr
  | [], _ => []
  | p :: r, n => if n = p.1 then r else p :: delS r n

def keysS (l : Tr) : List St := l.map (·.1)
theorem decM_enc : ∀ l : Tr, decM (encM l) = some l
  | [] => rfl
  | p :: r => by
    show Option.map (fun x => ((p.1.1, p.1.2), ((p.2.1.1, p.2.1.2), p.2.2)) :: x) (decM (encM r)) = _
    rw [decM_enc r]
    rfl
theorem enc_len (l : Tr) : (encM l).length = l.length := by simp [encM]

theorem get_put (n m : St) (s : Spot) : ∀ l : Tr, getS (putS l n s) m = if m = n then some s else getS l m
  | [] => by simp [putS, getS]
  | p :: r => by
    unfold putS
    by_cases h : n = p.1
    · simp only [h, if_true, getS]
      by_cases h2 : m = p.1 <;> simp [h2]
    · simp only [h, if_false, getS, get_put n m s r]
      by_cases h2 : m = p.1
      · have : m ≠ n := fun e => h (e.symm.trans h2)
        simp [h2, Ne.symm (h2 ▸ this)] 
        intro h3; exact absurd h3.symm h
      · simp [h2]
theorem get_mem {l : Tr} {n : St} : (getS l n).isSome = true ↔ n ∈ keysS l := by
  induction l with
  | nil => simp [getS, keysS]
  | cons p r ih =>
    unfold getS keysS
    by_cases h : n = p.1
    · simp [h]
    · simp only [h, if_false, List.map_cons, List.mem_cons, false_or]
      exact ih
theorem get_none {l : Tr} {n : St} : getS l n = none ↔ n ∉ keysS l := by
  rw [← get_mem]; cases getS l n <;> simp
theorem get_of_in {l : Tr} (hn : (keysS l).Nodup) {n : St} {s : Spot} (h : (n, s) ∈ l) : getS l n = some s := by
  induction l with
  | nil => cases h
  | cons p r ih =>
    unfold keysS at hn
    rw [List.map_cons, List.nodup_cons] at hn
    rcases List.mem_cons.mp h with h | h
    · subst h; simp [getS]
    · have : n ≠ p.1 := fun e => hn.1 (e ▸ List.mem_map_of_mem (f := (·.1)) h)
      simp only [getS, this, if_false]
      exact ih hn.2 h
theorem get_del (n m : St) : ∀ l : Tr, (keysS l).Nodup → getS (delS l n) m = if m = n then none else getS l m
  | [], _ => by simp [delS, getS]
  | p :: r, hn => by
    unfold keysS at hn
    rw [List.map_cons, List.nodup_cons] at hn
    unfold delS
    by_cases h : n = p.1
    · simp only [h, if_true, getS]
      by_cases h2 : m = p.1
      · simp only [h2, if_true]; exact get_none.mpr hn.1
      · simp [h2]
    · simp only [h, if_false, getS, get_del n m r hn.2]
      by_cases h2 : m = p.1
      · have : ¬ m = n := fun e => h (e.symm.trans h2)
        simp only [h2, if_true]
        rw [if_neg (fun e => h e.symm)]
      · simp [h2]
theorem keys_put (n : St) (s : Spot) : ∀ l : Tr, keysS (putS l n s) = if n ∈ keysS l then keysS l else keysS l ++ [n]
  | [] => by simp [putS, keysS]
  | p :: r => by
    have ih := keys_put n s r
    unfold putS
    unfold keysS at ih ⊢
    by_cases h : n = p.1
    · simp [h]
    · simp only [h, if_false, List.map_cons, ih, List.mem_cons, false_or]
      by_cases h2 : n ∈ r.map (·.1) <;> simp [h2]
theorem keys_del (n : St) : ∀ l : Tr, (keysS (delS l n)).Sublist (keysS l)
  | [] => by simp [delS, keysS]
  | p :: r => by
    unfold delS
    by_cases h : n = p.1
    · simp only [h, if_true, keysS, List.map_cons]; exact List.sublist_cons_self ..
    · simp only [h, if_false, keysS, List.map_cons]; exact (keys_del n r).cons_cons _
theorem keys_len (l : Tr) : (keysS l).length = l.length := by simp [keysS]

/-! ### ways up -/
theorem path_det {l : Tr} : ∀ {f f' : Nat} {n : St} {r r' : List St}, upL l f n = some r → upL l f' n = some r' → r = r'
  | 0, _, _, _, _, h, _ => by cases h
  | _ + 1, 0, _, _, _, _, h => by cases h
  | f + 1, f' + 1, n, r, r', h, h' => by
    unfold upL at h h'
    cases hg : getS l n with
    | none => rw [hg] at h h'; cases h; cases h'; rfl
    | some s =>
      rw [hg] at h h'
      simp only [Option.map_eq_some_iff] at h h'
      obtain ⟨a, h1, rfl⟩ := h
      obtain ⟨b, h2, rfl⟩ := h'
      rw [path_det h1 h2]
theorem PathN.det {l : Tr} {n : St} {r r' : List St} (h : PathN l n r) (h' : PathN l n r') : r = r' := by
  obtain ⟨_, h⟩ := h
  obtain ⟨_, h'⟩ := h'
  exact path_det h h'
theorem PathN.nil {l : Tr} {n : St} (h : getS l n = none) : PathN l n [] := ⟨1, by simp [upL, h]⟩
theorem PathN.cons {l : Tr} {n : St} {s : Spot} {r : List St} (h : getS l n = some s) (hr : PathN l s.1 r) : PathN l n (s.1 :: r) := by
  obtain ⟨f, hf⟩ := hr
  exact ⟨f + 1, by simp [upL, h, hf]⟩
theorem PathN.fuel {l : Tr} : ∀ {r : List St} {n : St}, PathN l n r → upL l (r.length + 1) n = some r
  | [], n, h => by
    have := h.look
    cases hg : getS l n with
    | none => simp [upL, hg]
    | some s => rw [hg] at this; obtain ⟨r, e, _⟩ := this; cases e
  | x :: r, n, h => by
    have h2 := h.look
    cases hg : getS l n with
    | none => rw [hg] at h2; cases h2
    | some s =>
      rw [hg] at h2
      obtain ⟨r', e, h3⟩ := h2
      cases e
      have := PathN.fuel h3
      show upL l (r.length + 1 + 1) n = _
      rw [upL, hg]
      simp only [this, Option.map_some]
/-- From what is met on the way, the way goes on as it does. -/
theorem PathN.suffix {l : Tr} : ∀ {r : List St} {n m : St}, PathN l n r → m ∈ r → ∃ r' p, PathN l m r' ∧ r = p ++ m :: r'
  | [], n, m, _, h => by cases h
  | x :: r, n, m, h, hm => by
    have h2 := h.look
    cases hg : getS l n with
    | none => rw [hg] at h2; cases h2
    | some s =>
      rw [hg] at h2
      obtain ⟨r', e, h3⟩ := h2
      cases e
      rcases List.mem_cons.mp hm with rfl | hm
      · exact ⟨r, [], h3, rfl⟩
      · obtain ⟨r2, p, h4, rfl⟩ := PathN.suffix h3 hm
        exact ⟨r2, s.1 :: p, h4, rfl⟩
theorem PathN.not_mem {l : Tr} {r : List St} {n : St} (h : PathN l n r) : n ∉ r := fun hm => by
  obtain ⟨r', p, h1, e⟩ := h.suffix hm
  have := h.det h1
  rw [this] at e
  have := congrArg List.length e
  simp at this
  omega
theorem PathN.nodup {l : Tr} : ∀ {r : List St} {n : St}, PathN l n r → (n :: r).Nodup
  | [], n, h => by simp
  | x :: r, n, h => by
    rw [List.nodup_cons]
    refine ⟨h.not_mem, ?_⟩
    have h2 := h.look
    cases hg : getS l n with
    | none => rw [hg] at h2; cases h2
    | some s =>
      rw [hg] at h2
      obtain ⟨r', e, h3⟩ := h2
      cases e
      exact PathN.nodup h3
theorem PathN.keys {l : Tr} : ∀ {r : List St} {n : St}, PathN l n r → ∀ x ∈ (n :: r).dropLast, x ∈ keysS l
  | [], n, h, x, hx => by simp at hx
  | y :: r, n, h, x, hx => by
    have h2 := h.look
    cases hg : getS l n with
    | none => rw [hg] at h2; cases h2
    | some s =>
      rw [hg] at h2
      obtain ⟨r', e, h3⟩ := h2
      cases e
      rw [List.dropLast_cons_cons] at hx
      rcases List.mem_cons.mp hx with rfl | hx
      · exact get_mem.mp (by rw [hg]; rfl)
      · exact PathN.keys h3 x hx
theorem nodup_len {l l' : List St} (h : l.Nodup) (hs : ∀ x ∈ l, x ∈ l') : l.length ≤ l'.length := by
  induction l generalizing l' with
  | nil => simp
  | cons a l ih =>
    rw [List.nodup_cons] at h
    have ha : a ∈ l' := hs a (List.mem_cons_self ..)
    have := ih (l' := l'.erase a) h.2 (fun x hx => by
      have hne : x ≠ a := fun e => h.1 (e ▸ hx)
      exact (List.mem_erase_of_ne hne).mpr (hs x (List.mem_cons_of_mem _ hx)))
    rw [List.length_erase_of_mem ha] at this
    have := List.length_pos_of_mem ha
    simp only [List.length_cons]
    omega
theorem PathN.len {l : Tr} {r : List St} {n : St} (h : PathN l n r) : r.length ≤ l.length := by
  have := nodup_len (l := (n :: r).dropLast) (l' := keysS l) (h.nodup.sublist (List.dropLast_sublist _)) h.keys
  simpa [keys_len] using this

def pathOf (l : Tr) (n : St) : List St := (upL l (l.length + 1) n).getD []
theorem up_more {l : Tr} : ∀ {f f' : Nat} {n : St} {r : List St}, upL l f n = some r → f ≤ f' → upL l f' n = some r
  | 0, _, _, _, h, _ => by cases h
  | f + 1, 0, _, _, _, h => by omega
  | f + 1, f' + 1, n, r, h, hf => by
    unfold upL at h ⊢
    cases hg : getS l n with
    | none => rw [hg] at h; exact h
    | some s =>
      rw [hg] at h
      simp only [Option.map_eq_some_iff] at h ⊢
      obtain ⟨a, h1, rfl⟩ := h
      exact ⟨a, up_more h1 (by omega), rfl⟩
theorem PathN.of {l : Tr} {r : List St} {n : St} (h : PathN l n r) : upL l (l.length + 1) n = some r :=
  up_more h.fuel (by have := h.len; omega)
theorem PathN.eq {l : Tr} {r : List St} {n : St} (h : PathN l n r) : r = pathOf l n := by
  unfold pathOf; rw [h.of]; rfl

def hasP (l : Tr) (p : St) : Prop := (getS l p).isSome = true ∨ p = (0, 0) ∨ p = (0, 1)
structure Inv (l : Tr) : Prop where
  nd : (keysS l).Nodup
  node : ∀ n s, getS l n = some s → 0 < n.1
  par : ∀ n s, getS l n = some s → hasP l s.1
  up : ∀ n, ∃ r, PathN l n r
theorem Inv.path {l : Tr} (h : Inv l) (n : St) : PathN l n (pathOf l n) := by
  obtain ⟨r, hr⟩ := h.up n
  rw [← hr.eq]; exact hr
/-- A way that does not meet what is changed stays. -/
theorem path_same {l l' : Tr} {n : St} (hg : ∀ m, m ≠ n → getS l' m = getS l m) : ∀ {r : List St} {m : St}, PathN l m r → n ∉ m :: r → PathN l' m r
  | [], m, h, hn => by
    have h2 := h.look
    cases hm : getS l m with
    | none => exact PathN.nil (by rw [hg m (by rintro rfl; simp at hn), hm])
    | some s => rw [hm] at h2; obtain ⟨r, e, _⟩ := h2; cases e
  | x :: r, m, h, hn => by
    have h2 := h.look
    cases hm : getS l m with
    | none => rw [hm] at h2; cases h2
    | some s =>
      rw [hm] at h2
      obtain ⟨r', e, h3⟩ := h2
      cases e
      have : getS l' m = some s := by rw [hg m (by rintro rfl; simp at hn), hm]
      exact PathN.cons this (path_same hg h3 (fun hh => hn (List.mem_cons_of_mem _ hh)))
theorem up_change {l l' : Tr} {n : St} {s : Spot} (hg : ∀ m, m ≠ n → getS l' m = getS l m) (hn : getS l' n = some s) {r0 : List St} (h0 : PathN l s.1 r0) (hni : n ∉ s.1 :: r0) : ∀ {r : List St} {m : St}, PathN l m r → ∃ r', PathN l' m r' := by
  have hN : PathN l' n (s.1 :: r0) := PathN.cons hn (path_same hg h0 hni)
  intro r
  induction r with
  | nil =>
    intro m h
    by_cases e : m = n
    · subst e; exact ⟨_, hN⟩
    · have h2 := h.look
      cases hm : getS l m with
      | none => exact ⟨_, PathN.nil (by rw [hg m e, hm])⟩
      | some s => rw [hm] at h2; obtain ⟨r, e, _⟩ := h2; cases e
  | cons x r ih =>
    intro m h
    by_cases e : m = n
    · subst e; exact ⟨_, hN⟩
    · have h2 := h.look
      cases hm : getS l m with
      | none => rw [hm] at h2; cases h2
      | some s' =>
        rw [hm] at h2
        obtain ⟨r', e', h3⟩ := h2
        cases e'
        obtain ⟨r2, h4⟩ := ih h3
        exact ⟨_, PathN.cons (by rw [hg m e, hm]) h4⟩

theorem PathN.met {l : Tr} {n : St} : ∀ {r : List St} {m : St}, PathN l m r → n ∈ r → ∃ k s, getS l k = some s ∧ s.1 = n
  | [], _, _, h => by cases h
  | x :: r, m, hp, hin => by
    have h2 := hp.look
    cases hm : getS l m with
    | none => rw [hm] at h2; cases h2
    | some s =>
      rw [hm] at h2
      obtain ⟨r', e', h3⟩ := h2
      cases e'
      rcases List.mem_cons.mp hin with hh | hin
      · exact ⟨m, s, hm, hh.symm⟩
      · exact PathN.met h3 hin
theorem Inv.put {l : Tr} (h : Inv l) {n : St} {s : Spot} (h0 : 0 < n.1) (hp : hasP l s.1) (hni : n ∉ s.1 :: pathOf l s.1) : Inv (putS l n s) := by
  have hg : ∀ m, m ≠ n → getS (putS l n s) m = getS l m := fun m hm => by rw [get_put, if_neg hm]
  have hn : getS (putS l n s) n = some s := by rw [get_put, if_pos rfl]
  have hhas : ∀ p, hasP l p → hasP (putS l n s) p := fun p hp => by
    unfold hasP at hp ⊢
    rw [get_put]
    rcases hp with hp | hp
    · by_cases e : p = n <;> simp [e]
      exact .inl hp
    · exact .inr hp
  refine ⟨?_, fun m t hm => ?_, fun m t hm => ?_, fun m => ?_⟩
  · rw [keys_put]
    split
    · exact h.nd
    · rename_i hnk
      rw [List.nodup_append]
      refine ⟨h.nd, by simp, fun a ha b hb => ?_⟩
      simp only [List.mem_singleton] at hb
      subst hb
      exact fun e => hnk (e ▸ ha)
  · rw [get_put] at hm
    by_cases e : m = n
    · subst e; exact h0
    · rw [if_neg e] at hm; exact h.node m t hm
  · rw [get_put] at hm
    by_cases e : m = n
    · rw [if_pos e] at hm; cases hm; exact hhas _ hp
    · rw [if_neg e] at hm; exact hhas _ (h.par m t hm)
  · exact up_change hg hn (h.path _) hni (h.path m)
theorem Inv.del {l : Tr} (h : Inv l) {n : St} (hb : ∀ m s, getS l m = some s → s.1 ≠ n) : Inv (delS l n) := by
  have hg : ∀ m, getS (delS l n) m = if m = n then none else getS l m := fun m => get_del n m l h.nd
  refine ⟨h.nd.sublist (keys_del n l), fun m t hm => ?_, fun m t hm => ?_, fun m => ?_⟩
  · rw [hg] at hm
    split at hm
    · cases hm
    · exact h.node m t hm
  · rw [hg] at hm
    split at hm
    · cases hm
    · have := h.par m t hm
      unfold hasP at this ⊢
      rw [hg, if_neg (hb m t hm)]
      exact this
  · by_cases e : m = n
    · exact ⟨[], PathN.nil (by rw [hg, if_pos e])⟩
    · have hp := h.path m
      refine ⟨_, path_same (n := n) (fun m hm => by rw [hg, if_neg hm]) hp fun hin => ?_⟩
      rcases List.mem_cons.mp hin with hh | hin
      · exact e hh.symm
      · obtain ⟨k, s, hk⟩ := hp.met hin
        exact hb k s hk.1 hk.2
end Go.Am.Tryz


/- Laws that read package variables: some blocks stand at places of their own from the start, only read. -/
namespace Go.Am
open Go Go.RowKit

theorem V.flats_at : ∀ {cs : List V}, V.flats cs = true → ∀ {i : Nat} {v : V}, cs[i]? = some v → v.flat = true
  | [], _, i, v, h => by simp at h
  | c :: cs, hf, i, v, h => by
    simp only [V.flats, Bool.and_eq_true] at hf
    cases i with
    | zero => simp at h; subst h; exact hf.1
    | succ i => exact V.flats_at hf.2 (by simpa using h)

/-- A closed call, reckoned where nothing but the package variables is in memory, is a part wherever they stand. -/
theorem prim_env {P : Program} {gl : Nat → Bool} {D : Decls} (hD : DOK P gl D) {f : FuncId} {v0 : V} {M0 M' : Mem} {k : Nat} (hv : v0.flat = true) (hwf : ∀ b, M0.next ≤ b → M0.get b = none)
    (hM0 : ∀ x, gl x = true → ∃ cs, M0.get x = some (.cells cs true) ∧ V.flats cs = true) (hr : callN D k f [] M0 = some (v0, M')) {g : List V → Mem → Option (V × Mem)}
    (hg : ∀ args M r, g args M = some r → args = [] ∧ r = (v0, M) ∧ ∀ x, gl x = true → M.get x = M0.get x) : CallOK P gl fun f' args M => if f' = f then g args M else none := by
  intro f' args M v M1 he
  simp only at he
  split at he
  · rename_i e
    subst e
    obtain ⟨rfl, hr', hx⟩ := hg _ _ _ he
    cases hr'
    obtain ⟨hc, hs⟩ := callN_sound hD k f' [] M0 v0 M' hr
    refine ⟨hc, fun E w args' hR hG hA => ?_⟩
    have hin : ∀ b x, (if gl b then E b else none) = some x → gl b = true ∧ E b = some x := fun b x h => by
      by_cases hb : gl b = true
      · rw [if_pos hb] at h; exact ⟨hb, h⟩
      · rw [if_neg hb] at h; cases h
    have hro : ∀ b x, (if gl b then E b else none) = some x → isRo M0 b := fun b x h => by
      obtain ⟨cs, h1, _⟩ := hM0 b (hin b x h).1
      exact ⟨_, h1, rfl⟩
    have hR0 : Rel (fun b => if gl b then E b else none) M0 w := by
      refine ⟨fun b c d k hb => ?_, fun b c d k hb => hR.lt b c d k (hin b _ hb).2, fun b b' c d k d' k' hb _ ho _ => (own_not_ro ho (hro b _ hb)).elim, hwf⟩
      obtain ⟨hgb, hE⟩ := hin b _ hb
      obtain ⟨cs, h1, hf⟩ := hM0 b hgb
      obtain ⟨o, ho, arr⟩ := hR.at_ b c d k hE
      rw [hx b hgb, h1] at ho
      cases ho
      obtain ⟨arr, elem, fz, a1, a2, a3⟩ := arr
      refine ⟨_, h1, arr, elem, fz, a1, fun i v hi => ?_, a3⟩
      obtain ⟨u, hu, hvu⟩ := a2 i v hi
      exact ⟨u, hu, hvu.flat (V.flats_at hf hi)⟩
    refine (hs _ w args' hR0 (fun x hx' => by
      obtain ⟨k, hk⟩ := hG x hx'
      exact ⟨k, by rw [if_pos hx']; exact hk⟩) (VRs.flat hA rfl)).mono fun e w' ⟨E', v', he, hv', _, hX⟩ => ?_
    have hk : ∀ c, c < w.heap.size → w'.heap[c]? = w.heap[c]? := fun c hc => hX.keep c hc fun b d k hb => hro b _ hb
    refine ⟨E, v', he, VR.flat hv' hv, ⟨fun b c d k hb => ?_, fun b c d k hb => Nat.lt_of_lt_of_le (hR.lt b c d k hb) hX.size, hR.inj, hR.wf⟩, ⟨Emb.le_refl E, hX.os, hX.tape, hX.output, hX.size, Nat.le_refl _, fun c hc _ => hk c hc, fun b c d k h1 h2 => ?_, fun _ _ => rfl, hX.drawn⟩⟩
    · obtain ⟨o, ho, hr'⟩ := hR.at_ b c d k hb
      exact ⟨o, ho, by rw [hk c (hR.lt b c d k hb)]; exact hr'⟩
    · rw [h1] at h2; cases h2
  · cases he

/-- A function that tells something flat and leaves all as it was, as a part. -/
theorem prim_keep {P : Program} {gl : Nat → Bool} {f : FuncId} {g : List V → Mem → Option V} (hc : Callable P f)
    (h : ∀ args M v, g args M = some v → (∀ b, M.next ≤ b → M.get b = none) → v.flat = true ∧ XRuns P gl f args M fun v' M' => v' = v ∧ ∀ c, c < M.next → M'.get c = M.get c) : CallOK P gl fun f' args M => if f' = f then (g args M).map (·, M) else none := by
  intro f' args M v M' he
  simp only at he
  split at he
  · rename_i e
    subst e
    simp only [Option.map_eq_some_iff, Prod.mk.injEq] at he
    obtain ⟨v1, hv, rfl, rfl⟩ := he
    refine ⟨hc, fun E w args' hR hG hA => ?_⟩
    obtain ⟨hf, hrun⟩ := h args M v1 hv hR.wf
    refine (hrun.2 E w args' hR hG hA).mono ?_
    rintro e w' ⟨E', v2, v', M1, rfl, hv', hR', hX, rfl, hk⟩
    obtain ⟨a, b⟩ := hR.restrict (bs := []) (Mz := M) ⟨rfl, fun _ _ => rfl, fun _ h => by cases h⟩ hR' hX hk
    exact ⟨E, v', rfl, hv'.flat hf, a, b⟩
  · cases he
def Decls.addP (D : Decls) (f : FuncId) (g : List V → Mem → Option V) : Decls := D.addM f fun args M => (g args M).map (·, M)
theorem Runs.part {D : Decls} {f : FuncId} {g : List V → Mem → Option V} {args : List V} {M : Mem} {v : V} (hp : D.prim f = some fun args M => (g args M).map (·, M)) (hg : g args M = some v) : Runs D f args M fun v' M' => v' = v ∧ M' = M :=
  Runs.prim (v := v) (M' := M) hp (by simp only [hg, Option.map_some]) ⟨rfl, rfl⟩

end Go.Am


/- Small functions as parts: none, node, Within; a stamp's and a key's looks. -/
namespace Go.Am.Tryz
open Go Go.Am Go.Proofs Go.Sort Go.Shelf
set_option maxRecDepth 100000
set_option linter.unusedSimpArgs false
set_option linter.unusedVariables false

def rightSt (x : St) : Bool := decide (0 ≤ x.1) && (decide (x.1 ≤ 1099511627776) && (decide (0 ≤ x.2) && decide (x.2 < 16)))

theorem sright_runs (D : Decls) (hp : D.prim F_stamp_Right = none) (hc : D.code.get F_stamp_Right = some A_stamp_Right) (M : Mem) (x : St) :
    Runs D F_stamp_Right [.agg (stC x)] M fun v M' => v = .bool (rightSt x) ∧ ∀ c, c < M.next → M'.get c = M.get c := by
  refine R_opq fun R hR => ?_
  refine Runs.walk (F := A_stamp_Right) hp hc (by rfl) ?_
  unfold A_stamp_Right
  have hcn : V.cells (.agg (stC x)) = stC x := rfl
  have g1 : (M.push (.cells (stC x) false)).get M.next = some (.cells (stC x) false) := Mem.get_push_same _ _
  have hG : ∀ c, c < M.next → (M.push (.cells (stC x) false)).get c = M.get c := (Grew.push _ _).old
  have e0 : (stC x)[0]? = some (.int .i64 x.1) := rfl
  have e1 : (stC x)[1]? = some (.int .i64 x.2) := rfl
  have fin : ∀ b, b = rightSt x → R (.bool b) (M.push (.cells (stC x) false)) := fun b hb => hR _ _ ⟨by rw [hb], hG⟩
  simp -dsimp only [↓w_seq, ↓w_ops, ↓w_skip, ↓w_ret, ↓w_exit, ↓w_scope, ↓w_block, ↓w_cond, cond_true', cond_false', ↓t_nil, ↓t_plain, ↓t_guard, ↓t_gagain, ↓t_again, t_val, t_call, g_true, g_false, ga_true, ga_false, a_val, a_call, ↓n_normal, ↓n_ret, ↓n_exit, ↓b_normal, ↓b_ret, ↓b_exit, ↓e_normal, ↓e_ret, e_some, go_sem, ↓reduceIte, Nat.reduceEqDiff, Nat.reduceLT, Nat.reduceSub, A_stamp_Right_0, A_stamp_Right_1, hcn]
  generalize M.push (.cells (stC x) false) = M1 at *
  simp -dsimp only [↓w_seq, ↓w_ops, ↓w_skip, ↓w_ret, ↓w_exit, ↓w_scope, ↓w_block, ↓w_cond, cond_true', cond_false', ↓t_nil, ↓t_plain, ↓t_guard, ↓t_gagain, ↓t_again, t_val, t_call, g_true, g_false, ga_true, ga_false, a_val, a_call, ↓n_normal, ↓n_ret, ↓n_exit, ↓b_normal, ↓b_ret, ↓b_exit, ↓e_normal, ↓e_ret, e_some, go_sem, ↓reduceIte, Nat.reduceEqDiff, Nat.reduceLT, Nat.reduceSub, vload, vptr, Mem.read, g1, Nat.add_zero, e0, e1]
  by_cases h1 : 0 ≤ x.1
  · simp -dsimp only [↓w_seq, ↓w_ops, ↓w_skip, ↓w_ret, ↓w_exit, ↓w_scope, ↓w_block, ↓w_cond, cond_true', cond_false', ↓t_nil, ↓t_plain, ↓t_guard, ↓t_gagain, ↓t_again, t_val, t_call, g_true, g_false, ga_true, ga_false, a_val, a_call, ↓n_normal, ↓n_ret, ↓n_exit, ↓b_normal, ↓b_ret, ↓b_exit, ↓e_normal, ↓e_ret, e_some, go_sem, ↓reduceIte, Nat.reduceEqDiff, Nat.reduceLT, Nat.reduceSub, h1, decide_true, vload, vptr, Mem.read, g1, Nat.add_zero, e0, e1]
    by_cases h2 : x.1 ≤ 1099511627776
    · simp -dsimp only [↓w_seq, ↓w_ops, ↓w_skip, ↓w_ret, ↓w_exit, ↓w_scope, ↓w_block, ↓w_cond, cond_true', cond_false', ↓t_nil, ↓t_plain, ↓t_guard, ↓t_gagain, ↓t_again, t_val, t_call, g_true, g_false, ga_true, ga_false, a_val, a_call, ↓n_normal, ↓n_ret, ↓n_exit, ↓b_normal, ↓b_ret, ↓b_exit, ↓e_normal, ↓e_ret, e_some, go_sem, ↓reduceIte, Nat.reduceEqDiff, Nat.reduceLT, Nat.reduceSub, h2, decide_true, vload, vptr, Mem.read, g1, Nat.add_zero, e0, e1]
      by_cases h3 : 0 ≤ x.2
      · simp -dsimp only [↓w_seq, ↓w_ops, ↓w_skip, ↓w_ret, ↓w_exit, ↓w_scope, ↓w_block, ↓w_cond, cond_true', cond_false', ↓t_nil, ↓t_plain, ↓t_guard, ↓t_gagain, ↓t_again, t_val, t_call, g_true, g_false, ga_true, ga_false, a_val, a_call, ↓n_normal, ↓n_ret, ↓n_exit, ↓b_normal, ↓b_ret, ↓b_exit, ↓e_normal, ↓e_ret, e_some, go_sem, ↓reduceIte, Nat.reduceEqDiff, Nat.reduceLT, Nat.reduceSub, h3, decide_true, vload, vptr, Mem.read, g1, Nat.add_zero, e0, e1]
        exact fin _ (by simp only [rightSt, h1, h2, h3, decide_true, Bool.true_and])
      · simp -dsimp only [↓w_seq, ↓w_ops, ↓w_skip, ↓w_ret, ↓w_exit, ↓w_scope, ↓w_block, ↓w_cond, cond_true', cond_false', ↓t_nil, ↓t_plain, ↓t_guard, ↓t_gagain, ↓t_again, t_val, t_call, g_true, g_false, ga_true, ga_false, a_val, a_call, ↓n_normal, ↓n_ret, ↓n_exit, ↓b_normal, ↓b_ret, ↓b_exit, ↓e_normal, ↓e_ret, e_some, go_sem, ↓reduceIte, Nat.reduceEqDiff, Nat.reduceLT, Nat.reduceSub, h3, decide_false, vload, vptr, Mem.read, g1, Nat.add_zero, e0, e1]
        exact fin _ (by simp only [rightSt, h1, h2, h3, decide_true, decide_false, Bool.true_and, Bool.false_and])
    · simp -dsimp only [↓w_seq, ↓w_ops, ↓w_skip, ↓w_ret, ↓w_exit, ↓w_scope, ↓w_block, ↓w_cond, cond_true', cond_false', ↓t_nil, ↓t_plain, ↓t_guard, ↓t_gagain, ↓t_again, t_val, t_call, g_true, g_false, ga_true, ga_false, a_val, a_call, ↓n_normal, ↓n_ret, ↓n_exit, ↓b_normal, ↓b_ret, ↓b_exit, ↓e_normal, ↓e_ret, e_some, go_sem, ↓reduceIte, Nat.reduceEqDiff, Nat.reduceLT, Nat.reduceSub, h2, decide_false, vload, vptr, Mem.read, g1, Nat.add_zero, e0, e1]
      exact fin _ (by simp only [rightSt, h1, h2, decide_true, decide_false, Bool.true_and, Bool.false_and])
  · simp -dsimp only [↓w_seq, ↓w_ops, ↓w_skip, ↓w_ret, ↓w_exit, ↓w_scope, ↓w_block, ↓w_cond, cond_true', cond_false', ↓t_nil, ↓t_plain, ↓t_guard, ↓t_gagain, ↓t_again, t_val, t_call, g_true, g_false, ga_true, ga_false, a_val, a_call, ↓n_normal, ↓n_ret, ↓n_exit, ↓b_normal, ↓b_ret, ↓b_exit, ↓e_normal, ↓e_ret, e_some, go_sem, ↓reduceIte, Nat.reduceEqDiff, Nat.reduceLT, Nat.reduceSub, h1, decide_false, vload, vptr, Mem.read, g1, Nat.add_zero, e0, e1]
    exact fin _ (by simp only [rightSt, h1, decide_false, Bool.false_and])

def digitL (k : List UInt8) (i : Nat) : Nat := (k.getD i 0).toNat
def rightK (k : List UInt8) : Bool := !decide (k = []) && (decide (k.length ≤ 24) && !decide (digitL k (k.length - 1) = 0))
theorem kright_runs (D : Decls) (hp : D.prim F_poskey_Right = none) (hc : D.code.get F_poskey_Right = some A_poskey_Right) (M : Mem) (k : List UInt8) :
    Runs D F_poskey_Right [.str k] M fun v M' => v = .bool (rightK k) ∧ M' = M := by
  refine R_opq fun R hR => ?_
  refine Runs.walk (F := A_poskey_Right) hp hc (by rfl) ?_
  unfold A_poskey_Right
  have fin : ∀ b, b = rightK k → R (.bool b) M := fun b hb => hR _ _ ⟨by rw [hb], rfl⟩
  simp -dsimp only [↓w_seq, ↓w_ops, ↓w_skip, ↓w_ret, ↓w_exit, ↓w_scope, ↓w_block, ↓w_cond, cond_true', cond_false', ↓t_nil, ↓t_plain, ↓t_guard, ↓t_gagain, ↓t_again, t_val, t_call, g_true, g_false, ga_true, ga_false, a_val, a_call, ↓n_normal, ↓n_ret, ↓n_exit, ↓b_normal, ↓b_ret, ↓b_exit, ↓e_normal, ↓e_ret, e_some, go_sem, ↓reduceIte, Nat.reduceEqDiff, Nat.reduceLT, Nat.reduceSub, A_poskey_Right_0, A_poskey_Right_1]
  by_cases h : k = []
  · simp -dsimp only [↓w_seq, ↓w_ops, ↓w_skip, ↓w_ret, ↓w_exit, ↓w_scope, ↓w_block, ↓w_cond, cond_true', cond_false', ↓t_nil, ↓t_plain, ↓t_guard, ↓t_gagain, ↓t_again, t_val, t_call, g_true, g_false, ga_true, ga_false, a_val, a_call, ↓n_normal, ↓n_ret, ↓n_exit, ↓b_normal, ↓b_ret, ↓b_exit, ↓e_normal, ↓e_ret, e_some, go_sem, ↓reduceIte, Nat.reduceEqDiff, Nat.reduceLT, Nat.reduceSub, h, decide_true, Bool.not_true, Bool.not_false]
    exact fin _ (by simp only [rightK, h, decide_true, Bool.not_true, Bool.false_and])
  · have hk : 0 < k.length := by cases k <;> simp at h ⊢
    simp -dsimp only [↓w_seq, ↓w_ops, ↓w_skip, ↓w_ret, ↓w_exit, ↓w_scope, ↓w_block, ↓w_cond, cond_true', cond_false', ↓t_nil, ↓t_plain, ↓t_guard, ↓t_gagain, ↓t_again, t_val, t_call, g_true, g_false, ga_true, ga_false, a_val, a_call, ↓n_normal, ↓n_ret, ↓n_exit, ↓b_normal, ↓b_ret, ↓b_exit, ↓e_normal, ↓e_ret, e_some, go_sem, ↓reduceIte, Nat.reduceEqDiff, Nat.reduceLT, Nat.reduceSub, h, decide_false, Bool.not_true, Bool.not_false]
    by_cases h2 : (k.length : Int) ≤ 24
    · have hl : k[k.length - 1]? = some k[k.length - 1] := List.getElem?_eq_getElem (by omega)
      have hd : digitL k (k.length - 1) = k[k.length - 1].toNat := by simp [digitL, List.getD_eq_getElem?_getD, hl]
      simp -dsimp only [↓w_seq, ↓w_ops, ↓w_skip, ↓w_ret, ↓w_exit, ↓w_scope, ↓w_block, ↓w_cond, cond_true', cond_false', ↓t_nil, ↓t_plain, ↓t_guard, ↓t_gagain, ↓t_again, t_val, t_call, g_true, g_false, ga_true, ga_false, a_val, a_call, ↓n_normal, ↓n_ret, ↓n_exit, ↓b_normal, ↓b_ret, ↓b_exit, ↓e_normal, ↓e_ret, e_some, go_sem, ↓reduceIte, Nat.reduceEqDiff, Nat.reduceLT, Nat.reduceSub, h2, decide_true]
      rw [IntWalk.i64_in _ (by omega), as_nat _ _ (by omega), show ((k.length : Int) - 1).toNat = k.length - 1 by omega]
      simp -dsimp only [↓w_seq, ↓w_ops, ↓w_skip, ↓w_ret, ↓w_exit, ↓w_scope, ↓w_block, ↓w_cond, cond_true', cond_false', ↓t_nil, ↓t_plain, ↓t_guard, ↓t_gagain, ↓t_again, t_val, t_call, g_true, g_false, ga_true, ga_false, a_val, a_call, ↓n_normal, ↓n_ret, ↓n_exit, ↓b_normal, ↓b_ret, ↓b_exit, ↓e_normal, ↓e_ret, e_some, go_sem, ↓reduceIte, Nat.reduceEqDiff, Nat.reduceLT, Nat.reduceSub, hl]
      exact fin _ (by simp only [rightK, h, hd, show k.length ≤ 24 by omega, Int.natCast_eq_zero, decide_true, decide_false, Bool.not_false, Bool.true_and])
    · simp -dsimp only [↓w_seq, ↓w_ops, ↓w_skip, ↓w_ret, ↓w_exit, ↓w_scope, ↓w_block, ↓w_cond, cond_true', cond_false', ↓t_nil, ↓t_plain, ↓t_guard, ↓t_gagain, ↓t_again, t_val, t_call, g_true, g_false, ga_true, ga_false, a_val, a_call, ↓n_normal, ↓n_ret, ↓n_exit, ↓b_normal, ↓b_ret, ↓b_exit, ↓e_normal, ↓e_ret, e_some, go_sem, ↓reduceIte, Nat.reduceEqDiff, Nat.reduceLT, Nat.reduceSub, h2, decide_false]
      exact fin _ (by simp only [rightK, h, show ¬ k.length ≤ 24 by omega, decide_true, decide_false, Bool.not_false, Bool.true_and, Bool.false_and])

/-! ### parts: none, node, Within -/
def treeOf (M : Mem) (tc : Nat) : Option (Option Tr) :=
  match M.get tc with
  | some (.cells [.map none] _) => some none
  | some (.cells [.map (some bm)] _) => (match M.get bm with
    | some (.map es) => (decM es).map some
    | _ => none)
  | _ => none
theorem treeOf_none {M : Mem} {tc : Nat} (h : treeOf M tc = some none) : ∃ rc, M.get tc = some (.cells [.map none] rc) := by
  unfold treeOf at h
  split at h
  · exact ⟨_, by assumption⟩
  · split at h
    · simp only [Option.map_eq_some_iff] at h
      obtain ⟨_, _, h⟩ := h
      cases h
    · cases h
  · cases h
theorem treeOf_some {M : Mem} {tc : Nat} {l : Tr} (h : treeOf M tc = some (some l)) : ∃ bm rc, M.get tc = some (.cells [.map (some bm)] rc) ∧ M.get bm = some (.map (encM l)) := by
  unfold treeOf at h
  split at h
  · cases h
  · rename_i bm rc htc
    split at h
    · rename_i es hes
      simp only [Option.map_eq_some_iff] at h
      obtain ⟨l', h1, h2⟩ := h
      cases h2
      exact ⟨bm, rc, htc, by rw [hes, decM_is h1]⟩
    · cases h
  · cases h
theorem treeOf_is {M : Mem} {tc bm : Nat} {rc : Bool} {l : Tr} (h : M.get tc = some (.cells [.map (some bm)] rc)) (h2 : M.get bm = some (.map (encM l))) : treeOf M tc = some (some l) := by
  simp only [treeOf, h, h2, decM_enc, Option.map_some]
theorem treeOf_is0 {M : Mem} {tc : Nat} {rc : Bool} (h : M.get tc = some (.cells [.map none] rc)) : treeOf M tc = some none := by
  simp only [treeOf, h]
theorem lt_of_get {M : Mem} (hwf : ∀ b, M.next ≤ b → M.get b = none) {c : Nat} {o : O} (h : M.get c = some o) : c < M.next := by
  rcases Nat.lt_or_ge c M.next with h1 | h1
  · exact h1
  · rw [hwf c h1] at h; cases h

def pNone (args : List V) (M : Mem) : Option V :=
  match args with
  | [.ptr none] => some (.bool true)
  | [.ptr (some (tc, 0))] => (treeOf M tc).map fun o => .bool o.isNone
  | _ => none
def pNode (args : List V) (M : Mem) : Option V :=
  match args with
  | [.ptr (some (tc, 0)), .agg [.int .i64 a, .int .i64 b]] => (treeOf M tc).bind fun o => o.map fun l => .bool (getS l (a, b)).isSome
  | _ => none
def withinB (l : Tr) (p n : St) (path : List St) : Bool := (getS l n).isSome && (decide (p ∈ path) || decide (p = n))
def pWithin (args : List V) (M : Mem) : Option V :=
  match args with
  | [.ptr none, .agg [.int .i64 a, .int .i64 b], .agg [.int .i64 c, .int .i64 d]] => some (.bool false)
  | [.ptr (some (tc, 0)), .agg [.int .i64 a, .int .i64 b], .agg [.int .i64 c, .int .i64 d]] => (treeOf M tc).bind fun o => match o with
    | none => some (.bool false)
    | some l => (upL l (l.length + 1) (c, d)).map fun path => .bool (withinB l (a, b) (c, d) path)
  | _ => none

theorem pNone_ok : CallOK Tryz.prog gl0 fun f' args M => if f' = F_tree_Tree_none then (pNone args M).map (·, M) else none := by
  refine prim_keep ⟨_, Tryz.func44, (by kernel_rfl), (by kernel_rfl)⟩ ?_
  intro args M v h hwf
  unfold pNone at h
  split at h
  · cases h
    exact ⟨rfl, XRuns.of_runs dok0 ((none_nil D0 rfl (by rfl) M).mono fun v M' h => ⟨h.1, fun c _ => by rw [h.2]⟩)⟩
  · rename_i tc
    simp only [Option.map_eq_some_iff] at h
    obtain ⟨o, h1, rfl⟩ := h
    cases o with
    | none =>
      obtain ⟨rc, h2⟩ := treeOf_none h1
      exact ⟨rfl, XRuns.of_runs dok0 ((none_empty D0 rfl (by rfl) M tc rc h2).mono fun v M' h => ⟨h.1, fun c _ => by rw [h.2]⟩)⟩
    | some l =>
      obtain ⟨bm, rc, h2, h3⟩ := treeOf_some h1
      exact ⟨rfl, XRuns.of_runs dok0 ((none_some D0 rfl (by rfl) M tc bm rc h2).mono fun v M' h => ⟨h.1, fun c _ => by rw [h.2]⟩)⟩
  · cases h
theorem pNode_ok : CallOK Tryz.prog gl0 fun f' args M => if f' = F_tree_Tree_node then (pNode args M).map (·, M) else none := by
  refine prim_keep ⟨_, Tryz.func47, (by kernel_rfl), (by kernel_rfl)⟩ ?_
  intro args M v h hwf
  unfold pNode at h
  split at h
  · rename_i tc a b
    simp only [Option.bind_eq_some_iff, Option.map_eq_some_iff] at h
    obtain ⟨o, h1, l, rfl, rfl⟩ := h
    obtain ⟨bm, rc, h2, h3⟩ := treeOf_some h1
    exact ⟨rfl, XRuns.of_runs dok0 ((node_runs D0 rfl (by rfl) M tc bm rc l (a, b) (lt_of_get hwf h2) (lt_of_get hwf h3) h2 (by unfold mapAt; rw [h3])).mono fun v M' h => ⟨h.1, h.2.old⟩)⟩
  · cases h
theorem Within_nil (M : Mem) (p n : St) : XP F_tree_Tree_Within [.ptr none, .agg (stC p), .agg (stC n)] M fun v M' => v = .bool false ∧ ∀ c, c < M.next → M'.get c = M.get c := by
  refine XR_opq fun R hR => ?_
  refine XRuns.walk mixed Tryz.func53 b_tree_Tree_Within n_tree_Tree_Within r_tree_Tree_Within (by rfl) ?_
  unfold X_tree_Tree_Within
  have hcn : ∀ x : St, V.cells (.agg (stC x)) = stC x := fun _ => rfl
  simp -dsimp only [↓x_seq', ↓x_ops, ↓x_skip, ↓x_ret, ↓x_exit, ↓x_block', ↓x_cond', cond_true', cond_false', ↓i_nil, ↓i_plain, ↓i_guard, xs_val, xs_call, xs_yield, xg_true, xg_false, ↓n_normal, ↓n_ret, ↓n_exit, ↓b_normal, ↓b_ret, ↓b_exit, ↓xe_normal, ↓xe_ret, e_some, yieldOf, go_sem, ↓reduceIte, Nat.reduceEqDiff, Nat.reduceLT, Nat.reduceSub, X_tree_Tree_Within_0, X_tree_Tree_Within_1, hcn, Mem.next_push]
  have gk : Grew M (((M.push (.cells (stC p) false)).push (.cells (stC n) false)).push (.cells [.bool false] false)) := ((Grew.push _ _).trans (Grew.push _ _)).trans (Grew.push _ _)
  have g6 : (((M.push (.cells (stC p) false)).push (.cells (stC n) false)).push (.cells [.bool false] false)).get (M.next + 1 + 1) = some (.cells [.bool false] false) := Mem.get_push_same ((M.push _).push _) _
  generalize ((M.push (.cells (stC p) false)).push (.cells (stC n) false)).push (.cells [.bool false] false) = M1 at *
  refine xcall_of (XRuns.of_runs dok0 (none_nil D0 rfl (by rfl) M1)) ?_
  intro v M2 hv
  rw [hv.1, hv.2]
  have hw6 := write_one (v := .bool false) g6 (show 0 < 1 by omega) rfl
  simp -dsimp only [↓x_seq', ↓x_ops, ↓x_skip, ↓x_ret, ↓x_exit, ↓x_block', ↓x_cond', cond_true', cond_false', ↓i_nil, ↓i_plain, ↓i_guard, xs_val, xs_call, xs_yield, xg_true, xg_false, ↓n_normal, ↓n_ret, ↓n_exit, ↓b_normal, ↓b_ret, ↓b_exit, ↓xe_normal, ↓xe_ret, e_some, yieldOf, go_sem, ↓reduceIte, Nat.reduceEqDiff, Nat.reduceLT, Nat.reduceSub, X_tree_Tree_Within_2, vstore, V.cells, List.length_cons, List.length_nil, Nat.zero_add, hw6, List.set_cons_zero]
  have hs6 := Mem.get_set_same M1 (M.next + 1 + 1) (.cells [.bool false] false)
  have ho6 : ∀ c, c ≠ M.next + 1 + 1 → (M1.set (M.next + 1 + 1) (.cells [.bool false] false)).get c = M1.get c := fun c hc => Mem.get_set_ne _ _ hc
  generalize M1.set (M.next + 1 + 1) (.cells [.bool false] false) = M6 at *
  simp -dsimp only [↓x_seq', ↓x_ops, ↓x_skip, ↓x_ret, ↓x_exit, ↓x_block', ↓x_cond', cond_true', cond_false', ↓i_nil, ↓i_plain, ↓i_guard, xs_val, xs_call, xs_yield, xg_true, xg_false, ↓n_normal, ↓n_ret, ↓n_exit, ↓b_normal, ↓b_ret, ↓b_exit, ↓xe_normal, ↓xe_ret, e_some, yieldOf, go_sem, ↓reduceIte, Nat.reduceEqDiff, Nat.reduceLT, Nat.reduceSub, vload, vptr, Mem.read, hs6, List.getElem?_cons_zero, Option.bind_some, oneOf]
  exact hR _ _ ⟨rfl, fun c hc => (ho6 c (by omega)).trans (gk.old c hc)⟩
theorem Within_empty (M : Mem) (p n : St) (tc : Nat) (rc : Bool) (htc : tc < M.next) (h : M.get tc = some (.cells [.map none] rc)) : XP F_tree_Tree_Within [.ptr (some (tc, 0)), .agg (stC p), .agg (stC n)] M fun v M' => v = .bool false ∧ ∀ c, c < M.next → M'.get c = M.get c := by
  refine XR_opq fun R hR => ?_
  refine XRuns.walk mixed Tryz.func53 b_tree_Tree_Within n_tree_Tree_Within r_tree_Tree_Within (by rfl) ?_
  unfold X_tree_Tree_Within
  have hcn : ∀ x : St, V.cells (.agg (stC x)) = stC x := fun _ => rfl
  simp -dsimp only [↓x_seq', ↓x_ops, ↓x_skip, ↓x_ret, ↓x_exit, ↓x_block', ↓x_cond', cond_true', cond_false', ↓i_nil, ↓i_plain, ↓i_guard, xs_val, xs_call, xs_yield, xg_true, xg_false, ↓n_normal, ↓n_ret, ↓n_exit, ↓b_normal, ↓b_ret, ↓b_exit, ↓xe_normal, ↓xe_ret, e_some, yieldOf, go_sem, ↓reduceIte, Nat.reduceEqDiff, Nat.reduceLT, Nat.reduceSub, X_tree_Tree_Within_0, X_tree_Tree_Within_1, hcn, Mem.next_push]
  have gk : Grew M (((M.push (.cells (stC p) false)).push (.cells (stC n) false)).push (.cells [.bool false] false)) := ((Grew.push _ _).trans (Grew.push _ _)).trans (Grew.push _ _)
  have g6 : (((M.push (.cells (stC p) false)).push (.cells (stC n) false)).push (.cells [.bool false] false)).get (M.next + 1 + 1) = some (.cells [.bool false] false) := Mem.get_push_same ((M.push _).push _) _
  generalize ((M.push (.cells (stC p) false)).push (.cells (stC n) false)).push (.cells [.bool false] false) = M1 at *
  refine xcall_of (XRuns.of_runs dok0 (none_empty D0 rfl (by rfl) M1 tc rc ((gk.old _ htc).trans h))) ?_
  intro v M2 hv
  rw [hv.1, hv.2]
  have hw6 := write_one (v := .bool false) g6 (show 0 < 1 by omega) rfl
  simp -dsimp only [↓x_seq', ↓x_ops, ↓x_skip, ↓x_ret, ↓x_exit, ↓x_block', ↓x_cond', cond_true', cond_false', ↓i_nil, ↓i_plain, ↓i_guard, xs_val, xs_call, xs_yield, xg_true, xg_false, ↓n_normal, ↓n_ret, ↓n_exit, ↓b_normal, ↓b_ret, ↓b_exit, ↓xe_normal, ↓xe_ret, e_some, yieldOf, go_sem, ↓reduceIte, Nat.reduceEqDiff, Nat.reduceLT, Nat.reduceSub, X_tree_Tree_Within_2, vstore, V.cells, List.length_cons, List.length_nil, Nat.zero_add, hw6, List.set_cons_zero]
  have hs6 := Mem.get_set_same M1 (M.next + 1 + 1) (.cells [.bool false] false)
  have ho6 : ∀ c, c ≠ M.next + 1 + 1 → (M1.set (M.next + 1 + 1) (.cells [.bool false] false)).get c = M1.get c := fun c hc => Mem.get_set_ne _ _ hc
  generalize M1.set (M.next + 1 + 1) (.cells [.bool false] false) = M6 at *
  simp -dsimp only [↓x_seq', ↓x_ops, ↓x_skip, ↓x_ret, ↓x_exit, ↓x_block', ↓x_cond', cond_true', cond_false', ↓i_nil, ↓i_plain, ↓i_guard, xs_val, xs_call, xs_yield, xg_true, xg_false, ↓n_normal, ↓n_ret, ↓n_exit, ↓b_normal, ↓b_ret, ↓b_exit, ↓xe_normal, ↓xe_ret, e_some, yieldOf, go_sem, ↓reduceIte, Nat.reduceEqDiff, Nat.reduceLT, Nat.reduceSub, vload, vptr, Mem.read, hs6, List.getElem?_cons_zero, Option.bind_some, oneOf]
  exact hR _ _ ⟨rfl, fun c hc => (ho6 c (by omega)).trans (gk.old c hc)⟩
theorem pWithin_ok : CallOK Tryz.prog gl0 fun f' args M => if f' = F_tree_Tree_Within then (pWithin args M).map (·, M) else none := by
  refine prim_keep ⟨_, Tryz.func53, (by kernel_rfl), (by kernel_rfl)⟩ ?_
  intro args M v h hwf
  unfold pWithin at h
  split at h
  · rename_i a b c d
    cases h
    exact ⟨rfl, Within_nil M (a, b) (c, d)⟩
  · rename_i tc a b c d
    simp only [Option.bind_eq_some_iff] at h
    obtain ⟨o, h1, h⟩ := h
    cases o with
    | none =>
      obtain ⟨rc, h2⟩ := treeOf_none h1
      cases h
      exact ⟨rfl, Within_empty M (a, b) (c, d) tc rc (lt_of_get hwf h2) h2⟩
    | some l =>
      obtain ⟨bm, rc, h2, h3⟩ := treeOf_some h1
      simp only [Option.map_eq_some_iff] at h
      obtain ⟨path, hp, rfl⟩ := h
      exact ⟨rfl, (Within_runs M tc bm rc l (a, b) (c, d) path (lt_of_get hwf h2) (lt_of_get hwf h3) h2 (by unfold mapAt; rw [h3]) ⟨_, hp⟩).mono fun v M' h => ⟨h.2, h.1⟩⟩
  · cases h

def pSRight (args : List V) (_ : Mem) : Option V :=
  match args with
  | [.agg [.int .i64 a, .int .i64 b]] => some (.bool (rightSt (a, b)))
  | _ => none
def pKRight (args : List V) (_ : Mem) : Option V :=
  match args with
  | [.str k] => some (.bool (rightK k))
  | _ => none
theorem pSRight_ok : CallOK Tryz.prog gl0 fun f' args M => if f' = F_stamp_Right then (pSRight args M).map (·, M) else none := by
  refine prim_keep ⟨_, Tryz.func91, (by kernel_rfl), (by kernel_rfl)⟩ ?_
  intro args M v h hwf
  unfold pSRight at h
  split at h
  · rename_i a b
    cases h
    exact ⟨rfl, XRuns.of_runs dok0 (sright_runs D0 rfl (by rfl) M (a, b))⟩
  · cases h
theorem pKRight_ok : CallOK Tryz.prog gl0 fun f' args M => if f' = F_poskey_Right then (pKRight args M).map (·, M) else none := by
  refine prim_keep ⟨_, Tryz.func93, (by kernel_rfl), (by kernel_rfl)⟩ ?_
  intro args M v h hwf
  unfold pKRight at h
  split at h
  · rename_i k
    cases h
    exact ⟨rfl, XRuns.of_runs dok0 ((kright_runs D0 rfl (by rfl) M k).mono fun v M' h => ⟨h.1, fun c _ => by rw [h.2]⟩)⟩
  · cases h
def D1v : Decls := ((((D1u.addP F_tree_Tree_none pNone).addP F_tree_Tree_node pNode).addP F_tree_Tree_Within pWithin).addP F_stamp_Right pSRight).addP F_poskey_Right pKRight
theorem dok1v : DOK Tryz.prog gl0 D1v := ((((dok1u.addM pNone_ok).addM pNode_ok).addM pWithin_ok).addM pSRight_ok).addM pKRight_ok
end Go.Am.Tryz


/- op.Node, op.Place, Spot.right, Has, Spot as parts. -/
namespace Go.Am.Tryz
open Go Go.Am Go.Proofs Go.Sort Go.Shelf
set_option maxRecDepth 100000
set_option linter.unusedSimpArgs false
set_option linter.unusedVariables false

def nodeSt (x : St) : Bool := rightSt x && decide (0 < x.1)
def placeSt (x : St) : Bool := nodeSt x || (decide (x = (0, 0)) || decide (x = (0, 1)))
def isG (M : Mem) : Bool :=
  match M.get 0, M.get 1 with
  | some (.cells [.int .i64 a, .int .i64 b] true), some (.cells [.int .i64 c, .int .i64 d] true) => (decide (a = 0) && decide (b = 0)) && (decide (c = 0) && decide (d = 1))
  | _, _ => false
theorem isG_is {M : Mem} (h : isG M = true) : M.get 0 = some (.cells (stC (0, 0)) true) ∧ M.get 1 = some (.cells (stC (0, 1)) true) := by
  unfold isG at h
  split at h
  · rename_i a b c d h0 h1
    simp only [Bool.and_eq_true, decide_eq_true_eq] at h
    obtain ⟨⟨rfl, rfl⟩, rfl, rfl⟩ := h
    exact ⟨h0, h1⟩
  · cases h
theorem isG_mk {M : Mem} (h0 : M.get 0 = some (.cells (stC (0, 0)) true)) (h1 : M.get 1 = some (.cells (stC (0, 1)) true)) : isG M = true := by
  simp only [isG, h0, h1, stC]
  rfl

theorem opNode_runs (M : Mem) (x : St) : Runs D1v F_op_Node [.agg (stC x)] M fun v M' => v = .bool (nodeSt x) ∧ ∀ c, c < M.next → M'.get c = M.get c := by
  refine R_opq fun R hR => ?_
  refine Runs.walk (F := A_op_Node) rfl (by rfl) (by rfl) ?_
  unfold A_op_Node
  have hcn : V.cells (.agg (stC x)) = stC x := rfl
  have hrd : rdCells (stC x) 0 2 = some (stC x) := rfl
  have g1 : (M.push (.cells (stC x) false)).get M.next = some (.cells (stC x) false) := Mem.get_push_same _ _
  have hG : ∀ c, c < M.next → (M.push (.cells (stC x) false)).get c = M.get c := (Grew.push _ _).old
  have e0 : (stC x)[0]? = some (.int .i64 x.1) := rfl
  have fin : ∀ b, b = nodeSt x → R (.bool b) (M.push (.cells (stC x) false)) := fun b hb => hR _ _ ⟨by rw [hb], hG⟩
  simp -dsimp only [↓w_seq, ↓w_ops, ↓w_skip, ↓w_ret, ↓w_exit, ↓w_scope, ↓w_block, ↓w_cond, cond_true', cond_false', ↓t_nil, ↓t_plain, ↓t_guard, ↓t_gagain, ↓t_again, t_val, t_call, g_true, g_false, ga_true, ga_false, a_val, a_call, ↓n_normal, ↓n_ret, ↓n_exit, ↓b_normal, ↓b_ret, ↓b_exit, ↓e_normal, ↓e_ret, e_some, go_sem, ↓reduceIte, Nat.reduceEqDiff, Nat.reduceLT, Nat.reduceSub, A_op_Node_0, A_op_Node_1, hcn]
  generalize M.push (.cells (stC x) false) = M1 at *
  simp -dsimp only [↓w_seq, ↓w_ops, ↓w_skip, ↓w_ret, ↓w_exit, ↓w_scope, ↓w_block, ↓w_cond, cond_true', cond_false', ↓t_nil, ↓t_plain, ↓t_guard, ↓t_gagain, ↓t_again, t_val, t_call, g_true, g_false, ga_true, ga_false, a_val, a_call, ↓n_normal, ↓n_ret, ↓n_exit, ↓b_normal, ↓b_ret, ↓b_exit, ↓e_normal, ↓e_ret, e_some, go_sem, ↓reduceIte, Nat.reduceEqDiff, Nat.reduceLT, Nat.reduceSub, vload, vptr, Mem.read, g1, Nat.add_zero, e0, hrd]
  refine call_eq (Runs.part (g := pSRight) rfl rfl) ?_
  cases hr : rightSt (x.1, x.2) with
  | true =>
    simp -dsimp only [↓w_seq, ↓w_ops, ↓w_skip, ↓w_ret, ↓w_exit, ↓w_scope, ↓w_block, ↓w_cond, cond_true', cond_false', ↓t_nil, ↓t_plain, ↓t_guard, ↓t_gagain, ↓t_again, t_val, t_call, g_true, g_false, ga_true, ga_false, a_val, a_call, ↓n_normal, ↓n_ret, ↓n_exit, ↓b_normal, ↓b_ret, ↓b_exit, ↓e_normal, ↓e_ret, e_some, go_sem, ↓reduceIte, Nat.reduceEqDiff, Nat.reduceLT, Nat.reduceSub, vload, vptr, Mem.read, g1, Nat.add_zero, e0, hrd]
    exact fin _ (by rw [nodeSt, show rightSt x = true from hr]; rfl)
  | false =>
    simp -dsimp only [↓w_seq, ↓w_ops, ↓w_skip, ↓w_ret, ↓w_exit, ↓w_scope, ↓w_block, ↓w_cond, cond_true', cond_false', ↓t_nil, ↓t_plain, ↓t_guard, ↓t_gagain, ↓t_again, t_val, t_call, g_true, g_false, ga_true, ga_false, a_val, a_call, ↓n_normal, ↓n_ret, ↓n_exit, ↓b_normal, ↓b_ret, ↓b_exit, ↓e_normal, ↓e_ret, e_some, go_sem, ↓reduceIte, Nat.reduceEqDiff, Nat.reduceLT, Nat.reduceSub, vload, vptr, Mem.read, g1, Nat.add_zero, e0, hrd]
    exact fin _ (by rw [nodeSt, show rightSt x = false from hr]; rfl)
def pOpNode (args : List V) (_ : Mem) : Option V :=
  match args with
  | [.agg [.int .i64 a, .int .i64 b]] => some (.bool (nodeSt (a, b)))
  | _ => none
theorem pOpNode_ok : CallOK Tryz.prog gl0 fun f' args M => if f' = F_op_Node then (pOpNode args M).map (·, M) else none := by
  refine prim_keep ⟨_, Tryz.func45, (by kernel_rfl), (by kernel_rfl)⟩ ?_
  intro args M v h hwf
  unfold pOpNode at h
  split at h
  · rename_i a b
    cases h
    exact ⟨rfl, XRuns.of_runs dok1v (opNode_runs M (a, b))⟩
  · cases h
def D1w1 : Decls := D1v.addP F_op_Node pOpNode
theorem dok1w1 : DOK Tryz.prog gl0 D1w1 := dok1v.addM pOpNode_ok

theorem opPlace_runs (M : Mem) (x : St) (hn : 2 ≤ M.next) (h0 : M.get 0 = some (.cells (stC (0, 0)) true)) (h1 : M.get 1 = some (.cells (stC (0, 1)) true)) :
    Runs D1w1 F_op_Place [.agg (stC x)] M fun v M' => v = .bool (placeSt x) ∧ ∀ c, c < M.next → M'.get c = M.get c := by
  refine R_opq fun R hR => ?_
  refine Runs.walk (F := A_op_Place) rfl (by rfl) (by rfl) ?_
  unfold A_op_Place
  have hcn : V.cells (.agg (stC x)) = stC x := rfl
  have hrd : ∀ x : St, rdCells (stC x) 0 2 = some (stC x) := fun _ => rfl
  have g1 : (M.push (.cells (stC x) false)).get M.next = some (.cells (stC x) false) := Mem.get_push_same _ _
  have hG : ∀ c, c < M.next → (M.push (.cells (stC x) false)).get c = M.get c := (Grew.push _ _).old
  have k0 := (hG 0 (by omega)).trans h0
  have k1 := (hG 1 (by omega)).trans h1
  have fin : ∀ b, b = placeSt x → R (.bool b) (M.push (.cells (stC x) false)) := fun b hb => hR _ _ ⟨by rw [hb], hG⟩
  simp -dsimp only [↓w_seq, ↓w_ops, ↓w_skip, ↓w_ret, ↓w_exit, ↓w_scope, ↓w_block, ↓w_cond, cond_true', cond_false', ↓t_nil, ↓t_plain, ↓t_guard, ↓t_gagain, ↓t_again, t_val, t_call, g_true, g_false, ga_true, ga_false, a_val, a_call, ↓n_normal, ↓n_ret, ↓n_exit, ↓b_normal, ↓b_ret, ↓b_exit, ↓e_normal, ↓e_ret, e_some, go_sem, ↓reduceIte, Nat.reduceEqDiff, Nat.reduceLT, Nat.reduceSub, A_op_Place_0, A_op_Place_1, hcn]
  generalize M.push (.cells (stC x) false) = M1 at *
  simp -dsimp only [↓w_seq, ↓w_ops, ↓w_skip, ↓w_ret, ↓w_exit, ↓w_scope, ↓w_block, ↓w_cond, cond_true', cond_false', ↓t_nil, ↓t_plain, ↓t_guard, ↓t_gagain, ↓t_again, t_val, t_call, g_true, g_false, ga_true, ga_false, a_val, a_call, ↓n_normal, ↓n_ret, ↓n_exit, ↓b_normal, ↓b_ret, ↓b_exit, ↓e_normal, ↓e_ret, e_some, go_sem, ↓reduceIte, Nat.reduceEqDiff, Nat.reduceLT, Nat.reduceSub, vload, vptr, Mem.read, g1, Nat.add_zero, hrd]
  refine call_eq (Runs.part (g := pOpNode) rfl rfl) ?_
  cases hr : nodeSt (x.1, x.2) with
  | true =>
    simp -dsimp only [↓w_seq, ↓w_ops, ↓w_skip, ↓w_ret, ↓w_exit, ↓w_scope, ↓w_block, ↓w_cond, cond_true', cond_false', ↓t_nil, ↓t_plain, ↓t_guard, ↓t_gagain, ↓t_again, t_val, t_call, g_true, g_false, ga_true, ga_false, a_val, a_call, ↓n_normal, ↓n_ret, ↓n_exit, ↓b_normal, ↓b_ret, ↓b_exit, ↓e_normal, ↓e_ret, e_some, go_sem, ↓reduceIte, Nat.reduceEqDiff, Nat.reduceLT, Nat.reduceSub, vload, vptr, Mem.read, g1, Nat.add_zero, hrd]
    exact fin _ (by rw [placeSt, show nodeSt x = true from hr]; rfl)
  | false =>
    simp -dsimp only [↓w_seq, ↓w_ops, ↓w_skip, ↓w_ret, ↓w_exit, ↓w_scope, ↓w_block, ↓w_cond, cond_true', cond_false', ↓t_nil, ↓t_plain, ↓t_guard, ↓t_gagain, ↓t_again, t_val, t_call, g_true, g_false, ga_true, ga_false, a_val, a_call, ↓n_normal, ↓n_ret, ↓n_exit, ↓b_normal, ↓b_ret, ↓b_exit, ↓e_normal, ↓e_ret, e_some, go_sem, ↓reduceIte, Nat.reduceEqDiff, Nat.reduceLT, Nat.reduceSub, vload, vptr, Mem.read, g1, k0, k1, Nat.add_zero, hrd, st_same]
    by_cases h2 : x = (0, 0)
    · simp -dsimp only [↓w_seq, ↓w_ops, ↓w_skip, ↓w_ret, ↓w_exit, ↓w_scope, ↓w_block, ↓w_cond, cond_true', cond_false', ↓t_nil, ↓t_plain, ↓t_guard, ↓t_gagain, ↓t_again, t_val, t_call, g_true, g_false, ga_true, ga_false, a_val, a_call, ↓n_normal, ↓n_ret, ↓n_exit, ↓b_normal, ↓b_ret, ↓b_exit, ↓e_normal, ↓e_ret, e_some, go_sem, ↓reduceIte, Nat.reduceEqDiff, Nat.reduceLT, Nat.reduceSub, h2, decide_true, vload, vptr, Mem.read, g1, k0, k1, Nat.add_zero, hrd, st_same]
      exact fin _ (by rw [placeSt, show nodeSt x = false from hr]; simp [h2])
    · simp -dsimp only [↓w_seq, ↓w_ops, ↓w_skip, ↓w_ret, ↓w_exit, ↓w_scope, ↓w_block, ↓w_cond, cond_true', cond_false', ↓t_nil, ↓t_plain, ↓t_guard, ↓t_gagain, ↓t_again, t_val, t_call, g_true, g_false, ga_true, ga_false, a_val, a_call, ↓n_normal, ↓n_ret, ↓n_exit, ↓b_normal, ↓b_ret, ↓b_exit, ↓e_normal, ↓e_ret, e_some, go_sem, ↓reduceIte, Nat.reduceEqDiff, Nat.reduceLT, Nat.reduceSub, h2, decide_false, vload, vptr, Mem.read, g1, k0, k1, Nat.add_zero, hrd, st_same]
      exact fin _ (by rw [placeSt, show nodeSt x = false from hr]; simp [h2])
def pOpPlace (args : List V) (M : Mem) : Option V :=
  match args with
  | [.agg [.int .i64 a, .int .i64 b]] => cond (isG M) (some (.bool (placeSt (a, b)))) none
  | _ => none
theorem isG_lt {M : Mem} (hwf : ∀ b, M.next ≤ b → M.get b = none) (h : isG M = true) : 2 ≤ M.next := lt_of_get hwf (isG_is h).2
theorem pOpPlace_ok : CallOK Tryz.prog gl0 fun f' args M => if f' = F_op_Place then (pOpPlace args M).map (·, M) else none := by
  refine prim_keep ⟨_, Tryz.func92, (by kernel_rfl), (by kernel_rfl)⟩ ?_
  intro args M v h hwf
  unfold pOpPlace at h
  split at h
  · rename_i a b
    obtain ⟨h1, h⟩ := cond_some h
    cases h
    exact ⟨rfl, XRuns.of_runs dok1w1 (opPlace_runs M (a, b) (isG_lt hwf h1) (isG_is h1).1 (isG_is h1).2)⟩
  · cases h
def D1w2 : Decls := D1w1.addP F_op_Place pOpPlace
theorem dok1w2 : DOK Tryz.prog gl0 D1w2 := dok1w1.addM pOpPlace_ok

def rightSp (s : Spot) : Bool := placeSt s.1 && rightK s.2
theorem spRight_runs (M : Mem) (s : Spot) (hg : isG M = true) (hn : 2 ≤ M.next) : Runs D1w2 F_tree_Spot_right [.agg (spC s)] M fun v M' => v = .bool (rightSp s) ∧ ∀ c, c < M.next → M'.get c = M.get c := by
  refine R_opq fun R hR => ?_
  refine Runs.walk (F := A_tree_Spot_right) rfl (by rfl) (by rfl) ?_
  unfold A_tree_Spot_right
  have hcn : V.cells (.agg (spC s)) = spC s := rfl
  have hrd : rdCells (spC s) 0 2 = some (stC s.1) := rfl
  have e2 : (spC s)[2]? = some (.str s.2) := rfl
  have g1 : (M.push (.cells (spC s) false)).get M.next = some (.cells (spC s) false) := Mem.get_push_same _ _
  have hG : ∀ c, c < M.next → (M.push (.cells (spC s) false)).get c = M.get c := (Grew.push _ _).old
  have hg1 : isG (M.push (.cells (spC s) false)) = true := isG_mk ((hG 0 (by omega)).trans (isG_is hg).1) ((hG 1 (by omega)).trans (isG_is hg).2)
  have fin : ∀ b, b = rightSp s → R (.bool b) (M.push (.cells (spC s) false)) := fun b hb => hR _ _ ⟨by rw [hb], hG⟩
  simp -dsimp only [↓w_seq, ↓w_ops, ↓w_skip, ↓w_ret, ↓w_exit, ↓w_scope, ↓w_block, ↓w_cond, cond_true', cond_false', ↓t_nil, ↓t_plain, ↓t_guard, ↓t_gagain, ↓t_again, t_val, t_call, g_true, g_false, ga_true, ga_false, a_val, a_call, ↓n_normal, ↓n_ret, ↓n_exit, ↓b_normal, ↓b_ret, ↓b_exit, ↓e_normal, ↓e_ret, e_some, go_sem, ↓reduceIte, Nat.reduceEqDiff, Nat.reduceLT, Nat.reduceSub, A_tree_Spot_right_0, A_tree_Spot_right_1, hcn]
  generalize M.push (.cells (spC s) false) = M1 at *
  simp -dsimp only [↓w_seq, ↓w_ops, ↓w_skip, ↓w_ret, ↓w_exit, ↓w_scope, ↓w_block, ↓w_cond, cond_true', cond_false', ↓t_nil, ↓t_plain, ↓t_guard, ↓t_gagain, ↓t_again, t_val, t_call, g_true, g_false, ga_true, ga_false, a_val, a_call, ↓n_normal, ↓n_ret, ↓n_exit, ↓b_normal, ↓b_ret, ↓b_exit, ↓e_normal, ↓e_ret, e_some, go_sem, ↓reduceIte, Nat.reduceEqDiff, Nat.reduceLT, Nat.reduceSub, vload, vptr, Mem.read, g1, Nat.add_zero, hrd, e2]
  refine call_eq (Runs.part (g := pOpPlace) (v := .bool (placeSt s.1)) rfl (by show cond (isG M1) _ none = _; rw [hg1]; rfl)) ?_
  cases hr : placeSt s.1 with
  | false =>
    simp -dsimp only [↓w_seq, ↓w_ops, ↓w_skip, ↓w_ret, ↓w_exit, ↓w_scope, ↓w_block, ↓w_cond, cond_true', cond_false', ↓t_nil, ↓t_plain, ↓t_guard, ↓t_gagain, ↓t_again, t_val, t_call, g_true, g_false, ga_true, ga_false, a_val, a_call, ↓n_normal, ↓n_ret, ↓n_exit, ↓b_normal, ↓b_ret, ↓b_exit, ↓e_normal, ↓e_ret, e_some, go_sem, ↓reduceIte, Nat.reduceEqDiff, Nat.reduceLT, Nat.reduceSub, vload, vptr, Mem.read, g1, Nat.add_zero, hrd, e2]
    exact fin _ (by rw [rightSp, hr]; rfl)
  | true =>
    simp -dsimp only [↓w_seq, ↓w_ops, ↓w_skip, ↓w_ret, ↓w_exit, ↓w_scope, ↓w_block, ↓w_cond, cond_true', cond_false', ↓t_nil, ↓t_plain, ↓t_guard, ↓t_gagain, ↓t_again, t_val, t_call, g_true, g_false, ga_true, ga_false, a_val, a_call, ↓n_normal, ↓n_ret, ↓n_exit, ↓b_normal, ↓b_ret, ↓b_exit, ↓e_normal, ↓e_ret, e_some, go_sem, ↓reduceIte, Nat.reduceEqDiff, Nat.reduceLT, Nat.reduceSub, vload, vptr, Mem.read, g1, Nat.zero_add, Nat.add_zero, hrd, e2]
    refine call_eq (Runs.part (g := pKRight) rfl rfl) ?_
    simp -dsimp only [↓w_seq, ↓w_ops, ↓w_skip, ↓w_ret, ↓w_exit, ↓w_scope, ↓w_block, ↓w_cond, cond_true', cond_false', ↓t_nil, ↓t_plain, ↓t_guard, ↓t_gagain, ↓t_again, t_val, t_call, g_true, g_false, ga_true, ga_false, a_val, a_call, ↓n_normal, ↓n_ret, ↓n_exit, ↓b_normal, ↓b_ret, ↓b_exit, ↓e_normal, ↓e_ret, e_some, go_sem, ↓reduceIte, Nat.reduceEqDiff, Nat.reduceLT, Nat.reduceSub, vload, vptr, Mem.read, g1, Nat.add_zero, hrd, e2]
    exact fin _ (by rw [rightSp, hr]; rfl)
def pSpRight (args : List V) (M : Mem) : Option V :=
  match args with
  | [.agg [.int .i64 a, .int .i64 b, .str k]] => cond (isG M) (some (.bool (rightSp ((a, b), k)))) none
  | _ => none
theorem pSpRight_ok : CallOK Tryz.prog gl0 fun f' args M => if f' = F_tree_Spot_right then (pSpRight args M).map (·, M) else none := by
  refine prim_keep ⟨_, Tryz.func46, (by kernel_rfl), (by kernel_rfl)⟩ ?_
  intro args M v h hwf
  unfold pSpRight at h
  split at h
  · rename_i a b k
    obtain ⟨h1, h⟩ := cond_some h
    cases h
    exact ⟨rfl, XRuns.of_runs dok1w2 (spRight_runs M ((a, b), k) h1 (isG_lt hwf h1))⟩
  · cases h

def hasB (l : Tr) (p : St) : Bool := (getS l p).isSome || (placeSt p && !nodeSt p)
theorem none_p {D : Decls} (hp : D.prim F_tree_Tree_none = some fun args M => (pNone args M).map (·, M)) {M : Mem} {tc : Nat} {l : Tr} (h : treeOf M tc = some (some l)) : Runs D F_tree_Tree_none [.ptr (some (tc, 0))] M fun v M' => v = .bool false ∧ M' = M :=
  Runs.part (g := pNone) hp (by simp only [pNone, h, Option.map_some, Option.isNone_some])
theorem none_p0 {D : Decls} (hp : D.prim F_tree_Tree_none = some fun args M => (pNone args M).map (·, M)) {M : Mem} {tc : Nat} (h : treeOf M tc = some none) : Runs D F_tree_Tree_none [.ptr (some (tc, 0))] M fun v M' => v = .bool true ∧ M' = M :=
  Runs.part (g := pNone) hp (by simp only [pNone, h, Option.map_some, Option.isNone_none])
theorem none_pn {D : Decls} (hp : D.prim F_tree_Tree_none = some fun args M => (pNone args M).map (·, M)) {M : Mem} : Runs D F_tree_Tree_none [.ptr none] M fun v M' => v = .bool true ∧ M' = M :=
  Runs.part (g := pNone) hp rfl
theorem place_p {D : Decls} (hp : D.prim F_op_Place = some fun args M => (pOpPlace args M).map (·, M)) {M : Mem} (x : St) (h : isG M = true) : Runs D F_op_Place [.agg (stC x)] M fun v M' => v = .bool (placeSt x) ∧ M' = M :=
  Runs.part (g := pOpPlace) hp (by show cond (isG M) _ none = _; rw [h]; rfl)
theorem opnode_p {D : Decls} (hp : D.prim F_op_Node = some fun args M => (pOpNode args M).map (·, M)) {M : Mem} (x : St) : Runs D F_op_Node [.agg (stC x)] M fun v M' => v = .bool (nodeSt x) ∧ M' = M :=
  Runs.part (g := pOpNode) hp rfl
theorem tree_keep {M M' : Mem} {tc : Nat} {o : Option Tr} (h : treeOf M tc = some o) (hwf : ∀ b, M.next ≤ b → M.get b = none) (hk : ∀ c, c < M.next → M'.get c = M.get c) : treeOf M' tc = some o := by
  cases o with
  | none =>
    obtain ⟨rc, h1⟩ := treeOf_none h
    exact treeOf_is0 ((hk _ (lt_of_get hwf h1)).trans h1)
  | some l =>
    obtain ⟨bm, rc, h1, h2⟩ := treeOf_some h
    exact treeOf_is ((hk _ (lt_of_get hwf h1)).trans h1) ((hk _ (lt_of_get hwf h2)).trans h2)
theorem has_none (M : Mem) (t : V) (p : St) (h : ∀ M', Grew M M' → Runs D1w2 F_tree_Tree_none [t] M' fun v M'' => v = .bool true ∧ M'' = M') : Runs D1w2 F_tree_Tree_Has [t, .agg (stC p)] M fun v M' => v = .bool false ∧ ∀ c, c < M.next → M'.get c = M.get c := by
  refine R_opq fun R hR => ?_
  refine Runs.walk (F := A_tree_Tree_Has) rfl (by rfl) (by rfl) ?_
  unfold A_tree_Tree_Has
  have hcn : V.cells (.agg (stC p)) = stC p := rfl
  have hG := Grew.push M (.cells (stC p) false)
  simp -dsimp only [↓w_seq, ↓w_ops, ↓w_skip, ↓w_ret, ↓w_exit, ↓w_scope, ↓w_block, ↓w_cond, cond_true', cond_false', ↓t_nil, ↓t_plain, ↓t_guard, ↓t_gagain, ↓t_again, t_val, t_call, g_true, g_false, ga_true, ga_false, a_val, a_call, ↓n_normal, ↓n_ret, ↓n_exit, ↓b_normal, ↓b_ret, ↓b_exit, ↓e_normal, ↓e_ret, e_some, go_sem, ↓reduceIte, Nat.reduceEqDiff, Nat.reduceLT, Nat.reduceSub, A_tree_Tree_Has_0, A_tree_Tree_Has_1, A_tree_Tree_Has_2, hcn]
  generalize M.push (.cells (stC p) false) = M1 at *
  refine call_eq (h _ hG) ?_
  simp -dsimp only [↓w_seq, ↓w_ops, ↓w_skip, ↓w_ret, ↓w_exit, ↓w_scope, ↓w_block, ↓w_cond, cond_true', cond_false', ↓t_nil, ↓t_plain, ↓t_guard, ↓t_gagain, ↓t_again, t_val, t_call, g_true, g_false, ga_true, ga_false, a_val, a_call, ↓n_normal, ↓n_ret, ↓n_exit, ↓b_normal, ↓b_ret, ↓b_exit, ↓e_normal, ↓e_ret, e_some, go_sem, ↓reduceIte, Nat.reduceEqDiff, Nat.reduceLT, Nat.reduceSub, A_tree_Tree_Has_0, A_tree_Tree_Has_1, A_tree_Tree_Has_2, hcn]
  exact hR _ _ ⟨rfl, hG.old⟩
theorem has_runs (M : Mem) (tc bm : Nat) (rc : Bool) (l : Tr) (p : St) (hg : isG M = true) (hn : 2 ≤ M.next) (htc : tc < M.next) (hbm : bm < M.next) (h : M.get tc = some (.cells [.map (some bm)] rc)) (h2 : M.get bm = some (.map (encM l))) :
    Runs D1w2 F_tree_Tree_Has [.ptr (some (tc, 0)), .agg (stC p)] M fun v M' => v = .bool (hasB l p) ∧ ∀ c, c < M.next → M'.get c = M.get c := by
  refine R_opq fun R hR => ?_
  refine Runs.walk (F := A_tree_Tree_Has) rfl (by rfl) (by rfl) ?_
  unfold A_tree_Tree_Has
  have hcn : V.cells (.agg (stC p)) = stC p := rfl
  have hG := Grew.push M (.cells (stC p) false)
  have g1 : (M.push (.cells (stC p) false)).get M.next = some (.cells (stC p) false) := Mem.get_push_same _ _
  have hn1 : (M.push (.cells (stC p) false)).next = M.next + 1 := rfl
  simp -dsimp only [↓w_seq, ↓w_ops, ↓w_skip, ↓w_ret, ↓w_exit, ↓w_scope, ↓w_block, ↓w_cond, cond_true', cond_false', ↓t_nil, ↓t_plain, ↓t_guard, ↓t_gagain, ↓t_again, t_val, t_call, g_true, g_false, ga_true, ga_false, a_val, a_call, ↓n_normal, ↓n_ret, ↓n_exit, ↓b_normal, ↓b_ret, ↓b_exit, ↓e_normal, ↓e_ret, e_some, go_sem, ↓reduceIte, Nat.reduceEqDiff, Nat.reduceLT, Nat.reduceSub, A_tree_Tree_Has_0, A_tree_Tree_Has_1, hcn]
  generalize M.push (.cells (stC p) false) = M1 at *
  have k1 := (hG.old _ htc).trans h
  have k2 := (hG.old _ hbm).trans h2
  refine call_eq (none_p rfl (treeOf_is k1 k2)) ?_
  have hlk := look_is (by unfold mapAt; rw [k2] : mapAt M1 bm = some (encM l)) p
  have hrd2 : rdCells (stC p) 0 2 = some (stC p) := rfl
  have hw0 := write_full (M := M1.push (.cells [.int .i64 0, .int .i64 0, .str []] false)) (b := M1.next) (vs := spC ((getS l p).getD sp0)) (Mem.get_push_same _ _) rfl rfl
  simp -dsimp only [↓w_seq, ↓w_ops, ↓w_skip, ↓w_ret, ↓w_exit, ↓w_scope, ↓w_block, ↓w_cond, cond_true', cond_false', ↓t_nil, ↓t_plain, ↓t_guard, ↓t_gagain, ↓t_again, t_val, t_call, g_true, g_false, ga_true, ga_false, a_val, a_call, ↓n_normal, ↓n_ret, ↓n_exit, ↓b_normal, ↓b_ret, ↓b_exit, ↓e_normal, ↓e_ret, e_some, go_sem, ↓reduceIte, Nat.reduceEqDiff, Nat.reduceLT, Nat.reduceSub, A_tree_Tree_Has_3, vload, vptr, Mem.read, k1, g1, hrd2, Nat.add_zero, List.getElem?_cons_zero, List.getElem?_cons_succ, hlk, lookV_parts, vstore, V.cells, spC_len, hw0, Nat.reduceEqDiff]
  have hG2 : Grew M ((M1.push (.cells [.int .i64 0, .int .i64 0, .str []] false)).set M1.next (.cells (spC ((getS l p).getD sp0)) false)) := (hG.trans (Grew.push _ _)).upd (by omega) (Upd.set _ _ _)
  have g2 : ((M1.push (.cells [.int .i64 0, .int .i64 0, .str []] false)).set M1.next (.cells (spC ((getS l p).getD sp0)) false)).get M.next = some (.cells (stC p) false) := by rw [Mem.get_set_ne _ _ (by omega), Mem.get_push_ne _ _ (by omega)]; exact g1
  have hg2 : isG ((M1.push (.cells [.int .i64 0, .int .i64 0, .str []] false)).set M1.next (.cells (spC ((getS l p).getD sp0)) false)) = true := isG_mk ((hG2.old 0 (by omega)).trans (isG_is hg).1) ((hG2.old 1 (by omega)).trans (isG_is hg).2)
  clear hlk hw0
  generalize (M1.push (.cells [.int .i64 0, .int .i64 0, .str []] false)).set M1.next (.cells (spC ((getS l p).getD sp0)) false) = M2 at *
  cases hs : (getS l p).isSome with
  | true =>
    simp -dsimp only [↓w_seq, ↓w_ops, ↓w_skip, ↓w_ret, ↓w_exit, ↓w_scope, ↓w_block, ↓w_cond, cond_true', cond_false', ↓t_nil, ↓t_plain, ↓t_guard, ↓t_gagain, ↓t_again, t_val, t_call, g_true, g_false, ga_true, ga_false, a_val, a_call, ↓n_normal, ↓n_ret, ↓n_exit, ↓b_normal, ↓b_ret, ↓b_exit, ↓e_normal, ↓e_ret, e_some, go_sem, ↓reduceIte, Nat.reduceEqDiff, Nat.reduceLT, Nat.reduceSub, A_tree_Tree_Has_4]
    exact hR _ _ ⟨by rw [hasB, hs]; rfl, hG2.old⟩
  | false =>
    simp -dsimp only [↓w_seq, ↓w_ops, ↓w_skip, ↓w_ret, ↓w_exit, ↓w_scope, ↓w_block, ↓w_cond, cond_true', cond_false', ↓t_nil, ↓t_plain, ↓t_guard, ↓t_gagain, ↓t_again, t_val, t_call, g_true, g_false, ga_true, ga_false, a_val, a_call, ↓n_normal, ↓n_ret, ↓n_exit, ↓b_normal, ↓b_ret, ↓b_exit, ↓e_normal, ↓e_ret, e_some, go_sem, ↓reduceIte, Nat.reduceEqDiff, Nat.reduceLT, Nat.reduceSub, A_tree_Tree_Has_4, vload, vptr, Mem.read, g2, hrd2]
    refine call_eq (place_p rfl p hg2) ?_
    cases hpl : placeSt p with
    | false =>
      simp -dsimp only [↓w_seq, ↓w_ops, ↓w_skip, ↓w_ret, ↓w_exit, ↓w_scope, ↓w_block, ↓w_cond, cond_true', cond_false', ↓t_nil, ↓t_plain, ↓t_guard, ↓t_gagain, ↓t_again, t_val, t_call, g_true, g_false, ga_true, ga_false, a_val, a_call, ↓n_normal, ↓n_ret, ↓n_exit, ↓b_normal, ↓b_ret, ↓b_exit, ↓e_normal, ↓e_ret, e_some, go_sem, ↓reduceIte, Nat.reduceEqDiff, Nat.reduceLT, Nat.reduceSub]
      exact hR _ _ ⟨by rw [hasB, hs, hpl]; rfl, hG2.old⟩
    | true =>
      simp -dsimp only [↓w_seq, ↓w_ops, ↓w_skip, ↓w_ret, ↓w_exit, ↓w_scope, ↓w_block, ↓w_cond, cond_true', cond_false', ↓t_nil, ↓t_plain, ↓t_guard, ↓t_gagain, ↓t_again, t_val, t_call, g_true, g_false, ga_true, ga_false, a_val, a_call, ↓n_normal, ↓n_ret, ↓n_exit, ↓b_normal, ↓b_ret, ↓b_exit, ↓e_normal, ↓e_ret, e_some, go_sem, ↓reduceIte, Nat.reduceEqDiff, Nat.reduceLT, Nat.reduceSub, vload, vptr, Mem.read, g2, hrd2]
      refine call_eq (opnode_p rfl p) ?_
      simp -dsimp only [↓w_seq, ↓w_ops, ↓w_skip, ↓w_ret, ↓w_exit, ↓w_scope, ↓w_block, ↓w_cond, cond_true', cond_false', ↓t_nil, ↓t_plain, ↓t_guard, ↓t_gagain, ↓t_again, t_val, t_call, g_true, g_false, ga_true, ga_false, a_val, a_call, ↓n_normal, ↓n_ret, ↓n_exit, ↓b_normal, ↓b_ret, ↓b_exit, ↓e_normal, ↓e_ret, e_some, go_sem, ↓reduceIte, Nat.reduceEqDiff, Nat.reduceLT, Nat.reduceSub]
      exact hR _ _ ⟨by rw [hasB, hs, hpl]; rfl, hG2.old⟩
def pHas (args : List V) (M : Mem) : Option V :=
  match args with
  | [.ptr none, .agg [.int .i64 a, .int .i64 b]] => some (.bool false)
  | [.ptr (some (tc, 0)), .agg [.int .i64 a, .int .i64 b]] => (treeOf M tc).bind fun o => match o with
    | none => some (.bool false)
    | some l => cond (isG M) (some (.bool (hasB l (a, b)))) none
  | _ => none
theorem pHas_ok : CallOK Tryz.prog gl0 fun f' args M => if f' = F_tree_Tree_Has then (pHas args M).map (·, M) else none := by
  refine prim_keep ⟨_, Tryz.func48, (by kernel_rfl), (by kernel_rfl)⟩ ?_
  intro args M v h hwf
  unfold pHas at h
  split at h
  · rename_i a b
    cases h
    exact ⟨rfl, XRuns.of_runs dok1w2 (has_none M _ (a, b) fun M' _ => none_pn rfl)⟩
  · rename_i tc a b
    simp only [Option.bind_eq_some_iff] at h
    obtain ⟨o, h1, h⟩ := h
    cases o with
    | none =>
      cases h
      exact ⟨rfl, XRuns.of_runs dok1w2 (has_none M _ (a, b) fun M' hG => none_p0 rfl (tree_keep h1 hwf hG.old))⟩
    | some l =>
      obtain ⟨bm, rc, h2, h3⟩ := treeOf_some h1
      obtain ⟨hg, h⟩ := cond_some h
      cases h
      exact ⟨rfl, XRuns.of_runs dok1w2 (has_runs M tc bm rc l (a, b) hg (isG_lt hwf hg) (lt_of_get hwf h2) (lt_of_get hwf h3) h2 h3)⟩
  · cases h

theorem spot_none (M : Mem) (t : V) (p : St) (h : ∀ M', Grew M M' → Runs D1w2 F_tree_Tree_none [t] M' fun v M'' => v = .bool true ∧ M'' = M') : Runs D1w2 F_tree_Tree_Spot [t, .agg (stC p)] M fun v M' => v = .tup [.agg (spC sp0), .bool false] ∧ ∀ c, c < M.next → M'.get c = M.get c := by
  refine R_opq fun R hR => ?_
  refine Runs.walk (F := A_tree_Tree_Spot) rfl (by rfl) (by rfl) ?_
  unfold A_tree_Tree_Spot
  have hcn : V.cells (.agg (stC p)) = stC p := rfl
  have hG := (Grew.push M (.cells (stC p) false)).trans (Grew.push _ (.cells [.int .i64 0, .int .i64 0, .str []] false))
  have g1 : ((M.push (.cells (stC p) false)).push (.cells [.int .i64 0, .int .i64 0, .str []] false)).get (M.next + 1) = some (.cells (spC sp0) false) := Mem.get_push_same (M.push _) _
  simp -dsimp only [↓w_seq, ↓w_ops, ↓w_skip, ↓w_ret, ↓w_exit, ↓w_scope, ↓w_block, ↓w_cond, cond_true', cond_false', ↓t_nil, ↓t_plain, ↓t_guard, ↓t_gagain, ↓t_again, t_val, t_call, g_true, g_false, ga_true, ga_false, a_val, a_call, ↓n_normal, ↓n_ret, ↓n_exit, ↓b_normal, ↓b_ret, ↓b_exit, ↓e_normal, ↓e_ret, e_some, go_sem, ↓reduceIte, Nat.reduceEqDiff, Nat.reduceLT, Nat.reduceSub, A_tree_Tree_Spot_0, A_tree_Tree_Spot_1, hcn, Mem.next_push]
  generalize (M.push (.cells (stC p) false)).push (.cells [.int .i64 0, .int .i64 0, .str []] false) = M1 at *
  refine call_eq (h _ hG) ?_
  have hw0 := write_full (vs := spC sp0) g1 rfl rfl
  have hs := Mem.get_set_same M1 (M.next + 1) (.cells (spC sp0) false)
  have hG2 := hG.upd (b := M.next + 1) (by omega) (Upd.set M1 (M.next + 1) (.cells (spC sp0) false))
  have hb : fillCells [.int .i64 0, .int .i64 0, .str []] [] = some (spC sp0) := rfl
  have hrd : rdCells (spC sp0) 0 3 = some (spC sp0) := rfl
  simp -dsimp only [↓w_seq, ↓w_ops, ↓w_skip, ↓w_ret, ↓w_exit, ↓w_scope, ↓w_block, ↓w_cond, cond_true', cond_false', ↓t_nil, ↓t_plain, ↓t_guard, ↓t_gagain, ↓t_again, t_val, t_call, g_true, g_false, ga_true, ga_false, a_val, a_call, ↓n_normal, ↓n_ret, ↓n_exit, ↓b_normal, ↓b_ret, ↓b_exit, ↓e_normal, ↓e_ret, e_some, go_sem, ↓reduceIte, Nat.reduceEqDiff, Nat.reduceLT, Nat.reduceSub, A_tree_Tree_Spot_2, hb, vof, Option.map_some, vstore, V.cells, spC_len, hw0, Nat.reduceEqDiff]
  generalize M1.set (M.next + 1) (.cells (spC sp0) false) = M2 at *
  simp -dsimp only [↓w_seq, ↓w_ops, ↓w_skip, ↓w_ret, ↓w_exit, ↓w_scope, ↓w_block, ↓w_cond, cond_true', cond_false', ↓t_nil, ↓t_plain, ↓t_guard, ↓t_gagain, ↓t_again, t_val, t_call, g_true, g_false, ga_true, ga_false, a_val, a_call, ↓n_normal, ↓n_ret, ↓n_exit, ↓b_normal, ↓b_ret, ↓b_exit, ↓e_normal, ↓e_ret, e_some, go_sem, ↓reduceIte, Nat.reduceEqDiff, Nat.reduceLT, Nat.reduceSub, vload, vptr, Mem.read, hs, hrd, Nat.add_zero, Option.bind_some, oneOf]
  exact hR _ _ ⟨rfl, hG2.old⟩
theorem spot_runs (M : Mem) (tc bm : Nat) (rc : Bool) (l : Tr) (p : St) (htc : tc < M.next) (hbm : bm < M.next) (h : M.get tc = some (.cells [.map (some bm)] rc)) (h2 : M.get bm = some (.map (encM l))) :
    Runs D1w2 F_tree_Tree_Spot [.ptr (some (tc, 0)), .agg (stC p)] M fun v M' => v = .tup [.agg (spC ((getS l p).getD sp0)), .bool (getS l p).isSome] ∧ ∀ c, c < M.next → M'.get c = M.get c := by
  refine R_opq fun R hR => ?_
  refine Runs.walk (F := A_tree_Tree_Spot) rfl (by rfl) (by rfl) ?_
  unfold A_tree_Tree_Spot
  have hcn : V.cells (.agg (stC p)) = stC p := rfl
  have hG := (Grew.push M (.cells (stC p) false)).trans (Grew.push _ (.cells [.int .i64 0, .int .i64 0, .str []] false))
  have g0 : ((M.push (.cells (stC p) false)).push (.cells [.int .i64 0, .int .i64 0, .str []] false)).get M.next = some (.cells (stC p) false) := by rw [Mem.get_push_ne _ _ (by simp), Mem.get_push_same]
  have g1 : ((M.push (.cells (stC p) false)).push (.cells [.int .i64 0, .int .i64 0, .str []] false)).get (M.next + 1) = some (.cells (spC sp0) false) := Mem.get_push_same (M.push _) _
  have hn1 : ((M.push (.cells (stC p) false)).push (.cells [.int .i64 0, .int .i64 0, .str []] false)).next = M.next + 2 := rfl
  simp -dsimp only [↓w_seq, ↓w_ops, ↓w_skip, ↓w_ret, ↓w_exit, ↓w_scope, ↓w_block, ↓w_cond, cond_true', cond_false', ↓t_nil, ↓t_plain, ↓t_guard, ↓t_gagain, ↓t_again, t_val, t_call, g_true, g_false, ga_true, ga_false, a_val, a_call, ↓n_normal, ↓n_ret, ↓n_exit, ↓b_normal, ↓b_ret, ↓b_exit, ↓e_normal, ↓e_ret, e_some, go_sem, ↓reduceIte, Nat.reduceEqDiff, Nat.reduceLT, Nat.reduceSub, A_tree_Tree_Spot_0, A_tree_Tree_Spot_1, hcn, Mem.next_push]
  generalize (M.push (.cells (stC p) false)).push (.cells [.int .i64 0, .int .i64 0, .str []] false) = M1 at *
  have k1 := (hG.old _ htc).trans h
  have k2 := (hG.old _ hbm).trans h2
  refine call_eq (none_p rfl (treeOf_is k1 k2)) ?_
  have hlk := look_is (by unfold mapAt; rw [k2] : mapAt M1 bm = some (encM l)) p
  have hrd2 : rdCells (stC p) 0 2 = some (stC p) := rfl
  have hrd3 : ∀ s, rdCells (spC s) 0 3 = some (spC s) := fun _ => rfl
  have hw0 := write_full (M := M1.push (.cells [.int .i64 0, .int .i64 0, .str []] false)) (b := M1.next) (vs := spC ((getS l p).getD sp0)) (Mem.get_push_same _ _) rfl rfl
  simp -dsimp only [↓w_seq, ↓w_ops, ↓w_skip, ↓w_ret, ↓w_exit, ↓w_scope, ↓w_block, ↓w_cond, cond_true', cond_false', ↓t_nil, ↓t_plain, ↓t_guard, ↓t_gagain, ↓t_again, t_val, t_call, g_true, g_false, ga_true, ga_false, a_val, a_call, ↓n_normal, ↓n_ret, ↓n_exit, ↓b_normal, ↓b_ret, ↓b_exit, ↓e_normal, ↓e_ret, e_some, go_sem, ↓reduceIte, Nat.reduceEqDiff, Nat.reduceLT, Nat.reduceSub, A_tree_Tree_Spot_3, vload, vptr, Mem.read, k1, g0, hrd2, Nat.add_zero, List.getElem?_cons_zero, List.getElem?_cons_succ, hlk, lookV_parts, vstore, V.cells, spC_len, hw0, Nat.reduceEqDiff]
  have hG2 : Grew M ((M1.push (.cells [.int .i64 0, .int .i64 0, .str []] false)).set M1.next (.cells (spC ((getS l p).getD sp0)) false)) := (hG.trans (Grew.push _ _)).upd (by omega) (Upd.set _ _ _)
  have g2 : ((M1.push (.cells [.int .i64 0, .int .i64 0, .str []] false)).set M1.next (.cells (spC ((getS l p).getD sp0)) false)).get (M.next + 1) = some (.cells (spC sp0) false) := by rw [Mem.get_set_ne _ _ (by omega), Mem.get_push_ne _ _ (by omega)]; exact g1
  have g3 : ((M1.push (.cells [.int .i64 0, .int .i64 0, .str []] false)).set M1.next (.cells (spC ((getS l p).getD sp0)) false)).get M1.next = some (.cells (spC ((getS l p).getD sp0)) false) := Mem.get_set_same _ _ _
  clear hlk hw0
  generalize (M1.push (.cells [.int .i64 0, .int .i64 0, .str []] false)).set M1.next (.cells (spC ((getS l p).getD sp0)) false) = M2 at *
  have hw1 := write_full (vs := spC ((getS l p).getD sp0)) g2 rfl rfl
  have hs := Mem.get_set_same M2 (M.next + 1) (.cells (spC ((getS l p).getD sp0)) false)
  have hG3 := hG2.upd (b := M.next + 1) (by omega) (Upd.set M2 (M.next + 1) (.cells (spC ((getS l p).getD sp0)) false))
  simp -dsimp only [↓w_seq, ↓w_ops, ↓w_skip, ↓w_ret, ↓w_exit, ↓w_scope, ↓w_block, ↓w_cond, cond_true', cond_false', ↓t_nil, ↓t_plain, ↓t_guard, ↓t_gagain, ↓t_again, t_val, t_call, g_true, g_false, ga_true, ga_false, a_val, a_call, ↓n_normal, ↓n_ret, ↓n_exit, ↓b_normal, ↓b_ret, ↓b_exit, ↓e_normal, ↓e_ret, e_some, go_sem, ↓reduceIte, Nat.reduceEqDiff, Nat.reduceLT, Nat.reduceSub, A_tree_Tree_Spot_4, vload, vptr, Mem.read, g3, hrd3, Nat.add_zero, vstore, V.cells, spC_len, hw1, Nat.reduceEqDiff]
  generalize M2.set (M.next + 1) (.cells (spC ((getS l p).getD sp0)) false) = M3 at *
  simp -dsimp only [↓w_seq, ↓w_ops, ↓w_skip, ↓w_ret, ↓w_exit, ↓w_scope, ↓w_block, ↓w_cond, cond_true', cond_false', ↓t_nil, ↓t_plain, ↓t_guard, ↓t_gagain, ↓t_again, t_val, t_call, g_true, g_false, ga_true, ga_false, a_val, a_call, ↓n_normal, ↓n_ret, ↓n_exit, ↓b_normal, ↓b_ret, ↓b_exit, ↓e_normal, ↓e_ret, e_some, go_sem, ↓reduceIte, Nat.reduceEqDiff, Nat.reduceLT, Nat.reduceSub, vload, vptr, Mem.read, hs, hrd3, Nat.add_zero, Option.bind_some, oneOf]
  exact hR _ _ ⟨rfl, hG3.old⟩
def pSpotT (args : List V) (M : Mem) : Option V :=
  match args with
  | [.ptr none, .agg [.int .i64 a, .int .i64 b]] => some (.tup [.agg (spC sp0), .bool false])
  | [.ptr (some (tc, 0)), .agg [.int .i64 a, .int .i64 b]] => (treeOf M tc).map fun o => match o with
    | none => .tup [.agg (spC sp0), .bool false]
    | some l => .tup [.agg (spC ((getS l (a, b)).getD sp0)), .bool (getS l (a, b)).isSome]
  | _ => none
theorem pSpotT_ok : CallOK Tryz.prog gl0 fun f' args M => if f' = F_tree_Tree_Spot then (pSpotT args M).map (·, M) else none := by
  refine prim_keep ⟨_, Tryz.func56, (by kernel_rfl), (by kernel_rfl)⟩ ?_
  intro args M v h hwf
  unfold pSpotT at h
  split at h
  · rename_i a b
    cases h
    exact ⟨rfl, XRuns.of_runs dok1w2 (spot_none M _ (a, b) fun M' _ => none_pn rfl)⟩
  · rename_i tc a b
    simp only [Option.map_eq_some_iff] at h
    obtain ⟨o, h1, h⟩ := h
    cases o with
    | none =>
      cases h
      exact ⟨rfl, XRuns.of_runs dok1w2 (spot_none M _ (a, b) fun M' hG => none_p0 rfl (tree_keep h1 hwf hG.old))⟩
    | some l =>
      obtain ⟨bm, rc, h2, h3⟩ := treeOf_some h1
      cases h
      exact ⟨rfl, XRuns.of_runs dok1w2 (spot_runs M tc bm rc l (a, b) (lt_of_get hwf h2) (lt_of_get hwf h3) h2 h3)⟩
  · cases h
def D1w : Decls := ((D1w2.addP F_tree_Spot_right pSpRight).addP F_tree_Tree_Has pHas).addP F_tree_Tree_Spot pSpotT
theorem dok1w : DOK Tryz.prog gl0 D1w := ((dok1w2.addM pSpRight_ok).addM pHas_ok).addM pSpotT_ok

end Go.Am.Tryz

