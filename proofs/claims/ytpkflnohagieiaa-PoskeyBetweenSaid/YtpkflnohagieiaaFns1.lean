/- The program's digit, above and greatest, on the machine. -/
import Derived.Test.YtpkflnohagieiaaOrder
namespace Go.Am.Try
open Go Go.Am Go.Proofs
set_option maxRecDepth 100000
set_option linter.unusedSimpArgs false
set_option linter.unusedVariables false

def digitL (k : List UInt8) (i : Nat) : Nat := (k.getD i 0).toNat

theorem digit_runs (k : List UInt8) (i : Nat) (hi : i < 2 ^ 62) (M : Mem) : Runs D2 29 [.str k, .int .i64 (i : Int)] M fun v M' => v = .int .i64 (digitL k i : Int) ∧ M' = M := by
  refine Runs.of (F := A29) rfl (by rfl) (by rfl) ?_
  unfold A29
  refine WC.seq (WC.ops ?_)
  simp only [A29_0, go_sem, ↓reduceIte, Nat.reduceEqDiff, Nat.reduceLT]
  refine WC.seq (WC.seq (WC.ops ?_))
  simp only [A29_1, go_sem, ↓reduceIte, Nat.reduceEqDiff, Nat.reduceLT]
  refine WC.test (by simp only [go_sem, ↓reduceIte, Nat.reduceEqDiff, Nat.reduceLT]; rfl) (fun h => ?_) (fun h => ?_)
  · have h : i < k.length := by have := of_decide_eq_true h; omega
    refine WC.seq (WC.ops ?_)
    have hg : k[i]? = some k[i] := List.getElem?_eq_getElem h
    have hd : digitL k i = k[i].toNat := by simp [digitL, List.getD_eq_getElem?_getD, hg]
    have h8 : k[i].toNat < 256 := k[i].toNat_lt
    simp only [A29_2, go_sem, ↓reduceIte, Nat.reduceEqDiff, Nat.reduceLT, hg]
    refine WC.ret ?_
    simp only [go_sem, ↓reduceIte, Nat.reduceEqDiff, Nat.reduceLT]
    rw [IntWalk.i64_in _ (by omega), hd]
    exact ⟨rfl, trivial⟩
  · have h : k.length ≤ i := by have := of_decide_eq_false h; omega
    have hd : digitL k i = 0 := by simp [digitL, List.getD_eq_getElem?_getD, List.getElem?_eq_none h]
    refine WC.skip ?_
    simp only [go_sem]
    refine WC.seq (WC.ops ?_)
    simp only [A29_3, go_sem, ↓reduceIte, Nat.reduceEqDiff, Nat.reduceLT]
    refine WC.ret ?_
    simp only [go_sem, ↓reduceIte, Nat.reduceEqDiff, Nat.reduceLT]
    rw [hd]
    exact ⟨rfl, trivial⟩

/-- One more, from a place on to the left. -/
def incFrom : List UInt8 → Nat → Option (List UInt8)
  | _, 0 => none
  | l, i + 1 => if l.getD i 0 + 1 ≠ 0 then some (l.set i (l.getD i 0 + 1)) else incFrom (l.set i 0) i

theorem u8_succ (c : UInt8) : IntKind.u8.wrap ((c.toNat : Int) + 1) = ((c + 1).toNat : Int) := by
  rw [IntKind.wrap_u8, UInt8.toNat_add]
  simp

theorem above_loop {Q : AExit → Fr → Mem → Prop} (b : Nat) (m : Nat) (hm : m < 2 ^ 62) : ∀ (i : Nat) (l : List UInt8) (fr : Fr) (M : Mem), l.length = m → i ≤ m → fr.rd 6 = .slice (some (b, 0)) m (.exact m) → fr.rd 7 = .int .i64 ((i : Int) - 1) → M.get b = some (.cells (bytesC l) false) →
    (∀ fr' M' l', incFrom l i = some l' → l'.length = m → fr'.rd 4 = .slice (some (b, 0)) m (.exact m) → fr'.rd 5 = .bool true → Upd M b (.cells (bytesC l') false) M' → Q .ret fr' M') →
    (∀ fr' M' l', incFrom l i = none → Upd M b (.cells (bytesC l') false) M' → Q (.exit 0) fr' M') → WC D2 31 (.loop A20_9) fr M Q := by
  intro i
  induction i with
  | zero =>
    intro l fr M hl hi h6 h7 hM hQ1 hQ2
    refine WC.loop ?_
    unfold A20_9
    refine WC.seq (WC.seq (WC.ops ?_))
    simp only [A20_4, go_sem, ↓reduceIte, Nat.reduceEqDiff, Nat.reduceLT, h7]
    refine WC.test (t := false) (by simp only [go_sem, ↓reduceIte, Nat.reduceEqDiff, Nat.reduceLT]; rfl) (fun h => by cases h) (fun _ => ?_)
    refine WC.exit ?_
    simp only [go_sem]
    exact hQ2 _ _ l rfl (Upd.same hM)
  | succ i ih =>
    intro l fr M hl hi h6 h7 hM hQ1 hQ2
    have e7 : ((i + 1 : Nat) : Int) - 1 = (i : Int) := by omega
    rw [e7] at h7
    refine WC.loop ?_
    unfold A20_9
    refine WC.seq (WC.seq (WC.ops ?_))
    simp only [A20_4, go_sem, ↓reduceIte, Nat.reduceEqDiff, Nat.reduceLT, h7]
    refine WC.test (t := true) (by simp only [go_sem, ↓reduceIte, Nat.reduceEqDiff, Nat.reduceLT]; simp) (fun _ => ?_) (fun h => by cases h)
    refine WC.skip ?_
    simp only [go_sem]
    refine WC.seq (WC.block (WC.seq (WC.ops ?_)))
    have hil : i < l.length := by omega
    have hg : l[i]? = some l[i] := List.getElem?_eq_getElem hil
    have hc : (bytesC l)[i]? = some (.int .u8 (l[i].toNat : Int)) := by rw [bytesC_get, hg]; rfl
    have hlt : i + 1 ≤ m := by omega
    have hD : l.getD i 0 = l[i] := by rw [List.getD_eq_getElem?_getD, hg]; rfl
    simp only [A20_5, go_sem, ↓reduceIte, Nat.reduceEqDiff, Nat.reduceLT, h6, h7, decide_eq_true hlt, vload, hM, Nat.zero_add, Nat.mul_one, hc, vstore, V.cells, List.length_cons, List.length_nil, u8_succ]
    rw [write_one hM (by rw [bytesC_len]; omega) rfl, bytesC_set]
    simp only [go_sem, ↓reduceIte, Nat.reduceEqDiff, Nat.reduceLT]
    have hu := Upd.set M b (.cells (bytesC (l.set i (l[i] + 1))) false)
    generalize M.set b _ = M1 at hu
    refine WC.seq (WC.ops ?_)
    have hc1 : (bytesC (l.set i (l[i] + 1)))[i]? = some (.int .u8 ((l[i] + 1).toNat : Int)) := by rw [bytesC_get, List.getElem?_set_self (by omega)]; rfl
    simp only [A20_6, go_sem, ↓reduceIte, Nat.reduceEqDiff, Nat.reduceLT, h6, h7, decide_eq_true hlt, vload, hu.at_, Nat.zero_add, Nat.mul_one, hc1]
    by_cases hz : l[i] + 1 = 0
    · have hz' : ((l[i] + 1).toNat : Int) = 0 := by rw [hz]; rfl
      refine WC.test (t := false) (by simp only [go_sem, ↓reduceIte, Nat.reduceEqDiff, Nat.reduceLT, hz']) (fun h => by cases h) (fun _ => ?_)
      refine WC.skip ?_
      simp only [go_sem]
      refine WC.ops ?_
      simp only [A20_8, go_sem, ↓reduceIte, Nat.reduceEqDiff, Nat.reduceLT, h7]
      rw [IntWalk.i64_in _ (by omega)]
      have hinc : incFrom l (i + 1) = incFrom (l.set i 0) i := by
        simp only [incFrom, hD, hz]
        simp
      rw [hz] at hu
      refine ih (l.set i 0) _ M1 (by simp [hl]) (by omega) (by simp only [go_sem, ↓reduceIte, Nat.reduceEqDiff, Nat.reduceLT, h6]) (by simp only [go_sem, ↓reduceIte, Nat.reduceEqDiff, Nat.reduceLT]) hu.at_ ?_ ?_
      · intro fr' M' l' h1 h2 h3 h4 h5
        exact hQ1 fr' M' l' (hinc.trans h1) h2 h3 h4 (hu.trans h5)
      · intro fr' M' l' h1 h2
        exact hQ2 fr' M' l' (hinc.trans h1) (hu.trans h2)
    · have hz' : ((l[i] + 1).toNat : Int) ≠ 0 := by
        intro e
        exact hz (UInt8.toNat_inj.1 (Int.natCast_eq_zero.1 e))
      refine WC.test (t := true) (by simp only [go_sem, ↓reduceIte, Nat.reduceEqDiff, Nat.reduceLT, decide_eq_false hz']) (fun _ => ?_) (fun h => by cases h)
      refine WC.seq (WC.ops ?_)
      simp only [A20_7, go_sem, ↓reduceIte, Nat.reduceEqDiff, Nat.reduceLT, h6]
      refine WC.ret ?_
      simp only [go_sem]
      refine hQ1 _ M1 (l.set i (l[i] + 1)) ?_ (by simp [hl]) (by simp only [go_sem, ↓reduceIte, Nat.reduceEqDiff, Nat.reduceLT]) (by simp only [go_sem, ↓reduceIte, Nat.reduceEqDiff, Nat.reduceLT]) hu
      simp only [incFrom, hD]
      simp [hz]

def padTo (a : List UInt8) (n : Nat) : List UInt8 := a.take n ++ List.replicate (n - a.length) 0
theorem padTo_len (a : List UInt8) (n : Nat) : (padTo a n).length = n := by simp [padTo]; omega
theorem padTo_get (a : List UInt8) (n i : Nat) (h : i < n) : (padTo a n).getD i 0 = a.getD i 0 := by
  unfold padTo
  simp only [List.getD_eq_getElem?_getD]
  by_cases hi : i < a.length
  · rw [List.getElem?_append_left (by simp; omega), List.getElem?_take_of_lt h]
  · rw [List.getElem?_append_right (by simp; omega), List.getElem?_replicate, List.getElem?_eq_none (l := a) (by omega)]
    split <;> rfl
theorem repl_one (v : V) : ∀ n, repl n [v] = List.replicate n v
  | 0 => rfl
  | n + 1 => by rw [repl, repl_one v n, List.replicate_succ]; rfl
theorem wr_zero : ∀ (cs vs : List V), vs.length ≤ cs.length → wrCells cs 0 vs = vs ++ cs.drop vs.length
  | [], [], _ => rfl
  | _ :: _, [], _ => rfl
  | [], _ :: _, h => by simp at h
  | _ :: cs, v :: vs, h => by simp only [wrCells, wr_zero cs vs (by simpa using h), List.length_cons, List.drop_succ_cons, List.cons_append]
theorem allOne_bytes : ∀ l : List UInt8, allOne (bytesC l) = true
  | [] => rfl
  | _ :: l => by simp only [bytesC, List.map_cons, allOne, V.one, cond_true]; exact allOne_bytes l
theorem copy_str {M : Mem} {b n : Nat} (a : List UInt8) (h : M.get b = some (.cells (bytesC (List.replicate n 0)) false)) : ∃ v M', vcopy 1 M (.slice (some (b, 0)) n (.exact n)) (.str a) = some (v, M') ∧ Upd M b (.cells (bytesC (padTo a n)) false) M' := by
  unfold vcopy
  simp only [srcLen, Option.bind_some, beq_dec]
  by_cases hz : Nat.min a.length n = 0
  · simp only [decide_eq_true hz, cond_true]
    refine ⟨_, _, rfl, ?_⟩
    have : padTo a n = List.replicate n 0 := by
      unfold padTo
      have : a = [] ∨ n = 0 := by
        cases a with
        | nil => exact .inl rfl
        | cons x a => right; simp [Nat.min_def] at hz; split at hz <;> omega
      rcases this with rfl | rfl <;> simp
    rw [this]
    exact Upd.same h
  · have hk : (a.take (Nat.min a.length n)).length = Nat.min a.length n := by
      rw [List.length_take]
      exact Nat.min_eq_left (Nat.min_le_left ..)
    have hle : Nat.min a.length n ≤ n := Nat.min_le_right ..
    simp only [decide_eq_false hz, cond_false, srcCells, beq_dec, decide_true, cond_true, Option.bind_some, Mem.write, h, ble_iff, bytesC_len, List.length_map, hk, List.length_replicate, Nat.zero_add, decide_eq_true hle]
    have e1 : (List.map (fun c => V.int IntKind.u8 (c.toNat : Int)) (List.take (a.length.min n) a)) = bytesC (a.take (Nat.min a.length n)) := rfl
    rw [e1, allOne_bytes]
    simp only [cond_true, Option.map_some]
    refine ⟨_, _, rfl, ?_⟩
    have e2 : wrCells (bytesC (List.replicate n 0)) 0 (bytesC (a.take (Nat.min a.length n))) = bytesC (padTo a n) := by
      rw [wr_zero _ _ (by rw [bytesC_len, bytesC_len, hk, List.length_replicate]; exact hle)]
      rw [bytesC_len, hk]
      simp only [bytesC, ← List.map_drop, ← List.map_append]
      congr 1
      rw [List.drop_replicate]
      unfold padTo
      have e3 : a.take (Nat.min a.length n) = a.take n := by
        rcases Nat.le_total a.length n with hh | hh
        · rw [show Nat.min a.length n = a.length from Nat.min_eq_left hh, List.take_length, List.take_of_length_le hh]
        · rw [show Nat.min a.length n = n from Nat.min_eq_right hh]
      rw [e3]
      congr 2
      rcases Nat.le_total a.length n with hh | hh
      · rw [show Nat.min a.length n = a.length from Nat.min_eq_left hh]
      · rw [show Nat.min a.length n = n from Nat.min_eq_right hh]; omega
    rw [e2]
    exact Upd.set _ _ _

theorem above_runs (a : List UInt8) (n : Nat) (hn : n < 2 ^ 40) (M : Mem) : Runs D2 20 [.str a, .int .i64 (n : Int)] M fun v M' => Grew M M' ∧
    ((∃ l, incFrom (padTo a n) n = some l ∧ l.length = n ∧ v = .tup [.slice (some (M.next, 0)) n (.exact n), .bool true] ∧ M'.get M.next = some (.cells (bytesC l) false) ∧ M.next < M'.next) ∨
     (incFrom (padTo a n) n = none ∧ v = .tup [.slice none 0 (.exact 0), .bool false])) := by
  refine Runs.of (F := A20) rfl (by rfl) (by rfl) ?_
  unfold A20
  refine WC.seq (WC.ops ?_)
  simp only [A20_0, go_sem, ↓reduceIte, Nat.reduceEqDiff, Nat.reduceLT]
  refine WC.seq (WC.ops ?_)
  simp only [A20_1, go_sem, ↓reduceIte, Nat.reduceEqDiff, Nat.reduceLT, Nat.le_refl, Nat.mul_one, decide_eq_true (show n ≤ maxRoom by unfold maxRoom; omega)]
  refine WC.seq (WC.ops ?_)
  have h0 : (M.push (.cells (repl n [.int .u8 0]) false)).get M.next = some (.cells (bytesC (List.replicate n 0)) false) := by
    rw [Mem.get_push_same, repl_one]
    simp [bytesC]
  obtain ⟨vc, M1, hc, hu⟩ := copy_str a h0
  have hg1 : Grew M M1 := (Grew.push M _).upd (Nat.le_refl _) hu
  have hnx : M.next < M1.next := by rw [hu.next]; exact Nat.lt_succ_self _
  simp only [A20_2, go_sem, ↓reduceIte, Nat.reduceEqDiff, Nat.reduceLT, hc]
  refine WC.seq (WC.seq (WC.ops ?_))
  simp only [A20_3, go_sem, ↓reduceIte, Nat.reduceEqDiff, Nat.reduceLT]
  rw [IntWalk.i64_in _ (by omega)]
  refine WC.block (above_loop M.next n (by omega) n (padTo a n) _ M1 (padTo_len a n) (Nat.le_refl _) (by simp only [go_sem, ↓reduceIte, Nat.reduceEqDiff, Nat.reduceLT]) (by simp only [go_sem, ↓reduceIte, Nat.reduceEqDiff, Nat.reduceLT]) hu.at_ ?_ ?_)
  · intro fr' M' l' h1 h2 h3 h4 h5
    simp only [go_sem, h3, h4]
    exact ⟨hg1.upd (Nat.le_refl _) h5, .inl ⟨l', h1, h2, trivial, h5.at_, by rw [h5.next]; exact hnx⟩⟩
  · intro fr' M' l' h1 h5
    simp only [go_sem]
    refine WC.seq (WC.ops ?_)
    simp only [A20_10, go_sem, ↓reduceIte, Nat.reduceEqDiff, Nat.reduceLT]
    refine WC.ret ?_
    simp only [go_sem, ↓reduceIte, Nat.reduceEqDiff, Nat.reduceLT]
    exact ⟨hg1.upd (Nat.le_refl _) h5, .inr ⟨h1, trivial⟩⟩
end Go.Am.Try
