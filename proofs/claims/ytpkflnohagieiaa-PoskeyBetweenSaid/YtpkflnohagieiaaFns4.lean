/- The program's Between, on the machine. -/
import Derived.Test.YtpkflnohagieiaaFns3
namespace Go.Am.Try
open Go Go.Am Go.Proofs
set_option maxRecDepth 100000
set_option linter.unusedSimpArgs false
set_option linter.unusedVariables false

def btwAt (a b : List UInt8) : Nat → Nat → Option (List UInt8)
  | 0, _ => none
  | f + 1, n => match incFrom (padTo a n) n with
    | none => btwAt a b f (n + 1)
    | some l => if greatL l b < max (digitL l (n - 1)) 1 then btwAt a b f (n + 1) else some (l.set (n - 1) (UInt8.ofNat ((max (digitL l (n - 1)) 1 + (greatL l b).toNat) / 2)))
def btwK (a b : List UInt8) : Option (List UInt8) := btwAt a b 24 1
def btwV (a b : List UInt8) : V := if fineK a b = true then (match btwK a b with | some k => .tup [.str k, .int .i64 0] | none => .tup [.str [], .int .i64 32]) else .tup [.str [], .int .i64 1]

theorem grAt_le (l b : List UInt8) (n : Nat) : ∀ k i, -1 ≤ grAt l b n k i ∧ grAt l b n k i ≤ 255
  | 0, _ => by
    have := digit_lt b n
    simp only [grAt, grEnd]
    split
    · omega
    · split <;> omega
  | k + 1, i => by
    simp only [grAt]
    split
    · omega
    · split
      · omega
      · split
        · omega
        · exact grAt_le l b n k (i + 1)
theorem greatL_le (l b : List UInt8) : -1 ≤ greatL l b ∧ greatL l b ≤ 255 := grAt_le _ _ _ _ _

theorem btw_loop (a b : List UInt8) (hb : b.length < 2 ^ 63) {R : V → Mem → Prop} (hR : ∀ l M', btwK a b = some l → R (.tup [.str l, .int .i64 0]) M') (hR2 : ∀ M', btwK a b = none → R (.tup [.str [], .int .i64 32]) M') :
    ∀ (f n : Nat) (fr : Fr) (M : Mem), n + f = 25 → 1 ≤ n → btwAt a b f n = btwK a b → fr.rd 0 = .str a → fr.rd 1 = .str b → fr.rd 6 = .int .i64 (n : Int) →
    WC D2 51 (.loop A9_12) fr M (blockQ 0 (nextQ (fun fr M => WC D2 51 (.seq (.ops A9_13) .ret) fr M (endQ [.tmp 4, .tmp 5] R)) (endQ [.tmp 4, .tmp 5] R))) := by
  intro f
  induction f with
  | zero =>
    intro n fr M hn h1 hbt h0 h1' h6
    have : n = 25 := by omega
    subst this
    refine WC.loop ?_
    unfold A9_12
    refine WC.seq (WC.seq (WC.ops ?_))
    simp only [A9_4, go_sem, ↓reduceIte, Nat.reduceEqDiff, Nat.reduceLT, h6]
    refine WC.test (t := false) (by simp only [go_sem, ↓reduceIte, Nat.reduceEqDiff, Nat.reduceLT]; rfl) (fun h => by cases h) (fun _ => WC.exit ?_)
    simp only [go_sem]
    refine WC.seq (WC.ops ?_)
    simp only [A9_13, go_sem, ↓reduceIte, Nat.reduceEqDiff, Nat.reduceLT]
    refine WC.ret ?_
    simp only [go_sem, ↓reduceIte, Nat.reduceEqDiff, Nat.reduceLT]
    exact hR2 _ hbt.symm
  | succ f ih =>
    intro n fr M hn h1 hbt h0 h1' h6
    refine WC.loop ?_
    unfold A9_12
    refine WC.seq (WC.seq (WC.ops ?_))
    simp only [A9_4, go_sem, ↓reduceIte, Nat.reduceEqDiff, Nat.reduceLT, h6]
    refine WC.test (t := true) (by simp only [go_sem, ↓reduceIte, Nat.reduceEqDiff, Nat.reduceLT]; rw [decide_eq_true (by omega)]) (fun _ => WC.skip ?_) (fun h => by cases h)
    simp only [go_sem]
    have hnext : ∀ (fr' : Fr) (M' : Mem), btwAt a b f (n + 1) = btwK a b → fr'.rd 0 = .str a → fr'.rd 1 = .str b → fr'.rd 6 = .int .i64 (n : Int) →
        WC D2 51 (.ops A9_11) fr' M' (nextQ (fun fr M => WC D2 51 (.loop A9_12) fr M (blockQ 0 (nextQ (fun fr M => WC D2 51 (.seq (.ops A9_13) .ret) fr M (endQ [.tmp 4, .tmp 5] R)) (endQ [.tmp 4, .tmp 5] R)))) (blockQ 0 (nextQ (fun fr M => WC D2 51 (.seq (.ops A9_13) .ret) fr M (endQ [.tmp 4, .tmp 5] R)) (endQ [.tmp 4, .tmp 5] R)))) := by
      intro fr' M' hbt' g0 g1 g6
      refine WC.ops ?_
      simp only [A9_11, go_sem, ↓reduceIte, Nat.reduceEqDiff, Nat.reduceLT, g6]
      rw [IntWalk.i64_in _ (by omega)]
      exact ih (n + 1) _ M' (by omega) (by omega) hbt' (by simp only [go_sem, ↓reduceIte, Nat.reduceEqDiff, Nat.reduceLT, g0]) (by simp only [go_sem, ↓reduceIte, Nat.reduceEqDiff, Nat.reduceLT, g1]) (by simp only [go_sem, ↓reduceIte, Nat.reduceEqDiff, Nat.reduceLT]; rfl)
    refine WC.seq (WC.block (WC.seq (WC.ops ?_)))
    simp only [A9_5, go_sem, ↓reduceIte, Nat.reduceEqDiff, Nat.reduceLT, h0, h6]
    refine callI_of (above_runs a n (by omega) M) ?_
    rintro v M1 ⟨hg, hv⟩
    rcases hv with ⟨l, hi, hl, rfl, hM1, hlt⟩ | ⟨hi, rfl⟩
    · simp only [go_sem, ↓reduceIte, Nat.reduceEqDiff, Nat.reduceLT, List.getElem?_cons_zero, List.getElem?_cons_succ]
      refine WC.seq (WC.seq (WC.ops ?_))
      simp only [A9_6, go_sem, ↓reduceIte, Nat.reduceEqDiff, Nat.reduceLT]
      refine WC.test (t := false) (by simp only [go_sem, ↓reduceIte, Nat.reduceEqDiff, Nat.reduceLT]) (fun h => by cases h) (fun _ => WC.skip ?_)
      simp only [go_sem]
      obtain ⟨m, rfl⟩ : ∃ m, n = m + 1 := ⟨n - 1, by omega⟩
      have hm : l[m]? = some l[m] := List.getElem?_eq_getElem (by omega)
      have hc : (bytesC l)[m]? = some (.int .u8 (l[m].toNat : Int)) := by rw [bytesC_get, hm]; rfl
      have hD : digitL l m = l[m].toNat := by simp [digitL, List.getD_eq_getElem?_getD, hm]
      have h8 := l[m].toNat_lt
      refine WC.seq (WC.ops ?_)
      have hw : IntKind.i64.wrap (((m + 1 : Nat) : Int) - 1) = (m : Int) := by rw [IntWalk.i64_in _ (by omega)]; omega
      simp only [A9_7, go_sem, ↓reduceIte, Nat.reduceEqDiff, Nat.reduceLT, h1', h6, hw, decide_eq_true (show m + 1 ≤ m + 1 from Nat.le_refl _), Nat.le_refl, vload, hM1, Nat.zero_add, Nat.mul_one, hc]
      refine callA_of (greatest_runs l b M.next m hl (by omega) hb M1 hM1) ?_
      rintro v M2 ⟨rfl, rfl⟩
      refine ⟨?_, ?_⟩
      · simp only [List.all_cons, List.all_nil, Bool.and_true, againOk, wantedA, cond_true, go_sem, ↓reduceIte, Nat.reduceEqDiff, Nat.reduceLT, Nat.reduceLeDiff, vload, hM1, hc, Nat.reduceAdd]
      · simp only [go_sem, ↓reduceIte, Nat.reduceEqDiff, Nat.reduceLT]
        refine WC.seq (WC.seq (WC.ops ?_))
        simp only [A9_8, go_sem, ↓reduceIte, Nat.reduceEqDiff, Nat.reduceLT]
        have hgr := greatL_le l b
        have hlo : max (IntKind.i64.wrap (l[m].toNat : Int)) 1 = ((max (digitL l m) 1 : Nat) : Int) := by
          rw [IntWalk.i64_in _ (by omega), hD]; omega
        have hmx : max (digitL l m) 1 ≤ 255 ∧ 1 ≤ max (digitL l m) 1 := by omega
        refine WC.test (by simp only [go_sem, ↓reduceIte, Nat.reduceEqDiff, Nat.reduceLT]; rfl) (fun h => WC.exit ?_) (fun h => WC.skip ?_)
        · have h := of_decide_eq_true h
          rw [hlo] at h
          simp only [go_sem]
          refine hnext _ _ ?_ (by simp only [go_sem, ↓reduceIte, Nat.reduceEqDiff, Nat.reduceLT, h0]) (by simp only [go_sem, ↓reduceIte, Nat.reduceEqDiff, Nat.reduceLT, h1']) (by simp only [go_sem, ↓reduceIte, Nat.reduceEqDiff, Nat.reduceLT, h6])
          rw [← hbt]
          simp only [btwAt, hi, Nat.add_sub_cancel]
          rw [if_pos h]
        · have h := of_decide_eq_false h
          rw [hlo] at h
          simp only [go_sem]
          refine WC.seq (WC.ops ?_)
          simp only [A9_9, go_sem, ↓reduceIte, Nat.reduceEqDiff, Nat.reduceLT, h1', h6, hw, ne_eq, Int.reduceEq, not_false_eq_true, Nat.le_refl, Nat.zero_add, Nat.mul_one, hlo]
          have hq : IntKind.u8.wrap (IntKind.i64.wrap ((IntKind.i64.wrap (((max (digitL l m) 1 : Nat) : Int) + greatL l b)).tdiv 2)) = ((UInt8.ofNat ((max (digitL l m) 1 + (greatL l b).toNat) / 2)).toNat : Int) := by
            rw [IntWalk.i64_in (((max (digitL l m) 1 : Nat) : Int) + greatL l b) (by omega), Int.tdiv_eq_ediv_of_nonneg (by omega), IntWalk.i64_in _ (by omega), IntWalk.u8_in _ (by omega)]
            simp only [UInt8.toNat_ofNat']
            omega
          rw [hq]
          simp only [vstore, V.cells, List.length_cons, List.length_nil, Nat.zero_add, Nat.reduceEqDiff, go_sem]
          rw [write_one hM1 (by rw [bytesC_len]; omega) rfl, bytesC_set]
          simp only [go_sem, ↓reduceIte, Nat.reduceEqDiff, Nat.reduceLT]
          have hu := Upd.set M2 M.next (.cells (bytesC (l.set m (UInt8.ofNat ((max (digitL l m) 1 + (greatL l b).toNat) / 2)))) false)
          generalize M2.set M.next _ = M3 at hu
          refine WC.seq (WC.ops ?_)
          have hr := read_all hu.at_
          rw [bytesC_len, List.length_set, hl] at hr
          simp only [A9_10, go_sem, ↓reduceIte, Nat.reduceEqDiff, Nat.reduceLT, show ¬ m + 1 = 0 by omega, hr, bytesOf_bytesC]
          refine WC.ret ?_
          simp only [go_sem, ↓reduceIte, Nat.reduceEqDiff, Nat.reduceLT]
          refine hR _ _ ?_
          rw [← hbt]
          simp only [btwAt, hi, Nat.add_sub_cancel]
          rw [if_neg h]
    · simp only [go_sem, ↓reduceIte, Nat.reduceEqDiff, Nat.reduceLT, List.getElem?_cons_zero, List.getElem?_cons_succ]
      refine WC.seq (WC.seq (WC.ops ?_))
      simp only [A9_6, go_sem, ↓reduceIte, Nat.reduceEqDiff, Nat.reduceLT]
      refine WC.test (t := true) (by simp only [go_sem, ↓reduceIte, Nat.reduceEqDiff, Nat.reduceLT]) (fun _ => WC.exit ?_) (fun h => by cases h)
      simp only [go_sem]
      refine hnext _ _ ?_ (by simp only [go_sem, ↓reduceIte, Nat.reduceEqDiff, Nat.reduceLT, h0]) (by simp only [go_sem, ↓reduceIte, Nat.reduceEqDiff, Nat.reduceLT, h1']) (by simp only [go_sem, ↓reduceIte, Nat.reduceEqDiff, Nat.reduceLT, h6])
      rw [← hbt]
      simp only [btwAt, hi]

theorem between_runs (a b : List UInt8) (hb : b.length < 2 ^ 63) (M : Mem) : Runs D2 9 [.str a, .str b] M fun v _ => v = btwV a b := by
  refine Runs.of (F := A9) rfl (by rfl) (by rfl) ?_
  unfold A9
  refine WC.seq (WC.ops ?_)
  simp only [A9_0, go_sem]
  refine WC.scope (WC.seq (WC.seq (WC.ops ?_)))
  simp only [A9_1, go_sem, ↓reduceIte, Nat.reduceEqDiff, Nat.reduceLT]
  refine callI_of (fine_runs a b M) ?_
  rintro v M' ⟨rfl, rfl⟩
  simp only [go_sem, ↓reduceIte, Nat.reduceEqDiff, Nat.reduceLT]
  cases hf : fineK a b with
  | false =>
    refine WC.test (t := true) (by simp only [go_sem, ↓reduceIte, Nat.reduceEqDiff, Nat.reduceLT]) (fun _ => ?_) (fun h => by cases h)
    refine WC.seq (WC.ops ?_)
    simp only [A9_2, go_sem, ↓reduceIte, Nat.reduceEqDiff, Nat.reduceLT]
    refine WC.ret ?_
    simp only [go_sem, ↓reduceIte, Nat.reduceEqDiff, Nat.reduceLT, btwV, hf, Bool.false_eq_true]
  | true =>
    refine WC.test (t := false) (by simp only [go_sem, ↓reduceIte, Nat.reduceEqDiff, Nat.reduceLT]) (fun h => by cases h) (fun _ => WC.skip ?_)
    simp only [go_sem]
    refine WC.seq (WC.skip ?_)
    simp only [go_sem]
    refine WC.seq (WC.seq (WC.ops ?_))
    simp only [A9_3, go_sem, ↓reduceIte, Nat.reduceEqDiff, Nat.reduceLT]
    refine WC.block (btw_loop a b hb ?_ ?_ 24 1 _ M' rfl (Nat.le_refl _) rfl (by simp only [go_sem, ↓reduceIte, Nat.reduceEqDiff, Nat.reduceLT]) (by simp only [go_sem, ↓reduceIte, Nat.reduceEqDiff, Nat.reduceLT]) (by simp only [go_sem, ↓reduceIte, Nat.reduceEqDiff, Nat.reduceLT]; rfl))
    · intro l M2 h
      simp only [btwV, hf, h, if_true]
    · intro M2 h
      simp only [btwV, hf, h, if_true]
end Go.Am.Try
