/- The reference's Between, on the machine: it answers what the program's does. -/
import Derived.Test.YtpkflnohagieiaaRef7
namespace Go.Am.Try
open Go Go.Am Go.Proofs
set_option maxRecDepth 100000
set_option linter.unusedSimpArgs false
set_option linter.unusedVariables false

theorem rbtw_loop (a b : List UInt8) (hbr : b = [] ∨ rightK b = true) (hb : b.length < 2 ^ 40) {R : V → Mem → Prop} (hR : ∀ l M', btwK a b = some l → R (.tup [.str l, .int .i64 0]) M') (hR2 : ∀ M', btwK a b = none → R (.tup [.str [], .int .i64 32]) M') :
    ∀ (f n : Nat) (fr : Fr) (M : Mem), n + f = 25 → 1 ≤ n → btwAt a b f n = btwK a b → fr.rd 0 = .str a → fr.rd 1 = .str b → fr.rd 6 = .int .i64 (n : Int) →
    WC D2 60 (.loop A10_20) fr M (blockQ 0 (nextQ (fun fr M => WC D2 60 (.seq (.ops A10_21) .ret) fr M (endQ [.tmp 4, .tmp 5] R)) (endQ [.tmp 4, .tmp 5] R))) := by
  intro f
  induction f with
  | zero =>
    intro n fr M hn h1 hbt h0 h1' h6
    have : n = 25 := by omega
    subst this
    refine WC.loop ?_
    unfold A10_20
    refine WC.seq (WC.seq (WC.ops ?_))
    simp only [A10_4, go_sem, ↓reduceIte, Nat.reduceEqDiff, Nat.reduceLT, h6]
    refine WC.test (t := false) (by simp only [go_sem, ↓reduceIte, Nat.reduceEqDiff, Nat.reduceLT]; rfl) (fun h => by cases h) (fun _ => WC.exit ?_)
    simp only [go_sem]
    refine WC.seq (WC.ops ?_)
    simp only [A10_21, go_sem, ↓reduceIte, Nat.reduceEqDiff, Nat.reduceLT]
    refine WC.ret ?_
    simp only [go_sem, ↓reduceIte, Nat.reduceEqDiff, Nat.reduceLT]
    exact hR2 _ hbt.symm
  | succ f ih =>
    intro n fr M hn h1 hbt h0 h1' h6
    refine WC.loop ?_
    unfold A10_20
    refine WC.seq (WC.seq (WC.ops ?_))
    simp only [A10_4, go_sem, ↓reduceIte, Nat.reduceEqDiff, Nat.reduceLT, h6]
    refine WC.test (t := true) (by simp only [go_sem, ↓reduceIte, Nat.reduceEqDiff, Nat.reduceLT]; rw [decide_eq_true (by omega)]) (fun _ => WC.skip ?_) (fun h => by cases h)
    simp only [go_sem]
    have hnext : ∀ (fr' : Fr) (M' : Mem), btwAt a b f (n + 1) = btwK a b → fr'.rd 0 = .str a → fr'.rd 1 = .str b → fr'.rd 6 = .int .i64 (n : Int) →
        WC D2 60 (.ops A10_19) fr' M' (nextQ (fun fr M => WC D2 60 (.loop A10_20) fr M (blockQ 0 (nextQ (fun fr M => WC D2 60 (.seq (.ops A10_21) .ret) fr M (endQ [.tmp 4, .tmp 5] R)) (endQ [.tmp 4, .tmp 5] R)))) (blockQ 0 (nextQ (fun fr M => WC D2 60 (.seq (.ops A10_21) .ret) fr M (endQ [.tmp 4, .tmp 5] R)) (endQ [.tmp 4, .tmp 5] R)))) := by
      intro fr' M' hbt' g0 g1 g6
      refine WC.ops ?_
      simp only [A10_19, go_sem, ↓reduceIte, Nat.reduceEqDiff, Nat.reduceLT, g6]
      rw [IntWalk.i64_in _ (by omega)]
      exact ih (n + 1) _ M' (by omega) (by omega) hbt' (by simp only [go_sem, ↓reduceIte, Nat.reduceEqDiff, Nat.reduceLT, g0]) (by simp only [go_sem, ↓reduceIte, Nat.reduceEqDiff, Nat.reduceLT, g1]) (by simp only [go_sem, ↓reduceIte, Nat.reduceEqDiff, Nat.reduceLT]; rfl)
    refine WC.seq (WC.block (WC.seq (WC.ops ?_)))
    simp only [A10_5, go_sem, ↓reduceIte, Nat.reduceEqDiff, Nat.reduceLT, h0, h6]
    refine callI_of (first_runs a n h1 (by omega) M) ?_
    rintro v M1 ⟨hg, hv⟩
    rcases hv with ⟨l, hi, hl, rfl, hM1, hlt⟩ | ⟨hi, rfl⟩
    · simp only [go_sem, ↓reduceIte, Nat.reduceEqDiff, Nat.reduceLT]
      refine WC.seq (WC.seq (WC.ops ?_))
      simp only [A10_6, vnil, Option.isNone_some, go_sem, ↓reduceIte, Nat.reduceEqDiff, Nat.reduceLT]
      refine WC.test (t := false) (by simp only [go_sem, ↓reduceIte, Nat.reduceEqDiff, Nat.reduceLT]) (fun h => by cases h) (fun _ => WC.skip ?_)
      simp only [go_sem]
      obtain ⟨m, rfl⟩ : ∃ m, n = m + 1 := ⟨n - 1, by omega⟩
      have hm : l[m]? = some l[m] := List.getElem?_eq_getElem (by omega)
      have hc : (numsC l)[m]? = some (.int .i64 (l[m].toNat : Int)) := by rw [numsC_get, hm]; rfl
      have hD : digitL l m = l[m].toNat := by simp [digitL, List.getD_eq_getElem?_getD, hm]
      have h8 := l[m].toNat_lt
      have hw : IntKind.i64.wrap (((m + 1 : Nat) : Int) - 1) = (m : Int) := by rw [IntWalk.i64_in _ (by omega)]; omega
      have hlo : max (l[m].toNat : Int) 1 = ((max (digitL l m) 1 : Nat) : Int) := by rw [hD]; omega
      have hmx : max (digitL l m) 1 ≤ 255 ∧ 1 ≤ max (digitL l m) 1 := by omega
      have hgr := greatL_le l b
      refine WC.seq (WC.ops ?_)
      simp only [A10_7, go_sem, ↓reduceIte, Nat.reduceEqDiff, Nat.reduceLT, h6, hw, Nat.le_refl, vload, hM1, hc, Nat.zero_add, Nat.mul_one, hlo]
      refine WC.seq (WC.ops ?_)
      simp only [A10_8, go_sem, ↓reduceIte, Nat.reduceEqDiff, Nat.reduceLT]
      rw [IntWalk.i64_in _ (by omega)]
      refine WC.seq (WC.seq (WC.ops ?_))
      simp only [A10_9, go_sem, ↓reduceIte, Nat.reduceEqDiff, Nat.reduceLT]
      have hset : l.set m l[m] = l := List.set_getElem_self _
      refine WC.block (scan_loop a b l M.next m (max (digitL l m) 1) hl (by omega) hmx.2 hmx.1 hbr hb M1 ?_ (256 - max (digitL l m) 1) (max (digitL l m) 1) _ M1 l[m] (by omega) (Nat.le_refl _) (.inl rfl) (by rw [hset]; exact Upd.same hM1) ?_ ?_ ?_ ?_ ?_ ?_ ?_)
      · intro fr M2 x q0 q1 q6 q7 q8 q9 hu
        simp only [nextQ, blockQ, beq_dec, decide_true, cond_true]
        refine WC.seq (WC.ops ?_)
        simp only [A10_16, go_sem, ↓reduceIte, Nat.reduceEqDiff, Nat.reduceLT, q8, q9]
        by_cases hlt2 : greatL l b < ((max (digitL l m) 1 : Nat) : Int)
        · refine WC.test (t := false) (by simp only [go_sem, ↓reduceIte, Nat.reduceEqDiff, Nat.reduceLT, if_pos hlt2]; rw [decide_eq_false (by omega)]) (fun h => by cases h) (fun _ => WC.skip ?_)
          simp only [nextQ, blockQ]
          refine hnext _ _ ?_ (by simp only [go_sem, ↓reduceIte, Nat.reduceEqDiff, Nat.reduceLT, q0]) (by simp only [go_sem, ↓reduceIte, Nat.reduceEqDiff, Nat.reduceLT, q1]) (by simp only [go_sem, ↓reduceIte, Nat.reduceEqDiff, Nat.reduceLT, q6])
          rw [← hbt]
          simp only [btwAt, hi, Nat.add_sub_cancel]
          rw [if_pos hlt2]
        · simp only [if_neg hlt2] at q9 ⊢
          refine WC.test (t := true) (by simp only [go_sem, ↓reduceIte, Nat.reduceEqDiff, Nat.reduceLT]; rw [decide_eq_true (by omega)]) (fun _ => ?_) (fun h => by cases h)
          refine WC.seq (WC.ops ?_)
          simp only [A10_17, go_sem, ↓reduceIte, Nat.reduceEqDiff, Nat.reduceLT, q6, q7, q8, q9, hw, ne_eq, Int.reduceEq, not_false_eq_true, Nat.le_refl, Nat.zero_add, Nat.mul_one]
          have hq : IntKind.i64.wrap ((IntKind.i64.wrap (((max (digitL l m) 1 : Nat) : Int) + greatL l b)).tdiv 2) = ((UInt8.ofNat ((max (digitL l m) 1 + (greatL l b).toNat) / 2)).toNat : Int) := by
            rw [IntWalk.i64_in (((max (digitL l m) 1 : Nat) : Int) + greatL l b) (by omega), Int.tdiv_eq_ediv_of_nonneg (by omega), IntWalk.i64_in _ (by omega)]
            simp only [UInt8.toNat_ofNat']
            omega
          rw [hq]
          simp only [vstore, V.cells, List.length_cons, List.length_nil, Nat.zero_add, Nat.reduceEqDiff, go_sem]
          rw [write_one hu.at_ (by rw [numsC_len, List.length_set]; omega) rfl, numsC_set, List.set_set]
          simp only [go_sem, ↓reduceIte, Nat.reduceEqDiff, Nat.reduceLT]
          have hu2 := hu.trans (Upd.set M2 M.next (.cells (numsC (l.set m (UInt8.ofNat ((max (digitL l m) 1 + (greatL l b).toNat) / 2)))) false))
          generalize M2.set M.next _ = M3 at hu2
          refine WC.seq (WC.ops ?_)
          simp only [A10_18, go_sem, ↓reduceIte, Nat.reduceEqDiff, Nat.reduceLT, q7]
          have ht := text_runs (l.set m (UInt8.ofNat ((max (digitL l m) 1 + (greatL l b).toNat) / 2))) M.next (by rw [List.length_set]; omega) (by rw [List.length_set]; omega) M3 hu2.at_ (by rw [hu2.next]; exact hlt)
          rw [List.length_set, hl] at ht
          refine callI_of ht ?_
          intro v M4 hv
          rw [hv]
          simp only [go_sem, ↓reduceIte, Nat.reduceEqDiff, Nat.reduceLT]
          refine WC.ret ?_
          simp only [go_sem, ↓reduceIte, Nat.reduceEqDiff, Nat.reduceLT]
          refine hR _ _ ?_
          rw [← hbt]
          simp only [btwAt, hi, Nat.add_sub_cancel]
          rw [if_neg hlt2]
      all_goals simp only [go_sem, ↓reduceIte, Nat.reduceEqDiff, Nat.reduceLT, h0, h1', h6]
    · simp only [go_sem, ↓reduceIte, Nat.reduceEqDiff, Nat.reduceLT]
      refine WC.seq (WC.seq (WC.ops ?_))
      simp only [A10_6, vnil, Option.isNone_none, go_sem, ↓reduceIte, Nat.reduceEqDiff, Nat.reduceLT]
      refine WC.test (t := true) (by simp only [go_sem, ↓reduceIte, Nat.reduceEqDiff, Nat.reduceLT]) (fun _ => WC.exit ?_) (fun h => by cases h)
      simp only [go_sem]
      refine hnext _ _ ?_ (by simp only [go_sem, ↓reduceIte, Nat.reduceEqDiff, Nat.reduceLT, h0]) (by simp only [go_sem, ↓reduceIte, Nat.reduceEqDiff, Nat.reduceLT, h1']) (by simp only [go_sem, ↓reduceIte, Nat.reduceEqDiff, Nat.reduceLT, h6])
      rw [← hbt]
      simp only [btwAt, hi]

theorem rbetween_runs (a b : List UInt8) (ha : a.length < 2 ^ 63) (hb : b.length < 2 ^ 63) (M : Mem) : Runs D2 10 [.str a, .str b] M fun v _ => v = btwV a b := by
  refine Runs.of (F := A10) rfl (by rfl) (by rfl) ?_
  unfold A10
  refine WC.seq (WC.ops ?_)
  simp only [A10_0, go_sem]
  refine WC.seq (WC.seq (WC.ops ?_))
  simp only [A10_1, go_sem, ↓reduceIte, Nat.reduceEqDiff, Nat.reduceLT]
  refine callI_eq (rfine_runs a b ha hb M) ?_
  simp only [go_sem, ↓reduceIte, Nat.reduceEqDiff, Nat.reduceLT]
  cases hf : fineK a b with
  | false =>
    refine WC.test (t := true) (by simp only [go_sem, ↓reduceIte, Nat.reduceEqDiff, Nat.reduceLT]) (fun _ => ?_) (fun h => by cases h)
    refine WC.seq (WC.ops ?_)
    simp only [A10_2, go_sem, ↓reduceIte, Nat.reduceEqDiff, Nat.reduceLT]
    refine WC.ret ?_
    simp only [go_sem, ↓reduceIte, Nat.reduceEqDiff, Nat.reduceLT, btwV, hf, Bool.false_eq_true]
  | true =>
    have hbr := (fine_parts hf).2.1
    have hbl : b.length < 2 ^ 40 := by
      rcases hbr with h | h
      · rw [h]; decide
      · have := (right_last h).2.1; omega
    refine WC.test (t := false) (by simp only [go_sem, ↓reduceIte, Nat.reduceEqDiff, Nat.reduceLT]) (fun h => by cases h) (fun _ => WC.skip ?_)
    simp only [go_sem]
    refine WC.seq (WC.seq (WC.ops ?_))
    simp only [A10_3, go_sem, ↓reduceIte, Nat.reduceEqDiff, Nat.reduceLT]
    refine WC.block (rbtw_loop a b hbr hbl ?_ ?_ 24 1 _ M rfl (Nat.le_refl _) rfl (by simp only [go_sem, ↓reduceIte, Nat.reduceEqDiff, Nat.reduceLT]) (by simp only [go_sem, ↓reduceIte, Nat.reduceEqDiff, Nat.reduceLT]) (by simp only [go_sem, ↓reduceIte, Nat.reduceEqDiff, Nat.reduceLT]; rfl))
    · intro l M2 h
      simp only [btwV, hf, h, if_true]
    · intro M2 h
      simp only [btwV, hf, h, if_true]
end Go.Am.Try
