/- The walk of the law PoskeyLies on the machine. -/
import Derived.Test.YtpkflnohagieiaaMath2
namespace Go.Am.Try
open Go Go.Am Go.Proofs
set_option maxRecDepth 100000
set_option linter.unusedSimpArgs false
set_option linter.unusedVariables false

theorem num_runs (n : Int) (M : Mem) : Runs D2 11 [.int .i64 n] M fun v M' => v = .int .i64 n ∧ M' = M := by
  refine Runs.of (F := A11) rfl (by rfl) (by rfl) ?_
  unfold A11
  refine WC.seq (WC.ops ?_)
  simp only [A11_0, go_sem]
  refine WC.seq (WC.ops ?_)
  simp only [A11_1, go_sem, ↓reduceIte, Nat.reduceEqDiff, Nat.reduceLT]
  refine WC.ret ?_
  simp only [go_sem, ↓reduceIte, Nat.reduceEqDiff, Nat.reduceLT]
  exact ⟨trivial, trivial⟩

theorem fine_row (a b : List UInt8) (fr : Fr) (M : Mem) (x y : V) (h0 : fr.rd 0 = .str a) (h1 : fr.rd 1 = .str b) (h5 : fr.rd 5 = x) (h6 : fr.rd 6 = y) {K : Fr → Mem → Prop}
    (hK : ∀ fr', fr'.rd 0 = .str a → fr'.rd 1 = .str b → fr'.rd 5 = x → fr'.rd 6 = y → fr'.rd 7 = .bool (fineK a b) → K fr' M) : WI D2 113 A4_2 fr M K := by
  have hKf : ∀ fr', fr'.rd 0 = .str a → fr'.rd 1 = .str b → fr'.rd 5 = x → fr'.rd 6 = y → ∀ t, fr'.rd 7 = .bool t → t = fineK a b → K fr' M := fun fr' q0 q1 q5 q6 t q7 e => hK fr' q0 q1 q5 q6 (by rw [q7, e])
  have hA : ∀ {l : List Go.Am.Item} {fr' : Fr} {d : Option Nat} {k : List UInt8} {K' : Fr → Mem → Prop}, WI D2 113 l (fr'.put 113 d (.bool (rightK k))) M K' → callI D2 113 12 [.str k] d fr' M l K' := fun h => callI_of (right_runs _ M) (by rintro v M' ⟨rfl, rfl⟩; exact h)
  simp only [A4_2, go_sem, ↓reduceIte, Nat.reduceEqDiff, Nat.reduceLT, h0, h1]
  by_cases ha : a = [] <;> by_cases hb : b = []
  all_goals simp only [ha, hb, go_sem, ↓reduceIte, Nat.reduceEqDiff, Nat.reduceLT, h0, h1]
  · refine hKf _ ?_ ?_ ?_ ?_ true ?_ ?_
    all_goals try simp only [go_sem, ↓reduceIte, Nat.reduceEqDiff, Nat.reduceLT, h0, h1, h5, h6, ha, hb]
    simp [fineK, inK]
  · refine hA ?_
    cases hr : rightK b <;> simp only [ha, hb, go_sem, ↓reduceIte, Nat.reduceEqDiff, Nat.reduceLT, h0, h1]
    · refine hKf _ ?_ ?_ ?_ ?_ false ?_ ?_
      all_goals try simp only [go_sem, ↓reduceIte, Nat.reduceEqDiff, Nat.reduceLT, h0, h1, h5, h6, ha]
      simp [fineK, inK, hb, hr]
    · refine hKf _ ?_ ?_ ?_ ?_ true ?_ ?_
      all_goals try simp only [go_sem, ↓reduceIte, Nat.reduceEqDiff, Nat.reduceLT, h0, h1, h5, h6, ha]
      simp [fineK, inK, hb, hr]
  · refine hA ?_
    cases hr : rightK a <;> simp only [ha, hb, go_sem, ↓reduceIte, Nat.reduceEqDiff, Nat.reduceLT, h0, h1]
    · refine hKf _ ?_ ?_ ?_ ?_ false ?_ ?_
      all_goals try simp only [go_sem, ↓reduceIte, Nat.reduceEqDiff, Nat.reduceLT, h0, h1, h5, h6, hb]
      simp [fineK, inK, ha, hr]
    · refine hKf _ ?_ ?_ ?_ ?_ true ?_ ?_
      all_goals try simp only [go_sem, ↓reduceIte, Nat.reduceEqDiff, Nat.reduceLT, h0, h1, h5, h6, hb]
      simp [fineK, inK, ha, hr]
  · refine hA ?_
    cases hr : rightK a <;> simp only [ha, hb, go_sem, ↓reduceIte, Nat.reduceEqDiff, Nat.reduceLT, h0, h1]
    · refine hKf _ ?_ ?_ ?_ ?_ false ?_ ?_
      all_goals try simp only [go_sem, ↓reduceIte, Nat.reduceEqDiff, Nat.reduceLT, h0, h1, h5, h6]
      simp [fineK, inK, ha, hr]
    · refine hA ?_
      cases hr2 : rightK b <;> simp only [ha, hb, go_sem, ↓reduceIte, Nat.reduceEqDiff, Nat.reduceLT, h0, h1]
      · refine hKf _ ?_ ?_ ?_ ?_ false ?_ ?_
        all_goals try simp only [go_sem, ↓reduceIte, Nat.reduceEqDiff, Nat.reduceLT, h0, h1, h5, h6]
        simp [fineK, inK, ha, hb, hr, hr2]
      · refine hKf _ ?_ ?_ ?_ ?_ (strLess a b) ?_ ?_
        all_goals try simp only [go_sem, ↓reduceIte, Nat.reduceEqDiff, Nat.reduceLT, h0, h1, h5, h6]
        simp [fineK, inK, ha, hb, hr, hr2]

set_option maxHeartbeats 400000 in
theorem lies_runs (a b : List UInt8) (ha : a.length < 2 ^ 63) (hb : b.length < 2 ^ 63) (M : Mem) : Runs D2 4 [.str a, .str b] M fun v _ => v = .bool true := by
  have hcmp : ∀ {x y : List UInt8}, strLess x y = true → cmpB x y = -1 := fun h => by rw [cmp_less] at h; exact of_decide_eq_true h
  refine Runs.of (F := A4) rfl (by rfl) (by rfl) ?_
  unfold A4
  refine WC.seq (WC.ops ?_)
  simp only [A4_0, go_sem]
  refine WC.seq (WC.ops ?_)
  simp only [A4_1, go_sem, ↓reduceIte, Nat.reduceEqDiff, Nat.reduceLT]
  refine callI_of (between_runs a b hb M) ?_
  rintro v M1 rfl
  obtain ⟨k, e, hv⟩ : ∃ k e, btwV a b = .tup [.str k, .int .i64 e] := by
    unfold btwV
    split
    · split <;> exact ⟨_, _, rfl⟩
    · exact ⟨_, _, rfl⟩
  simp only [hv, go_sem, ↓reduceIte, Nat.reduceEqDiff, Nat.reduceLT, List.getElem?_cons_zero, List.getElem?_cons_succ]
  refine WC.seq (WC.ops ?_)
  refine fine_row a b _ M1 (.str k) (.int .i64 e) ?_ ?_ ?_ ?_ ?_
  · simp only [go_sem, ↓reduceIte, Nat.reduceEqDiff, Nat.reduceLT]
  · simp only [go_sem, ↓reduceIte, Nat.reduceEqDiff, Nat.reduceLT]
  · simp only [go_sem, ↓reduceIte, Nat.reduceEqDiff, Nat.reduceLT]
  · simp only [go_sem, ↓reduceIte, Nat.reduceEqDiff, Nat.reduceLT]
  intro fr h0 h1 h5 h6 h7
  refine WC.seq (WC.seq (WC.ops ?_))
  simp only [A4_3, go_sem, ↓reduceIte, Nat.reduceEqDiff, Nat.reduceLT, h7]
  cases hf : fineK a b with
  | false =>
    have hke : k = [] ∧ e = 1 := by simp only [btwV, hf] at hv; simp at hv; first | exact hv | exact ⟨hv.1.symm, hv.2⟩ | exact ⟨hv.1, hv.2.symm⟩ | exact ⟨hv.1.symm, hv.2.symm⟩
    obtain ⟨rfl, rfl⟩ := hke
    refine WC.test (t := true) (by simp only [go_sem, ↓reduceIte, Nat.reduceEqDiff, Nat.reduceLT]) (fun _ => ?_) (fun h => by cases h)
    refine WC.seq (WC.ops ?_)
    simp only [A4_4, go_sem, ↓reduceIte, Nat.reduceEqDiff, Nat.reduceLT, h5, h6]
    refine callI_eq (num_runs _ _) ?_
    simp only [go_sem, ↓reduceIte, Nat.reduceEqDiff, Nat.reduceLT]
    refine callI_eq (knows_runs _) ?_
    simp only [go_sem, ↓reduceIte, Nat.reduceEqDiff, Nat.reduceLT]
    refine WC.ret ?_
    simp only [go_sem, ↓reduceIte, Nat.reduceEqDiff, Nat.reduceLT]
  | true =>
    refine WC.test (t := false) (by simp only [go_sem, ↓reduceIte, Nat.reduceEqDiff, Nat.reduceLT]) (fun h => by cases h) (fun _ => WC.skip ?_)
    simp only [go_sem]
    refine WC.seq (WC.seq (WC.ops ?_))
    simp only [A4_5, go_sem, ↓reduceIte, Nat.reduceEqDiff, Nat.reduceLT, h5, h6]
    refine callI_eq (num_runs _ _) ?_
    simp only [go_sem, ↓reduceIte, Nat.reduceEqDiff, Nat.reduceLT]
    cases hk : btwK a b with
    | none =>
      have hke : k = [] ∧ e = 32 := by simp only [btwV, hf, hk] at hv; simp at hv; first | exact hv | exact ⟨hv.1.symm, hv.2⟩ | exact ⟨hv.1, hv.2.symm⟩ | exact ⟨hv.1.symm, hv.2.symm⟩
      obtain ⟨rfl, rfl⟩ := hke
      have hroom : (24 : Int) ≤ max (a.length : Int) (b.length : Int) := by
        have : ¬ max a.length b.length + 1 ≤ 24 := by
          intro hle
          obtain ⟨k, h, _⟩ := fine_found hf hle
          rw [hk] at h; cases h
        omega
      refine WC.test (t := true) (by simp only [go_sem, ↓reduceIte, Nat.reduceEqDiff, Nat.reduceLT, Int.reduceEq]) (fun _ => ?_) (fun h => by cases h)
      refine WC.seq (WC.ops ?_)
      simp only [A4_6, go_sem, ↓reduceIte, Nat.reduceEqDiff, Nat.reduceLT, h5, h6]
      refine callI_eq (num_runs _ _) ?_
      simp only [go_sem, ↓reduceIte, Nat.reduceEqDiff, Nat.reduceLT, h0, h1, decide_eq_true hroom]
      refine callI_eq (knows_runs _) ?_
      simp only [go_sem, ↓reduceIte, Nat.reduceEqDiff, Nat.reduceLT]
      refine WC.ret ?_
      simp only [go_sem, ↓reduceIte, Nat.reduceEqDiff, Nat.reduceLT]
    | some k' =>
      have hke : k = k' ∧ e = 0 := by simp only [btwV, hf, hk] at hv; simp at hv; first | exact hv | exact ⟨hv.1.symm, hv.2⟩ | exact ⟨hv.1, hv.2.symm⟩ | exact ⟨hv.1.symm, hv.2.symm⟩
      obtain ⟨rfl, rfl⟩ := hke
      obtain ⟨g1, g2, g3⟩ := btw_right hk
      refine WC.test (t := false) (by simp only [go_sem, ↓reduceIte, Nat.reduceEqDiff, Nat.reduceLT]) (fun h => by cases h) (fun _ => WC.skip ?_)
      simp only [go_sem]
      refine WC.seq (WC.ops ?_)
      simp only [A4_7, go_sem, ↓reduceIte, Nat.reduceEqDiff, Nat.reduceLT, h5, h6]
      refine callI_eq (right_runs _ _) ?_
      simp only [go_sem, ↓reduceIte, Nat.reduceEqDiff, Nat.reduceLT, h0, h1, g1]
      have c1 := hcmp g2
      by_cases hae : a = [] <;> by_cases hbe : b = []
      · simp only [hae, hbe, go_sem, ↓reduceIte, Nat.reduceEqDiff, Nat.reduceLT, h0, h1, h5]
        rw [hae] at g2
        simp only [g2, go_sem, ↓reduceIte, Nat.reduceEqDiff, Nat.reduceLT, h0, h1, h5, hbe]
        refine callI_eq (knows_runs _) ?_
        simp only [go_sem, ↓reduceIte, Nat.reduceEqDiff, Nat.reduceLT]
        refine WC.ret ?_
        simp only [go_sem, ↓reduceIte, Nat.reduceEqDiff, Nat.reduceLT]
      · have c2 := hcmp (g3 hbe)
        have g4 := g3 hbe
        simp only [hae, hbe, go_sem, ↓reduceIte, Nat.reduceEqDiff, Nat.reduceLT, h0, h1, h5]
        refine callI_eq (Compare_runs _ _ _) ?_
        rw [hae] at g2
        simp only [c2, g2, g4, hbe, hae, go_sem, ↓reduceIte, Nat.reduceEqDiff, Nat.reduceLT, h0, h1, h5]
        refine callI_eq (knows_runs _) ?_
        simp only [go_sem, ↓reduceIte, Nat.reduceEqDiff, Nat.reduceLT]
        refine WC.ret ?_
        simp only [go_sem, ↓reduceIte, Nat.reduceEqDiff, Nat.reduceLT]
      · simp only [hae, hbe, go_sem, ↓reduceIte, Nat.reduceEqDiff, Nat.reduceLT, h0, h1, h5]
        refine callI_eq (Compare_runs _ _ _) ?_
        simp only [c1, g2, hbe, hae, go_sem, ↓reduceIte, Nat.reduceEqDiff, Nat.reduceLT, h0, h1, h5]
        refine callI_eq (knows_runs _) ?_
        simp only [go_sem, ↓reduceIte, Nat.reduceEqDiff, Nat.reduceLT]
        refine WC.ret ?_
        simp only [go_sem, ↓reduceIte, Nat.reduceEqDiff, Nat.reduceLT]
      · have c2 := hcmp (g3 hbe)
        have g4 := g3 hbe
        simp only [hae, hbe, go_sem, ↓reduceIte, Nat.reduceEqDiff, Nat.reduceLT, h0, h1, h5]
        refine callI_eq (Compare_runs _ _ _) ?_
        simp only [c1, hbe, hae, go_sem, ↓reduceIte, Nat.reduceEqDiff, Nat.reduceLT, h0, h1, h5]
        refine callI_eq (Compare_runs _ _ _) ?_
        simp only [c2, g2, g4, hbe, hae, go_sem, ↓reduceIte, Nat.reduceEqDiff, Nat.reduceLT, h0, h1, h5]
        refine callI_eq (knows_runs _) ?_
        simp only [go_sem, ↓reduceIte, Nat.reduceEqDiff, Nat.reduceLT]
        refine WC.ret ?_
        simp only [go_sem, ↓reduceIte, Nat.reduceEqDiff, Nat.reduceLT]

theorem len_ok (a : ByteArray) (h : a.size ≤ maxLen) : a.data.toList.length < 2 ^ 63 := by
  have : a.data.toList.length = a.size := by simp
  rw [this]
  have : maxLen < 2 ^ 63 := by decide
  omega
end Go.Am.Try
