/- The parts of the machine that are not code: strings.Compare, by its contract; what must come, by the kernel. -/
import Derived.Test.YtpkflnohagieiaaTryCode
import Derived.Test.YtpkflnohagieiaaAmPrim
import Derived.Lib.Strings
import Derived.Lib.Slices
import Derived.Lib.Walk
import Derived.Lib.Bytealg
set_option linter.unusedSimpArgs false
set_option linter.unusedVariables false
namespace Go.Proofs
set_option maxHeartbeats 1000000 in
set_option maxRecDepth 100000 in
theorem Try.bytealg_CompareString (a b : ByteArray) (w : World) :
    Calls Try.prog 32 #[.string a, .string b] w fun e w' => e = .returned (.int .i64 (Lib.compareBytes a.data.toList b.data.toList)) ∧ w' = w := by
  go_enter Try.func32, Try.ntmps32
  go_wp2
  rw [run_callFunc_extern Try.func33 (by kernel_rfl) (by kernel_rfl) (by kernel_rfl) (e := Extern.BytealgCompare.compare) (by kernel_rfl), Lib.run_compareString]
  simp only [Result.andThen]
  rw [Oper.upon_value]
  go_wp2
  go_ret
  exact ⟨rfl, rfl⟩
set_option maxHeartbeats 1000000 in
theorem Try.strings_Compare (a b : ByteArray) (w : World) :
    Calls Try.prog 26 #[.string a, .string b] w fun e w' => e = .returned (.int .i64 (Lib.compareBytes a.data.toList b.data.toList)) ∧ w' = w := by
  go_enter Try.func26, Try.ntmps26
  go_wp2_with (go_at_call 32; refine (Try.bytealg_CompareString _ _ _).mono ?_; rintro e w' ⟨rfl, rfl⟩)
  go_ret
  exact ⟨rfl, rfl⟩
end Go.Proofs
namespace Go.Am.Try
open Go Go.Am Go.Proofs

def pCompare : List V → Option V
  | [.str a, .str b] => some (.int .i64 (Lib.compareBytes a b))
  | _ => none
def pTrue : List V → Option V
  | [] => some (.bool true)
  | _ => none
def D0 : Decls := ⟨codeOf codes, fun _ => none⟩
def D1 : Decls := D0.add 26 pCompare
def D2 : Decls := D1.add 16 pTrue
theorem gl0_none : ∀ x, gl0 x = false := fun _ => rfl
theorem dok0 : DOK Try.prog gl0 D0 := dok_codes mixed codes_ok
theorem dok1 : DOK Try.prog gl0 D1 := by
  refine dok0.add (prim_of_calls ⟨_, Try.func26, (by kernel_rfl), (by kernel_rfl)⟩ ?_)
  intro args v h E args' w hA
  unfold pCompare at h
  split at h
  · rename_i a b
    cases h
    have : ∃ x y : ByteArray, args' = #[.string x, .string y] ∧ a = x.data.toList ∧ b = y.data.toList := by
      obtain ⟨l⟩ := args'
      simp only at hA
      cases hA with
      | cons h1 t => cases h1 with | str x => cases t with | cons h2 t => cases h2 with | str y => cases t; exact ⟨x, y, rfl, rfl, rfl⟩
    obtain ⟨x, y, rfl, rfl, rfl⟩ := this
    refine (Try.strings_Compare x y w).mono fun e w' ⟨he, hw⟩ => ?_
    exact ⟨_, he, .int _ _, hw⟩
  · cases h
def isTrue : Option (V × Mem) → Bool
  | some (.bool true, _) => true
  | _ => false
theorem isTrue_run {x : Option (V × Mem)} (h : isTrue x = true) : ∃ M, x = some (.bool true, M) := by
  unfold isTrue at h
  split at h
  · exact ⟨_, rfl⟩
  · cases h
set_option maxRecDepth 100000 in
theorem knows_eval : isTrue (callN D1 400 16 [] mem0) = true := by kernel_rfl
theorem dok2 : DOK Try.prog gl0 D2 := by
  refine dok1.add (prim_flat dok1 gl0_none ?_)
  intro args v h
  unfold pTrue at h
  split at h
  · cases h
    obtain ⟨M, hM⟩ := isTrue_run knows_eval
    exact ⟨rfl, rfl, 400, _, M, hM, rfl⟩
  · cases h
theorem compare_runs (a b : List UInt8) (M : Mem) : Runs D2 26 [.str a, .str b] M fun v M' => v = .int .i64 (Lib.compareBytes a b) ∧ M' = M := Runs.prim rfl rfl ⟨rfl, rfl⟩
theorem knows_runs (M : Mem) : Runs D2 16 [] M fun v M' => v = .bool true ∧ M' = M := Runs.prim rfl rfl ⟨rfl, rfl⟩
end Go.Am.Try
