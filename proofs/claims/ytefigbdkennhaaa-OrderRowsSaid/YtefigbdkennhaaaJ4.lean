/- The machine and what is proved of its runs, part 4: what each part says stands at its head. -/
import Derived.Test.YtefigbdkennhaaaJ3
import Derived.Test.YtefigbdkennhaaaChecked
import Derived.KernelRfl
import Derived.Shelf.SlSortCmp.NoneTotal
import Derived.Lib.Bytealg
import Derived.Lib.Strings
import Derived.Lib.Slices
import Derived.Lib.Walk
import Derived.Shelf.SlGeneric
set_option linter.unusedSimpArgs false
set_option linter.unusedVariables false
set_option linter.unusedSectionVars false
/- What the machine runs: the code of the functions, by name, written by a program of mine, each tied to the given program by the kernel. -/
namespace Go.Am.Try
open Go Go.Am Go.Proofs
abbrev Row := List Go.Am.Item
abbrev r (t : Nat) : Opd := .tmp t
abbrev i (d : Nat) (op : AOp) : Go.Am.Item := ⟨⟨some d, op, none⟩, []⟩
abbrev i0 (op : AOp) : Go.Am.Item := ⟨⟨none, op, none⟩, []⟩
abbrev g (d : Nat) (op : AOp) (t : Nat) (b : Bool) : Go.Am.Item := ⟨⟨some d, op, some (t, b)⟩, []⟩
abbrev a (d : Nat) (op : AOp) : AOper := ⟨some d, op, none⟩
abbrev F_law11_OrderStands : Nat := 3
abbrev F_law11_OrderOne : Nat := 4
abbrev F_law11_OrderRows : Nat := 5
abbrev F_law11_long : Nat := 6
abbrev F_law11_knows : Nat := 7
abbrev F_order_Sort : Nat := 8
abbrev F_law11_Own : Nat := 9
abbrev F_order_Key : Nat := 10
abbrev F_law11_num : Nat := 11
abbrev F_law11_fine : Nat := 12
abbrev F_order_Before : Nat := 13
abbrev F_ref11_Sort : Nat := 14
abbrev F_law11_Same : Nat := 15
abbrev F_order_Find : Nat := 16
abbrev F_ref11_Find : Nat := 17
abbrev F_ref11_Before : Nat := 18
abbrev F_ref11_Key : Nat := 19
abbrev F_order_Keys : Nat := 20
abbrev F_ref11_Keys : Nat := 21
abbrev F_order_Sort_c1 : Nat := 22
abbrev F_slices_SortedFunc_Sib : Nat := 23
abbrev F_slices_Values_Sib : Nat := 24
abbrev F_order_gap : Nat := 25
abbrev F_order_Key_c1 : Nat := 26
abbrev F_poskey_Between : Nat := 27
abbrev F_poskey_Right : Nat := 28
abbrev F_stamp_Compare : Nat := 29
abbrev F_poskey_Compare : Nat := 30
abbrev F_slices_IndexFunc_Sib : Nat := 31
abbrev F_order_Find_c1 : Nat := 32
abbrev F_ref04_Compare : Nat := 33
abbrev F_ref02_Compare : Nat := 34
abbrev F_ref11_gap : Nat := 35
abbrev F_ref04_Between : Nat := 36
abbrev F_order_Keys_c1 : Nat := 37
abbrev F_poskey_Spread : Nat := 38
abbrev F_ref04_Spread : Nat := 39
abbrev F_slices_Collect_Sib : Nat := 40
abbrev F_slices_SortFunc_Sib : Nat := 41
abbrev F_slices_Values_Sib_c1 : Nat := 42
abbrev F_poskey_fine : Nat := 43
abbrev F_poskey_above : Nat := 44
abbrev F_poskey_greatest : Nat := 45
abbrev F_strings_Compare : Nat := 46
abbrev F_ref11_row : Nat := 47
abbrev F_ref04_fine : Nat := 48
abbrev F_ref04_first : Nat := 49
abbrev F_ref04_below : Nat := 50
abbrev F_ref04_text : Nat := 51
abbrev F_poskey_Spread_c1 : Nat := 52
abbrev F_slices_AppendSeq_Sib : Nat := 53
abbrev F_slices_pdqsortCmpFunc_Sib : Nat := 54
abbrev F_math_bits_Len : Nat := 55
abbrev F_poskey_fine_c1 : Nat := 56
abbrev F_poskey_digit : Nat := 57
abbrev F_internal_bytealg_CompareString : Nat := 58
abbrev F_ref04_Right : Nat := 59
abbrev F_ref04_digit : Nat := 60
abbrev F_ref04_carry : Nat := 61
abbrev F_slices_insertionSortCmpFunc_Sib : Nat := 62
abbrev F_slices_heapSortCmpFunc_Sib : Nat := 63
abbrev F_slices_breakPatternsCmpFunc_Sib : Nat := 64
abbrev F_slices_choosePivotCmpFunc_Sib : Nat := 65
abbrev F_slices_reverseRangeCmpFunc_Sib : Nat := 66
abbrev F_slices_partialInsertionSortCmpFunc_Sib : Nat := 67
abbrev F_slices_partitionEqualCmpFunc_Sib : Nat := 68
abbrev F_slices_partitionCmpFunc_Sib : Nat := 69
abbrev F_math_bits_Len32 : Nat := 70
abbrev F_math_bits_Len64 : Nat := 71
abbrev F_internal_bytealg_abigen_runtime_cmpstring : Nat := 72
abbrev F_slices_siftDownCmpFunc_Sib : Nat := 73
abbrev F_slices_nextPowerOfTwo : Nat := 74
abbrev F_slices_xorshift_Next : Nat := 75
abbrev F_slices_medianAdjacentCmpFunc_Sib : Nat := 76
abbrev F_slices_medianCmpFunc_Sib : Nat := 77
abbrev F_slices_order2CmpFunc_Sib : Nat := 78
/-! diorama/dioramalaw11.OrderStands -/
def A_law11_OrderStands_0 : Row := [i 5 (.box (r 2)), i 6 (.mv (.const (.bool false)))]
def A_law11_OrderStands_1 : Row := [i 13 (.mv (r 0)), i 14 (.call (.func F_law11_long) [.tmp 13])]
def A_law11_OrderStands_2 : Row := [i 15 (.call (.func F_law11_knows) []), i 6 (.mv (r 15))]
def A_law11_OrderStands_3 : Row := [i 16 (.mv (r 0)), i 17 (.call (.func F_law11_Own) [.tmp 16]), i 18 (.call (.func F_order_Sort) [.tmp 17]), i 7 (.mv (r 18))]
def A_law11_OrderStands_4 : Row := [i 20 (.mv (r 7)), i 21 (.mv (r 1)), i 22 (.call (.func F_order_Key) [.tmp 20, .tmp 21]), i 19 (.mv (r 22)), i 23 (.extract (r 19) 0), i 24
  (.extract (r 19) 1), i 8 (.mv (r 23)), i 9 (.mv (r 24))]
def A_law11_OrderStands_5 : Row := [i 25 (.mv (r 9)), i 26 (.call (.func F_law11_num) [.tmp 25]), i 27 (.bin (.neq) (r 26) (.const (.int (.i64) 0)))]
def A_law11_OrderStands_6 : Row := [i 28 (.mv (r 8)), i 29 (.bin (.eql) (r 28) (.const (.str []))), i 30 (.mv (r 29)), g 31 (.call (.func F_law11_knows) []) 30 true, i 32
  (.pick (r 30) (r 31) (.const (.bool false))), i 6 (.mv (r 32))]
def A_law11_OrderStands_7 : Row := [i 33 (.mv (r 7)), i 34 (.call (.func F_law11_fine) [.tmp 33]), i 35 (.un (.not) (r 34))]
def A_law11_OrderStands_8 : Row := [i 36 (.call (.func F_law11_knows) []), i 6 (.mv (r 36))]
def A_law11_OrderStands_9 : Row := [i 37 (.buildSlice 0 [] []), i 38 (.mv (r 7)), i 40 (.mv (r 8)), i 41 (.load (some 2) (r 5)), i 42 (.build [.str [], .int (.i64) 0, .int
  (.i64) 0] [(0, 1, .tmp 40), (1, 2, .tmp 41)]), i 43 (.buildSlice 1 [.str [], .int (.i64) 0, .int (.i64) 0] [(0, 3, .tmp 42)]), ⟨a 39 (.append 3 32 (r 37) (r 38)), [a 43
  (.buildSlice 1 [.str [], .int (.i64) 0, .int (.i64) 0] [(0, 3, .tmp 42)]), a 41 (.load (some 2) (r 5))]⟩, i 44 (.append 3 32 (r 39) (r 43)), i 45 (.call (.func
  F_order_Sort) [.tmp 44]), i 10 (.mv (r 45))]
def A_law11_OrderStands_10 : Row := [i 46 (.mv (r 10)), i 47 (.lenSlice (r 46)), i 48 (.mv (r 7)), i 49 (.lenSlice (r 48)), i 50 (.bin (.add) (r 49) (.const (.int (.i64) 1))),
  i 51 (.bin (.neq) (r 47) (r 50)), i 52 (.mv (r 51)), g 53 (.mv (r 1)) 52 false, g 54 (.bin (.lss) (r 53) (.const (.int (.i64) 0))) 52 false, i 55 (.pick (r 52) (.const
  (.bool true)) (r 54)), i 56 (.mv (r 55)), g 57 (.mv (r 1)) 56 false, g 58 (.mv (r 7)) 56 false, g 59 (.lenSlice (r 58)) 56 false, g 60 (.bin (.gtr) (r 57) (r 59)) 56
  false, i 61 (.pick (r 56) (.const (.bool true)) (r 60)), i 62 (.mv (r 61)), g 63 (.mv (r 10)) 62 false, g 64 (.mv (r 1)) 62 false, g 65 (.indexAddr 3 (r 63) (r 64)) 62
  false, g 66 (.fieldAddr 0 (r 65)) 62 false, g 67 (.load none (r 66)) 62 false, g 68 (.mv (r 8)) 62 false, g 69 (.bin (.neq) (r 67) (r 68)) 62 false, i 70 (.pick (r 62)
  (.const (.bool true)) (r 69)), i 71 (.mv (r 70)), g 72 (.mv (r 10)) 71 false, g 73 (.mv (r 1)) 71 false, g 74 (.indexAddr 3 (r 72) (r 73)) 71 false, g 75 (.fieldAddr 1
  (r 74)) 71 false, g 76 (.load (some 2) (r 75)) 71 false, g 77 (.load (some 2) (r 5)) 71 false, g 78 (.eq true { agg := true, sk := [.int (.i64), .int (.i64)] } (r 76) (r
  77)) 71 false, i 79 (.pick (r 71) (.const (.bool true)) (r 78))]
def A_law11_OrderStands_11 : Row := [i 6 (.mv (.const (.bool false)))]
def A_law11_OrderStands_12 : Row := [i 11 (.mv (.const (.int (.i64) 0)))]
def A_law11_OrderStands_13 : Row := [i 80 (.mv (r 11)), i 81 (.mv (r 7)), i 82 (.lenSlice (r 81)), i 83 (.bin (.lss) (r 80) (r 82))]
def A_law11_OrderStands_14 : Row := [i 86 (.mv (r 11)), i 12 (.mv (r 86))]
def A_law11_OrderStands_15 : Row := [i 87 (.mv (r 11)), i 88 (.mv (r 1)), i 89 (.bin (.geq) (r 87) (r 88))]
def A_law11_OrderStands_16 : Row := [i 90 (.mv (r 11)), i 91 (.bin (.add) (r 90) (.const (.int (.i64) 1))), i 12 (.mv (r 91))]
def A_law11_OrderStands_17 : Row := [i 92 (.mv (r 10)), i 93 (.mv (r 12)), i 94 (.indexAddr 3 (r 92) (r 93)), i 95 (.load (some 3) (r 94)), i 96 (.mv (r 7)), i 97 (.mv (r
  11)), i 98 (.indexAddr 3 (r 96) (r 97)), i 99 (.load (some 3) (r 98)), i 100 (.eq true { agg := true, sk := [.str, .int (.i64), .int (.i64)] } (r 95) (r 99))]
def A_law11_OrderStands_18 : Row := [i 6 (.mv (.const (.bool false)))]
def A_law11_OrderStands_19 : Row := [i 84 (.mv (r 11)), i 85 (.bin (.add) (r 84) (.const (.int (.i64) 1))), i 11 (.mv (r 85))]
def A_law11_OrderStands_20 : ACode := (.seq (.seq (.ops A_law11_OrderStands_13) (.cond (r 83) .skip (.exit 0))) (.seq (.block 1 (.seq (.ops A_law11_OrderStands_14) (.seq (.seq
  (.ops A_law11_OrderStands_15) (.cond (r 89) (.ops A_law11_OrderStands_16) .skip)) (.seq (.ops A_law11_OrderStands_17) (.cond (r 100) (.seq (.ops A_law11_OrderStands_18)
  .ret) .skip))))) (.ops A_law11_OrderStands_19)))
def A_law11_OrderStands_21 : Row := [i 101 (.call (.func F_law11_knows) []), i 6 (.mv (r 101))]
/-- diorama/dioramalaw11.OrderStands -/
def A_law11_OrderStands : AFunc :=
 ⟨102, [.tmp 6], (.seq (.ops A_law11_OrderStands_0) (.seq (.seq (.ops A_law11_OrderStands_1) (.cond (r 14) (.seq (.ops A_law11_OrderStands_2) .ret) .skip)) (.seq (.ops
  A_law11_OrderStands_3) (.seq (.ops A_law11_OrderStands_4) (.seq (.seq (.ops A_law11_OrderStands_5) (.cond (r 27) (.seq (.ops A_law11_OrderStands_6) .ret) .skip)) (.seq
  (.seq (.ops A_law11_OrderStands_7) (.cond (r 35) (.seq (.ops A_law11_OrderStands_8) .ret) .skip)) (.seq (.ops A_law11_OrderStands_9) (.seq (.seq (.ops
  A_law11_OrderStands_10) (.cond (r 79) (.seq (.ops A_law11_OrderStands_11) .ret) .skip)) (.seq (.seq (.ops A_law11_OrderStands_12) (.block 0 (.loop
  A_law11_OrderStands_20))) (.seq (.ops A_law11_OrderStands_21) .ret))))))))))⟩
/-! diorama/dioramalaw11.OrderOne -/
def A_law11_OrderOne_0 : Row := [i 3 (.box (r 0)), i 4 (.box (r 1)), i 5 (.box (r 2)), i 6 (.mv (.const (.bool false)))]
def A_law11_OrderOne_1 : Row := [i 10 (.load (some 3) (r 3)), i 11 (.load (some 3) (r 4)), i 12 (.load (some 3) (r 5)), i 13 (.buildSlice 3 [.str [], .int (.i64) 0, .int
  (.i64) 0, .str [], .int (.i64) 0, .int (.i64) 0, .str [], .int (.i64) 0, .int (.i64) 0] [(0, 3, .tmp 10), (3, 3, .tmp 11), (6, 3, .tmp 12)]), i 14 (.call (.func
  F_law11_Own) [.tmp 13]), i 7 (.mv (r 14))]
def A_law11_OrderOne_2 : Row := [i 15 (.mv (r 7)), i 16 (.indexAddr 3 (r 15) (.const (.int (.i64) 0))), i 17 (.load (some 3) (r 16)), i 18 (.mv (r 7)), i 19 (.indexAddr 3 (r
  18) (.const (.int (.i64) 1))), i 20 (.load (some 3) (r 19)), i 21 (.call (.func F_order_Before) [.tmp 17, .tmp 20]), i 8 (.mv (r 21))]
def A_law11_OrderOne_3 : Row := [i 22 (.mv (r 7)), i 23 (.indexAddr 3 (r 22) (.const (.int (.i64) 1))), i 24 (.load (some 3) (r 23)), i 25 (.mv (r 7)), i 26 (.indexAddr 3 (r
  25) (.const (.int (.i64) 0))), i 27 (.load (some 3) (r 26)), i 28 (.call (.func F_order_Before) [.tmp 24, .tmp 27]), i 9 (.mv (r 28))]
def A_law11_OrderOne_4 : Row := [i 29 (.mv (r 8)), i 30 (.mv (r 29)), g 31 (.mv (r 9)) 30 true, i 32 (.pick (r 30) (r 31) (.const (.bool false))), i 33 (.mv (r 32)), g 34 (.mv
  (r 8)) 33 false, g 35 (.un (.not) (r 34)) 33 false, g 36 (.mv (r 35)) 33 false, g 37 (.mv (r 9)) 36 true, g 38 (.un (.not) (r 37)) 36 true, g 39 (.pick (r 36) (r 38)
  (.const (.bool false))) 33 false, g 40 (.load (some 3) (r 3)) 33 false, g 41 (.load (some 3) (r 4)) 33 false, g 42 (.eq false { agg := true, sk := [.str, .int (.i64),
  .int (.i64)] } (r 40) (r 41)) 33 false, g 43 (.eq true { agg := false, sk := [.bool] } (r 39) (r 42)) 33 false, i 44 (.pick (r 33) (.const (.bool true)) (r 43)), i 45
  (.mv (r 44)), g 46 (.mv (r 7)) 45 false, g 47 (.indexAddr 3 (r 46) (.const (.int (.i64) 0))) 45 false, g 48 (.load (some 3) (r 47)) 45 false, g 49 (.mv (r 7)) 45 false,
  g 50 (.indexAddr 3 (r 49) (.const (.int (.i64) 0))) 45 false, g 51 (.load (some 3) (r 50)) 45 false, g 52 (.call (.func F_order_Before) [.tmp 48, .tmp 51]) 45 false, i
  53 (.pick (r 45) (.const (.bool true)) (r 52))]
def A_law11_OrderOne_5 : Row := [i 6 (.mv (.const (.bool false)))]
def A_law11_OrderOne_6 : Row := [i 54 (.mv (r 8)), i 55 (.un (.not) (r 54)), i 56 (.mv (r 55)), g 57 (.mv (r 7)) 56 false, g 58 (.indexAddr 3 (r 57) (.const (.int (.i64) 1)))
  56 false, g 59 (.load (some 3) (r 58)) 56 false, g 60 (.mv (r 7)) 56 false, g 61 (.indexAddr 3 (r 60) (.const (.int (.i64) 2))) 56 false, g 62 (.load (some 3) (r 61)) 56
  false, g 63 (.call (.func F_order_Before) [.tmp 59, .tmp 62]) 56 false, g 64 (.un (.not) (r 63)) 56 false, i 65 (.pick (r 56) (.const (.bool true)) (r 64)), i 66 (.mv (r
  65)), g 67 (.mv (r 7)) 66 false, g 68 (.indexAddr 3 (r 67) (.const (.int (.i64) 0))) 66 false, g 69 (.load (some 3) (r 68)) 66 false, g 70 (.mv (r 7)) 66 false, g 71
  (.indexAddr 3 (r 70) (.const (.int (.i64) 2))) 66 false, g 72 (.load (some 3) (r 71)) 66 false, g 73 (.call (.func F_order_Before) [.tmp 69, .tmp 72]) 66 false, i 74
  (.pick (r 66) (.const (.bool true)) (r 73)), i 75 (.mv (r 74)), g 76 (.call (.func F_law11_knows) []) 75 true, i 77 (.pick (r 75) (r 76) (.const (.bool false))), i 6
  (.mv (r 77))]
/-- diorama/dioramalaw11.OrderOne -/
def A_law11_OrderOne : AFunc :=
 ⟨78, [.tmp 6], (.seq (.ops A_law11_OrderOne_0) (.seq (.ops A_law11_OrderOne_1) (.seq (.ops A_law11_OrderOne_2) (.seq (.ops A_law11_OrderOne_3) (.seq (.seq (.ops
  A_law11_OrderOne_4) (.cond (r 53) (.seq (.ops A_law11_OrderOne_5) .ret) .skip)) (.seq (.ops A_law11_OrderOne_6) .ret))))))⟩
/-! diorama/dioramalaw11.OrderRows -/
def A_law11_OrderRows_0 : Row := [i 7 (.box (r 3)), i 8 (.mv (.const (.bool false)))]
def A_law11_OrderRows_1 : Row := [i 24 (.mv (r 0)), i 25 (.call (.func F_law11_long) [.tmp 24])]
def A_law11_OrderRows_2 : Row := [i 26 (.call (.func F_law11_knows) []), i 8 (.mv (r 26))]
def A_law11_OrderRows_3 : Row := [i 27 (.mv (r 0)), i 28 (.call (.func F_law11_Own) [.tmp 27]), i 9 (.mv (r 28))]
def A_law11_OrderRows_4 : Row := [i 29 (.mv (r 9)), i 30 (.call (.func F_order_Sort) [.tmp 29]), i 10 (.mv (r 30))]
def A_law11_OrderRows_5 : Row := [i 31 (.mv (r 0)), i 32 (.call (.func F_ref11_Sort) [.tmp 31]), i 11 (.mv (r 32))]
def A_law11_OrderRows_6 : Row := [i 33 (.mv (r 10)), i 34 (.mv (r 11)), i 35 (.call (.func F_law11_Same) [.tmp 33, .tmp 34]), i 36 (.un (.not) (r 35)), i 37 (.mv (r 36)), g 38
  (.mv (r 9)) 37 false, g 39 (.mv (r 0)) 37 false, g 40 (.call (.func F_law11_Same) [.tmp 38, .tmp 39]) 37 false, g 41 (.un (.not) (r 40)) 37 false, i 42 (.pick (r 37)
  (.const (.bool true)) (r 41)), i 43 (.mv (r 42)), g 44 (.mv (r 9)) 43 false, g 45 (.load (some 2) (r 7)) 43 false, g 47 (.mv (r 0)) 43 false, g 48 (.load (some 2) (r 7))
  43 false, ⟨⟨(some 46), .call (.func F_order_Find) [.tmp 44, .tmp 45], (some (43, false))⟩, [⟨(some 48), .load (some 2) (r 7), (some (43, false))⟩]⟩, g 49 (.call (.func
  F_ref11_Find) [.tmp 47, .tmp 48]) 43 false, g 50 (.bin (.neq) (r 46) (r 49)) 43 false, i 51 (.pick (r 43) (.const (.bool true)) (r 50))]
def A_law11_OrderRows_7 : Row := [i 8 (.mv (.const (.bool false)))]
def A_law11_OrderRows_8 : Row := [i 12 (.mv (.const (.int (.i64) 1)))]
def A_law11_OrderRows_9 : Row := [i 52 (.mv (r 12)), i 53 (.mv (r 0)), i 54 (.lenSlice (r 53)), i 55 (.bin (.lss) (r 52) (r 54))]
def A_law11_OrderRows_10 : Row := [i 58 (.mv (r 9)), i 59 (.mv (r 12)), i 60 (.bin (.sub) (r 59) (.const (.int (.i64) 1))), i 61 (.indexAddr 3 (r 58) (r 60)), i 62 (.load
  (some 3) (r 61)), i 63 (.mv (r 9)), i 64 (.mv (r 12)), i 65 (.indexAddr 3 (r 63) (r 64)), i 66 (.load (some 3) (r 65)), i 68 (.mv (r 0)), i 69 (.mv (r 12)), i 70 (.bin
  (.sub) (r 69) (.const (.int (.i64) 1))), i 71 (.indexAddr 3 (r 68) (r 70)), i 72 (.load (some 3) (r 71)), i 73 (.mv (r 0)), i 74 (.mv (r 12)), i 75 (.indexAddr 3 (r 73)
  (r 74)), i 76 (.load (some 3) (r 75)), ⟨a 67 (.call (.func F_order_Before) [.tmp 62, .tmp 66]), [a 76 (.load (some 3) (r 75)), a 72 (.load (some 3) (r 71))]⟩, i 77
  (.call (.func F_ref11_Before) [.tmp 72, .tmp 76]), i 78 (.eq true { agg := false, sk := [.bool] } (r 67) (r 77))]
def A_law11_OrderRows_11 : Row := [i 8 (.mv (.const (.bool false)))]
def A_law11_OrderRows_12 : Row := [i 56 (.mv (r 12)), i 57 (.bin (.add) (r 56) (.const (.int (.i64) 1))), i 12 (.mv (r 57))]
def A_law11_OrderRows_13 : ACode := (.seq (.seq (.ops A_law11_OrderRows_9) (.cond (r 55) .skip (.exit 0))) (.seq (.block 1 (.seq (.ops A_law11_OrderRows_10) (.cond (r 78)
  (.seq (.ops A_law11_OrderRows_11) .ret) .skip))) (.ops A_law11_OrderRows_12)))
def A_law11_OrderRows_14 : Row := [i 79 (.mv (r 0)), i 80 (.mv (r 11)), i 81 (.buildSlice 2 [.slice none 0 (.exact 0), .slice none 0 (.exact 0)] [(0, 1, .tmp 79), (1, 1, .tmp
  80)]), i 13 (.mv (r 81))]
def A_law11_OrderRows_15 : Row := [i 14 (.mv (.const (.int (.i64) 0)))]
def A_law11_OrderRows_16 : Row := [i 82 (.mv (r 14)), i 83 (.bin (.lss) (r 82) (.const (.int (.i64) 2)))]
def A_law11_OrderRows_17 : Row := [i 87 (.mv (r 13)), i 88 (.mv (r 14)), i 89 (.indexAddr 1 (r 87) (r 88)), i 90 (.load none (r 89)), i 91 (.call (.func F_law11_Own) [.tmp
  90]), i 92 (.mv (r 1)), i 93 (.call (.func F_order_Key) [.tmp 91, .tmp 92]), i 86 (.mv (r 93)), i 94 (.extract (r 86) 0), i 95 (.extract (r 86) 1), i 15 (.mv (r 94)), i
  16 (.mv (r 95))]
def A_law11_OrderRows_18 : Row := [i 97 (.mv (r 13)), i 98 (.mv (r 14)), i 99 (.indexAddr 1 (r 97) (r 98)), i 100 (.load none (r 99)), i 101 (.mv (r 1)), i 102 (.call (.func
  F_ref11_Key) [.tmp 100, .tmp 101]), i 96 (.mv (r 102)), i 103 (.extract (r 96) 0), i 104 (.extract (r 96) 1), i 17 (.mv (r 103)), i 18 (.mv (r 104))]
def A_law11_OrderRows_19 : Row := [i 106 (.mv (r 13)), i 107 (.mv (r 14)), i 108 (.indexAddr 1 (r 106) (r 107)), i 109 (.load none (r 108)), i 110 (.call (.func F_law11_Own)
  [.tmp 109]), i 111 (.mv (r 1)), i 112 (.mv (r 2)), i 113 (.call (.func F_order_Keys) [.tmp 110, .tmp 111, .tmp 112]), i 105 (.mv (r 113)), i 114 (.extract (r 105) 0), i
  115 (.extract (r 105) 1), i 19 (.mv (r 114)), i 20 (.mv (r 115))]
def A_law11_OrderRows_20 : Row := [i 117 (.mv (r 13)), i 118 (.mv (r 14)), i 119 (.indexAddr 1 (r 117) (r 118)), i 120 (.load none (r 119)), i 121 (.mv (r 1)), i 122 (.mv (r
  2)), i 123 (.call (.func F_ref11_Keys) [.tmp 120, .tmp 121, .tmp 122]), i 116 (.mv (r 123)), i 124 (.extract (r 116) 0), i 125 (.extract (r 116) 1), i 21 (.mv (r 124)),
  i 22 (.mv (r 125))]
def A_law11_OrderRows_21 : Row := [i 126 (.mv (r 15)), i 127 (.mv (r 17)), i 128 (.bin (.neq) (r 126) (r 127)), i 129 (.mv (r 128)), g 130 (.mv (r 16)) 129 false, g 131 (.call
  (.func F_law11_num) [.tmp 130]) 129 false, g 132 (.mv (r 18)) 129 false, g 133 (.bin (.neq) (r 131) (r 132)) 129 false, i 134 (.pick (r 129) (.const (.bool true)) (r
  133)), i 135 (.mv (r 134)), g 136 (.mv (r 19)) 135 false, g 137 (.lenSlice (r 136)) 135 false, g 138 (.mv (r 21)) 135 false, g 139 (.lenSlice (r 138)) 135 false, g 140
  (.bin (.neq) (r 137) (r 139)) 135 false, i 141 (.pick (r 135) (.const (.bool true)) (r 140)), i 142 (.mv (r 141)), g 143 (.mv (r 20)) 142 false, g 144 (.call (.func
  F_law11_num) [.tmp 143]) 142 false, g 145 (.mv (r 22)) 142 false, g 146 (.bin (.neq) (r 144) (r 145)) 142 false, i 147 (.pick (r 142) (.const (.bool true)) (r 146))]
def A_law11_OrderRows_22 : Row := [i 8 (.mv (.const (.bool false)))]
def A_law11_OrderRows_23 : Row := [i 23 (.mv (.const (.int (.i64) 0)))]
def A_law11_OrderRows_24 : Row := [i 148 (.mv (r 23)), i 149 (.mv (r 19)), i 150 (.lenSlice (r 149)), i 151 (.bin (.lss) (r 148) (r 150))]
def A_law11_OrderRows_25 : Row := [i 154 (.mv (r 19)), i 155 (.mv (r 23)), i 156 (.indexAddr 1 (r 154) (r 155)), i 157 (.load none (r 156)), i 158 (.mv (r 21)), i 159 (.mv (r
  23)), i 160 (.indexAddr 1 (r 158) (r 159)), i 161 (.load none (r 160)), i 162 (.bin (.neq) (r 157) (r 161))]
def A_law11_OrderRows_26 : Row := [i 8 (.mv (.const (.bool false)))]
def A_law11_OrderRows_27 : Row := [i 152 (.mv (r 23)), i 153 (.bin (.add) (r 152) (.const (.int (.i64) 1))), i 23 (.mv (r 153))]
def A_law11_OrderRows_28 : ACode := (.seq (.seq (.ops A_law11_OrderRows_24) (.cond (r 151) .skip (.exit 4))) (.seq (.block 5 (.seq (.ops A_law11_OrderRows_25) (.cond (r 162)
  (.seq (.ops A_law11_OrderRows_26) .ret) .skip))) (.ops A_law11_OrderRows_27)))
def A_law11_OrderRows_29 : Row := [i 84 (.mv (r 14)), i 85 (.bin (.add) (r 84) (.const (.int (.i64) 1))), i 14 (.mv (r 85))]
def A_law11_OrderRows_30 : ACode := (.seq (.seq (.ops A_law11_OrderRows_16) (.cond (r 83) .skip (.exit 2))) (.seq (.block 3 (.seq (.ops A_law11_OrderRows_17) (.seq (.ops
  A_law11_OrderRows_18) (.seq (.ops A_law11_OrderRows_19) (.seq (.ops A_law11_OrderRows_20) (.seq (.seq (.ops A_law11_OrderRows_21) (.cond (r 147) (.seq (.ops
  A_law11_OrderRows_22) .ret) .skip)) (.seq (.ops A_law11_OrderRows_23) (.block 4 (.loop A_law11_OrderRows_28))))))))) (.ops A_law11_OrderRows_29)))
def A_law11_OrderRows_31 : Row := [i 163 (.call (.func F_law11_knows) []), i 8 (.mv (r 163))]
/-- diorama/dioramalaw11.OrderRows -/
def A_law11_OrderRows : AFunc :=
 ⟨164, [.tmp 8], (.seq (.ops A_law11_OrderRows_0) (.seq (.seq (.ops A_law11_OrderRows_1) (.cond (r 25) (.seq (.ops A_law11_OrderRows_2) .ret) .skip)) (.seq (.ops
  A_law11_OrderRows_3) (.seq (.ops A_law11_OrderRows_4) (.seq (.ops A_law11_OrderRows_5) (.seq (.seq (.ops A_law11_OrderRows_6) (.cond (r 51) (.seq (.ops
  A_law11_OrderRows_7) .ret) .skip)) (.seq (.seq (.ops A_law11_OrderRows_8) (.block 0 (.loop A_law11_OrderRows_13))) (.seq (.ops A_law11_OrderRows_14) (.seq (.seq (.ops
  A_law11_OrderRows_15) (.block 2 (.loop A_law11_OrderRows_30))) (.seq (.ops A_law11_OrderRows_31) .ret))))))))))⟩
/-! diorama/dioramalaw11.long -/
def A_law11_long_0 : Row := [i 2 (.mv (.const (.bool false)))]
def A_law11_long_1 : Row := [i 3 (.mv (.const (.int (.i64) 0)))]
def A_law11_long_2 : Row := [i 4 (.mv (r 3)), i 5 (.mv (r 0)), i 6 (.lenSlice (r 5)), i 7 (.bin (.lss) (r 4) (r 6)), i 8 (.mv (r 7)), g 9 (.mv (r 3)) 8 true, g 10 (.bin (.lss)
  (r 9) (.const (.int (.i64) 200))) 8 true, i 11 (.pick (r 8) (r 10) (.const (.bool false)))]
def A_law11_long_3 : Row := [i 14 (.mv (r 0)), i 15 (.mv (r 3)), i 16 (.indexAddr 3 (r 14) (r 15)), i 17 (.fieldAddr 0 (r 16)), i 18 (.load none (r 17)), i 19 (.lenStr (r
  18)), i 20 (.bin (.gtr) (r 19) (.const (.int (.i64) 200)))]
def A_law11_long_4 : Row := [i 2 (.mv (.const (.bool true)))]
def A_law11_long_5 : Row := [i 12 (.mv (r 3)), i 13 (.bin (.add) (r 12) (.const (.int (.i64) 1))), i 3 (.mv (r 13))]
def A_law11_long_6 : ACode := (.seq (.seq (.ops A_law11_long_2) (.cond (r 11) .skip (.exit 0))) (.seq (.block 1 (.seq (.ops A_law11_long_3) (.cond (r 20) (.seq (.ops
  A_law11_long_4) .ret) .skip))) (.ops A_law11_long_5)))
def A_law11_long_7 : Row := [i 21 (.mv (r 0)), i 22 (.lenSlice (r 21)), i 23 (.bin (.gtr) (r 22) (.const (.int (.i64) 100))), i 2 (.mv (r 23))]
/-- diorama/dioramalaw11.long -/
def A_law11_long : AFunc :=
 ⟨24, [.tmp 2], (.seq (.ops A_law11_long_0) (.seq (.seq (.ops A_law11_long_1) (.block 0 (.loop A_law11_long_6))) (.seq (.ops A_law11_long_7) .ret)))⟩
/-! diorama/dioramalaw11.knows -/
def A_law11_knows_0 : Row := [i 0 (.mv (.const (.bool false)))]
def A_law11_knows_1 : Row := [i 6 (.build [.int (.i64) 0, .int (.i64) 0] [(0, 1, .const (.int (.i64) 2))]), i 7 (.build [.str [], .int (.i64) 0, .int (.i64) 0] [(0, 1, .const
  (.str [98])), (1, 2, .tmp 6)]), i 8 (.build [.int (.i64) 0, .int (.i64) 0] [(0, 1, .const (.int (.i64) 1))]), i 9 (.build [.str [], .int (.i64) 0, .int (.i64) 0] [(0, 1,
  .const (.str [98])), (1, 2, .tmp 8)]), i 10 (.build [.int (.i64) 0, .int (.i64) 0] [(0, 1, .const (.int (.i64) 3))]), i 11 (.build [.str [], .int (.i64) 0, .int (.i64)
  0] [(0, 1, .const (.str [97])), (1, 2, .tmp 10)]), i 12 (.buildSlice 3 [.str [], .int (.i64) 0, .int (.i64) 0, .str [], .int (.i64) 0, .int (.i64) 0, .str [], .int
  (.i64) 0, .int (.i64) 0] [(0, 3, .tmp 7), (3, 3, .tmp 9), (6, 3, .tmp 11)]), i 13 (.call (.func F_order_Sort) [.tmp 12]), i 1 (.mv (r 13))]
def A_law11_knows_2 : Row := [i 15 (.mv (r 1)), i 16 (.call (.func F_order_Key) [.tmp 15, .const (.int (.i64) 1)]), i 14 (.mv (r 16)), i 17 (.extract (r 14) 0), i 18 (.extract
  (r 14) 1), i 2 (.mv (r 17)), i 3 (.mv (r 18))]
def A_law11_knows_3 : Row := [i 20 (.mv (r 1)), i 21 (.call (.func F_order_Key) [.tmp 20, .const (.int (.i64) 2)]), i 19 (.mv (r 21)), i 22 (.extract (r 19) 0), i 23 (.extract
  (r 19) 1), i 4 (.mv (r 22)), i 5 (.mv (r 23))]
def A_law11_knows_4 : Row := [i 24 (.mv (r 3)), i 25 (.call (.func F_law11_num) [.tmp 24]), i 26 (.bin (.eql) (r 25) (.const (.int (.i64) 0))), i 27 (.mv (r 26)), g 28 (.mv (r
  5)) 27 true, g 29 (.call (.func F_law11_num) [.tmp 28]) 27 true, g 30 (.bin (.eql) (r 29) (.const (.int (.i64) 32))) 27 true, i 31 (.pick (r 27) (r 30) (.const (.bool
  false))), i 32 (.mv (r 31)), g 33 (.mv (r 1)) 32 true, g 34 (.lenSlice (r 33)) 32 true, g 35 (.bin (.eql) (r 34) (.const (.int (.i64) 3))) 32 true, i 36 (.pick (r 32) (r
  35) (.const (.bool false))), i 37 (.mv (r 36)), g 38 (.mv (r 1)) 37 true, g 39 (.indexAddr 3 (r 38) (.const (.int (.i64) 0))) 37 true, g 40 (.fieldAddr 0 (r 39)) 37
  true, g 41 (.load none (r 40)) 37 true, g 42 (.bin (.eql) (r 41) (.const (.str [97]))) 37 true, i 43 (.pick (r 37) (r 42) (.const (.bool false))), i 44 (.mv (r 43)), g
  45 (.mv (r 1)) 44 true, g 46 (.indexAddr 3 (r 45) (.const (.int (.i64) 1))) 44 true, g 47 (.fieldAddr 1 (r 46)) 44 true, g 48 (.fieldAddr 0 (r 47)) 44 true, g 49 (.load
  none (r 48)) 44 true, g 50 (.bin (.eql) (r 49) (.const (.int (.i64) 1))) 44 true, i 51 (.pick (r 44) (r 50) (.const (.bool false))), i 52 (.mv (r 51)), g 53 (.mv (r 2))
  52 true, g 54 (.bin (.eql) (r 53) (.const (.str [97, 128]))) 52 true, i 55 (.pick (r 52) (r 54) (.const (.bool false))), i 56 (.mv (r 55)), g 57 (.mv (r 1)) 56 true, g
  58 (.build [.int (.i64) 0, .int (.i64) 0] [(0, 1, .const (.int (.i64) 2))]) 56 true, g 59 (.call (.func F_order_Find) [.tmp 57, .tmp 58]) 56 true, g 60 (.bin (.eql) (r
  59) (.const (.int (.i64) 2))) 56 true, i 61 (.pick (r 56) (r 60) (.const (.bool false))), i 0 (.mv (r 61))]
/-- diorama/dioramalaw11.knows -/
def A_law11_knows : AFunc :=
 ⟨62, [.tmp 0], (.seq (.ops A_law11_knows_0) (.seq (.ops A_law11_knows_1) (.seq (.ops A_law11_knows_2) (.seq (.ops A_law11_knows_3) (.seq (.ops A_law11_knows_4) .ret)))))⟩
/-! diorama/order.Sort -/
def A_order_Sort_0 : Row := [i 2 (.mv (.const (.slice none 0 (.exact 0))))]
def A_order_Sort_1 : Row := [i 3 (.mv (.func F_order_Sort_c1))]
def A_order_Sort_2 : Row := [i 4 (.mv (r 0)), i 5 (.call (.func F_slices_Values_Sib) [.tmp 4]), i 6 (.mv (r 3)), i 7 (.call (.func F_slices_SortedFunc_Sib) [.tmp 5, .tmp 6]),
  i 2 (.mv (r 7))]
/-- diorama/order.Sort -/
def A_order_Sort : AFunc :=
 ⟨8, [.tmp 2], (.seq (.ops A_order_Sort_0) (.seq (.ops A_order_Sort_1) (.seq (.ops A_order_Sort_2) .ret)))⟩
/-! diorama/dioramalaw11.Own -/
def A_law11_Own_0 : Row := [i 2 (.mv (.const (.slice none 0 (.exact 0))))]
def A_law11_Own_1 : Row := [i 3 (.mv (.const (.slice none 0 (.exact 0))))]
def A_law11_Own_2 : Row := [i 4 (.mv (.const (.int (.i64) 0)))]
def A_law11_Own_3 : Row := [i 5 (.mv (r 4)), i 6 (.mv (r 0)), i 7 (.lenSlice (r 6)), i 8 (.bin (.lss) (r 5) (r 7))]
def A_law11_Own_4 : Row := [i 11 (.mv (r 3)), i 12 (.mv (r 0)), i 13 (.mv (r 4)), i 14 (.indexAddr 3 (r 12) (r 13)), i 15 (.fieldAddr 0 (r 14)), i 16 (.load none (r 15)), i 17
  (.mv (r 0)), i 18 (.mv (r 4)), i 19 (.indexAddr 3 (r 17) (r 18)), i 20 (.fieldAddr 1 (r 19)), i 21 (.load (some 2) (r 20)), i 22 (.build [.str [], .int (.i64) 0, .int
  (.i64) 0] [(0, 1, .tmp 16), (1, 2, .tmp 21)]), i 23 (.buildSlice 1 [.str [], .int (.i64) 0, .int (.i64) 0] [(0, 3, .tmp 22)]), i 24 (.append 3 32 (r 11) (r 23)), i 3
  (.mv (r 24))]
def A_law11_Own_5 : Row := [i 9 (.mv (r 4)), i 10 (.bin (.add) (r 9) (.const (.int (.i64) 1))), i 4 (.mv (r 10))]
def A_law11_Own_6 : ACode := (.seq (.seq (.ops A_law11_Own_3) (.cond (r 8) .skip (.exit 0))) (.seq (.block 1 (.ops A_law11_Own_4)) (.ops A_law11_Own_5)))
def A_law11_Own_7 : Row := [i 25 (.mv (r 3)), i 2 (.mv (r 25))]
/-- diorama/dioramalaw11.Own -/
def A_law11_Own : AFunc :=
 ⟨26, [.tmp 2], (.seq (.ops A_law11_Own_0) (.seq (.ops A_law11_Own_1) (.seq (.seq (.ops A_law11_Own_2) (.block 0 (.loop A_law11_Own_6))) (.seq (.ops A_law11_Own_7)
  .ret))))⟩
/-! diorama/order.Key -/
def A_order_Key_0 : Row := [i 4 (.alloc [.str []]), i 5 (.mv (.const (.int (.i64) 0)))]
def A_order_Key_1 : Row := [i 6 (.mv (r 0)), i 7 (.mv (r 1)), i 8 (.makeFunc F_order_Key_c1 [] [.tmp 4]), i 9 (.call (.func F_order_gap) [.tmp 6, .tmp 7, .tmp 8]), i 5 (.mv (r
  9))]
def A_order_Key_2 : Row := [i 10 (.load none (r 4)), i 11 (.mv (r 5)), i0 (.store 1 (r 4) (r 10)), i 5 (.mv (r 11))]
/-- diorama/order.Key -/
def A_order_Key : AFunc :=
 ⟨12, [.cell 4 none, .tmp 5], (.seq (.ops A_order_Key_0) (.seq (.ops A_order_Key_1) (.seq (.ops A_order_Key_2) .ret)))⟩
/-! diorama/dioramalaw11.num -/
def A_law11_num_0 : Row := [i 2 (.mv (.const (.int (.i64) 0)))]
def A_law11_num_1 : Row := [i 3 (.mv (r 0)), i 2 (.mv (r 3))]
/-- diorama/dioramalaw11.num -/
def A_law11_num : AFunc :=
 ⟨4, [.tmp 2], (.seq (.ops A_law11_num_0) (.seq (.ops A_law11_num_1) .ret))⟩
/-! diorama/dioramalaw11.fine -/
def A_law11_fine_0 : Row := [i 2 (.mv (.const (.bool false)))]
def A_law11_fine_1 : Row := [i 3 (.mv (.const (.int (.i64) 0)))]
def A_law11_fine_2 : Row := [i 4 (.mv (r 3)), i 5 (.mv (r 0)), i 6 (.lenSlice (r 5)), i 7 (.bin (.lss) (r 4) (r 6))]
def A_law11_fine_3 : Row := [i 10 (.mv (r 0)), i 11 (.mv (r 3)), i 12 (.indexAddr 3 (r 10) (r 11)), i 13 (.fieldAddr 0 (r 12)), i 14 (.load none (r 13)), i 15 (.call (.func
  F_poskey_Right) [.tmp 14]), i 16 (.un (.not) (r 15))]
def A_law11_fine_4 : Row := [i 2 (.mv (.const (.bool false)))]
def A_law11_fine_5 : Row := [i 8 (.mv (r 3)), i 9 (.bin (.add) (r 8) (.const (.int (.i64) 1))), i 3 (.mv (r 9))]
def A_law11_fine_6 : ACode := (.seq (.seq (.ops A_law11_fine_2) (.cond (r 7) .skip (.exit 0))) (.seq (.block 1 (.seq (.ops A_law11_fine_3) (.cond (r 16) (.seq (.ops
  A_law11_fine_4) .ret) .skip))) (.ops A_law11_fine_5)))
def A_law11_fine_7 : Row := [i 2 (.mv (.const (.bool true)))]
/-- diorama/dioramalaw11.fine -/
def A_law11_fine : AFunc :=
 ⟨17, [.tmp 2], (.seq (.ops A_law11_fine_0) (.seq (.seq (.ops A_law11_fine_1) (.block 0 (.loop A_law11_fine_6))) (.seq (.ops A_law11_fine_7) .ret)))⟩
/-! diorama/order.Before -/
def A_order_Before_0 : Row := [i 2 (.box (r 0)), i 3 (.box (r 1)), i 4 (.mv (.const (.bool false)))]
def A_order_Before_1 : Row := [i 5 (.fieldAddr 0 (r 2)), i 6 (.load none (r 5)), i 7 (.fieldAddr 0 (r 3)), i 8 (.load none (r 7)), i 9 (.bin (.eql) (r 6) (r 8))]
def A_order_Before_2 : Row := [i 10 (.load (some 3) (r 2)), i 11 (.load (some 3) (r 3)), i 12 (.eq true { agg := true, sk := [.str, .int (.i64), .int (.i64)] } (r 10) (r 11)),
  i 13 (.mv (r 12)), g 14 (.fieldAddr 1 (r 2)) 13 true, g 15 (.load (some 2) (r 14)) 13 true, g 16 (.fieldAddr 1 (r 3)) 13 true, g 17 (.load (some 2) (r 16)) 13 true, g 18
  (.call (.func F_stamp_Compare) [.tmp 15, .tmp 17]) 13 true, g 19 (.bin (.lss) (r 18) (.const (.int (.i64) 0))) 13 true, i 20 (.pick (r 13) (r 19) (.const (.bool
  false))), i 4 (.mv (r 20))]
def A_order_Before_3 : Row := [i 21 (.fieldAddr 0 (r 2)), i 22 (.load none (r 21)), i 23 (.fieldAddr 0 (r 3)), i 24 (.load none (r 23)), i 25 (.call (.func F_poskey_Compare)
  [.tmp 22, .tmp 24]), i 26 (.bin (.lss) (r 25) (.const (.int (.i64) 0))), i 4 (.mv (r 26))]
/-- diorama/order.Before -/
def A_order_Before : AFunc :=
 ⟨27, [.tmp 4], (.seq (.ops A_order_Before_0) (.seq (.seq (.ops A_order_Before_1) (.cond (r 9) (.seq (.ops A_order_Before_2) .ret) .skip)) (.seq (.ops A_order_Before_3)
  .ret)))⟩
/-! diorama/dioramaref11.Sort -/
def A_ref11_Sort_0 : Row := [i 2 (.mv (.const (.slice none 0 (.exact 0))))]
def A_ref11_Sort_1 : Row := [i 3 (.mv (.const (.slice none 0 (.exact 0))))]
def A_ref11_Sort_2 : Row := [i 4 (.mv (.const (.int (.i64) 0)))]
def A_ref11_Sort_3 : Row := [i 6 (.mv (r 4)), i 7 (.mv (r 0)), i 8 (.lenSlice (r 7)), i 9 (.bin (.lss) (r 6) (r 8))]
def A_ref11_Sort_4 : Row := [i 12 (.mv (r 3)), i 13 (.lenSlice (r 12)), i 5 (.mv (r 13))]
def A_ref11_Sort_5 : Row := [i 14 (.mv (r 5)), i 15 (.bin (.gtr) (r 14) (.const (.int (.i64) 0))), i 16 (.mv (r 15)), g 17 (.mv (r 0)) 16 true, g 18 (.mv (r 4)) 16 true, g 19
  (.indexAddr 3 (r 17) (r 18)) 16 true, g 20 (.load (some 3) (r 19)) 16 true, g 21 (.mv (r 3)) 16 true, g 22 (.mv (r 5)) 16 true, g 23 (.bin (.sub) (r 22) (.const (.int
  (.i64) 1))) 16 true, g 24 (.indexAddr 3 (r 21) (r 23)) 16 true, g 25 (.load (some 3) (r 24)) 16 true, g 26 (.call (.func F_ref11_Before) [.tmp 20, .tmp 25]) 16 true, i
  27 (.pick (r 16) (r 26) (.const (.bool false)))]
def A_ref11_Sort_6 : Row := [i 28 (.mv (r 5)), i 29 (.bin (.sub) (r 28) (.const (.int (.i64) 1))), i 5 (.mv (r 29))]
def A_ref11_Sort_7 : ACode := (.seq (.seq (.ops A_ref11_Sort_5) (.cond (r 27) .skip (.exit 2))) (.block 3 (.ops A_ref11_Sort_6)))
def A_ref11_Sort_8 : Row := [i 30 (.buildSlice 0 [] []), i 31 (.mv (r 3)), i 32 (.mv (r 5)), i 33 (.slice 3 (r 31) none (some (r 32)) none), i 35 (.mv (r 0)), i 36 (.mv (r
  4)), i 37 (.indexAddr 3 (r 35) (r 36)), i 38 (.load (some 3) (r 37)), i 39 (.buildSlice 1 [.str [], .int (.i64) 0, .int (.i64) 0] [(0, 3, .tmp 38)]), i 41 (.mv (r 3)), i
  42 (.mv (r 5)), i 43 (.slice 3 (r 41) (some (r 42)) none none), ⟨a 34 (.append 3 32 (r 30) (r 33)), [a 39 (.buildSlice 1 [.str [], .int (.i64) 0, .int (.i64) 0] [(0, 3,
  .tmp 38)]), a 38 (.load (some 3) (r 37))]⟩, i 40 (.append 3 32 (r 34) (r 39)), i 44 (.append 3 32 (r 40) (r 43)), i 3 (.mv (r 44))]
def A_ref11_Sort_9 : Row := [i 10 (.mv (r 4)), i 11 (.bin (.add) (r 10) (.const (.int (.i64) 1))), i 4 (.mv (r 11))]
def A_ref11_Sort_10 : ACode := (.seq (.seq (.ops A_ref11_Sort_3) (.cond (r 9) .skip (.exit 0))) (.seq (.block 1 (.seq (.ops A_ref11_Sort_4) (.seq (.block 2 (.loop
  A_ref11_Sort_7)) (.ops A_ref11_Sort_8)))) (.ops A_ref11_Sort_9)))
def A_ref11_Sort_11 : Row := [i 45 (.mv (r 3)), i 2 (.mv (r 45))]
/-- diorama/dioramaref11.Sort -/
def A_ref11_Sort : AFunc :=
 ⟨46, [.tmp 2], (.seq (.ops A_ref11_Sort_0) (.seq (.ops A_ref11_Sort_1) (.seq (.seq (.ops A_ref11_Sort_2) (.block 0 (.loop A_ref11_Sort_10))) (.seq (.ops A_ref11_Sort_11)
  .ret))))⟩
/-! diorama/dioramalaw11.Same -/
def A_law11_Same_0 : Row := [i 4 (.mv (.const (.bool false)))]
def A_law11_Same_1 : Row := [i 6 (.mv (r 0)), i 7 (.lenSlice (r 6)), i 8 (.mv (r 1)), i 9 (.lenSlice (r 8)), i 10 (.bin (.neq) (r 7) (r 9))]
def A_law11_Same_2 : Row := [i 4 (.mv (.const (.bool false)))]
def A_law11_Same_3 : Row := [i 5 (.mv (.const (.int (.i64) 0)))]
def A_law11_Same_4 : Row := [i 11 (.mv (r 5)), i 12 (.mv (r 0)), i 13 (.lenSlice (r 12)), i 14 (.bin (.lss) (r 11) (r 13))]
def A_law11_Same_5 : Row := [i 17 (.mv (r 0)), i 18 (.mv (r 5)), i 19 (.indexAddr 3 (r 17) (r 18)), i 20 (.fieldAddr 0 (r 19)), i 21 (.load none (r 20)), i 22 (.mv (r 1)), i
  23 (.mv (r 5)), i 24 (.indexAddr 3 (r 22) (r 23)), i 25 (.fieldAddr 0 (r 24)), i 26 (.load none (r 25)), i 27 (.bin (.neq) (r 21) (r 26)), i 28 (.mv (r 27)), g 29 (.mv
  (r 0)) 28 false, g 30 (.mv (r 5)) 28 false, g 31 (.indexAddr 3 (r 29) (r 30)) 28 false, g 32 (.fieldAddr 1 (r 31)) 28 false, g 33 (.load (some 2) (r 32)) 28 false, g 34
  (.mv (r 1)) 28 false, g 35 (.mv (r 5)) 28 false, g 36 (.indexAddr 3 (r 34) (r 35)) 28 false, g 37 (.fieldAddr 1 (r 36)) 28 false, g 38 (.load (some 2) (r 37)) 28 false,
  g 39 (.eq true { agg := true, sk := [.int (.i64), .int (.i64)] } (r 33) (r 38)) 28 false, i 40 (.pick (r 28) (.const (.bool true)) (r 39))]
def A_law11_Same_6 : Row := [i 4 (.mv (.const (.bool false)))]
def A_law11_Same_7 : Row := [i 15 (.mv (r 5)), i 16 (.bin (.add) (r 15) (.const (.int (.i64) 1))), i 5 (.mv (r 16))]
def A_law11_Same_8 : ACode := (.seq (.seq (.ops A_law11_Same_4) (.cond (r 14) .skip (.exit 0))) (.seq (.block 1 (.seq (.ops A_law11_Same_5) (.cond (r 40) (.seq (.ops
  A_law11_Same_6) .ret) .skip))) (.ops A_law11_Same_7)))
def A_law11_Same_9 : Row := [i 4 (.mv (.const (.bool true)))]
/-- diorama/dioramalaw11.Same -/
def A_law11_Same : AFunc :=
 ⟨41, [.tmp 4], (.seq (.ops A_law11_Same_0) (.seq (.seq (.ops A_law11_Same_1) (.cond (r 10) (.seq (.ops A_law11_Same_2) .ret) .skip)) (.seq (.seq (.ops A_law11_Same_3)
  (.block 0 (.loop A_law11_Same_8))) (.seq (.ops A_law11_Same_9) .ret))))⟩
/-! diorama/order.Find -/
def A_order_Find_0 : Row := [i 3 (.box (r 1)), i 4 (.mv (.const (.int (.i64) 0)))]
def A_order_Find_1 : Row := [i 5 (.mv (r 0)), i 6 (.makeFunc F_order_Find_c1 [] [.tmp 3]), i 7 (.call (.func F_slices_IndexFunc_Sib) [.tmp 5, .tmp 6]), i 4 (.mv (r 7))]
/-- diorama/order.Find -/
def A_order_Find : AFunc :=
 ⟨8, [.tmp 4], (.seq (.ops A_order_Find_0) (.seq (.ops A_order_Find_1) .ret))⟩
/-! diorama/dioramaref11.Find -/
def A_ref11_Find_0 : Row := [i 3 (.box (r 1)), i 4 (.mv (.const (.int (.i64) 0)))]
def A_ref11_Find_1 : Row := [i 5 (.mv (.const (.int (.i64) 0)))]
def A_ref11_Find_2 : Row := [i 6 (.mv (r 5)), i 7 (.mv (r 0)), i 8 (.lenSlice (r 7)), i 9 (.bin (.lss) (r 6) (r 8))]
def A_ref11_Find_3 : Row := [i 12 (.mv (r 0)), i 13 (.mv (r 5)), i 14 (.indexAddr 3 (r 12) (r 13)), i 15 (.fieldAddr 1 (r 14)), i 16 (.load (some 2) (r 15)), i 17 (.load (some
  2) (r 3)), i 18 (.eq false { agg := true, sk := [.int (.i64), .int (.i64)] } (r 16) (r 17))]
def A_ref11_Find_4 : Row := [i 19 (.mv (r 5)), i 4 (.mv (r 19))]
def A_ref11_Find_5 : Row := [i 10 (.mv (r 5)), i 11 (.bin (.add) (r 10) (.const (.int (.i64) 1))), i 5 (.mv (r 11))]
def A_ref11_Find_6 : ACode := (.seq (.seq (.ops A_ref11_Find_2) (.cond (r 9) .skip (.exit 0))) (.seq (.block 1 (.seq (.ops A_ref11_Find_3) (.cond (r 18) (.seq (.ops
  A_ref11_Find_4) .ret) .skip))) (.ops A_ref11_Find_5)))
def A_ref11_Find_7 : Row := [i 4 (.mv (.const (.int (.i64) (-1))))]
/-- diorama/dioramaref11.Find -/
def A_ref11_Find : AFunc :=
 ⟨20, [.tmp 4], (.seq (.ops A_ref11_Find_0) (.seq (.seq (.ops A_ref11_Find_1) (.block 0 (.loop A_ref11_Find_6))) (.seq (.ops A_ref11_Find_7) .ret)))⟩
/-! diorama/dioramaref11.Before -/
def A_ref11_Before_0 : Row := [i 2 (.box (r 0)), i 3 (.box (r 1)), i 4 (.mv (.const (.bool false)))]
def A_ref11_Before_1 : Row := [i 6 (.fieldAddr 0 (r 2)), i 7 (.load none (r 6)), i 8 (.fieldAddr 0 (r 3)), i 9 (.load none (r 8)), i 10 (.call (.func F_ref04_Compare) [.tmp 7,
  .tmp 9]), i 5 (.mv (r 10))]
def A_ref11_Before_2 : Row := [i 11 (.mv (r 5)), i 12 (.bin (.lss) (r 11) (.const (.int (.i64) 0))), i 13 (.mv (r 12)), g 14 (.mv (r 5)) 13 false, g 15 (.bin (.eql) (r 14)
  (.const (.int (.i64) 0))) 13 false, g 16 (.mv (r 15)) 13 false, g 17 (.fieldAddr 1 (r 2)) 16 true, g 18 (.load (some 2) (r 17)) 16 true, g 19 (.fieldAddr 1 (r 3)) 16
  true, g 20 (.load (some 2) (r 19)) 16 true, g 21 (.call (.func F_ref02_Compare) [.tmp 18, .tmp 20]) 16 true, g 22 (.bin (.lss) (r 21) (.const (.int (.i64) 0))) 16 true,
  g 23 (.pick (r 16) (r 22) (.const (.bool false))) 13 false, i 24 (.pick (r 13) (.const (.bool true)) (r 23)), i 4 (.mv (r 24))]
/-- diorama/dioramaref11.Before -/
def A_ref11_Before : AFunc :=
 ⟨25, [.tmp 4], (.seq (.ops A_ref11_Before_0) (.seq (.ops A_ref11_Before_1) (.seq (.ops A_ref11_Before_2) .ret)))⟩
/-! diorama/dioramaref11.Key -/
def A_ref11_Key_0 : Row := [i 4 (.mv (.const (.str []))), i 5 (.mv (.const (.int (.i64) 0)))]
def A_ref11_Key_1 : Row := [i 10 (.mv (r 0)), i 11 (.mv (r 1)), i 12 (.call (.func F_ref11_gap) [.tmp 10, .tmp 11]), i 9 (.mv (r 12)), i 13 (.extract (r 9) 0), i 14 (.extract
  (r 9) 1), i 15 (.extract (r 9) 2), i 6 (.mv (r 13)), i 7 (.mv (r 14)), i 8 (.mv (r 15))]
def A_ref11_Key_2 : Row := [i 16 (.mv (r 8)), i 17 (.bin (.neq) (r 16) (.const (.int (.i64) 0)))]
def A_ref11_Key_3 : Row := [i 18 (.mv (r 8)), i 4 (.mv (.const (.str []))), i 5 (.mv (r 18))]
def A_ref11_Key_4 : Row := [i 19 (.mv (r 6)), i 20 (.mv (r 7)), i 21 (.call (.func F_ref04_Between) [.tmp 19, .tmp 20]), i 22 (.extract (r 21) 0), i 23 (.extract (r 21) 1), i
  4 (.mv (r 22)), i 5 (.mv (r 23))]
/-- diorama/dioramaref11.Key -/
def A_ref11_Key : AFunc :=
 ⟨24, [.tmp 4, .tmp 5], (.seq (.ops A_ref11_Key_0) (.seq (.ops A_ref11_Key_1) (.seq (.seq (.ops A_ref11_Key_2) (.cond (r 17) (.seq (.ops A_ref11_Key_3) .ret) .skip)) (.seq
  (.ops A_ref11_Key_4) .ret))))⟩
/-! diorama/order.Keys -/
def A_order_Keys_0 : Row := [i 5 (.box (r 2)), i 6 (.alloc [.slice none 0 (.exact 0)]), i 7 (.mv (.const (.int (.i64) 0)))]
def A_order_Keys_1 : Row := [i 8 (.mv (r 0)), i 9 (.mv (r 1)), i 10 (.makeFunc F_order_Keys_c1 [] [.tmp 5, .tmp 6]), i 11 (.call (.func F_order_gap) [.tmp 8, .tmp 9, .tmp
  10]), i 7 (.mv (r 11))]
def A_order_Keys_2 : Row := [i 12 (.load none (r 6)), i 13 (.mv (r 7)), i0 (.store 1 (r 6) (r 12)), i 7 (.mv (r 13))]
/-- diorama/order.Keys -/
def A_order_Keys : AFunc :=
 ⟨14, [.cell 6 none, .tmp 7], (.seq (.ops A_order_Keys_0) (.seq (.ops A_order_Keys_1) (.seq (.ops A_order_Keys_2) .ret)))⟩
/-! diorama/dioramaref11.Keys -/
def A_ref11_Keys_0 : Row := [i 6 (.mv (.const (.slice none 0 (.exact 0)))), i 7 (.mv (.const (.int (.i64) 0)))]
def A_ref11_Keys_1 : Row := [i 12 (.mv (r 0)), i 13 (.mv (r 1)), i 14 (.call (.func F_ref11_gap) [.tmp 12, .tmp 13]), i 11 (.mv (r 14)), i 15 (.extract (r 11) 0), i 16
  (.extract (r 11) 1), i 17 (.extract (r 11) 2), i 8 (.mv (r 15)), i 9 (.mv (r 16)), i 10 (.mv (r 17))]
def A_ref11_Keys_2 : Row := [i 18 (.mv (r 10)), i 19 (.bin (.neq) (r 18) (.const (.int (.i64) 0)))]
def A_ref11_Keys_3 : Row := [i 20 (.mv (r 10)), i 6 (.mv (.const (.slice none 0 (.exact 0)))), i 7 (.mv (r 20))]
def A_ref11_Keys_4 : Row := [i 21 (.mv (r 8)), i 22 (.mv (r 9)), i 23 (.mv (r 2)), i 24 (.call (.func F_ref04_Spread) [.tmp 21, .tmp 22, .tmp 23]), i 25 (.extract (r 24) 0), i
  26 (.extract (r 24) 1), i 6 (.mv (r 25)), i 7 (.mv (r 26))]
/-- diorama/dioramaref11.Keys -/
def A_ref11_Keys : AFunc :=
 ⟨27, [.tmp 6, .tmp 7], (.seq (.ops A_ref11_Keys_0) (.seq (.ops A_ref11_Keys_1) (.seq (.seq (.ops A_ref11_Keys_2) (.cond (r 19) (.seq (.ops A_ref11_Keys_3) .ret) .skip))
  (.seq (.ops A_ref11_Keys_4) .ret))))⟩
/-! diorama/order.Sort$1 -/
def A_order_Sort_c1_0 : Row := [i 2 (.box (r 0)), i 3 (.box (r 1)), i 4 (.mv (.const (.int (.i64) 0)))]
def A_order_Sort_c1_1 : Row := [i 6 (.load (some 3) (r 2)), i 7 (.load (some 3) (r 3)), i 8 (.eq false { agg := true, sk := [.str, .int (.i64), .int (.i64)] } (r 6) (r 7)), i
  5 (.mv (r 8))]
def A_order_Sort_c1_2 : Row := [i 4 (.mv (.const (.int (.i64) 0)))]
def A_order_Sort_c1_3 : Row := [i 10 (.load (some 3) (r 2)), i 11 (.load (some 3) (r 3)), i 12 (.call (.func F_order_Before) [.tmp 10, .tmp 11]), i 9 (.mv (r 12))]
def A_order_Sort_c1_4 : Row := [i 4 (.mv (.const (.int (.i64) (-1))))]
def A_order_Sort_c1_5 : Row := [i 4 (.mv (.const (.int (.i64) 1)))]
/-- diorama/order.Sort$1 -/
def A_order_Sort_c1 : AFunc :=
 ⟨13, [.tmp 4], (.seq (.ops A_order_Sort_c1_0) (.seq (.block 0 (.seq (.ops A_order_Sort_c1_1) (.cond (r 5) (.seq (.ops A_order_Sort_c1_2) .ret) (.seq (.ops
  A_order_Sort_c1_3) (.cond (r 9) (.seq (.ops A_order_Sort_c1_4) .ret) .skip))))) (.seq (.ops A_order_Sort_c1_5) .ret)))⟩
/-! slices.Values[[]diorama/order.Sib,diorama/order.Sib] -/
def A_slices_Values_Sib_0 : Row := [i 1 (.box (r 0)), i 2 (.mv (.const (.nilFn)))]
def A_slices_Values_Sib_1 : Row := [i 3 (.makeFunc F_slices_Values_Sib_c1 [] [.tmp 1]), i 2 (.mv (r 3))]
/-- slices.Values[[]diorama/order.Sib,diorama/order.Sib] -/
def A_slices_Values_Sib : AFunc :=
 ⟨4, [.tmp 2], (.seq (.ops A_slices_Values_Sib_0) (.seq (.ops A_slices_Values_Sib_1) .ret))⟩
/-! diorama/order.gap -/
def A_order_gap_0 : Row := [i 6 (.mv (.const (.int (.i64) 0)))]
def A_order_gap_1 : Row := [i 10 (.mv (r 0)), i 11 (.lenSlice (r 10)), i 12 (.mv (.const (.int (.i64) 0)))]
def A_order_gap_2 : Row := [i 13 (.bin (.lss) (r 12) (r 11))]
def A_order_gap_3 : Row := [i 14 (.mv (r 12)), i 7 (.mv (r 14))]
def A_order_gap_4 : Row := [i 15 (.mv (r 7)), i 16 (.bin (.gtr) (r 15) (.const (.int (.i64) 0))), i 17 (.mv (r 16)), g 18 (.mv (r 0)) 17 true, g 19 (.mv (r 7)) 17 true, g 20
  (.bin (.sub) (r 19) (.const (.int (.i64) 1))) 17 true, g 21 (.indexAddr 3 (r 18) (r 20)) 17 true, g 22 (.load (some 3) (r 21)) 17 true, g 23 (.mv (r 0)) 17 true, g 24
  (.mv (r 7)) 17 true, g 25 (.indexAddr 3 (r 23) (r 24)) 17 true, g 26 (.load (some 3) (r 25)) 17 true, g 27 (.call (.func F_order_Before) [.tmp 22, .tmp 26]) 17 true, g
  28 (.un (.not) (r 27)) 17 true, i 29 (.pick (r 17) (r 28) (.const (.bool false)))]
def A_order_gap_5 : Row := [i 6 (.mv (.const (.int (.i64) 1)))]
def A_order_gap_6 : Row := [i 30 (.bin (.add) (r 12) (.const (.int (.i64) 1))), i 12 (.mv (r 30))]
def A_order_gap_7 : ACode := (.seq (.ops A_order_gap_2) (.seq (.cond (r 13) .skip (.exit 0)) (.seq (.block 1 (.seq (.ops A_order_gap_3) (.seq (.ops A_order_gap_4) (.cond (r
  29) (.seq (.ops A_order_gap_5) .ret) .skip)))) (.ops A_order_gap_6))))
def A_order_gap_8 : Row := [i 31 (.mv (r 1)), i 32 (.bin (.lss) (r 31) (.const (.int (.i64) 0))), i 33 (.mv (r 32)), g 34 (.mv (r 1)) 33 false, g 35 (.mv (r 0)) 33 false, g 36
  (.lenSlice (r 35)) 33 false, g 37 (.bin (.gtr) (r 34) (r 36)) 33 false, i 38 (.pick (r 33) (.const (.bool true)) (r 37))]
def A_order_gap_9 : Row := [i 6 (.mv (.const (.int (.i64) 1)))]
def A_order_gap_10 : Row := [i 8 (.mv (.const (.str []))), i 9 (.mv (.const (.str [])))]
def A_order_gap_11 : Row := [i 39 (.mv (r 1)), i 40 (.bin (.gtr) (r 39) (.const (.int (.i64) 0)))]
def A_order_gap_12 : Row := [i 41 (.mv (r 0)), i 42 (.mv (r 1)), i 43 (.bin (.sub) (r 42) (.const (.int (.i64) 1))), i 44 (.indexAddr 3 (r 41) (r 43)), i 45 (.fieldAddr 0 (r
  44)), i 46 (.load none (r 45)), i 8 (.mv (r 46))]
def A_order_gap_13 : Row := [i 47 (.mv (r 1)), i 48 (.mv (r 0)), i 49 (.lenSlice (r 48)), i 50 (.bin (.lss) (r 47) (r 49))]
def A_order_gap_14 : Row := [i 51 (.mv (r 0)), i 52 (.mv (r 1)), i 53 (.indexAddr 3 (r 51) (r 52)), i 54 (.fieldAddr 0 (r 53)), i 55 (.load none (r 54)), i 9 (.mv (r 55))]
def A_order_gap_15 : Row := [i 56 (.mv (r 1)), i 57 (.bin (.gtr) (r 56) (.const (.int (.i64) 0))), i 58 (.mv (r 57)), g 59 (.mv (r 1)) 58 true, g 60 (.mv (r 0)) 58 true, g 61
  (.lenSlice (r 60)) 58 true, g 62 (.bin (.lss) (r 59) (r 61)) 58 true, i 63 (.pick (r 58) (r 62) (.const (.bool false))), i 64 (.mv (r 63)), g 65 (.mv (r 8)) 64 true, g
  66 (.mv (r 9)) 64 true, g 67 (.bin (.eql) (r 65) (r 66)) 64 true, i 68 (.pick (r 64) (r 67) (.const (.bool false)))]
def A_order_gap_16 : Row := [i 6 (.mv (.const (.int (.i64) 32)))]
def A_order_gap_17 : Row := [i 69 (.mv (r 2)), i 70 (.mv (r 8)), i 71 (.mv (r 9)), i 72 (.call (r 69) [.tmp 70, .tmp 71]), i 6 (.mv (r 72))]
/-- diorama/order.gap -/
def A_order_gap : AFunc :=
 ⟨73, [.tmp 6], (.seq (.ops A_order_gap_0) (.seq (.seq (.ops A_order_gap_1) (.block 0 (.loop A_order_gap_7))) (.seq (.seq (.ops A_order_gap_8) (.cond (r 38) (.seq (.ops
  A_order_gap_9) .ret) .skip)) (.seq (.ops A_order_gap_10) (.seq (.seq (.ops A_order_gap_11) (.cond (r 40) (.ops A_order_gap_12) .skip)) (.seq (.seq (.ops A_order_gap_13)
  (.cond (r 50) (.ops A_order_gap_14) .skip)) (.seq (.seq (.ops A_order_gap_15) (.cond (r 68) (.seq (.ops A_order_gap_16) .ret) .skip)) (.seq (.ops A_order_gap_17)
  .ret))))))))⟩
/-! diorama/order.Key$1 -/
def A_order_Key_c1_0 : Row := [i 5 (.mv (.const (.int (.i64) 0)))]
def A_order_Key_c1_1 : Row := [i 7 (.mv (r 0)), i 8 (.mv (r 1)), i 9 (.call (.func F_poskey_Between) [.tmp 7, .tmp 8]), i 6 (.mv (r 9)), i 10 (.extract (r 6) 0), i 11
  (.extract (r 6) 1), i0 (.store 1 (r 2) (r 10)), i 5 (.mv (r 11))]
def A_order_Key_c1_2 : Row := [i 12 (.mv (r 5)), i 5 (.mv (r 12))]
/-- diorama/order.Key$1 -/
def A_order_Key_c1 : AFunc :=
 ⟨13, [.tmp 5], (.seq (.ops A_order_Key_c1_0) (.seq (.ops A_order_Key_c1_1) (.seq (.ops A_order_Key_c1_2) .ret)))⟩
/-! diorama/poskey.Between -/
def A_poskey_Between_0 : Row := [i 4 (.mv (.const (.str []))), i 5 (.mv (.const (.int (.i64) 0)))]
def A_poskey_Between_1 : Row := [i 11 (.mv (r 0)), i 12 (.mv (r 1)), i 13 (.call (.func F_poskey_fine) [.tmp 11, .tmp 12]), i 14 (.un (.not) (r 13))]
def A_poskey_Between_2 : Row := [i 4 (.mv (.const (.str []))), i 5 (.mv (.const (.int (.i64) 1)))]
def A_poskey_Between_3 : Row := [i 6 (.mv (.const (.int (.i64) 1)))]
def A_poskey_Between_4 : Row := [i 15 (.mv (r 6)), i 16 (.bin (.leq) (r 15) (.const (.int (.i64) 24)))]
def A_poskey_Between_5 : Row := [i 20 (.mv (r 0)), i 21 (.mv (r 6)), i 22 (.call (.func F_poskey_above) [.tmp 20, .tmp 21]), i 19 (.mv (r 22)), i 23 (.extract (r 19) 0), i 24
  (.extract (r 19) 1), i 7 (.mv (r 23)), i 8 (.mv (r 24))]
def A_poskey_Between_6 : Row := [i 25 (.mv (r 8)), i 26 (.un (.not) (r 25))]
def A_poskey_Between_7 : Row := [i 27 (.mv (r 7)), i 28 (.mv (r 6)), i 29 (.bin (.sub) (r 28) (.const (.int (.i64) 1))), i 30 (.indexAddr 1 (r 27) (r 29)), i 31 (.load none (r
  30)), i 32 (.convInt (.i64) (r 31)), i 33 (.max [.tmp 32, .const (.int (.i64) 1)]), i 34 (.mv (r 7)), i 35 (.mv (r 1)), ⟨a 36 (.call (.func F_poskey_greatest) [.tmp 34,
  .tmp 35]), [a 31 (.load none (r 30))]⟩, i 9 (.mv (r 33)), i 10 (.mv (r 36))]
def A_poskey_Between_8 : Row := [i 37 (.mv (r 10)), i 38 (.mv (r 9)), i 39 (.bin (.lss) (r 37) (r 38))]
def A_poskey_Between_9 : Row := [i 40 (.mv (r 7)), i 41 (.mv (r 6)), i 42 (.bin (.sub) (r 41) (.const (.int (.i64) 1))), i 43 (.mv (r 9)), i 44 (.mv (r 10)), i 45 (.bin (.add)
  (r 43) (r 44)), i 46 (.bin (.quo) (r 45) (.const (.int (.i64) 2))), i 47 (.convInt (.u8) (r 46)), i 48 (.indexAddr 1 (r 40) (r 42)), i0 (.store 1 (r 48) (r 47))]
def A_poskey_Between_10 : Row := [i 49 (.mv (r 7)), i 50 (.bytesStr (r 49)), i 4 (.mv (r 50)), i 5 (.mv (.const (.int (.i64) 0)))]
def A_poskey_Between_11 : Row := [i 17 (.mv (r 6)), i 18 (.bin (.add) (r 17) (.const (.int (.i64) 1))), i 6 (.mv (r 18))]
def A_poskey_Between_12 : ACode := (.seq (.seq (.ops A_poskey_Between_4) (.cond (r 16) .skip (.exit 0))) (.seq (.block 1 (.seq (.ops A_poskey_Between_5) (.seq (.seq (.ops
  A_poskey_Between_6) (.cond (r 26) (.exit 1) .skip)) (.seq (.ops A_poskey_Between_7) (.seq (.seq (.ops A_poskey_Between_8) (.cond (r 39) (.exit 1) .skip)) (.seq (.ops
  A_poskey_Between_9) (.seq (.ops A_poskey_Between_10) .ret))))))) (.ops A_poskey_Between_11)))
def A_poskey_Between_13 : Row := [i 4 (.mv (.const (.str []))), i 5 (.mv (.const (.int (.i64) 32)))]
/-- diorama/poskey.Between -/
def A_poskey_Between : AFunc :=
 ⟨51, [.tmp 4, .tmp 5], (.seq (.ops A_poskey_Between_0) (.scope (.seq (.seq (.ops A_poskey_Between_1) (.cond (r 14) (.seq (.ops A_poskey_Between_2) .ret) .skip)) (.seq
  .skip (.seq (.seq (.ops A_poskey_Between_3) (.block 0 (.loop A_poskey_Between_12))) (.seq (.ops A_poskey_Between_13) .ret))))))⟩
/-! diorama/poskey.Right -/
def A_poskey_Right_0 : Row := [i 2 (.mv (.const (.bool false)))]
def A_poskey_Right_1 : Row := [i 3 (.mv (r 0)), i 4 (.bin (.neq) (r 3) (.const (.str []))), i 5 (.mv (r 4)), g 6 (.mv (r 0)) 5 true, g 7 (.lenStr (r 6)) 5 true, g 8 (.bin
  (.leq) (r 7) (.const (.int (.i64) 24))) 5 true, i 9 (.pick (r 5) (r 8) (.const (.bool false))), i 10 (.mv (r 9)), g 11 (.mv (r 0)) 10 true, g 12 (.mv (r 0)) 10 true, g
  13 (.lenStr (r 12)) 10 true, g 14 (.bin (.sub) (r 13) (.const (.int (.i64) 1))) 10 true, g 15 (.indexStr (r 11) (r 14)) 10 true, g 16 (.bin (.neq) (r 15) (.const (.int
  (.u8) 0))) 10 true, i 17 (.pick (r 10) (r 16) (.const (.bool false))), i 2 (.mv (r 17))]
/-- diorama/poskey.Right -/
def A_poskey_Right : AFunc :=
 ⟨18, [.tmp 2], (.seq (.ops A_poskey_Right_0) (.seq (.ops A_poskey_Right_1) .ret))⟩
/-! diorama/stamp.Compare -/
def A_stamp_Compare_0 : Row := [i 2 (.box (r 0)), i 3 (.box (r 1)), i 4 (.mv (.const (.int (.i64) 0)))]
def A_stamp_Compare_1 : Row := [i 6 (.load (some 2) (r 2)), i 7 (.load (some 2) (r 3)), i 8 (.eq false { agg := true, sk := [.int (.i64), .int (.i64)] } (r 6) (r 7)), i 5 (.mv
  (r 8))]
def A_stamp_Compare_2 : Row := [i 4 (.mv (.const (.int (.i64) 0)))]
def A_stamp_Compare_3 : Row := [i 10 (.fieldAddr 0 (r 2)), i 11 (.load none (r 10)), i 12 (.fieldAddr 0 (r 3)), i 13 (.load none (r 12)), i 14 (.bin (.lss) (r 11) (r 13)), i
  15 (.mv (r 14)), g 16 (.fieldAddr 0 (r 2)) 15 false, g 17 (.load none (r 16)) 15 false, g 18 (.fieldAddr 0 (r 3)) 15 false, g 19 (.load none (r 18)) 15 false, g 20 (.bin
  (.eql) (r 17) (r 19)) 15 false, g 21 (.mv (r 20)) 15 false, g 22 (.fieldAddr 1 (r 2)) 21 true, g 23 (.load none (r 22)) 21 true, g 24 (.fieldAddr 1 (r 3)) 21 true, g 25
  (.load none (r 24)) 21 true, g 26 (.bin (.lss) (r 23) (r 25)) 21 true, g 27 (.pick (r 21) (r 26) (.const (.bool false))) 15 false, i 28 (.pick (r 15) (.const (.bool
  true)) (r 27)), i 9 (.mv (r 28))]
def A_stamp_Compare_4 : Row := [i 4 (.mv (.const (.int (.i64) (-1))))]
def A_stamp_Compare_5 : Row := [i 4 (.mv (.const (.int (.i64) 1)))]
/-- diorama/stamp.Compare -/
def A_stamp_Compare : AFunc :=
 ⟨29, [.tmp 4], (.seq (.ops A_stamp_Compare_0) (.seq (.block 0 (.seq (.ops A_stamp_Compare_1) (.cond (r 5) (.seq (.ops A_stamp_Compare_2) .ret) (.seq (.ops
  A_stamp_Compare_3) (.cond (r 9) (.seq (.ops A_stamp_Compare_4) .ret) .skip))))) (.seq (.ops A_stamp_Compare_5) .ret)))⟩
/-! diorama/poskey.Compare -/
def A_poskey_Compare_0 : Row := [i 4 (.mv (.const (.int (.i64) 0)))]
def A_poskey_Compare_1 : Row := [i 5 (.mv (r 0)), i 6 (.mv (r 1)), i 7 (.call (.func F_strings_Compare) [.tmp 5, .tmp 6]), i 4 (.mv (r 7))]
/-- diorama/poskey.Compare -/
def A_poskey_Compare : AFunc :=
 ⟨8, [.tmp 4], (.seq (.ops A_poskey_Compare_0) (.seq (.ops A_poskey_Compare_1) .ret))⟩
/-! slices.IndexFunc[[]diorama/order.Sib,diorama/order.Sib] -/
def A_slices_IndexFunc_Sib_0 : Row := [i 4 (.mv (.const (.int (.i64) 0)))]
def A_slices_IndexFunc_Sib_1 : Row := [i 6 (.mv (r 0)), i 7 (.lenSlice (r 6)), i 8 (.mv (.const (.int (.i64) 0)))]
def A_slices_IndexFunc_Sib_2 : Row := [i 9 (.bin (.lss) (r 8) (r 7))]
def A_slices_IndexFunc_Sib_3 : Row := [i 10 (.mv (r 8)), i 5 (.mv (r 10))]
def A_slices_IndexFunc_Sib_4 : Row := [i 11 (.mv (r 1)), i 12 (.mv (r 0)), i 13 (.mv (r 5)), i 14 (.indexAddr 3 (r 12) (r 13)), i 15 (.load (some 3) (r 14)), i 16 (.call (r
  11) [.tmp 15])]
def A_slices_IndexFunc_Sib_5 : Row := [i 17 (.mv (r 5)), i 4 (.mv (r 17))]
def A_slices_IndexFunc_Sib_6 : Row := [i 18 (.bin (.add) (r 8) (.const (.int (.i64) 1))), i 8 (.mv (r 18))]
def A_slices_IndexFunc_Sib_7 : ACode := (.seq (.ops A_slices_IndexFunc_Sib_2) (.seq (.cond (r 9) .skip (.exit 0)) (.seq (.block 1 (.seq (.ops A_slices_IndexFunc_Sib_3) (.seq
  (.ops A_slices_IndexFunc_Sib_4) (.cond (r 16) (.seq (.ops A_slices_IndexFunc_Sib_5) .ret) .skip)))) (.ops A_slices_IndexFunc_Sib_6))))
def A_slices_IndexFunc_Sib_8 : Row := [i 4 (.mv (.const (.int (.i64) (-1))))]
/-- slices.IndexFunc[[]diorama/order.Sib,diorama/order.Sib] -/
def A_slices_IndexFunc_Sib : AFunc :=
 ⟨19, [.tmp 4], (.seq (.ops A_slices_IndexFunc_Sib_0) (.seq (.seq (.ops A_slices_IndexFunc_Sib_1) (.block 0 (.loop A_slices_IndexFunc_Sib_7))) (.seq (.ops
  A_slices_IndexFunc_Sib_8) .ret)))⟩
/-! diorama/order.Find$1 -/
def A_order_Find_c1_0 : Row := [i 2 (.box (r 0)), i 3 (.mv (.const (.bool false)))]
def A_order_Find_c1_1 : Row := [i 4 (.fieldAddr 1 (r 2)), i 5 (.load (some 2) (r 4)), i 6 (.load (some 2) (r 1)), i 7 (.eq false { agg := true, sk := [.int (.i64), .int
  (.i64)] } (r 5) (r 6)), i 3 (.mv (r 7))]
/-- diorama/order.Find$1 -/
def A_order_Find_c1 : AFunc :=
 ⟨8, [.tmp 3], (.seq (.ops A_order_Find_c1_0) (.seq (.ops A_order_Find_c1_1) .ret))⟩
/-! diorama/dioramaref04.Compare -/
def A_ref04_Compare_0 : Row := [i 4 (.mv (.const (.int (.i64) 0)))]
def A_ref04_Compare_1 : Row := [i 5 (.mv (.const (.int (.i64) 0)))]
def A_ref04_Compare_2 : Row := [i 6 (.mv (r 5)), i 7 (.mv (r 0)), i 8 (.lenStr (r 7)), i 9 (.bin (.lss) (r 6) (r 8)), i 10 (.mv (r 9)), g 11 (.mv (r 5)) 10 true, g 12 (.mv (r
  1)) 10 true, g 13 (.lenStr (r 12)) 10 true, g 14 (.bin (.lss) (r 11) (r 13)) 10 true, i 15 (.pick (r 10) (r 14) (.const (.bool false)))]
def A_ref04_Compare_3 : Row := [i 18 (.mv (r 0)), i 19 (.mv (r 5)), i 20 (.indexStr (r 18) (r 19)), i 21 (.mv (r 1)), i 22 (.mv (r 5)), i 23 (.indexStr (r 21) (r 22)), i 24
  (.bin (.lss) (r 20) (r 23))]
def A_ref04_Compare_4 : Row := [i 4 (.mv (.const (.int (.i64) (-1))))]
def A_ref04_Compare_5 : Row := [i 25 (.mv (r 0)), i 26 (.mv (r 5)), i 27 (.indexStr (r 25) (r 26)), i 28 (.mv (r 1)), i 29 (.mv (r 5)), i 30 (.indexStr (r 28) (r 29)), i 31
  (.bin (.gtr) (r 27) (r 30))]
def A_ref04_Compare_6 : Row := [i 4 (.mv (.const (.int (.i64) 1)))]
def A_ref04_Compare_7 : Row := [i 16 (.mv (r 5)), i 17 (.bin (.add) (r 16) (.const (.int (.i64) 1))), i 5 (.mv (r 17))]
def A_ref04_Compare_8 : ACode := (.seq (.seq (.ops A_ref04_Compare_2) (.cond (r 15) .skip (.exit 0))) (.seq (.block 1 (.seq (.seq (.ops A_ref04_Compare_3) (.cond (r 24) (.seq
  (.ops A_ref04_Compare_4) .ret) .skip)) (.seq (.ops A_ref04_Compare_5) (.cond (r 31) (.seq (.ops A_ref04_Compare_6) .ret) .skip)))) (.ops A_ref04_Compare_7)))
def A_ref04_Compare_9 : Row := [i 32 (.mv (r 0)), i 33 (.lenStr (r 32)), i 34 (.mv (r 1)), i 35 (.lenStr (r 34)), i 36 (.bin (.lss) (r 33) (r 35))]
def A_ref04_Compare_10 : Row := [i 4 (.mv (.const (.int (.i64) (-1))))]
def A_ref04_Compare_11 : Row := [i 37 (.mv (r 0)), i 38 (.lenStr (r 37)), i 39 (.mv (r 1)), i 40 (.lenStr (r 39)), i 41 (.bin (.gtr) (r 38) (r 40))]
def A_ref04_Compare_12 : Row := [i 4 (.mv (.const (.int (.i64) 1)))]
def A_ref04_Compare_13 : Row := [i 4 (.mv (.const (.int (.i64) 0)))]
/-- diorama/dioramaref04.Compare -/
def A_ref04_Compare : AFunc :=
 ⟨42, [.tmp 4], (.seq (.ops A_ref04_Compare_0) (.seq (.seq (.ops A_ref04_Compare_1) (.block 0 (.loop A_ref04_Compare_8))) (.seq (.seq (.ops A_ref04_Compare_9) (.cond (r 36)
  (.seq (.ops A_ref04_Compare_10) .ret) .skip)) (.seq (.seq (.ops A_ref04_Compare_11) (.cond (r 41) (.seq (.ops A_ref04_Compare_12) .ret) .skip)) (.seq (.ops
  A_ref04_Compare_13) .ret)))))⟩
/-! diorama/dioramaref02.Compare -/
def A_ref02_Compare_0 : Row := [i 2 (.box (r 0)), i 3 (.box (r 1)), i 4 (.mv (.const (.int (.i64) 0)))]
def A_ref02_Compare_1 : Row := [i 7 (.fieldAddr 0 (r 2)), i 8 (.load none (r 7)), i 5 (.mv (r 8))]
def A_ref02_Compare_2 : Row := [i 9 (.fieldAddr 0 (r 3)), i 10 (.load none (r 9)), i 6 (.mv (r 10))]
def A_ref02_Compare_3 : Row := [i 11 (.mv (r 5)), i 12 (.mv (r 6)), i 13 (.bin (.eql) (r 11) (r 12))]
def A_ref02_Compare_4 : Row := [i 14 (.fieldAddr 1 (r 2)), i 15 (.load none (r 14)), i 5 (.mv (r 15))]
def A_ref02_Compare_5 : Row := [i 16 (.fieldAddr 1 (r 3)), i 17 (.load none (r 16)), i 6 (.mv (r 17))]
def A_ref02_Compare_6 : Row := [i 18 (.mv (r 5)), i 19 (.mv (r 6)), i 20 (.bin (.lss) (r 18) (r 19))]
def A_ref02_Compare_7 : Row := [i 4 (.mv (.const (.int (.i64) (-1))))]
def A_ref02_Compare_8 : Row := [i 21 (.mv (r 5)), i 22 (.mv (r 6)), i 23 (.bin (.gtr) (r 21) (r 22))]
def A_ref02_Compare_9 : Row := [i 4 (.mv (.const (.int (.i64) 1)))]
def A_ref02_Compare_10 : Row := [i 4 (.mv (.const (.int (.i64) 0)))]
/-- diorama/dioramaref02.Compare -/
def A_ref02_Compare : AFunc :=
 ⟨24, [.tmp 4], (.seq (.ops A_ref02_Compare_0) (.seq (.ops A_ref02_Compare_1) (.seq (.ops A_ref02_Compare_2) (.seq (.seq (.ops A_ref02_Compare_3) (.cond (r 13) (.seq (.ops
  A_ref02_Compare_4) (.ops A_ref02_Compare_5)) .skip)) (.seq (.seq (.ops A_ref02_Compare_6) (.cond (r 20) (.seq (.ops A_ref02_Compare_7) .ret) .skip)) (.seq (.seq (.ops
  A_ref02_Compare_8) (.cond (r 23) (.seq (.ops A_ref02_Compare_9) .ret) .skip)) (.seq (.ops A_ref02_Compare_10) .ret)))))))⟩
/-! diorama/dioramaref11.gap -/
def A_ref11_gap_0 : Row := [i 4 (.mv (.const (.str []))), i 5 (.mv (.const (.str []))), i 6 (.mv (.const (.int (.i64) 0)))]
def A_ref11_gap_1 : Row := [i 9 (.mv (r 0)), i 10 (.call (.func F_ref11_row) [.tmp 9]), i 11 (.un (.not) (r 10)), i 12 (.mv (r 11)), g 13 (.mv (r 1)) 12 false, g 14 (.bin
  (.lss) (r 13) (.const (.int (.i64) 0))) 12 false, i 15 (.pick (r 12) (.const (.bool true)) (r 14)), i 16 (.mv (r 15)), g 17 (.mv (r 1)) 16 false, g 18 (.mv (r 0)) 16
  false, g 19 (.lenSlice (r 18)) 16 false, g 20 (.bin (.gtr) (r 17) (r 19)) 16 false, i 21 (.pick (r 16) (.const (.bool true)) (r 20))]
def A_ref11_gap_2 : Row := [i 4 (.mv (.const (.str []))), i 5 (.mv (.const (.str []))), i 6 (.mv (.const (.int (.i64) 1)))]
def A_ref11_gap_3 : Row := [i 7 (.mv (.const (.str [])))]
def A_ref11_gap_4 : Row := [i 8 (.mv (.const (.str [])))]
def A_ref11_gap_5 : Row := [i 22 (.mv (r 1)), i 23 (.bin (.gtr) (r 22) (.const (.int (.i64) 0)))]
def A_ref11_gap_6 : Row := [i 24 (.mv (r 0)), i 25 (.mv (r 1)), i 26 (.bin (.sub) (r 25) (.const (.int (.i64) 1))), i 27 (.indexAddr 3 (r 24) (r 26)), i 28 (.fieldAddr 0 (r
  27)), i 29 (.load none (r 28)), i 7 (.mv (r 29))]
def A_ref11_gap_7 : Row := [i 30 (.mv (r 1)), i 31 (.mv (r 0)), i 32 (.lenSlice (r 31)), i 33 (.bin (.lss) (r 30) (r 32))]
def A_ref11_gap_8 : Row := [i 34 (.mv (r 0)), i 35 (.mv (r 1)), i 36 (.indexAddr 3 (r 34) (r 35)), i 37 (.fieldAddr 0 (r 36)), i 38 (.load none (r 37)), i 8 (.mv (r 38))]
def A_ref11_gap_9 : Row := [i 39 (.mv (r 1)), i 40 (.bin (.gtr) (r 39) (.const (.int (.i64) 0))), i 41 (.mv (r 40)), g 42 (.mv (r 1)) 41 true, g 43 (.mv (r 0)) 41 true, g 44
  (.lenSlice (r 43)) 41 true, g 45 (.bin (.lss) (r 42) (r 44)) 41 true, i 46 (.pick (r 41) (r 45) (.const (.bool false))), i 47 (.mv (r 46)), g 48 (.mv (r 7)) 47 true, g
  49 (.mv (r 8)) 47 true, g 50 (.bin (.eql) (r 48) (r 49)) 47 true, i 51 (.pick (r 47) (r 50) (.const (.bool false)))]
def A_ref11_gap_10 : Row := [i 4 (.mv (.const (.str []))), i 5 (.mv (.const (.str []))), i 6 (.mv (.const (.int (.i64) 32)))]
def A_ref11_gap_11 : Row := [i 52 (.mv (r 7)), i 53 (.mv (r 8)), i 4 (.mv (r 52)), i 5 (.mv (r 53)), i 6 (.mv (.const (.int (.i64) 0)))]
/-- diorama/dioramaref11.gap -/
def A_ref11_gap : AFunc :=
 ⟨54, [.tmp 4, .tmp 5, .tmp 6], (.seq (.ops A_ref11_gap_0) (.seq (.seq (.ops A_ref11_gap_1) (.cond (r 21) (.seq (.ops A_ref11_gap_2) .ret) .skip)) (.seq (.ops
  A_ref11_gap_3) (.seq (.ops A_ref11_gap_4) (.seq (.seq (.ops A_ref11_gap_5) (.cond (r 23) (.ops A_ref11_gap_6) .skip)) (.seq (.seq (.ops A_ref11_gap_7) (.cond (r 33)
  (.ops A_ref11_gap_8) .skip)) (.seq (.seq (.ops A_ref11_gap_9) (.cond (r 51) (.seq (.ops A_ref11_gap_10) .ret) .skip)) (.seq (.ops A_ref11_gap_11) .ret))))))))⟩
/-! diorama/dioramaref04.Between -/
def A_ref04_Between_0 : Row := [i 4 (.mv (.const (.str []))), i 5 (.mv (.const (.int (.i64) 0)))]
def A_ref04_Between_1 : Row := [i 11 (.mv (r 0)), i 12 (.mv (r 1)), i 13 (.call (.func F_ref04_fine) [.tmp 11, .tmp 12]), i 14 (.un (.not) (r 13))]
def A_ref04_Between_2 : Row := [i 4 (.mv (.const (.str []))), i 5 (.mv (.const (.int (.i64) 1)))]
def A_ref04_Between_3 : Row := [i 6 (.mv (.const (.int (.i64) 1)))]
def A_ref04_Between_4 : Row := [i 15 (.mv (r 6)), i 16 (.bin (.leq) (r 15) (.const (.int (.i64) 24)))]
def A_ref04_Between_5 : Row := [i 19 (.mv (r 0)), i 20 (.mv (r 6)), i 21 (.call (.func F_ref04_first) [.tmp 19, .tmp 20]), i 7 (.mv (r 21))]
def A_ref04_Between_6 : Row := [i 22 (.mv (r 7)), i 23 (.eqNil false (.slice) (r 22) (.const (.slice none 0 (.exact 0))))]
def A_ref04_Between_7 : Row := [i 24 (.mv (r 7)), i 25 (.mv (r 6)), i 26 (.bin (.sub) (r 25) (.const (.int (.i64) 1))), i 27 (.indexAddr 1 (r 24) (r 26)), i 28 (.load none (r
  27)), i 29 (.max [.tmp 28, .const (.int (.i64) 1)]), i 8 (.mv (r 29))]
def A_ref04_Between_8 : Row := [i 30 (.mv (r 8)), i 31 (.bin (.sub) (r 30) (.const (.int (.i64) 1))), i 9 (.mv (r 31))]
def A_ref04_Between_9 : Row := [i 32 (.mv (r 8)), i 10 (.mv (r 32))]
def A_ref04_Between_10 : Row := [i 33 (.mv (r 10)), i 34 (.bin (.lss) (r 33) (.const (.int (.i64) 256)))]
def A_ref04_Between_11 : Row := [i 37 (.mv (r 7)), i 38 (.mv (r 6)), i 39 (.bin (.sub) (r 38) (.const (.int (.i64) 1))), i 40 (.mv (r 10)), i 41 (.indexAddr 1 (r 37) (r 39)),
  i0 (.store 1 (r 41) (r 40))]
def A_ref04_Between_12 : Row := [i 42 (.mv (r 7)), i 43 (.mv (r 1)), i 44 (.call (.func F_ref04_below) [.tmp 42, .tmp 43]), i 45 (.un (.not) (r 44))]
def A_ref04_Between_13 : Row := [i 46 (.mv (r 10)), i 9 (.mv (r 46))]
def A_ref04_Between_14 : Row := [i 35 (.mv (r 10)), i 36 (.bin (.add) (r 35) (.const (.int (.i64) 1))), i 10 (.mv (r 36))]
def A_ref04_Between_15 : ACode := (.seq (.seq (.ops A_ref04_Between_10) (.cond (r 34) .skip (.exit 2))) (.seq (.block 3 (.seq (.ops A_ref04_Between_11) (.seq (.seq (.ops
  A_ref04_Between_12) (.cond (r 45) (.exit 2) .skip)) (.ops A_ref04_Between_13)))) (.ops A_ref04_Between_14)))
def A_ref04_Between_16 : Row := [i 47 (.mv (r 9)), i 48 (.mv (r 8)), i 49 (.bin (.geq) (r 47) (r 48))]
def A_ref04_Between_17 : Row := [i 50 (.mv (r 7)), i 51 (.mv (r 6)), i 52 (.bin (.sub) (r 51) (.const (.int (.i64) 1))), i 53 (.mv (r 8)), i 54 (.mv (r 9)), i 55 (.bin (.add)
  (r 53) (r 54)), i 56 (.bin (.quo) (r 55) (.const (.int (.i64) 2))), i 57 (.indexAddr 1 (r 50) (r 52)), i0 (.store 1 (r 57) (r 56))]
def A_ref04_Between_18 : Row := [i 58 (.mv (r 7)), i 59 (.call (.func F_ref04_text) [.tmp 58]), i 4 (.mv (r 59)), i 5 (.mv (.const (.int (.i64) 0)))]
def A_ref04_Between_19 : Row := [i 17 (.mv (r 6)), i 18 (.bin (.add) (r 17) (.const (.int (.i64) 1))), i 6 (.mv (r 18))]
def A_ref04_Between_20 : ACode := (.seq (.seq (.ops A_ref04_Between_4) (.cond (r 16) .skip (.exit 0))) (.seq (.block 1 (.seq (.ops A_ref04_Between_5) (.seq (.seq (.ops
  A_ref04_Between_6) (.cond (r 23) (.exit 1) .skip)) (.seq (.ops A_ref04_Between_7) (.seq (.ops A_ref04_Between_8) (.seq (.seq (.ops A_ref04_Between_9) (.block 2 (.loop
  A_ref04_Between_15))) (.seq (.ops A_ref04_Between_16) (.cond (r 49) (.seq (.ops A_ref04_Between_17) (.seq (.ops A_ref04_Between_18) .ret)) .skip)))))))) (.ops
  A_ref04_Between_19)))
def A_ref04_Between_21 : Row := [i 4 (.mv (.const (.str []))), i 5 (.mv (.const (.int (.i64) 32)))]
/-- diorama/dioramaref04.Between -/
def A_ref04_Between : AFunc :=
 ⟨60, [.tmp 4, .tmp 5], (.seq (.ops A_ref04_Between_0) (.seq (.seq (.ops A_ref04_Between_1) (.cond (r 14) (.seq (.ops A_ref04_Between_2) .ret) .skip)) (.seq (.seq (.ops
  A_ref04_Between_3) (.block 0 (.loop A_ref04_Between_20))) (.seq (.ops A_ref04_Between_21) .ret))))⟩
/-! diorama/order.Keys$1 -/
def A_order_Keys_c1_0 : Row := [i 6 (.mv (.const (.int (.i64) 0)))]
def A_order_Keys_c1_1 : Row := [i 8 (.mv (r 0)), i 9 (.mv (r 1)), i 10 (.load none (r 2)), i 11 (.call (.func F_poskey_Spread) [.tmp 8, .tmp 9, .tmp 10]), i 7 (.mv (r 11)), i
  12 (.extract (r 7) 0), i 13 (.extract (r 7) 1), i0 (.store 1 (r 3) (r 12)), i 6 (.mv (r 13))]
def A_order_Keys_c1_2 : Row := [i 14 (.mv (r 6)), i 6 (.mv (r 14))]
/-- diorama/order.Keys$1 -/
def A_order_Keys_c1 : AFunc :=
 ⟨15, [.tmp 6], (.seq (.ops A_order_Keys_c1_0) (.seq (.ops A_order_Keys_c1_1) (.seq (.ops A_order_Keys_c1_2) .ret)))⟩
/-! diorama/poskey.Spread -/
def A_poskey_Spread_0 : Row := [i 6 (.mv (.const (.slice none 0 (.exact 0)))), i 7 (.mv (.const (.int (.i64) 0)))]
def A_poskey_Spread_1 : Row := [i 11 (.mv (r 2)), i 12 (.bin (.lss) (r 11) (.const (.int (.i64) 0))), i 13 (.mv (r 12)), g 14 (.mv (r 2)) 13 false, g 15 (.bin (.gtr) (r 14)
  (.const (.int (.i64) 64))) 13 false, i 16 (.pick (r 13) (.const (.bool true)) (r 15)), i 17 (.mv (r 16)), g 18 (.mv (r 0)) 17 false, g 19 (.mv (r 1)) 17 false, g 20
  (.call (.func F_poskey_fine) [.tmp 18, .tmp 19]) 17 false, g 21 (.un (.not) (r 20)) 17 false, i 22 (.pick (r 17) (.const (.bool true)) (r 21))]
def A_poskey_Spread_2 : Row := [i 6 (.mv (.const (.slice none 0 (.exact 0)))), i 7 (.mv (.const (.int (.i64) 1)))]
def A_poskey_Spread_3 : Row := [i 8 (.alloc [.slice none 0 (.exact 0)])]
def A_poskey_Spread_4 : Row := [i 9 (.alloc [.nilFn])]
def A_poskey_Spread_5 : Row := [i 23 (.makeFunc F_poskey_Spread_c1 [] [.tmp 9, .tmp 8]), i0 (.store 1 (r 9) (r 23))]
def A_poskey_Spread_6 : Row := [i 24 (.load none (r 9)), i 25 (.mv (r 0)), i 26 (.mv (r 1)), i 27 (.mv (r 2)), i 28 (.call (r 24) [.tmp 25, .tmp 26, .tmp 27]), i 10 (.mv (r
  28))]
def A_poskey_Spread_7 : Row := [i 29 (.mv (r 10)), i 30 (.bin (.neq) (r 29) (.const (.int (.i64) 0)))]
def A_poskey_Spread_8 : Row := [i 31 (.mv (r 10)), i 6 (.mv (.const (.slice none 0 (.exact 0)))), i 7 (.mv (r 31))]
def A_poskey_Spread_9 : Row := [i 32 (.load none (r 8)), i 6 (.mv (r 32)), i 7 (.mv (.const (.int (.i64) 0)))]
/-- diorama/poskey.Spread -/
def A_poskey_Spread : AFunc :=
 ⟨33, [.tmp 6, .tmp 7], (.seq (.ops A_poskey_Spread_0) (.seq (.seq (.ops A_poskey_Spread_1) (.cond (r 22) (.seq (.ops A_poskey_Spread_2) .ret) .skip)) (.seq (.ops
  A_poskey_Spread_3) (.seq (.ops A_poskey_Spread_4) (.seq (.ops A_poskey_Spread_5) (.seq (.seq (.ops A_poskey_Spread_6) (.seq (.ops A_poskey_Spread_7) (.cond (r 30) (.seq
  (.ops A_poskey_Spread_8) .ret) .skip))) (.seq (.ops A_poskey_Spread_9) .ret)))))))⟩
/-! diorama/dioramaref04.Spread -/
def A_ref04_Spread_0 : Row := [i 6 (.mv (.const (.slice none 0 (.exact 0)))), i 7 (.mv (.const (.int (.i64) 0)))]
def A_ref04_Spread_1 : Row := [i 13 (.mv (r 2)), i 14 (.bin (.lss) (r 13) (.const (.int (.i64) 0))), i 15 (.mv (r 14)), g 16 (.mv (r 2)) 15 false, g 17 (.bin (.gtr) (r 16)
  (.const (.int (.i64) 64))) 15 false, i 18 (.pick (r 15) (.const (.bool true)) (r 17)), i 19 (.mv (r 18)), g 20 (.mv (r 0)) 19 false, g 21 (.mv (r 1)) 19 false, g 22
  (.call (.func F_ref04_fine) [.tmp 20, .tmp 21]) 19 false, g 23 (.un (.not) (r 22)) 19 false, i 24 (.pick (r 19) (.const (.bool true)) (r 23))]
def A_ref04_Spread_2 : Row := [i 6 (.mv (.const (.slice none 0 (.exact 0)))), i 7 (.mv (.const (.int (.i64) 1)))]
def A_ref04_Spread_3 : Row := [i 25 (.mv (r 2)), i 26 (.bin (.eql) (r 25) (.const (.int (.i64) 0)))]
def A_ref04_Spread_4 : Row := [i 6 (.mv (.const (.slice none 0 (.exact 0)))), i 7 (.mv (.const (.int (.i64) 0)))]
def A_ref04_Spread_5 : Row := [i 28 (.mv (r 0)), i 29 (.mv (r 1)), i 30 (.call (.func F_ref04_Between) [.tmp 28, .tmp 29]), i 27 (.mv (r 30)), i 31 (.extract (r 27) 0), i 32
  (.extract (r 27) 1), i 8 (.mv (r 31)), i 9 (.mv (r 32))]
def A_ref04_Spread_6 : Row := [i 33 (.mv (r 9)), i 34 (.bin (.neq) (r 33) (.const (.int (.i64) 0)))]
def A_ref04_Spread_7 : Row := [i 35 (.mv (r 9)), i 6 (.mv (.const (.slice none 0 (.exact 0)))), i 7 (.mv (r 35))]
def A_ref04_Spread_8 : Row := [i 36 (.mv (r 2)), i 37 (.bin (.sub) (r 36) (.const (.int (.i64) 1))), i 38 (.bin (.quo) (r 37) (.const (.int (.i64) 2))), i 10 (.mv (r 38))]
def A_ref04_Spread_9 : Row := [i 40 (.mv (r 0)), i 41 (.mv (r 8)), i 42 (.mv (r 10)), i 43 (.call (.func F_ref04_Spread) [.tmp 40, .tmp 41, .tmp 42]), i 39 (.mv (r 43)), i 44
  (.extract (r 39) 0), i 45 (.extract (r 39) 1), i 11 (.mv (r 44)), i 9 (.mv (r 45))]
def A_ref04_Spread_10 : Row := [i 46 (.mv (r 9)), i 47 (.bin (.neq) (r 46) (.const (.int (.i64) 0)))]
def A_ref04_Spread_11 : Row := [i 48 (.mv (r 9)), i 6 (.mv (.const (.slice none 0 (.exact 0)))), i 7 (.mv (r 48))]
def A_ref04_Spread_12 : Row := [i 50 (.mv (r 8)), i 51 (.mv (r 1)), i 52 (.mv (r 2)), i 53 (.bin (.sub) (r 52) (.const (.int (.i64) 1))), i 54 (.mv (r 10)), i 55 (.bin (.sub)
  (r 53) (r 54)), i 56 (.call (.func F_ref04_Spread) [.tmp 50, .tmp 51, .tmp 55]), i 49 (.mv (r 56)), i 57 (.extract (r 49) 0), i 58 (.extract (r 49) 1), i 12 (.mv (r
  57)), i 9 (.mv (r 58))]
def A_ref04_Spread_13 : Row := [i 59 (.mv (r 9)), i 60 (.bin (.neq) (r 59) (.const (.int (.i64) 0)))]
def A_ref04_Spread_14 : Row := [i 61 (.mv (r 9)), i 6 (.mv (.const (.slice none 0 (.exact 0)))), i 7 (.mv (r 61))]
def A_ref04_Spread_15 : Row := [i 62 (.mv (r 11)), i 63 (.mv (r 8)), i 64 (.buildSlice 1 [.str []] [(0, 1, .tmp 63)]), i 65 (.append 1 16 (r 62) (r 64)), i 66 (.mv (r 12)), i
  67 (.append 1 16 (r 65) (r 66)), i 6 (.mv (r 67)), i 7 (.mv (.const (.int (.i64) 0)))]
/-- diorama/dioramaref04.Spread -/
def A_ref04_Spread : AFunc :=
 ⟨68, [.tmp 6, .tmp 7], (.seq (.ops A_ref04_Spread_0) (.seq (.seq (.ops A_ref04_Spread_1) (.cond (r 24) (.seq (.ops A_ref04_Spread_2) .ret) .skip)) (.seq (.seq (.ops
  A_ref04_Spread_3) (.cond (r 26) (.seq (.ops A_ref04_Spread_4) .ret) .skip)) (.seq (.ops A_ref04_Spread_5) (.seq (.seq (.ops A_ref04_Spread_6) (.cond (r 34) (.seq (.ops
  A_ref04_Spread_7) .ret) .skip)) (.seq (.ops A_ref04_Spread_8) (.seq (.ops A_ref04_Spread_9) (.seq (.seq (.ops A_ref04_Spread_10) (.cond (r 47) (.seq (.ops
  A_ref04_Spread_11) .ret) .skip)) (.seq (.ops A_ref04_Spread_12) (.seq (.seq (.ops A_ref04_Spread_13) (.cond (r 60) (.seq (.ops A_ref04_Spread_14) .ret) .skip)) (.seq
  (.ops A_ref04_Spread_15) .ret)))))))))))⟩
/-! diorama/poskey.fine -/
def A_poskey_fine_0 : Row := [i 4 (.mv (.const (.bool false)))]
def A_poskey_fine_1 : Row := [i 5 (.mv (.func F_poskey_fine_c1))]
def A_poskey_fine_2 : Row := [i 6 (.mv (r 5)), i 7 (.mv (r 0)), i 8 (.call (r 6) [.tmp 7]), i 9 (.mv (r 8)), g 10 (.mv (r 5)) 9 true, g 11 (.mv (r 1)) 9 true, g 12 (.call (r
  10) [.tmp 11]) 9 true, i 13 (.pick (r 9) (r 12) (.const (.bool false))), i 14 (.mv (r 13)), g 15 (.mv (r 0)) 14 true, g 16 (.bin (.eql) (r 15) (.const (.str []))) 14
  true, g 17 (.mv (r 16)) 14 true, g 18 (.mv (r 1)) 17 false, g 19 (.bin (.eql) (r 18) (.const (.str []))) 17 false, g 20 (.pick (r 17) (.const (.bool true)) (r 19)) 14
  true, g 21 (.mv (r 20)) 14 true, g 22 (.mv (r 0)) 21 false, g 23 (.mv (r 1)) 21 false, g 24 (.bin (.lss) (r 22) (r 23)) 21 false, g 25 (.pick (r 21) (.const (.bool
  true)) (r 24)) 14 true, i 26 (.pick (r 14) (r 25) (.const (.bool false))), i 4 (.mv (r 26))]
/-- diorama/poskey.fine -/
def A_poskey_fine : AFunc :=
 ⟨27, [.tmp 4], (.seq (.ops A_poskey_fine_0) (.seq (.ops A_poskey_fine_1) (.seq (.ops A_poskey_fine_2) .ret)))⟩
/-! diorama/poskey.above -/
def A_poskey_above_0 : Row := [i 4 (.mv (.const (.slice none 0 (.exact 0)))), i 5 (.mv (.const (.bool false)))]
def A_poskey_above_1 : Row := [i 8 (.mv (r 1)), i 9 (.makeSlice 1 1 [.int (.u8) 0] (r 8) (r 8)), i 6 (.mv (r 9))]
def A_poskey_above_2 : Row := [i 10 (.mv (r 6)), i 11 (.mv (r 0)), i 12 (.copy 1 (r 10) (r 11))]
def A_poskey_above_3 : Row := [i 13 (.mv (r 1)), i 14 (.bin (.sub) (r 13) (.const (.int (.i64) 1))), i 7 (.mv (r 14))]
def A_poskey_above_4 : Row := [i 15 (.mv (r 7)), i 16 (.bin (.geq) (r 15) (.const (.int (.i64) 0)))]
def A_poskey_above_5 : Row := [i 19 (.mv (r 6)), i 20 (.mv (r 7)), i 21 (.indexAddr 1 (r 19) (r 20)), i 22 (.load none (r 21)), i 23 (.bin (.add) (r 22) (.const (.int (.u8)
  1))), i 24 (.indexAddr 1 (r 19) (r 20)), i0 (.store 1 (r 24) (r 23))]
def A_poskey_above_6 : Row := [i 25 (.mv (r 6)), i 26 (.mv (r 7)), i 27 (.indexAddr 1 (r 25) (r 26)), i 28 (.load none (r 27)), i 29 (.bin (.neq) (r 28) (.const (.int (.u8)
  0)))]
def A_poskey_above_7 : Row := [i 30 (.mv (r 6)), i 4 (.mv (r 30)), i 5 (.mv (.const (.bool true)))]
def A_poskey_above_8 : Row := [i 17 (.mv (r 7)), i 18 (.bin (.sub) (r 17) (.const (.int (.i64) 1))), i 7 (.mv (r 18))]
def A_poskey_above_9 : ACode := (.seq (.seq (.ops A_poskey_above_4) (.cond (r 16) .skip (.exit 0))) (.seq (.block 1 (.seq (.ops A_poskey_above_5) (.seq (.ops A_poskey_above_6)
  (.cond (r 29) (.seq (.ops A_poskey_above_7) .ret) .skip)))) (.ops A_poskey_above_8)))
def A_poskey_above_10 : Row := [i 4 (.mv (.const (.slice none 0 (.exact 0)))), i 5 (.mv (.const (.bool false)))]
/-- diorama/poskey.above -/
def A_poskey_above : AFunc :=
 ⟨31, [.tmp 4, .tmp 5], (.seq (.ops A_poskey_above_0) (.seq (.ops A_poskey_above_1) (.seq (.ops A_poskey_above_2) (.seq (.seq (.ops A_poskey_above_3) (.block 0 (.loop
  A_poskey_above_9))) (.seq (.ops A_poskey_above_10) .ret)))))⟩
/-! diorama/poskey.greatest -/
def A_poskey_greatest_0 : Row := [i 4 (.mv (.const (.int (.i64) 0)))]
def A_poskey_greatest_1 : Row := [i 9 (.mv (r 0)), i 10 (.lenSlice (r 9)), i 11 (.bin (.sub) (r 10) (.const (.int (.i64) 1))), i 5 (.mv (r 11))]
def A_poskey_greatest_2 : Row := [i 12 (.mv (r 0)), i 13 (.mv (r 5)), i 14 (.slice 1 (r 12) none (some (r 13)) none), i 15 (.lenSlice (r 14)), i 16 (.mv (.const (.int (.i64)
  0)))]
def A_poskey_greatest_3 : Row := [i 17 (.bin (.lss) (r 16) (r 15))]
def A_poskey_greatest_4 : Row := [i 18 (.mv (r 16)), i 19 (.indexAddr 1 (r 14) (r 16)), i 20 (.load none (r 19)), i 6 (.mv (r 18)), i 7 (.mv (r 20))]
def A_poskey_greatest_5 : Row := [i 21 (.mv (r 1)), i 22 (.mv (r 6)), i 23 (.call (.func F_poskey_digit) [.tmp 21, .tmp 22]), i 8 (.mv (r 23))]
def A_poskey_greatest_6 : Row := [i 25 (.mv (r 1)), i 26 (.bin (.eql) (r 25) (.const (.str []))), i 27 (.mv (r 26)), g 28 (.mv (r 7)) 27 false, g 29 (.convInt (.i64) (r 28))
  27 false, g 30 (.mv (r 8)) 27 false, g 31 (.bin (.lss) (r 29) (r 30)) 27 false, i 32 (.pick (r 27) (.const (.bool true)) (r 31)), i 24 (.mv (r 32))]
def A_poskey_greatest_7 : Row := [i 4 (.mv (.const (.int (.i64) 255)))]
def A_poskey_greatest_8 : Row := [i 34 (.mv (r 7)), i 35 (.convInt (.i64) (r 34)), i 36 (.mv (r 8)), i 37 (.bin (.gtr) (r 35) (r 36)), i 33 (.mv (r 37))]
def A_poskey_greatest_9 : Row := [i 4 (.mv (.const (.int (.i64) (-1))))]
def A_poskey_greatest_10 : Row := [i 38 (.bin (.add) (r 16) (.const (.int (.i64) 1))), i 16 (.mv (r 38))]
def A_poskey_greatest_11 : ACode := (.seq (.ops A_poskey_greatest_3) (.seq (.cond (r 17) .skip (.exit 0)) (.seq (.block 1 (.seq (.ops A_poskey_greatest_4) (.seq (.ops
  A_poskey_greatest_5) (.block 2 (.seq (.ops A_poskey_greatest_6) (.cond (r 24) (.seq (.ops A_poskey_greatest_7) .ret) (.seq (.ops A_poskey_greatest_8) (.cond (r 33) (.seq
  (.ops A_poskey_greatest_9) .ret) .skip)))))))) (.ops A_poskey_greatest_10))))
def A_poskey_greatest_12 : Row := [i 40 (.mv (r 1)), i 41 (.bin (.eql) (r 40) (.const (.str []))), i 39 (.mv (r 41))]
def A_poskey_greatest_13 : Row := [i 4 (.mv (.const (.int (.i64) 255)))]
def A_poskey_greatest_14 : Row := [i 43 (.mv (r 1)), i 44 (.lenStr (r 43)), i 45 (.mv (r 5)), i 46 (.bin (.add) (r 45) (.const (.int (.i64) 1))), i 47 (.bin (.gtr) (r 44) (r
  46)), i 42 (.mv (r 47))]
def A_poskey_greatest_15 : Row := [i 48 (.mv (r 1)), i 49 (.mv (r 5)), i 50 (.call (.func F_poskey_digit) [.tmp 48, .tmp 49]), i 4 (.mv (r 50))]
def A_poskey_greatest_16 : Row := [i 51 (.mv (r 1)), i 52 (.mv (r 5)), i 53 (.call (.func F_poskey_digit) [.tmp 51, .tmp 52]), i 54 (.bin (.sub) (r 53) (.const (.int (.i64)
  1))), i 4 (.mv (r 54))]
/-- diorama/poskey.greatest -/
def A_poskey_greatest : AFunc :=
 ⟨55, [.tmp 4], (.seq (.ops A_poskey_greatest_0) (.seq (.ops A_poskey_greatest_1) (.seq (.seq (.ops A_poskey_greatest_2) (.block 0 (.loop A_poskey_greatest_11))) (.seq
  (.block 3 (.seq (.ops A_poskey_greatest_12) (.cond (r 39) (.seq (.ops A_poskey_greatest_13) .ret) (.seq (.ops A_poskey_greatest_14) (.cond (r 42) (.seq (.ops
  A_poskey_greatest_15) .ret) .skip))))) (.seq (.ops A_poskey_greatest_16) .ret)))))⟩
/-! diorama/dioramaref11.row -/
def A_ref11_row_0 : Row := [i 2 (.mv (.const (.bool false)))]
def A_ref11_row_1 : Row := [i 3 (.mv (.const (.int (.i64) 1)))]
def A_ref11_row_2 : Row := [i 4 (.mv (r 3)), i 5 (.mv (r 0)), i 6 (.lenSlice (r 5)), i 7 (.bin (.lss) (r 4) (r 6))]
def A_ref11_row_3 : Row := [i 10 (.mv (r 0)), i 11 (.mv (r 3)), i 12 (.bin (.sub) (r 11) (.const (.int (.i64) 1))), i 13 (.indexAddr 3 (r 10) (r 12)), i 14 (.load (some 3) (r
  13)), i 15 (.mv (r 0)), i 16 (.mv (r 3)), i 17 (.indexAddr 3 (r 15) (r 16)), i 18 (.load (some 3) (r 17)), i 19 (.call (.func F_ref11_Before) [.tmp 14, .tmp 18]), i 20
  (.un (.not) (r 19))]
def A_ref11_row_4 : Row := [i 2 (.mv (.const (.bool false)))]
def A_ref11_row_5 : Row := [i 8 (.mv (r 3)), i 9 (.bin (.add) (r 8) (.const (.int (.i64) 1))), i 3 (.mv (r 9))]
def A_ref11_row_6 : ACode := (.seq (.seq (.ops A_ref11_row_2) (.cond (r 7) .skip (.exit 0))) (.seq (.block 1 (.seq (.ops A_ref11_row_3) (.cond (r 20) (.seq (.ops
  A_ref11_row_4) .ret) .skip))) (.ops A_ref11_row_5)))
def A_ref11_row_7 : Row := [i 2 (.mv (.const (.bool true)))]
/-- diorama/dioramaref11.row -/
def A_ref11_row : AFunc :=
 ⟨21, [.tmp 2], (.seq (.ops A_ref11_row_0) (.seq (.seq (.ops A_ref11_row_1) (.block 0 (.loop A_ref11_row_6))) (.seq (.ops A_ref11_row_7) .ret)))⟩
/-! diorama/dioramaref04.fine -/
def A_ref04_fine_0 : Row := [i 4 (.mv (.const (.bool false)))]
def A_ref04_fine_1 : Row := [i 5 (.mv (r 0)), i 6 (.bin (.neq) (r 5) (.const (.str []))), i 7 (.mv (r 6)), g 8 (.mv (r 0)) 7 true, g 9 (.call (.func F_ref04_Right) [.tmp 8]) 7
  true, g 10 (.un (.not) (r 9)) 7 true, i 11 (.pick (r 7) (r 10) (.const (.bool false))), i 12 (.mv (r 11)), g 13 (.mv (r 1)) 12 false, g 14 (.bin (.neq) (r 13) (.const
  (.str []))) 12 false, g 15 (.mv (r 14)) 12 false, g 16 (.mv (r 1)) 15 true, g 17 (.call (.func F_ref04_Right) [.tmp 16]) 15 true, g 18 (.un (.not) (r 17)) 15 true, g 19
  (.pick (r 15) (r 18) (.const (.bool false))) 12 false, i 20 (.pick (r 12) (.const (.bool true)) (r 19))]
def A_ref04_fine_2 : Row := [i 4 (.mv (.const (.bool false)))]
def A_ref04_fine_3 : Row := [i 21 (.mv (r 0)), i 22 (.bin (.eql) (r 21) (.const (.str []))), i 23 (.mv (r 22)), g 24 (.mv (r 1)) 23 false, g 25 (.bin (.eql) (r 24) (.const
  (.str []))) 23 false, i 26 (.pick (r 23) (.const (.bool true)) (r 25)), i 27 (.mv (r 26)), g 28 (.mv (r 0)) 27 false, g 29 (.mv (r 1)) 27 false, g 30 (.call (.func
  F_ref04_Compare) [.tmp 28, .tmp 29]) 27 false, g 31 (.bin (.lss) (r 30) (.const (.int (.i64) 0))) 27 false, i 32 (.pick (r 27) (.const (.bool true)) (r 31)), i 4 (.mv (r
  32))]
/-- diorama/dioramaref04.fine -/
def A_ref04_fine : AFunc :=
 ⟨33, [.tmp 4], (.seq (.ops A_ref04_fine_0) (.seq (.seq (.ops A_ref04_fine_1) (.cond (r 20) (.seq (.ops A_ref04_fine_2) .ret) .skip)) (.seq (.ops A_ref04_fine_3) .ret)))⟩
/-! diorama/dioramaref04.first -/
def A_ref04_first_0 : Row := [i 4 (.mv (.const (.slice none 0 (.exact 0))))]
def A_ref04_first_1 : Row := [i 7 (.mv (r 1)), i 8 (.makeSlice 1 8 [.int (.i64) 0] (r 7) (r 7)), i 5 (.mv (r 8))]
def A_ref04_first_2 : Row := [i 6 (.mv (.const (.int (.i64) 0)))]
def A_ref04_first_3 : Row := [i 9 (.mv (r 6)), i 10 (.mv (r 1)), i 11 (.bin (.lss) (r 9) (r 10))]
def A_ref04_first_4 : Row := [i 14 (.mv (r 5)), i 15 (.mv (r 6)), i 16 (.mv (r 0)), i 17 (.mv (r 6)), i 18 (.call (.func F_ref04_digit) [.tmp 16, .tmp 17]), i 19 (.indexAddr 1
  (r 14) (r 15)), i0 (.store 1 (r 19) (r 18))]
def A_ref04_first_5 : Row := [i 12 (.mv (r 6)), i 13 (.bin (.add) (r 12) (.const (.int (.i64) 1))), i 6 (.mv (r 13))]
def A_ref04_first_6 : ACode := (.seq (.seq (.ops A_ref04_first_3) (.cond (r 11) .skip (.exit 0))) (.seq (.block 1 (.ops A_ref04_first_4)) (.ops A_ref04_first_5)))
def A_ref04_first_7 : Row := [i 20 (.mv (r 5)), i 21 (.call (.func F_ref04_carry) [.tmp 20]), i 22 (.un (.not) (r 21))]
def A_ref04_first_8 : Row := [i 4 (.mv (.const (.slice none 0 (.exact 0))))]
def A_ref04_first_9 : Row := [i 23 (.mv (r 5)), i 4 (.mv (r 23))]
/-- diorama/dioramaref04.first -/
def A_ref04_first : AFunc :=
 ⟨24, [.tmp 4], (.seq (.ops A_ref04_first_0) (.seq (.ops A_ref04_first_1) (.seq (.seq (.ops A_ref04_first_2) (.block 0 (.loop A_ref04_first_6))) (.seq (.seq (.ops
  A_ref04_first_7) (.cond (r 22) (.seq (.ops A_ref04_first_8) .ret) .skip)) (.seq (.ops A_ref04_first_9) .ret)))))⟩
/-! diorama/dioramaref04.below -/
def A_ref04_below_0 : Row := [i 4 (.mv (.const (.bool false)))]
def A_ref04_below_1 : Row := [i 7 (.mv (r 1)), i 8 (.bin (.eql) (r 7) (.const (.str [])))]
def A_ref04_below_2 : Row := [i 4 (.mv (.const (.bool true)))]
def A_ref04_below_3 : Row := [i 5 (.mv (.const (.int (.i64) 0)))]
def A_ref04_below_4 : Row := [i 9 (.mv (r 5)), i 10 (.mv (r 0)), i 11 (.lenSlice (r 10)), i 12 (.bin (.lss) (r 9) (r 11)), i 13 (.mv (r 12)), g 14 (.mv (r 5)) 13 false, g 15
  (.mv (r 1)) 13 false, g 16 (.lenStr (r 15)) 13 false, g 17 (.bin (.lss) (r 14) (r 16)) 13 false, i 18 (.pick (r 13) (.const (.bool true)) (r 17))]
def A_ref04_below_5 : Row := [i 6 (.mv (.const (.int (.i64) 0)))]
def A_ref04_below_6 : Row := [i 21 (.mv (r 5)), i 22 (.mv (r 0)), i 23 (.lenSlice (r 22)), i 24 (.bin (.lss) (r 21) (r 23))]
def A_ref04_below_7 : Row := [i 25 (.mv (r 0)), i 26 (.mv (r 5)), i 27 (.indexAddr 1 (r 25) (r 26)), i 28 (.load none (r 27)), i 6 (.mv (r 28))]
def A_ref04_below_8 : Row := [i 29 (.mv (r 6)), i 30 (.mv (r 1)), i 31 (.mv (r 5)), i 32 (.call (.func F_ref04_digit) [.tmp 30, .tmp 31]), i 33 (.bin (.neq) (r 29) (r 32))]
def A_ref04_below_9 : Row := [i 34 (.mv (r 6)), i 35 (.mv (r 1)), i 36 (.mv (r 5)), i 37 (.call (.func F_ref04_digit) [.tmp 35, .tmp 36]), i 38 (.bin (.lss) (r 34) (r 37)), i
  4 (.mv (r 38))]
def A_ref04_below_10 : Row := [i 19 (.mv (r 5)), i 20 (.bin (.add) (r 19) (.const (.int (.i64) 1))), i 5 (.mv (r 20))]
def A_ref04_below_11 : ACode := (.seq (.seq (.ops A_ref04_below_4) (.cond (r 18) .skip (.exit 0))) (.seq (.block 1 (.seq (.ops A_ref04_below_5) (.seq (.seq (.ops
  A_ref04_below_6) (.cond (r 24) (.ops A_ref04_below_7) .skip)) (.seq (.ops A_ref04_below_8) (.cond (r 33) (.seq (.ops A_ref04_below_9) .ret) .skip))))) (.ops
  A_ref04_below_10)))
def A_ref04_below_12 : Row := [i 4 (.mv (.const (.bool false)))]
/-- diorama/dioramaref04.below -/
def A_ref04_below : AFunc :=
 ⟨39, [.tmp 4], (.seq (.ops A_ref04_below_0) (.seq (.seq (.ops A_ref04_below_1) (.cond (r 8) (.seq (.ops A_ref04_below_2) .ret) .skip)) (.seq (.seq (.ops A_ref04_below_3)
  (.block 0 (.loop A_ref04_below_11))) (.seq (.ops A_ref04_below_12) .ret))))⟩
/-! diorama/dioramaref04.text -/
def A_ref04_text_0 : Row := [i 2 (.mv (.const (.str [])))]
def A_ref04_text_1 : Row := [i 5 (.mv (r 0)), i 6 (.lenSlice (r 5)), i 7 (.makeSlice 1 1 [.int (.u8) 0] (r 6) (r 6)), i 3 (.mv (r 7))]
def A_ref04_text_2 : Row := [i 4 (.mv (.const (.int (.i64) 0)))]
def A_ref04_text_3 : Row := [i 8 (.mv (r 4)), i 9 (.mv (r 0)), i 10 (.lenSlice (r 9)), i 11 (.bin (.lss) (r 8) (r 10))]
def A_ref04_text_4 : Row := [i 14 (.mv (r 3)), i 15 (.mv (r 4)), i 16 (.mv (r 0)), i 17 (.mv (r 4)), i 18 (.indexAddr 1 (r 16) (r 17)), i 19 (.load none (r 18)), i 20
  (.convInt (.u8) (r 19)), i 21 (.indexAddr 1 (r 14) (r 15)), i0 (.store 1 (r 21) (r 20))]
def A_ref04_text_5 : Row := [i 12 (.mv (r 4)), i 13 (.bin (.add) (r 12) (.const (.int (.i64) 1))), i 4 (.mv (r 13))]
def A_ref04_text_6 : ACode := (.seq (.seq (.ops A_ref04_text_3) (.cond (r 11) .skip (.exit 0))) (.seq (.block 1 (.ops A_ref04_text_4)) (.ops A_ref04_text_5)))
def A_ref04_text_7 : Row := [i 22 (.mv (r 3)), i 23 (.bytesStr (r 22)), i 2 (.mv (r 23))]
/-- diorama/dioramaref04.text -/
def A_ref04_text : AFunc :=
 ⟨24, [.tmp 2], (.seq (.ops A_ref04_text_0) (.seq (.ops A_ref04_text_1) (.seq (.seq (.ops A_ref04_text_2) (.block 0 (.loop A_ref04_text_6))) (.seq (.ops A_ref04_text_7)
  .ret))))⟩
/-! diorama/poskey.Spread$1 -/
def A_poskey_Spread_c1_0 : Row := [i 8 (.mv (.const (.int (.i64) 0)))]
def A_poskey_Spread_c1_1 : Row := [i 12 (.mv (r 2)), i 13 (.bin (.eql) (r 12) (.const (.int (.i64) 0)))]
def A_poskey_Spread_c1_2 : Row := [i 8 (.mv (.const (.int (.i64) 0)))]
def A_poskey_Spread_c1_3 : Row := [i 15 (.mv (r 0)), i 16 (.mv (r 1)), i 17 (.call (.func F_poskey_Between) [.tmp 15, .tmp 16]), i 14 (.mv (r 17)), i 18 (.extract (r 14) 0), i
  19 (.extract (r 14) 1), i 9 (.mv (r 18)), i 10 (.mv (r 19))]
def A_poskey_Spread_c1_4 : Row := [i 20 (.mv (r 2)), i 21 (.bin (.sub) (r 20) (.const (.int (.i64) 1))), i 22 (.bin (.quo) (r 21) (.const (.int (.i64) 2))), i 11 (.mv (r 22))]
def A_poskey_Spread_c1_5 : Row := [i 23 (.mv (r 10)), i 24 (.bin (.eql) (r 23) (.const (.int (.i64) 0)))]
def A_poskey_Spread_c1_6 : Row := [i 25 (.load none (r 3)), i 26 (.mv (r 0)), i 27 (.mv (r 9)), i 28 (.mv (r 11)), i 29 (.call (r 25) [.tmp 26, .tmp 27, .tmp 28]), i 10 (.mv
  (r 29))]
def A_poskey_Spread_c1_7 : Row := [i 30 (.mv (r 10)), i 31 (.bin (.neq) (r 30) (.const (.int (.i64) 0)))]
def A_poskey_Spread_c1_8 : Row := [i 32 (.mv (r 10)), i 8 (.mv (r 32))]
def A_poskey_Spread_c1_9 : Row := [i 33 (.load none (r 4)), i 34 (.mv (r 9)), i 35 (.buildSlice 1 [.str []] [(0, 1, .tmp 34)]), i 36 (.append 1 16 (r 33) (r 35)), i0 (.store 1
  (r 4) (r 36))]
def A_poskey_Spread_c1_10 : Row := [i 37 (.load none (r 3)), i 38 (.mv (r 9)), i 39 (.mv (r 1)), i 40 (.mv (r 2)), i 41 (.bin (.sub) (r 40) (.const (.int (.i64) 1))), i 42
  (.mv (r 11)), i 43 (.bin (.sub) (r 41) (r 42)), i 44 (.call (r 37) [.tmp 38, .tmp 39, .tmp 43]), i 8 (.mv (r 44))]
/-- diorama/poskey.Spread$1 -/
def A_poskey_Spread_c1 : AFunc :=
 ⟨45, [.tmp 8], (.seq (.ops A_poskey_Spread_c1_0) (.seq (.seq (.ops A_poskey_Spread_c1_1) (.cond (r 13) (.seq (.ops A_poskey_Spread_c1_2) .ret) .skip)) (.seq (.ops
  A_poskey_Spread_c1_3) (.seq (.ops A_poskey_Spread_c1_4) (.seq (.seq (.ops A_poskey_Spread_c1_5) (.cond (r 24) (.ops A_poskey_Spread_c1_6) .skip)) (.seq (.seq (.ops
  A_poskey_Spread_c1_7) (.cond (r 31) (.seq (.ops A_poskey_Spread_c1_8) .ret) .skip)) (.seq (.ops A_poskey_Spread_c1_9) (.seq (.ops A_poskey_Spread_c1_10) .ret))))))))⟩
/-! diorama/poskey.fine$1 -/
def A_poskey_fine_c1_0 : Row := [i 2 (.mv (.const (.bool false)))]
def A_poskey_fine_c1_1 : Row := [i 3 (.mv (r 0)), i 4 (.bin (.eql) (r 3) (.const (.str []))), i 5 (.mv (r 4)), g 6 (.mv (r 0)) 5 false, g 7 (.call (.func F_poskey_Right) [.tmp
  6]) 5 false, i 8 (.pick (r 5) (.const (.bool true)) (r 7)), i 2 (.mv (r 8))]
/-- diorama/poskey.fine$1 -/
def A_poskey_fine_c1 : AFunc :=
 ⟨9, [.tmp 2], (.seq (.ops A_poskey_fine_c1_0) (.seq (.ops A_poskey_fine_c1_1) .ret))⟩
/-! diorama/poskey.digit -/
def A_poskey_digit_0 : Row := [i 4 (.mv (.const (.int (.i64) 0)))]
def A_poskey_digit_1 : Row := [i 5 (.mv (r 1)), i 6 (.mv (r 0)), i 7 (.lenStr (r 6)), i 8 (.bin (.lss) (r 5) (r 7))]
def A_poskey_digit_2 : Row := [i 9 (.mv (r 0)), i 10 (.mv (r 1)), i 11 (.indexStr (r 9) (r 10)), i 12 (.convInt (.i64) (r 11)), i 4 (.mv (r 12))]
def A_poskey_digit_3 : Row := [i 4 (.mv (.const (.int (.i64) 0)))]
/-- diorama/poskey.digit -/
def A_poskey_digit : AFunc :=
 ⟨13, [.tmp 4], (.seq (.ops A_poskey_digit_0) (.seq (.seq (.ops A_poskey_digit_1) (.cond (r 8) (.seq (.ops A_poskey_digit_2) .ret) .skip)) (.seq (.ops A_poskey_digit_3)
  .ret)))⟩
/-! diorama/dioramaref04.Right -/
def A_ref04_Right_0 : Row := [i 2 (.mv (.const (.bool false)))]
def A_ref04_Right_1 : Row := [i 3 (.mv (r 0)), i 4 (.lenStr (r 3)), i 5 (.bin (.geq) (r 4) (.const (.int (.i64) 1))), i 6 (.mv (r 5)), g 7 (.mv (r 0)) 6 true, g 8 (.lenStr (r
  7)) 6 true, g 9 (.bin (.leq) (r 8) (.const (.int (.i64) 24))) 6 true, i 10 (.pick (r 6) (r 9) (.const (.bool false))), i 11 (.mv (r 10)), g 12 (.mv (r 0)) 11 true, g 13
  (.mv (r 0)) 11 true, g 14 (.lenStr (r 13)) 11 true, g 15 (.bin (.sub) (r 14) (.const (.int (.i64) 1))) 11 true, g 16 (.indexStr (r 12) (r 15)) 11 true, g 17 (.bin (.neq)
  (r 16) (.const (.int (.u8) 0))) 11 true, i 18 (.pick (r 11) (r 17) (.const (.bool false))), i 2 (.mv (r 18))]
/-- diorama/dioramaref04.Right -/
def A_ref04_Right : AFunc :=
 ⟨19, [.tmp 2], (.seq (.ops A_ref04_Right_0) (.seq (.ops A_ref04_Right_1) .ret))⟩
/-! diorama/dioramaref04.digit -/
def A_ref04_digit_0 : Row := [i 4 (.mv (.const (.int (.i64) 0)))]
def A_ref04_digit_1 : Row := [i 5 (.mv (r 1)), i 6 (.mv (r 0)), i 7 (.lenStr (r 6)), i 8 (.bin (.lss) (r 5) (r 7))]
def A_ref04_digit_2 : Row := [i 9 (.mv (r 0)), i 10 (.mv (r 1)), i 11 (.indexStr (r 9) (r 10)), i 12 (.convInt (.i64) (r 11)), i 4 (.mv (r 12))]
def A_ref04_digit_3 : Row := [i 4 (.mv (.const (.int (.i64) 0)))]
/-- diorama/dioramaref04.digit -/
def A_ref04_digit : AFunc :=
 ⟨13, [.tmp 4], (.seq (.ops A_ref04_digit_0) (.seq (.seq (.ops A_ref04_digit_1) (.cond (r 8) (.seq (.ops A_ref04_digit_2) .ret) .skip)) (.seq (.ops A_ref04_digit_3)
  .ret)))⟩
/-! diorama/dioramaref04.carry -/
def A_ref04_carry_0 : Row := [i 2 (.mv (.const (.bool false)))]
def A_ref04_carry_1 : Row := [i 4 (.mv (r 0)), i 5 (.lenSlice (r 4)), i 6 (.bin (.sub) (r 5) (.const (.int (.i64) 1))), i 3 (.mv (r 6))]
def A_ref04_carry_2 : Row := [i 7 (.mv (r 3)), i 8 (.bin (.geq) (r 7) (.const (.int (.i64) 0)))]
def A_ref04_carry_3 : Row := [i 11 (.mv (r 0)), i 12 (.mv (r 3)), i 13 (.indexAddr 1 (r 11) (r 12)), i 14 (.load none (r 13)), i 15 (.bin (.lss) (r 14) (.const (.int (.i64)
  255)))]
def A_ref04_carry_4 : Row := [i 16 (.mv (r 0)), i 17 (.mv (r 3)), i 18 (.indexAddr 1 (r 16) (r 17)), i 19 (.load none (r 18)), i 20 (.bin (.add) (r 19) (.const (.int (.i64)
  1))), i 21 (.indexAddr 1 (r 16) (r 17)), i0 (.store 1 (r 21) (r 20))]
def A_ref04_carry_5 : Row := [i 2 (.mv (.const (.bool true)))]
def A_ref04_carry_6 : Row := [i 22 (.mv (r 0)), i 23 (.mv (r 3)), i 24 (.indexAddr 1 (r 22) (r 23)), i0 (.store 1 (r 24) (.const (.int (.i64) 0)))]
def A_ref04_carry_7 : Row := [i 9 (.mv (r 3)), i 10 (.bin (.sub) (r 9) (.const (.int (.i64) 1))), i 3 (.mv (r 10))]
def A_ref04_carry_8 : ACode := (.seq (.seq (.ops A_ref04_carry_2) (.cond (r 8) .skip (.exit 0))) (.seq (.block 1 (.seq (.seq (.ops A_ref04_carry_3) (.cond (r 15) (.seq (.ops
  A_ref04_carry_4) (.seq (.ops A_ref04_carry_5) .ret)) .skip)) (.ops A_ref04_carry_6))) (.ops A_ref04_carry_7)))
def A_ref04_carry_9 : Row := [i 2 (.mv (.const (.bool false)))]
/-- diorama/dioramaref04.carry -/
def A_ref04_carry : AFunc :=
 ⟨25, [.tmp 2], (.seq (.ops A_ref04_carry_0) (.seq (.seq (.ops A_ref04_carry_1) (.block 0 (.loop A_ref04_carry_8))) (.seq (.ops A_ref04_carry_9) .ret)))⟩
/-! slices.SortedFunc[diorama/order.Sib] -/
def X_slices_SortedFunc_Sib_0 : List XItem := [⟨(some 4), .a (.mv (.const (.slice none 0 (.exact 0)))), none⟩]
def X_slices_SortedFunc_Sib_1 : List XItem := [⟨(some 6), .a (.mv (r 0)), none⟩, ⟨(some 7), .a (.call (.func F_slices_Collect_Sib) [.tmp 6]), none⟩, ⟨(some 5), .a (.mv (r 7)),
  none⟩]
def X_slices_SortedFunc_Sib_2 : List XItem := [⟨(some 8), .a (.mv (r 5)), none⟩, ⟨(some 9), .a (.mv (r 1)), none⟩, ⟨(some 10), .a (.call (.func F_slices_SortFunc_Sib) [.tmp 8,
  .tmp 9]), none⟩]
def X_slices_SortedFunc_Sib_3 : List XItem := [⟨(some 11), .a (.mv (r 5)), none⟩, ⟨(some 4), .a (.mv (r 11)), none⟩]
/-- slices.SortedFunc[diorama/order.Sib] -/
def X_slices_SortedFunc_Sib : XCode :=
 (.seq (.ops X_slices_SortedFunc_Sib_0) (.seq (.ops X_slices_SortedFunc_Sib_1) (.seq (.ops X_slices_SortedFunc_Sib_2) (.seq (.ops X_slices_SortedFunc_Sib_3) .ret))))
/-! slices.Collect[diorama/order.Sib] -/
def X_slices_Collect_Sib_0 : List XItem := [⟨(some 2), .a (.mv (.const (.slice none 0 (.exact 0)))), none⟩]
def X_slices_Collect_Sib_1 : List XItem := [⟨(some 3), .a (.mv (r 0)), none⟩, ⟨(some 4), .a (.call (.func F_slices_AppendSeq_Sib) [.const (.slice none 0 (.exact 0)), .tmp 3]),
  none⟩, ⟨(some 2), .a (.mv (r 4)), none⟩]
/-- slices.Collect[diorama/order.Sib] -/
def X_slices_Collect_Sib : XCode :=
 (.seq (.ops X_slices_Collect_Sib_0) (.seq (.ops X_slices_Collect_Sib_1) .ret))
/-! slices.Values[[]diorama/order.Sib,diorama/order.Sib]$1 -/
def X_slices_Values_Sib_c1_0 : List XItem := [⟨(some 5), .a (.load none (r 1)), none⟩, ⟨(some 6), .a (.lenSlice (r 5)), none⟩, ⟨(some 7), .a (.mv (.const (.int (.i64) 0))),
  none⟩]
def X_slices_Values_Sib_c1_1 : List XItem := [⟨(some 8), .a (.bin (.lss) (r 7) (r 6)), none⟩]
def X_slices_Values_Sib_c1_2 : List XItem := [⟨(some 9), .a (.indexAddr 3 (r 5) (r 7)), none⟩, ⟨(some 10), .a (.load (some 3) (r 9)), none⟩, ⟨(some 4), .a (.alloc [.str [],
  .int (.i64) 0, .int (.i64) 0]), none⟩, ⟨none, .a (.store 3 (r 4) (r 10)), none⟩]
def X_slices_Values_Sib_c1_3 : List XItem := [⟨(some 11), .a (.mv (r 0)), none⟩, ⟨(some 12), .a (.load (some 3) (r 4)), none⟩, ⟨(some 13), .a (.call (r 11) [.tmp 12]), none⟩,
  ⟨(some 14), .a (.un (.not) (r 13)), none⟩]
def X_slices_Values_Sib_c1_4 : List XItem := [⟨(some 15), .a (.bin (.add) (r 7) (.const (.int (.i64) 1))), none⟩, ⟨(some 7), .a (.mv (r 15)), none⟩]
def X_slices_Values_Sib_c1_5 : XCode := (.seq (.ops X_slices_Values_Sib_c1_1) (.seq (.cond (r 8) .skip (.exit 0)) (.seq (.block 1 (.seq (.ops X_slices_Values_Sib_c1_2) (.seq
  (.ops X_slices_Values_Sib_c1_3) (.cond (r 14) .ret .skip)))) (.ops X_slices_Values_Sib_c1_4))))
/-- slices.Values[[]diorama/order.Sib,diorama/order.Sib]$1 -/
def X_slices_Values_Sib_c1 : XCode :=
 (.seq (.ops X_slices_Values_Sib_c1_0) (.block 0 (.loop X_slices_Values_Sib_c1_5)))
/-! slices.AppendSeq[[]diorama/order.Sib,diorama/order.Sib] -/
def X_slices_AppendSeq_Sib_0 : List XItem := [⟨(some 2), .a (.box (r 0)), none⟩, ⟨(some 4), .a (.mv (.const (.slice none 0 (.exact 0)))), none⟩]
def X_slices_AppendSeq_Sib_1 : List XItem := [⟨(some 6), .a (.mv (r 1)), none⟩]
def X_slices_AppendSeq_Sib_2 : List XItem := [⟨(some 5), .a (.alloc [.str [], .int (.i64) 0, .int (.i64) 0]), none⟩, ⟨none, .a (.store 3 (r 5) (r 7)), none⟩]
def X_slices_AppendSeq_Sib_3 : List XItem := [⟨(some 8), .a (.load none (r 2)), none⟩, ⟨(some 9), .a (.load (some 3) (r 5)), none⟩, ⟨(some 10), .a (.buildSlice 1 [.str [],
  .int (.i64) 0, .int (.i64) 0] [(0, 3, .tmp 9)]), none⟩, ⟨(some 11), .a (.append 3 32 (r 8) (r 10)), none⟩, ⟨none, .a (.store 1 (r 2) (r 11)), none⟩]
def X_slices_AppendSeq_Sib_4 : XCode := (.ops X_slices_AppendSeq_Sib_2)
def X_slices_AppendSeq_Sib_5 : XCode := (.block 1 (.ops X_slices_AppendSeq_Sib_3))
def X_slices_AppendSeq_Sib_6 : List XItem := [⟨(some 12), .a (.load none (r 2)), none⟩, ⟨(some 4), .a (.mv (r 12)), none⟩]
/-- slices.AppendSeq[[]diorama/order.Sib,diorama/order.Sib] -/
def X_slices_AppendSeq_Sib : XCode :=
 (.seq (.ops X_slices_AppendSeq_Sib_0) (.seq (.seq (.ops X_slices_AppendSeq_Sib_1) (.block 0 (.range (r 6) [7] X_slices_AppendSeq_Sib_4 X_slices_AppendSeq_Sib_5))) (.seq
  (.ops X_slices_AppendSeq_Sib_6) .ret)))
def gl0 : Nat → Bool := fun g => Nat.ble (g + 1) 0
set_option maxRecDepth 100000
theorem c_law11_OrderStands : cFunc Try.prog gl0 Try.f3 = some A_law11_OrderStands := by kernel_rfl
theorem c_law11_OrderOne : cFunc Try.prog gl0 Try.f4 = some A_law11_OrderOne := by kernel_rfl
theorem c_law11_OrderRows : cFunc Try.prog gl0 Try.f5 = some A_law11_OrderRows := by kernel_rfl
theorem c_law11_long : cFunc Try.prog gl0 Try.f6 = some A_law11_long := by kernel_rfl
theorem c_law11_knows : cFunc Try.prog gl0 Try.f7 = some A_law11_knows := by kernel_rfl
theorem c_order_Sort : cFunc Try.prog gl0 Try.f8 = some A_order_Sort := by kernel_rfl
theorem c_law11_Own : cFunc Try.prog gl0 Try.f9 = some A_law11_Own := by kernel_rfl
theorem c_order_Key : cFunc Try.prog gl0 Try.f10 = some A_order_Key := by kernel_rfl
theorem c_law11_num : cFunc Try.prog gl0 Try.f11 = some A_law11_num := by kernel_rfl
theorem c_law11_fine : cFunc Try.prog gl0 Try.f12 = some A_law11_fine := by kernel_rfl
theorem c_order_Before : cFunc Try.prog gl0 Try.f13 = some A_order_Before := by kernel_rfl
theorem c_ref11_Sort : cFunc Try.prog gl0 Try.f14 = some A_ref11_Sort := by kernel_rfl
theorem c_law11_Same : cFunc Try.prog gl0 Try.f15 = some A_law11_Same := by kernel_rfl
theorem c_order_Find : cFunc Try.prog gl0 Try.f16 = some A_order_Find := by kernel_rfl
theorem c_ref11_Find : cFunc Try.prog gl0 Try.f17 = some A_ref11_Find := by kernel_rfl
theorem c_ref11_Before : cFunc Try.prog gl0 Try.f18 = some A_ref11_Before := by kernel_rfl
theorem c_ref11_Key : cFunc Try.prog gl0 Try.f19 = some A_ref11_Key := by kernel_rfl
theorem c_order_Keys : cFunc Try.prog gl0 Try.f20 = some A_order_Keys := by kernel_rfl
theorem c_ref11_Keys : cFunc Try.prog gl0 Try.f21 = some A_ref11_Keys := by kernel_rfl
theorem c_order_Sort_c1 : cFunc Try.prog gl0 Try.f22 = some A_order_Sort_c1 := by kernel_rfl
theorem c_slices_Values_Sib : cFunc Try.prog gl0 Try.f24 = some A_slices_Values_Sib := by kernel_rfl
theorem c_order_gap : cFunc Try.prog gl0 Try.f25 = some A_order_gap := by kernel_rfl
theorem c_order_Key_c1 : cFunc Try.prog gl0 Try.f26 = some A_order_Key_c1 := by kernel_rfl
theorem c_poskey_Between : cFunc Try.prog gl0 Try.f27 = some A_poskey_Between := by kernel_rfl
theorem c_poskey_Right : cFunc Try.prog gl0 Try.f28 = some A_poskey_Right := by kernel_rfl
theorem c_stamp_Compare : cFunc Try.prog gl0 Try.f29 = some A_stamp_Compare := by kernel_rfl
theorem c_poskey_Compare : cFunc Try.prog gl0 Try.f30 = some A_poskey_Compare := by kernel_rfl
theorem c_slices_IndexFunc_Sib : cFunc Try.prog gl0 Try.f31 = some A_slices_IndexFunc_Sib := by kernel_rfl
theorem c_order_Find_c1 : cFunc Try.prog gl0 Try.f32 = some A_order_Find_c1 := by kernel_rfl
theorem c_ref04_Compare : cFunc Try.prog gl0 Try.f33 = some A_ref04_Compare := by kernel_rfl
theorem c_ref02_Compare : cFunc Try.prog gl0 Try.f34 = some A_ref02_Compare := by kernel_rfl
theorem c_ref11_gap : cFunc Try.prog gl0 Try.f35 = some A_ref11_gap := by kernel_rfl
theorem c_ref04_Between : cFunc Try.prog gl0 Try.f36 = some A_ref04_Between := by kernel_rfl
theorem c_order_Keys_c1 : cFunc Try.prog gl0 Try.f37 = some A_order_Keys_c1 := by kernel_rfl
theorem c_poskey_Spread : cFunc Try.prog gl0 Try.f38 = some A_poskey_Spread := by kernel_rfl
theorem c_ref04_Spread : cFunc Try.prog gl0 Try.f39 = some A_ref04_Spread := by kernel_rfl
theorem c_poskey_fine : cFunc Try.prog gl0 Try.f43 = some A_poskey_fine := by kernel_rfl
theorem c_poskey_above : cFunc Try.prog gl0 Try.f44 = some A_poskey_above := by kernel_rfl
theorem c_poskey_greatest : cFunc Try.prog gl0 Try.f45 = some A_poskey_greatest := by kernel_rfl
theorem c_ref11_row : cFunc Try.prog gl0 Try.f47 = some A_ref11_row := by kernel_rfl
theorem c_ref04_fine : cFunc Try.prog gl0 Try.f48 = some A_ref04_fine := by kernel_rfl
theorem c_ref04_first : cFunc Try.prog gl0 Try.f49 = some A_ref04_first := by kernel_rfl
theorem c_ref04_below : cFunc Try.prog gl0 Try.f50 = some A_ref04_below := by kernel_rfl
theorem c_ref04_text : cFunc Try.prog gl0 Try.f51 = some A_ref04_text := by kernel_rfl
theorem c_poskey_Spread_c1 : cFunc Try.prog gl0 Try.f52 = some A_poskey_Spread_c1 := by kernel_rfl
theorem c_poskey_fine_c1 : cFunc Try.prog gl0 Try.f56 = some A_poskey_fine_c1 := by kernel_rfl
theorem c_poskey_digit : cFunc Try.prog gl0 Try.f57 = some A_poskey_digit := by kernel_rfl
theorem c_ref04_Right : cFunc Try.prog gl0 Try.f59 = some A_ref04_Right := by kernel_rfl
theorem c_ref04_digit : cFunc Try.prog gl0 Try.f60 = some A_ref04_digit := by kernel_rfl
theorem c_ref04_carry : cFunc Try.prog gl0 Try.f61 = some A_ref04_carry := by kernel_rfl
theorem b_slices_SortedFunc_Sib : ∃ c, Try.f23.body = some c ∧ cX Try.prog gl0 c = X_slices_SortedFunc_Sib := ⟨_, rfl, by kernel_rfl⟩
theorem r_slices_SortedFunc_Sib : cRes Try.prog Try.f23.results.toList = some [.tmp 4] := by kernel_rfl
theorem n_slices_SortedFunc_Sib : Try.f23.ntmps = 12 ∧ (Try.f23.name == "runtime.NumGoroutine") = false := ⟨by kernel_rfl, by kernel_rfl⟩
theorem b_slices_Collect_Sib : ∃ c, Try.f40.body = some c ∧ cX Try.prog gl0 c = X_slices_Collect_Sib := ⟨_, rfl, by kernel_rfl⟩
theorem r_slices_Collect_Sib : cRes Try.prog Try.f40.results.toList = some [.tmp 2] := by kernel_rfl
theorem n_slices_Collect_Sib : Try.f40.ntmps = 5 ∧ (Try.f40.name == "runtime.NumGoroutine") = false := ⟨by kernel_rfl, by kernel_rfl⟩
theorem b_slices_Values_Sib_c1 : ∃ c, Try.f42.body = some c ∧ cX Try.prog gl0 c = X_slices_Values_Sib_c1 := ⟨_, rfl, by kernel_rfl⟩
theorem r_slices_Values_Sib_c1 : cRes Try.prog Try.f42.results.toList = some [] := by kernel_rfl
theorem n_slices_Values_Sib_c1 : Try.f42.ntmps = 16 ∧ (Try.f42.name == "runtime.NumGoroutine") = false := ⟨by kernel_rfl, by kernel_rfl⟩
theorem b_slices_AppendSeq_Sib : ∃ c, Try.f53.body = some c ∧ cX Try.prog gl0 c = X_slices_AppendSeq_Sib := ⟨_, rfl, by kernel_rfl⟩
theorem r_slices_AppendSeq_Sib : cRes Try.prog Try.f53.results.toList = some [.tmp 4] := by kernel_rfl
theorem n_slices_AppendSeq_Sib : Try.f53.ntmps = 13 ∧ (Try.f53.name == "runtime.NumGoroutine") = false := ⟨by kernel_rfl, by kernel_rfl⟩
theorem mixed : Try.prog.follows .mixedOrders = true := by kernel_rfl
def codes0 : List (Nat × AFunc) := [(F_law11_OrderStands, A_law11_OrderStands), (F_law11_OrderOne, A_law11_OrderOne), (F_law11_OrderRows, A_law11_OrderRows), (F_law11_long, A_law11_long), (F_law11_knows, A_law11_knows), (F_order_Sort, A_order_Sort), (F_law11_Own, A_law11_Own), (F_order_Key, A_order_Key), (F_law11_num, A_law11_num), (F_law11_fine, A_law11_fine), (F_order_Before, A_order_Before), (F_ref11_Sort, A_ref11_Sort), (F_law11_Same, A_law11_Same), (F_order_Find, A_order_Find), (F_ref11_Find, A_ref11_Find), (F_ref11_Before, A_ref11_Before), (F_ref11_Key, A_ref11_Key), (F_order_Keys, A_order_Keys), (F_ref11_Keys, A_ref11_Keys), (F_order_Sort_c1, A_order_Sort_c1), (F_slices_Values_Sib, A_slices_Values_Sib), (F_order_gap, A_order_gap), (F_order_Key_c1, A_order_Key_c1), (F_poskey_Between, A_poskey_Between), (F_poskey_Right, A_poskey_Right), (F_stamp_Compare, A_stamp_Compare), (F_poskey_Compare, A_poskey_Compare), (F_slices_IndexFunc_Sib, A_slices_IndexFunc_Sib), (F_order_Find_c1, A_order_Find_c1), (F_ref04_Compare, A_ref04_Compare), (F_ref02_Compare, A_ref02_Compare), (F_ref11_gap, A_ref11_gap), (F_ref04_Between, A_ref04_Between), (F_order_Keys_c1, A_order_Keys_c1), (F_poskey_Spread, A_poskey_Spread), (F_ref04_Spread, A_ref04_Spread), (F_poskey_fine, A_poskey_fine), (F_poskey_above, A_poskey_above), (F_poskey_greatest, A_poskey_greatest), (F_ref11_row, A_ref11_row)]
theorem codes0_ok : ∀ x ∈ codes0, ∃ fn, Try.prog.funcs[x.1]? = some fn ∧ (fn.name == "runtime.NumGoroutine") = false ∧ cFunc Try.prog gl0 fn = some x.2 := by
  unfold codes0
  simp only [List.forall_mem_cons]
  exact ⟨⟨_, Try.func3, (by kernel_rfl), c_law11_OrderStands⟩, ⟨_, Try.func4, (by kernel_rfl), c_law11_OrderOne⟩, ⟨_, Try.func5, (by kernel_rfl), c_law11_OrderRows⟩, ⟨_, Try.func6, (by kernel_rfl), c_law11_long⟩, ⟨_, Try.func7, (by kernel_rfl), c_law11_knows⟩, ⟨_, Try.func8, (by kernel_rfl), c_order_Sort⟩, ⟨_, Try.func9, (by kernel_rfl), c_law11_Own⟩, ⟨_, Try.func10, (by kernel_rfl), c_order_Key⟩, ⟨_, Try.func11, (by kernel_rfl), c_law11_num⟩, ⟨_, Try.func12, (by kernel_rfl), c_law11_fine⟩, ⟨_, Try.func13, (by kernel_rfl), c_order_Before⟩, ⟨_, Try.func14, (by kernel_rfl), c_ref11_Sort⟩, ⟨_, Try.func15, (by kernel_rfl), c_law11_Same⟩, ⟨_, Try.func16, (by kernel_rfl), c_order_Find⟩, ⟨_, Try.func17, (by kernel_rfl), c_ref11_Find⟩, ⟨_, Try.func18, (by kernel_rfl), c_ref11_Before⟩, ⟨_, Try.func19, (by kernel_rfl), c_ref11_Key⟩, ⟨_, Try.func20, (by kernel_rfl), c_order_Keys⟩, ⟨_, Try.func21, (by kernel_rfl), c_ref11_Keys⟩, ⟨_, Try.func22, (by kernel_rfl), c_order_Sort_c1⟩, ⟨_, Try.func24, (by kernel_rfl), c_slices_Values_Sib⟩, ⟨_, Try.func25, (by kernel_rfl), c_order_gap⟩, ⟨_, Try.func26, (by kernel_rfl), c_order_Key_c1⟩, ⟨_, Try.func27, (by kernel_rfl), c_poskey_Between⟩, ⟨_, Try.func28, (by kernel_rfl), c_poskey_Right⟩, ⟨_, Try.func29, (by kernel_rfl), c_stamp_Compare⟩, ⟨_, Try.func30, (by kernel_rfl), c_poskey_Compare⟩, ⟨_, Try.func31, (by kernel_rfl), c_slices_IndexFunc_Sib⟩, ⟨_, Try.func32, (by kernel_rfl), c_order_Find_c1⟩, ⟨_, Try.func33, (by kernel_rfl), c_ref04_Compare⟩, ⟨_, Try.func34, (by kernel_rfl), c_ref02_Compare⟩, ⟨_, Try.func35, (by kernel_rfl), c_ref11_gap⟩, ⟨_, Try.func36, (by kernel_rfl), c_ref04_Between⟩, ⟨_, Try.func37, (by kernel_rfl), c_order_Keys_c1⟩, ⟨_, Try.func38, (by kernel_rfl), c_poskey_Spread⟩, ⟨_, Try.func39, (by kernel_rfl), c_ref04_Spread⟩, ⟨_, Try.func43, (by kernel_rfl), c_poskey_fine⟩, ⟨_, Try.func44, (by kernel_rfl), c_poskey_above⟩, ⟨_, Try.func45, (by kernel_rfl), c_poskey_greatest⟩, ⟨_, Try.func47, (by kernel_rfl), c_ref11_row⟩, fun _ h => (by cases h)⟩
def codes1 : List (Nat × AFunc) := [(F_ref04_fine, A_ref04_fine), (F_ref04_first, A_ref04_first), (F_ref04_below, A_ref04_below), (F_ref04_text, A_ref04_text), (F_poskey_Spread_c1, A_poskey_Spread_c1), (F_poskey_fine_c1, A_poskey_fine_c1), (F_poskey_digit, A_poskey_digit), (F_ref04_Right, A_ref04_Right), (F_ref04_digit, A_ref04_digit), (F_ref04_carry, A_ref04_carry)]
theorem codes1_ok : ∀ x ∈ codes1, ∃ fn, Try.prog.funcs[x.1]? = some fn ∧ (fn.name == "runtime.NumGoroutine") = false ∧ cFunc Try.prog gl0 fn = some x.2 := by
  unfold codes1
  simp only [List.forall_mem_cons]
  exact ⟨⟨_, Try.func48, (by kernel_rfl), c_ref04_fine⟩, ⟨_, Try.func49, (by kernel_rfl), c_ref04_first⟩, ⟨_, Try.func50, (by kernel_rfl), c_ref04_below⟩, ⟨_, Try.func51, (by kernel_rfl), c_ref04_text⟩, ⟨_, Try.func52, (by kernel_rfl), c_poskey_Spread_c1⟩, ⟨_, Try.func56, (by kernel_rfl), c_poskey_fine_c1⟩, ⟨_, Try.func57, (by kernel_rfl), c_poskey_digit⟩, ⟨_, Try.func59, (by kernel_rfl), c_ref04_Right⟩, ⟨_, Try.func60, (by kernel_rfl), c_ref04_digit⟩, ⟨_, Try.func61, (by kernel_rfl), c_ref04_carry⟩, fun _ h => (by cases h)⟩
def codes : List (Nat × AFunc) := codes0 ++ codes1
theorem codes_ok : ∀ x ∈ codes, ∃ fn, Try.prog.funcs[x.1]? = some fn ∧ (fn.name == "runtime.NumGoroutine") = false ∧ cFunc Try.prog gl0 fn = some x.2 := by
  intro x hx
  simp only [codes, List.mem_append] at hx
  rcases hx with (h | h)
  · exact codes0_ok x h
  · exact codes1_ok x h
end Go.Am.Try

/- slices.SortFunc as a part of the machine: by the kit's contract, at elements of some cells. -/
namespace Go.Am
open Go Go.RowKit Go.Sort

/-- How elements stand in cells. -/
structure Elem (α : Type) where
  k : Nat
  cv : α → List V
  enc : α → List Value
  dec : List V → Option α
  k_pos : 0 < k
  len : ∀ x, (cv x).length = k
  elen : ∀ x, (enc x).length = k
  dec_some : ∀ cs x, dec cs = some x → cs = cv x
  dec_cv : ∀ x, dec (cv x) = some x
  rel : ∀ E x, VRs E (cv x) (enc x)
  rel_eq : ∀ E x us, VRs E (cv x) us → us = enc x
  one : ∀ x, ∀ v ∈ enc x, v.oneCell' = true
  one' : ∀ x, allOne (cv x) = true
  flat : ∀ x, V.flats (cv x) = true

section
variable {α : Type} (e : Elem α)
def Elem.all (l : List α) : List V := l.flatMap e.cv
def Elem.encs (l : List α) : List Value := l.flatMap e.enc
def Elem.decs : Nat → List V → Option (List α)
  | 0, [] => some []
  | 0, _ :: _ => none
  | n + 1, cs => (e.dec (cs.take e.k)).bind fun x => (Elem.decs n (cs.drop e.k)).map (x :: ·)
theorem Elem.all_len (l : List α) : (e.all l).length = l.length * e.k := by
  induction l with
  | nil => simp [Elem.all]
  | cons x l ih => simp only [Elem.all, List.flatMap_cons, List.length_append, List.length_cons, e.len, Nat.add_mul, Nat.one_mul] at ih ⊢; omega
theorem Elem.encs_len (l : List α) : (e.encs l).length = l.length * e.k := by
  induction l with
  | nil => simp [Elem.encs]
  | cons x l ih => simp only [Elem.encs, List.flatMap_cons, List.length_append, List.length_cons, e.elen, Nat.add_mul, Nat.one_mul] at ih ⊢; omega
theorem Elem.decs_some : ∀ {n : Nat} {cs : List V} {l : List α}, e.decs n cs = some l → l.length = n ∧ cs = e.all l
  | 0, [], l, h => by cases h; exact ⟨rfl, rfl⟩
  | 0, _ :: _, l, h => by cases h
  | n + 1, cs, l, h => by
    simp only [Elem.decs, Option.bind_eq_some_iff, Option.map_eq_some_iff] at h
    obtain ⟨x, hx, l', hl, rfl⟩ := h
    obtain ⟨h1, h2⟩ := Elem.decs_some hl
    refine ⟨by simp [h1], ?_⟩
    show cs = e.cv x ++ l'.flatMap e.cv
    rw [← e.dec_some _ _ hx, show l'.flatMap e.cv = e.all l' from rfl, ← h2, List.take_append_drop]
theorem Elem.decs_all : ∀ (l : List α), e.decs l.length (e.all l) = some l
  | [] => rfl
  | x :: l => by
    have h1 : (e.all (x :: l)).take e.k = e.cv x := by
      show (e.cv x ++ l.flatMap e.cv).take e.k = _
      rw [← e.len x, List.take_left]
    have h2 : (e.all (x :: l)).drop e.k = e.all l := by
      show (e.cv x ++ l.flatMap e.cv).drop e.k = _
      rw [← e.len x, List.drop_left]; rfl
    simp only [List.length_cons, Elem.decs, h1, h2, e.dec_cv, Option.bind_some, Elem.decs_all l, Option.map_some]
theorem Elem.rels (E : Emb) : ∀ l : List α, VRs E (e.all l) (e.encs l)
  | [] => .nil
  | x :: l => (e.rel E x).app (Elem.rels E l)
theorem VRs.split {E : Emb} : ∀ {xs ys : List V} {us : List Value}, VRs E (xs ++ ys) us → ∃ u1 u2, us = u1 ++ u2 ∧ VRs E xs u1 ∧ VRs E ys u2
  | [], ys, us, h => ⟨[], us, rfl, .nil, h⟩
  | x :: xs, ys, _, .cons h t => by
    obtain ⟨u1, u2, rfl, h1, h2⟩ := VRs.split t
    exact ⟨_ :: u1, u2, rfl, .cons h h1, h2⟩
theorem Elem.rels_eq (E : Emb) : ∀ (l : List α) (us : List Value), VRs E (e.all l) us → us = e.encs l
  | [], us, h => by cases h; rfl
  | x :: l, us, h => by
    obtain ⟨u1, u2, rfl, h1, h2⟩ := VRs.split h
    rw [e.rel_eq E x u1 h1, Elem.rels_eq E l u2 h2]
    rfl
theorem Elem.all_one : ∀ l : List α, allOne (e.all l) = true
  | [] => rfl
  | x :: l => by
    have : ∀ (a b : List V), allOne a = true → allOne b = true → allOne (a ++ b) = true := by
      intro a b ha hb
      induction a with
      | nil => exact hb
      | cons v a ih =>
        simp only [allOne, cond_true_iff] at ha
        simp only [List.cons_append, allOne, ha.1, cond_true]
        exact ih ha.2
    exact this _ _ (e.one' x) (Elem.all_one l)
theorem Elem.all_flat : ∀ l : List α, V.flats (e.all l) = true
  | [] => rfl
  | x :: l => by
    have : ∀ (a b : List V), V.flats a = true → V.flats b = true → V.flats (a ++ b) = true := by
      intro a b ha hb
      induction a with
      | nil => exact hb
      | cons v a ih =>
        simp only [V.flats, Bool.and_eq_true] at ha
        simp only [List.cons_append, V.flats, ha.1, Bool.true_and]
        exact ih ha.2
    exact this _ _ (e.flat x) (Elem.all_flat l)

/-- A slice that is read: its elements. -/
def SlR (M : Mem) (s : V) (xs : List α) : Prop := ∃ a cap, s = .slice a xs.length cap ∧ (xs = [] ∨ ∃ b o cs ro, a = some (b, o) ∧ M.get b = some (.cells cs ro) ∧ ∀ (i : Nat) (h : i < xs.length), rdCells cs (o + i * e.k) e.k = some (e.cv xs[i]))
theorem SlR.keep {e : Elem α} {M M' : Mem} {s : V} {xs : List α} (h : SlR e M s xs) (hk : ∀ b, s.blk = some b → M'.get b = M.get b) : SlR e M' s xs := by
  obtain ⟨a, cap, rfl, h⟩ := h
  refine ⟨a, cap, rfl, ?_⟩
  rcases h with h | ⟨b, o, cs, ro, rfl, h1, h2⟩
  · exact .inl h
  · exact .inr ⟨b, o, cs, ro, rfl, (hk b rfl).trans h1, h2⟩
theorem Elem.rd (e : Elem α) : ∀ (xs : List α) (i : Nat) (h : i < xs.length), rdCells (e.all xs) (i * e.k) e.k = some (e.cv xs[i])
  | [], i, h => by simp at h
  | x :: xs, 0, h => by
    simp only [Nat.zero_mul, rdCells, Nat.zero_add, ble_iff]
    have hl : (e.all (x :: xs)) = e.cv x ++ e.all xs := rfl
    rw [hl, List.length_append, e.len, decide_eq_true (by omega)]
    simp only [cond_true, List.drop_zero, List.getElem_cons_zero, Option.some.injEq]
    rw [← e.len x, List.take_left]
  | x :: xs, i + 1, h => by
    have ih := Elem.rd e xs i (by simpa using h)
    have hl : (e.all (x :: xs)) = e.cv x ++ e.all xs := rfl
    simp only [rdCells, ble_iff] at ih ⊢
    have hlen := e.all_len xs
    have hi : i < xs.length := by simpa using h
    have h1 : i * e.k + e.k ≤ (e.all xs).length := by
      rw [hlen]
      have := Nat.mul_le_mul_right e.k (show i + 1 ≤ xs.length from hi)
      rw [Nat.add_mul, Nat.one_mul] at this
      exact this
    rw [decide_eq_true h1] at ih
    simp only [cond_true, Option.some.injEq] at ih
    have h2 : (i + 1) * e.k + e.k ≤ (e.all (x :: xs)).length := by
      rw [hl, List.length_append, e.len, Nat.add_mul, Nat.one_mul]
      omega
    rw [decide_eq_true h2]
    simp only [cond_true, Option.some.injEq, List.getElem_cons_succ]
    rw [hl, Nat.add_mul, Nat.one_mul, Nat.add_comm (i * e.k) e.k, ← List.drop_drop, show e.k = (e.cv x).length from (e.len x).symm, List.drop_left]
    rw [e.len]
    exact ih
theorem Hold.slR {e : Elem α} {lo : Nat} {M : Mem} {s : V} {xs : List α} (h : Hold lo M e.k s xs.length (e.all xs)) : SlR e M s xs := by
  generalize hn : xs.length = n at h
  generalize hc : e.all xs = cs at h
  cases h with
  | nil => exact ⟨_, _, by rw [hn], .inl (List.eq_nil_of_length_eq_zero hn)⟩
  | row h1 h2 h3 h4 => exact ⟨_, _, by rw [hn], .inr ⟨_, 0, cs, false, rfl, h1, fun i hi => by rw [← hc, Nat.zero_add]; exact e.rd xs i hi⟩⟩
theorem rd_cell {cs l : List V} {p k : Nat} (h : rdCells cs p k = some l) (j : Nat) (hj : j < k) : cs[p + j]? = l[j]? := by
  unfold rdCells at h
  obtain ⟨h1, h⟩ := cond_some h
  rw [ble_iff, decide_eq_true_eq] at h1
  cases h
  rw [List.getElem?_take, if_pos hj, List.getElem?_drop]
theorem rd_part {cs l : List V} {p k : Nat} (h : rdCells cs p k = some l) (j m : Nat) (hj : j + m ≤ k) : rdCells cs (p + j) m = some ((l.drop j).take m) := by
  unfold rdCells at h ⊢
  obtain ⟨h1, h⟩ := cond_some h
  rw [ble_iff, decide_eq_true_eq] at h1
  cases h
  rw [ble_iff, decide_eq_true (by omega)]
  simp only [cond_true, Option.some.injEq]
  rw [List.drop_take, List.take_take, List.drop_drop, Nat.min_eq_left (by omega)]
/-- The elements of a slice, read. -/
def readSl (M : Mem) (s : V) : Option (List α) :=
  match s with
  | .slice none 0 (.exact 0) => some []
  | .slice (some (b, o)) n _ => match M.get b with
    | some (.cells cs _) => cond (Nat.ble n maxRoom) ((rdCells cs o (n * e.k)).bind fun l => e.decs n l) none
    | _ => none
  | _ => none
theorem readSl_is {e : Elem α} {M : Mem} {s : V} {xs : List α} (h : readSl e M s = some xs) : SlR e M s xs ∧ xs.length ≤ maxRoom := by
  unfold readSl at h
  split at h
  · cases h; exact ⟨⟨_, _, rfl, .inl rfl⟩, by simp⟩
  · rename_i b o n cap
    split at h
    · rename_i cs ro hM
      obtain ⟨hn, h⟩ := cond_some h
      simp only [Option.bind_eq_some_iff] at h
      obtain ⟨l, hl, h⟩ := h
      obtain ⟨h1, rfl⟩ := e.decs_some h
      refine ⟨⟨_, _, by rw [h1], .inr ⟨b, o, cs, ro, rfl, hM, fun i hi => ?_⟩⟩, by rw [h1]; exact Nat.le_of_ble_eq_true hn⟩
      have hr := e.rd xs i hi
      unfold rdCells at hl hr ⊢
      obtain ⟨c1, hl⟩ := cond_some hl
      obtain ⟨c2, hr⟩ := cond_some hr
      rw [ble_iff, decide_eq_true_eq] at c1 c2
      simp only [Option.some.injEq] at hl hr
      have hlen := e.all_len xs
      rw [h1] at hlen
      rw [ble_iff, decide_eq_true (by omega)]
      simp only [cond_true, Option.some.injEq]
      rw [← hr, ← hl, List.drop_take, List.take_take, List.drop_drop, Nat.min_eq_left (by omega)]
    · cases h
  · cases h
theorem readSl_of {e : Elem α} {lo : Nat} {M : Mem} {s : V} {xs : List α} (h : Hold lo M e.k s xs.length (e.all xs)) (hn : xs.length ≤ maxRoom) : readSl e M s = some xs := by
  have hd := e.decs_all xs
  have hl := e.all_len xs
  generalize hq : xs.length = n at h hd hl
  generalize hc : e.all xs = cs at h hd hl
  cases h with
  | nil => simp only [readSl]; rw [List.eq_nil_of_length_eq_zero hq]
  | row h1 h2 h3 h4 =>
    simp only [readSl, h1, rdCells, Nat.zero_add, ble_iff]
    rw [decide_eq_true (by omega), decide_eq_true (by omega)]
    simp only [cond_true, Option.bind_some, List.drop_zero]
    rw [← h2, List.take_length]
    exact hd
/-! ### sorting -/
def ins (lt : α → α → Bool) (x : α) : List α → List α
  | [] => [x]
  | y :: l => cond (lt y x) (y :: ins lt x l) (x :: y :: l)
def isort (lt : α → α → Bool) : List α → List α
  | [] => []
  | x :: l => ins lt x (isort lt l)
theorem ins_perm (lt : α → α → Bool) (x : α) : ∀ l : List α, (ins lt x l).Perm (x :: l)
  | [] => .refl _
  | y :: l => by
    simp only [ins]
    cases lt y x
    · exact .refl _
    · exact ((ins_perm lt x l).cons y).trans (.swap x y l)
theorem isort_perm (lt : α → α → Bool) : ∀ l : List α, (isort lt l).Perm l
  | [] => .refl _
  | x :: l => (ins_perm lt x _).trans ((isort_perm lt l).cons x)
theorem isort_len (lt : α → α → Bool) (l : List α) : (isort lt l).length = l.length := (isort_perm lt l).length_eq
variable [Inhabited α]
theorem ins_sorted {lt : α → α → Bool} (hO : SWO lt) (x : α) : ∀ l : List α, l.Pairwise (fun a b => lt b a = false) → (ins lt x l).Pairwise (fun a b => lt b a = false)
  | [], _ => by simp [ins]
  | y :: l, h => by
    rw [List.pairwise_cons] at h
    simp only [ins]
    cases hxy : lt y x with
    | true =>
      simp only [cond_true]
      rw [List.pairwise_cons]
      refine ⟨fun z hz => ?_, ins_sorted hO x l h.2⟩
      rcases List.mem_cons.1 ((ins_perm lt x l).mem_iff.1 hz) with rfl | hz
      · cases hq : lt z y with
        | false => rfl
        | true => have := hO.trans _ _ _ hq hxy; rw [hO.irrefl] at this; cases this
      · exact h.1 z hz
    | false =>
      simp only [cond_false]
      rw [List.pairwise_cons]
      refine ⟨fun z hz => ?_, List.pairwise_cons.2 h⟩
      rcases List.mem_cons.1 hz with rfl | hz
      · exact hxy
      · exact hO.ntrans _ _ _ (h.1 z hz) hxy
theorem isort_sorted {lt : α → α → Bool} (hO : SWO lt) : ∀ l : List α, (isort lt l).Pairwise (fun a b => lt b a = false)
  | [] => .nil
  | x :: l => ins_sorted hO x _ (isort_sorted hO l)
theorem sorted_is_isort {lt : α → α → Bool} (hO : SWO lt) (hT : ∀ x y, lt x y = false → lt y x = false → x = y) {l : List α} {d' : Array α} (hp : PermIn 0 l.toArray.size l.toArray d') (hs : SortedIn lt 0 l.toArray.size d') : d' = (isort lt l).toArray := by
  have h1 := sorted_unique_holds hO hT l.toArray d' hp hs
  have h2 := sorted_unique_holds hO hT l.toArray (isort lt l).toArray
    ⟨by simp [isort_len], fun i hi => by
      rcases hi with hi | hi
      · omega
      · rw [getElem!_neg _ _ (by simp [isort_len]; simpa using hi), getElem!_neg _ _ (by simpa using hi)], by
      have e1 : (isort lt l).toArray.extract 0 l.toArray.size = (isort lt l).toArray := by
        rw [show l.toArray.size = (isort lt l).toArray.size by simp [isort_len]]; exact Array.extract_size
      rw [e1, Array.extract_size]
      exact isort_perm lt l⟩
    (fun i j _ hij hj => by
      have := isort_sorted hO l
      rw [List.pairwise_iff_getElem] at this
      have hj' : j < (isort lt l).length := by rw [isort_len]; simpa using hj
      have := this i j (by omega) hj' hij
      simpa [hj', show i < (isort lt l).length by omega] using this)
  exact Array.toList_inj.1 (h1.trans h2.symm)
end
end Go.Am

/- slices.SortFunc as a part of the machine. -/
namespace Go.Am
open Go Go.RowKit Go.Sort Go.Proofs Go.Shelf

section
variable {P : Program} {gl : Nat → Bool} {α : Type} [Inhabited α]

theorem flatK_encs (e : Elem α) (l : List α) : (flatK e.enc e.k l.toArray).toList = e.encs l := by
  apply List.ext_getElem?
  intro t
  by_cases ht : t < l.length * e.k
  · have hk := e.k_pos
    have hq : t / e.k < l.length := (Nat.div_lt_iff_lt_mul hk).2 ht
    have hr : t % e.k < e.k := Nat.mod_lt _ hk
    have h1 : (flatK e.enc e.k l.toArray)[t]! = (e.enc l.toArray[t / e.k]!)[t % e.k]! := get_flatK _ _ _ _ (by simpa using ht)
    have hsz : t < (flatK e.enc e.k l.toArray).size := by simpa using ht
    rw [getElem!_pos (flatK e.enc e.k l.toArray) t hsz] at h1
    have h2 : l.toArray[t / e.k]! = l[t / e.k] := by simp [hq]
    rw [h2] at h1
    have h3 : (e.enc l[t / e.k])[t % e.k]! = (e.enc l[t / e.k])[t % e.k]'(by rw [e.elen]; exact hr) := by rw [getElem!_pos]
    rw [h3] at h1
    rw [Array.getElem?_toList, Array.getElem?_eq_getElem hsz, h1]
    -- the flat list at t
    have key : ∀ (l : List α) (t : Nat) (hq : t / e.k < l.length), (e.encs l)[t]? = some ((e.enc l[t / e.k])[t % e.k]'(by rw [e.elen]; exact Nat.mod_lt _ hk)) := by
      intro l
      induction l with
      | nil => intro t hq; simp at hq
      | cons x l ih =>
        intro t hq
        show (e.enc x ++ e.encs l)[t]? = _
        by_cases hlt : t < e.k
        · have h0 : t / e.k = 0 := Nat.div_eq_of_lt hlt
          have hm : t % e.k = t := Nat.mod_eq_of_lt hlt
          rw [List.getElem?_append_left (by rw [e.elen]; exact hlt)]
          simp [h0, hm, e.elen, hlt]
        · obtain ⟨u, rfl⟩ : ∃ u, t = u + e.k := ⟨t - e.k, by omega⟩
          have h0 : (u + e.k) / e.k = u / e.k + 1 := Nat.add_div_right u hk
          have hm : (u + e.k) % e.k = u % e.k := Nat.add_mod_right u e.k
          rw [List.getElem?_append_right (by rw [e.elen]; omega), e.elen, Nat.add_sub_cancel]
          have := ih u (by rw [h0] at hq; simpa using hq)
          rw [this]
          simp [h0, hm]
    exact (key l t hq).symm
  · rw [Array.getElem?_toList, Array.getElem?_eq_none (by simp; omega), List.getElem?_eq_none (by rw [e.encs_len]; omega)]

/-- What the sort does to a row. -/
def sortP (e : Elem α) (g : FuncId) (lt : α → α → Bool) (args : List V) (M : Mem) : Option (V × Mem) :=
  match args with
  | [.slice none 0 (.exact 0), .fn g' [] []] => cond (Nat.beq g' g) (some (.tup [], M)) none
  | [.slice (some (b, 0)) n _, .fn g' [] []] => cond (Nat.beq g' g) (cond (Nat.ble n maxRoom) (match M.get b with
      | some (.cells cs false) => (e.decs n cs).map fun l => (.tup [], M.set b (.cells (e.all (isort lt l)) false))
      | _ => none) none) none
  | _ => none

theorem Rel.heapEq {E : Emb} {M : Mem} {w w' : World} (h : Rel E M w) (hh : w'.heap = w.heap) : Rel E M w' := ⟨fun b c d k hb => by rw [hh]; exact h.at_ b c d k hb, fun b c d k hb => by rw [hh]; exact h.lt b c d k hb, h.inj, h.wf⟩
theorem Rel.grow {E : Emb} {M : Mem} {w : World} (h : Rel E M w) (os : Array Obj) : Rel E M (Go.Sort.grow w os) ∧ Ext E M w E M (Go.Sort.grow w os) := by
  have hk : ∀ c, c < w.heap.size → (w.heap ++ os)[c]? = w.heap[c]? := fun c hc => Array.getElem?_append_left hc
  refine ⟨⟨fun b c d k hb => ?_, fun b c d k hb => ?_, h.inj, h.wf⟩, ⟨Emb.le_refl E, rfl, rfl, rfl, ?_, Nat.le_refl _, fun c hc _ => hk c hc, fun b c d k h1 h2 => by (rw [h1] at h2; cases h2), fun _ _ => rfl, Nat.le_refl _⟩⟩
  · obtain ⟨o, ho, hr⟩ := h.at_ b c d k hb
    exact ⟨o, ho, by show OR E o (w.heap ++ os)[c]? d k; rw [hk c (h.lt b c d k hb)]; exact hr⟩
  · show c < (w.heap ++ os).size
    have := h.lt b c d k hb
    simp
    omega
  · show w.heap.size ≤ (w.heap ++ os).size
    simp

theorem sort_callOK {ρ : Ren} (L : SlLaysF0.n6 P ρ) (e : Elem α) (aE : ∀ w, (isAgg (ρ.t 24)).run P w = .ok true w) (zE : ∀ w, (Go.sizeOf (ρ.t 24)).run P w = .ok e.k w) (cf : α → α → Int) (hO : SWO (ltOf cf)) (hT : ∀ x y, (ltOf cf) x y = false → (ltOf cf) y x = false → x = y) (g : FuncId)
    (hg : Callable P g) (hc : Callable P (ρ.f 6))
    (hcmp : ∀ (x y : α) (w : World), Calls P g #[.agg (e.enc x).toArray, .agg (e.enc y).toArray] w fun r w' => r = .returned (.int .i64 (cf x y)) ∧ ∃ q os, w' = Go.Sort.grow (w.drewN q) os) :
    CallOK P gl fun f' args M => if f' = ρ.f 6 then sortP e g (ltOf cf) args M else none := by
  intro f' args M v M' he
  simp only at he
  split at he
  · rename_i ef
    subst ef
    refine ⟨hc, fun E w args' hR hG hA => ?_⟩
    unfold sortP at he
    split at he
    · rename_i g'
      obtain ⟨h1, he⟩ := cond_some he
      cases he
      have : ∃ fv, args' = #[.slice none 0 0, fv] := by
        obtain ⟨l⟩ := args'
        simp only at hA
        cases hA with
        | cons h1 t => cases h1 with | sliceNil => cases t with | cons h2 t => cases t; exact ⟨_, rfl⟩
      obtain ⟨fv, rfl⟩ := this
      refine (AnyF.slices_SortFunc_none L none 0 fv w).mono ?_
      rintro r w' ⟨rfl, rfl⟩
      exact ⟨E, _, rfl, .tup (cs' := #[]) .nil, hR, Ext.refl E M w'⟩
    · rename_i b n cap g'
      obtain ⟨h1, he1⟩ := cond_some he
      clear he
      have : g' = g := Nat.eq_of_beq_eq_true h1
      subst this
      obtain ⟨h2, he⟩ := cond_some he1
      have hn : n ≤ maxRoom := Nat.le_of_ble_eq_true h2
      split at he
      · rename_i cs hM
        simp only [Option.map_eq_some_iff] at he
        obtain ⟨l, hl, he⟩ := he
        cases he
        obtain ⟨hln, rfl⟩ := e.decs_some hl
        -- the arguments
        have : ∃ sv, args' = #[sv, .func (.func g') #[] #[]] ∧ VR E (.slice (some (b, 0)) n cap) sv := by
          obtain ⟨l⟩ := args'
          simp only at hA
          cases hA with
          | cons h1 t => cases t with
            | cons h2 t => cases t; cases h2 with
              | fn ha hb =>
                rename_i a' b'
                cases ha' : a' with | mk la => cases hb' : b' with | mk lb =>
                rw [ha'] at ha; rw [hb'] at hb
                cases ha; cases hb
                exact ⟨_, rfl, h1⟩
        obtain ⟨sv, rfl, hsv⟩ := this
        have hown : own M b := by unfold own; rw [hM]; trivial
        by_cases hn0 : n = 0
        · have hl0 : l = [] := List.eq_nil_of_length_eq_zero (by omega)
          subst hl0
          subst hn0
          have : ∃ p c, sv = .slice p 0 c := by
            cases hsv with
            | slice => exact ⟨_, _, rfl⟩
            | sliceZero => exact ⟨_, _, rfl⟩
          obtain ⟨p, c, rfl⟩ := this
          refine (AnyF.slices_SortFunc_none L p c _ w).mono ?_
          rintro r w' ⟨rfl, rfl⟩
          cases hsv with
          | slice hE _ _ =>
            obtain ⟨o, ho, hor⟩ := hR.at_ b _ _ _ hE
            rw [hM] at ho
            cases ho
            obtain ⟨arr, elem, fz, hx, hrest⟩ := hor
            obtain ⟨p1, p2⟩ := hR.setBlock (o' := .cells (e.all (isort (ltOf cf) [])) false) (w' := w') hE hown trivial rfl rfl rfl (Nat.le_refl _) rfl hx (fun _ _ => rfl) ⟨arr, elem, fz, rfl, hrest⟩
            exact ⟨E, _, rfl, .tup (cs' := #[]) .nil, p1, p2⟩
          | sliceZero hE _ _ =>
            obtain ⟨o, ho, hor⟩ := hR.at_ b _ _ _ hE
            rw [hM] at ho
            cases ho
            obtain ⟨arr, elem, fz, hx, hrest⟩ := hor
            obtain ⟨p1, p2⟩ := hR.setBlock (o' := .cells (e.all (isort (ltOf cf) [])) false) (w' := w') hE hown trivial rfl rfl rfl (Nat.le_refl _) rfl hx (fun _ _ => rfl) ⟨arr, elem, fz, rfl, hrest⟩
            exact ⟨E, _, rfl, .tup (cs' := #[]) .nil, p1, p2⟩
        · cases hsv with
          | sliceZero => exact absurd rfl hn0
          | slice hE hcap hnc =>
            rename_i c d kk c'
            obtain ⟨o, ho, hor⟩ := hR.at_ b c d kk hE
            rw [hM] at ho
            cases ho
            obtain ⟨arr, elem, fz, hx, hcr, hk, hfree⟩ := hor
            have hfree := hfree rfl
            have hlen := e.all_len l
            have hcell : ∀ t, t < l.length * e.k → ∃ u, arr[d + t]? = some u ∧ (e.encs l)[t]? = some u := by
              intro t ht
              have hv : (e.all l)[t]? = some (e.all l)[t] := List.getElem?_eq_getElem (by omega)
              obtain ⟨u, hu, hvu⟩ := hcr t _ hv
              obtain ⟨u2, hu2, hvu2⟩ := (e.rels E l).get t _ hv
              refine ⟨u, hu, ?_⟩
              -- both stand for the one cell
              have hF := (e.all_flat l)
              have hone : ∀ {x : V} {y z : Value}, x.flat = true → VR E x y → VR E x z → (∃ q : V, True) := fun _ _ _ => ⟨.nilFn, trivial⟩
              have : u2 = u := by
                have hall : VRs E (e.all l) ((e.encs l).set t u) := by
                  refine VRs.of_get (by rw [List.length_set]; exact (e.rels E l).length) fun i v hi => ?_
                  obtain ⟨y, hy, hvy⟩ := (e.rels E l).get i v hi
                  by_cases hit : i = t
                  · subst hit
                    rw [hv] at hi
                    cases hi
                    exact ⟨u, by rw [List.getElem?_set_self (by rw [e.encs_len]; exact ht)], hvu⟩
                  · exact ⟨y, by rw [List.getElem?_set_ne (Ne.symm hit)]; exact hy, hvy⟩
                have := e.rels_eq E l _ hall
                have h3 : ((e.encs l).set t u)[t]? = some u := List.getElem?_set_self (by rw [e.encs_len]; exact ht)
                rw [this, hu2] at h3
                exact Option.some.inj h3
              rw [← this]; exact hu2
            have hsz : ∀ t, t < l.length * e.k → d + t < arr.size := fun t ht => by
              obtain ⟨u, hu, _⟩ := hcell t ht
              exact (Array.getElem?_eq_some_iff.1 hu).1
            have hflat := flatK_encs e l
            have hH : HoldsK e.enc e.k w c d l.toArray := by
              intro j hj
              have hj' : j < l.length * e.k := by simpa using hj
              obtain ⟨u, hu, hu2⟩ := hcell j hj'
              rw [← hflat, Array.getElem?_toList] at hu2
              have hq : (flatK e.enc e.k l.toArray)[j]! = u := by
                rw [getElem!_pos (flatK e.enc e.k l.toArray) j hj]
                rw [Array.getElem?_eq_getElem hj] at hu2
                exact Option.some.inj hu2
              refine ⟨?_, ?_⟩
              · rw [hq]
                simp only [World.cell?, hx]
                exact hu
              · simp only [World.frozen?, hx]
                have := hfree (d + j) (hsz j hj')
                simpa using this
            have hclt := hR.lt b c d kk hE
            have hgE : ∀ args w, (callFunc g' args).run P w = .ok (.enter g' args) w := fun args w => run_callFunc hg args w
            have hcl : CmpLays P g' #[] e.enc e.k cf c d l.toArray.size w := fun m os dk _ x y => by
              have := hcmp x y (sortWorldK e.enc e.k w c d m dk os)
              simpa using this
            have hcall := AnyQ.slices_SortFunc L e.k aE zE e.enc e.elen e.one cf hO g' #[] c d c' l.toArray w hgE hcl hH hclt (by simp; unfold maxRoom at hn; omega)
            rw [show (⟨c, d + 0, none⟩ : Addr) = ⟨c, d, none⟩ from rfl, show n = l.toArray.size by simp [hln]]
            refine hcall.mono ?_
            rintro r w' ⟨rfl, d', q, os, hp, hs, rfl⟩
            have hd' := sorted_is_isort hO hT hp hs
            subst hd'
            -- the row laid anew
            have hR1 : Rel E M (Go.Sort.ahead w q) := hR.heapEq rfl
            have hX1 : Ext E M w E M (Go.Sort.ahead w q) := ⟨Emb.le_refl E, rfl, rfl, rfl, Nat.le_refl _, Nat.le_refl _, fun _ _ _ => rfl, fun b c d k h1 h2 => by (rw [h1] at h2; cases h2), fun _ _ => rfl, Nat.le_add_right _ _⟩
            have hflat2 := flatK_encs e (isort (ltOf cf) l)
            have hl2 := isort_len (ltOf cf) l
            generalize isort (ltOf cf) l = l2 at *
            have hx2 : (putRowK e.enc e.k (Go.Sort.ahead w q) c d l2.toArray).heap[c]? = some (.cells (putCells id d (flatK e.enc e.k l2.toArray) arr) elem fz) := by
              show (w.heap.modify c _)[c]? = _
              rw [Array.getElem?_modify, if_pos rfl, hx]
              rfl
            have hoth : ∀ i, i ≠ c → (putRowK e.enc e.k (Go.Sort.ahead w q) c d l2.toArray).heap[i]? = (Go.Sort.ahead w q).heap[i]? := by
              intro i hi
              show (w.heap.modify c _)[i]? = _
              rw [Array.getElem?_modify, if_neg (Ne.symm hi)]
              rfl
            have hps : (putCells id d (flatK e.enc e.k l2.toArray) arr).size = arr.size := by simp [putCells]
            obtain ⟨p1, p2⟩ := hR1.setBlock (o' := .cells (e.all l2) false) (w' := putRowK e.enc e.k (Go.Sort.ahead w q) c d l2.toArray) hE hown trivial rfl rfl rfl (Nat.le_refl _) (by simp [putRowK]) hx2 hoth
              ⟨_, elem, fz, rfl, fun i v hi => by
                have hil := (List.getElem?_eq_some_iff.1 hi).1
                rw [e.all_len] at hil
                obtain ⟨u, hu, hvu⟩ := (e.rels E l2).get i v hi
                refine ⟨u, ?_, hvu⟩
                have hii := hsz i (by rw [← hl2]; exact hil)
                rw [← hflat2, Array.getElem?_toList] at hu
                have hF : i < (flatK e.enc e.k l2.toArray).size := by simpa using hil
                simp only [putCells, Array.getElem?_mapIdx, Array.getElem?_eq_getElem hii, Option.map_some, id]
                rw [if_pos ⟨by omega, by omega⟩, Nat.add_sub_cancel_left, getElem!_pos (flatK e.enc e.k l2.toArray) i hF]
                rw [Array.getElem?_eq_getElem hF] at hu
                exact hu, by rw [hps]; exact hk, fun _ => by rw [hps]; exact hfree⟩
            obtain ⟨p3, p4⟩ := p1.grow os
            exact ⟨E, _, rfl, .tup (cs' := #[]) .nil, p3, (hX1.trans p2).trans p4⟩
      · cases he
    · cases he
  · cases he
end
end Go.Am

/- Texts, how they stand to each other. -/
namespace Go.Am
open Go
abbrev cmpB := Lib.compareBytes
theorem cmp_self : ∀ a : List UInt8, cmpB a a = 0
  | [] => rfl
  | c :: a => by unfold cmpB Lib.compareBytes; simp [UInt8.lt_irrefl]; exact cmp_self a
theorem cmp_neg : ∀ a b : List UInt8, cmpB b a = - cmpB a b
  | [], [] => rfl
  | [], _ :: _ => rfl
  | _ :: _, [] => rfl
  | c :: a, d :: b => by
    unfold cmpB Lib.compareBytes
    by_cases h1 : c < d
    · have : ¬ d < c := fun h => absurd (UInt8.lt_trans h1 h) (UInt8.lt_irrefl _)
      simp [h1, this]
    · by_cases h2 : d < c
      · simp [h1, h2]
      · simp [h1, h2]; exact cmp_neg a b
theorem cmp_eq : ∀ {a b : List UInt8}, cmpB a b = 0 → a = b
  | [], [], _ => rfl
  | [], _ :: _, h => by cases h
  | _ :: _, [], h => by cases h
  | c :: a, d :: b, h => by
    unfold cmpB Lib.compareBytes at h
    split at h
    · cases h
    · split at h
      · cases h
      · rename_i h1 h2
        have : c = d := UInt8.le_antisymm (UInt8.not_lt.1 h2) (UInt8.not_lt.1 h1)
        rw [this, cmp_eq h]
theorem cmp_less : ∀ a b : List UInt8, strLess a b = decide (cmpB a b = -1)
  | [], [] => rfl
  | [], _ :: _ => rfl
  | _ :: _, [] => rfl
  | c :: a, d :: b => by
    unfold cmpB Lib.compareBytes
    simp only [strLess, ble_iff, beq_dec]
    by_cases h1 : c < d
    · have : c.toNat + 1 ≤ d.toNat := h1
      simp [h1, this]
    · have n1 : ¬ c.toNat + 1 ≤ d.toNat := h1
      by_cases h2 : d < c
      · have : ¬ c.toNat = d.toNat := by have : d.toNat < c.toNat := h2; omega
        simp [h1, h2, n1, this]
      · have e : c = d := UInt8.le_antisymm (UInt8.not_lt.1 h2) (UInt8.not_lt.1 h1)
        subst e
        simp only [h1, n1, decide_false, decide_true, cond_false, cond_true, if_false]
        exact cmp_less a b
theorem cmp_three : ∀ a b : List UInt8, cmpB a b = -1 ∨ cmpB a b = 0 ∨ cmpB a b = 1
  | [], [] => .inr (.inl rfl)
  | [], _ :: _ => .inl rfl
  | _ :: _, [] => .inr (.inr rfl)
  | c :: a, d :: b => by
    unfold cmpB Lib.compareBytes
    split
    · exact .inl rfl
    · split
      · exact .inr (.inr rfl)
      · exact cmp_three a b
theorem cmp_trans : ∀ {a b c : List UInt8}, cmpB a b = -1 → cmpB b c = -1 → cmpB a c = -1
  | [], _, [], _, h2 => by rename_i b _; cases b <;> cases h2
  | [], _, _ :: _, _, _ => rfl
  | _ :: _, [], _, h1, _ => by cases h1
  | _ :: _, _ :: _, [], _, h2 => by cases h2
  | x :: a, y :: b, z :: c, h1, h2 => by
    unfold cmpB Lib.compareBytes at h1 h2 ⊢
    by_cases xy : x < y
    · by_cases yz : y < z
      · rw [if_pos (UInt8.lt_trans xy yz)]
      · rw [if_neg yz] at h2
        by_cases zy : z < y
        · rw [if_pos zy] at h2; cases h2
        · have e : y = z := UInt8.le_antisymm (UInt8.not_lt.1 zy) (UInt8.not_lt.1 yz)
          subst e; rw [if_pos xy]
    · rw [if_neg xy] at h1
      by_cases yx : y < x
      · rw [if_pos yx] at h1; cases h1
      · have e : x = y := UInt8.le_antisymm (UInt8.not_lt.1 yx) (UInt8.not_lt.1 xy)
        subst e
        rw [if_neg yx] at h1
        by_cases yz : x < z
        · rw [if_pos yz]
        · rw [if_neg yz] at h2 ⊢
          by_cases zy : z < x
          · rw [if_pos zy] at h2; cases h2
          · rw [if_neg zy] at h2 ⊢
            exact cmp_trans h1 h2
end Go.Am

/- Stamps and siblings: how they stand in cells; how they are compared. -/
namespace Go.Proofs
set_option maxHeartbeats 1000000 in
set_option maxRecDepth 100000 in
theorem Try.bytealg_CompareString (a b : ByteArray) (w : World) :
    Calls Try.prog 58 #[.string a, .string b] w fun e w' => e = .returned (.int .i64 (Lib.compareBytes a.data.toList b.data.toList)) ∧ w' = w := by
  go_enter Try.func58, Try.ntmps58
  go_wp2
  rw [run_callFunc_extern Try.func72 (by kernel_rfl) (by kernel_rfl) (by kernel_rfl) (e := Extern.BytealgCompare.compare) (by kernel_rfl), Lib.run_compareString]
  simp only [Result.andThen]
  rw [Oper.upon_value]
  go_wp2
  go_ret
  exact ⟨rfl, rfl⟩
set_option maxHeartbeats 1000000 in
theorem Try.strings_Compare (a b : ByteArray) (w : World) :
    Calls Try.prog 46 #[.string a, .string b] w fun e w' => e = .returned (.int .i64 (Lib.compareBytes a.data.toList b.data.toList)) ∧ w' = w := by
  go_enter Try.func46, Try.ntmps46
  go_wp2_with (go_at_call 58; refine (Try.bytealg_CompareString _ _ _).mono ?_; rintro e w' ⟨rfl, rfl⟩)
  go_ret
  exact ⟨rfl, rfl⟩
end Go.Proofs
namespace Go.Am.Try
open Go Go.Am Go.Proofs
set_option maxRecDepth 100000
set_option linter.unusedSimpArgs false
set_option linter.unusedVariables false

def pCompare : List V → Option V
  | [.str a, .str b] => some (.int .i64 (Lib.compareBytes a b))
  | _ => none
def D0 : Decls := ⟨codeOf codes, fun _ => none⟩
def D1 : Decls := D0.add F_strings_Compare pCompare
theorem dok0 : DOK Try.prog gl0 D0 := dok_codes mixed codes_ok
theorem dok1 : DOK Try.prog gl0 D1 := by
  refine dok0.add (prim_of_calls ⟨_, Try.func46, (by kernel_rfl), (by kernel_rfl)⟩ ?_)
  intro args v h E args' w hA
  unfold pCompare at h
  split at h
  · rename_i a b
    cases h
    have : ∃ x y : ByteArray, args' = #[.string x, .string y] ∧ a = x.data.toList ∧ b = y.data.toList := by
      obtain ⟨l⟩ := args'
      simp only at hA
      cases hA with
      | cons h1 t => cases h1 with | str x => cases t with | cons h2 t => cases h2 with | str y => cases t; exact ⟨x, y, rfl, rfl, rfl⟩
    obtain ⟨x, y, rfl, rfl, rfl⟩ := this
    refine (Try.strings_Compare x y w).mono fun e w' ⟨he, hw⟩ => ?_
    exact ⟨_, he, .int _ _, hw⟩
  · cases h

/-! ### stamps -/
abbrev St := Int × Int
def stC (s : St) : List V := [.int .i64 s.1, .int .i64 s.2]
def cmpSt (a b : St) : Int := if a = b then 0 else if a.1 < b.1 ∨ a.1 = b.1 ∧ a.2 < b.2 then -1 else 1

theorem stamp_Compare_runs (D : Decls) (hp : D.prim F_stamp_Compare = none) (hc : D.code.get F_stamp_Compare = some A_stamp_Compare) (a b : St) (M : Mem) : Runs D F_stamp_Compare [.agg (stC a), .agg (stC b)] M fun v M' => v = .int .i64 (cmpSt a b) ∧ Grew M M' := by
  refine Runs.walk (F := A_stamp_Compare) hp hc (by rfl) ?_
  unfold A_stamp_Compare
  obtain ⟨a1, a2⟩ := a
  obtain ⟨b1, b2⟩ := b
  simp only [stC]
  have hG : Grew M ((M.push (.cells [.int .i64 a1, .int .i64 a2] false)).push (.cells [.int .i64 b1, .int .i64 b2] false)) := (Grew.push M _).trans (Grew.push _ _)
  by_cases h1 : a1 = b1 ∧ a2 = b2
  · obtain ⟨rfl, rfl⟩ := h1
    simp -dsimp only [↓w_seq, ↓w_ops, ↓w_skip, ↓w_ret, ↓w_exit, ↓w_scope, ↓w_block, ↓w_cond, cond_true', cond_false', ↓t_nil, ↓t_plain, ↓t_guard, ↓t_again, t_val, t_call, g_true, g_false, a_val, a_call, ↓n_normal, ↓n_ret, ↓n_exit, ↓b_normal, ↓b_ret, ↓b_exit, ↓e_normal, ↓e_ret, e_some, go_sem, ↓reduceIte, Nat.reduceEqDiff, Nat.reduceLT, Nat.reduceSub, A_stamp_Compare_0, A_stamp_Compare_1, A_stamp_Compare_2, A_stamp_Compare_3, A_stamp_Compare_4, A_stamp_Compare_5, Int.lt_irrefl, true_and, and_true, false_and, and_false, and_self, same_two, same_sib, same_spot, vload, vptr, vof, V.cells, Mem.read, rdCells, Mem.get_push, Mem.next_push, Nat.left_eq_add, Nat.add_eq_left, Nat.add_left_cancel_iff, Nat.add_right_cancel_iff, Nat.reduceAdd, Nat.add_zero, Nat.zero_add, Nat.add_assoc, Nat.reduceLeDiff, Nat.reduceBEq, List.length_cons, List.length_nil, List.drop_zero, List.drop_succ_cons, List.take_succ_cons, List.take_zero, List.take_nil, List.drop_nil, List.getElem?_cons_zero, List.getElem?_cons_succ, reduceCtorEq, Nat.succ_ne_self, Nat.one_ne_zero, Nat.le_refl, ne_eq, not_false_eq_true, and_self]
    exact ⟨by simp [cmpSt], hG⟩
  · have hne : ¬ ((a1, a2) : St) = (b1, b2) := fun e => h1 (by cases e; exact ⟨rfl, rfl⟩)
    by_cases h2 : a1 < b1
    · simp -dsimp only [↓w_seq, ↓w_ops, ↓w_skip, ↓w_ret, ↓w_exit, ↓w_scope, ↓w_block, ↓w_cond, cond_true', cond_false', ↓t_nil, ↓t_plain, ↓t_guard, ↓t_again, t_val, t_call, g_true, g_false, a_val, a_call, ↓n_normal, ↓n_ret, ↓n_exit, ↓b_normal, ↓b_ret, ↓b_exit, ↓e_normal, ↓e_ret, e_some, go_sem, ↓reduceIte, Nat.reduceEqDiff, Nat.reduceLT, Nat.reduceSub, A_stamp_Compare_0, A_stamp_Compare_1, A_stamp_Compare_2, A_stamp_Compare_3, A_stamp_Compare_4, A_stamp_Compare_5, Int.lt_irrefl, true_and, and_true, false_and, and_false, and_self, same_two, same_sib, same_spot, vload, vptr, vof, V.cells, Mem.read, rdCells, Mem.get_push, Mem.next_push, Nat.left_eq_add, Nat.add_eq_left, Nat.add_left_cancel_iff, Nat.add_right_cancel_iff, Nat.reduceAdd, Nat.add_zero, Nat.zero_add, Nat.add_assoc, Nat.reduceLeDiff, Nat.reduceBEq, List.length_cons, List.length_nil, List.drop_zero, List.drop_succ_cons, List.take_succ_cons, List.take_zero, List.take_nil, List.drop_nil, List.getElem?_cons_zero, List.getElem?_cons_succ, reduceCtorEq, Nat.succ_ne_self, Nat.one_ne_zero, Nat.le_refl, ne_eq, not_false_eq_true, h1, h2]
      exact ⟨by simp [cmpSt, hne, h2], hG⟩
    · by_cases h3 : a1 = b1
      · have h5 : ¬ a2 = b2 := fun e => h1 ⟨h3, e⟩
        subst h3
        by_cases h4 : a2 < b2
        · simp -dsimp only [↓w_seq, ↓w_ops, ↓w_skip, ↓w_ret, ↓w_exit, ↓w_scope, ↓w_block, ↓w_cond, cond_true', cond_false', ↓t_nil, ↓t_plain, ↓t_guard, ↓t_again, t_val, t_call, g_true, g_false, a_val, a_call, ↓n_normal, ↓n_ret, ↓n_exit, ↓b_normal, ↓b_ret, ↓b_exit, ↓e_normal, ↓e_ret, e_some, go_sem, ↓reduceIte, Nat.reduceEqDiff, Nat.reduceLT, Nat.reduceSub, A_stamp_Compare_0, A_stamp_Compare_1, A_stamp_Compare_2, A_stamp_Compare_3, A_stamp_Compare_4, A_stamp_Compare_5, Int.lt_irrefl, true_and, and_true, false_and, and_false, and_self, same_two, same_sib, same_spot, vload, vptr, vof, V.cells, Mem.read, rdCells, Mem.get_push, Mem.next_push, Nat.left_eq_add, Nat.add_eq_left, Nat.add_left_cancel_iff, Nat.add_right_cancel_iff, Nat.reduceAdd, Nat.add_zero, Nat.zero_add, Nat.add_assoc, Nat.reduceLeDiff, Nat.reduceBEq, List.length_cons, List.length_nil, List.drop_zero, List.drop_succ_cons, List.take_succ_cons, List.take_zero, List.take_nil, List.drop_nil, List.getElem?_cons_zero, List.getElem?_cons_succ, reduceCtorEq, Nat.succ_ne_self, Nat.one_ne_zero, Nat.le_refl, ne_eq, not_false_eq_true, h5, h2, h4]
          exact ⟨by simp [cmpSt, h5, h4], hG⟩
        · simp -dsimp only [↓w_seq, ↓w_ops, ↓w_skip, ↓w_ret, ↓w_exit, ↓w_scope, ↓w_block, ↓w_cond, cond_true', cond_false', ↓t_nil, ↓t_plain, ↓t_guard, ↓t_again, t_val, t_call, g_true, g_false, a_val, a_call, ↓n_normal, ↓n_ret, ↓n_exit, ↓b_normal, ↓b_ret, ↓b_exit, ↓e_normal, ↓e_ret, e_some, go_sem, ↓reduceIte, Nat.reduceEqDiff, Nat.reduceLT, Nat.reduceSub, A_stamp_Compare_0, A_stamp_Compare_1, A_stamp_Compare_2, A_stamp_Compare_3, A_stamp_Compare_4, A_stamp_Compare_5, Int.lt_irrefl, true_and, and_true, false_and, and_false, and_self, same_two, same_sib, same_spot, vload, vptr, vof, V.cells, Mem.read, rdCells, Mem.get_push, Mem.next_push, Nat.left_eq_add, Nat.add_eq_left, Nat.add_left_cancel_iff, Nat.add_right_cancel_iff, Nat.reduceAdd, Nat.add_zero, Nat.zero_add, Nat.add_assoc, Nat.reduceLeDiff, Nat.reduceBEq, List.length_cons, List.length_nil, List.drop_zero, List.drop_succ_cons, List.take_succ_cons, List.take_zero, List.take_nil, List.drop_nil, List.getElem?_cons_zero, List.getElem?_cons_succ, reduceCtorEq, Nat.succ_ne_self, Nat.one_ne_zero, Nat.le_refl, ne_eq, not_false_eq_true, h5, h2, h4]
          exact ⟨by simp [cmpSt, h5, h4], hG⟩
      · simp -dsimp only [↓w_seq, ↓w_ops, ↓w_skip, ↓w_ret, ↓w_exit, ↓w_scope, ↓w_block, ↓w_cond, cond_true', cond_false', ↓t_nil, ↓t_plain, ↓t_guard, ↓t_again, t_val, t_call, g_true, g_false, a_val, a_call, ↓n_normal, ↓n_ret, ↓n_exit, ↓b_normal, ↓b_ret, ↓b_exit, ↓e_normal, ↓e_ret, e_some, go_sem, ↓reduceIte, Nat.reduceEqDiff, Nat.reduceLT, Nat.reduceSub, A_stamp_Compare_0, A_stamp_Compare_1, A_stamp_Compare_2, A_stamp_Compare_3, A_stamp_Compare_4, A_stamp_Compare_5, Int.lt_irrefl, true_and, and_true, false_and, and_false, and_self, same_two, same_sib, same_spot, vload, vptr, vof, V.cells, Mem.read, rdCells, Mem.get_push, Mem.next_push, Nat.left_eq_add, Nat.add_eq_left, Nat.add_left_cancel_iff, Nat.add_right_cancel_iff, Nat.reduceAdd, Nat.add_zero, Nat.zero_add, Nat.add_assoc, Nat.reduceLeDiff, Nat.reduceBEq, List.length_cons, List.length_nil, List.drop_zero, List.drop_succ_cons, List.take_succ_cons, List.take_zero, List.take_nil, List.drop_nil, List.getElem?_cons_zero, List.getElem?_cons_succ, reduceCtorEq, Nat.succ_ne_self, Nat.one_ne_zero, Nat.le_refl, ne_eq, not_false_eq_true, h1, h2, h3]
        exact ⟨by simp [cmpSt, hne, h2, h3], hG⟩

/-! ### siblings -/
abbrev Sb := List UInt8 × St
def sbC (x : Sb) : List V := [.str x.1, .int .i64 x.2.1, .int .i64 x.2.2]
/-- Which sibling stands ahead. -/
def befSb (a b : Sb) : Bool := if a.1 = b.1 then decide (a ≠ b) && decide (cmpSt a.2 b.2 < 0) else decide (cmpB a.1 b.1 < 0)
def cmpSb (a b : Sb) : Int := if a = b then 0 else if befSb a b = true then -1 else 1

theorem poskey_Compare_runs (D : Decls) (hp : D.prim F_poskey_Compare = none) (hc : D.code.get F_poskey_Compare = some A_poskey_Compare) (hs : D.prim F_strings_Compare = some fun args M => (pCompare args).map (·, M)) (a b : List UInt8) (M : Mem) :
    Runs D F_poskey_Compare [.str a, .str b] M fun v M' => v = .int .i64 (cmpB a b) ∧ M' = M := by
  refine Runs.walk (F := A_poskey_Compare) hp hc (by rfl) ?_
  unfold A_poskey_Compare
  simp -dsimp only [↓w_seq, ↓w_ops, ↓w_skip, ↓w_ret, ↓w_exit, ↓w_scope, ↓w_block, ↓w_cond, cond_true', cond_false', ↓t_nil, ↓t_plain, ↓t_guard, ↓t_again, t_val, t_call, g_true, g_false, a_val, a_call, ↓n_normal, ↓n_ret, ↓n_exit, ↓b_normal, ↓b_ret, ↓b_exit, ↓e_normal, ↓e_ret, e_some, go_sem, ↓reduceIte, Nat.reduceEqDiff, Nat.reduceLT, Nat.reduceSub, A_poskey_Compare_0, A_poskey_Compare_1]
  refine call_eq (Runs.prim hs rfl ⟨rfl, rfl⟩) ?_
  simp -dsimp only [↓w_seq, ↓w_ops, ↓w_skip, ↓w_ret, ↓w_exit, ↓w_scope, ↓w_block, ↓w_cond, cond_true', cond_false', ↓t_nil, ↓t_plain, ↓t_guard, ↓t_again, t_val, t_call, g_true, g_false, a_val, a_call, ↓n_normal, ↓n_ret, ↓n_exit, ↓b_normal, ↓b_ret, ↓b_exit, ↓e_normal, ↓e_ret, e_some, go_sem, ↓reduceIte, Nat.reduceEqDiff, Nat.reduceLT, Nat.reduceSub, A_poskey_Compare_0, A_poskey_Compare_1]
  exact ⟨trivial, trivial⟩

/-- What the comparisons lean on. -/
structure HasCmp (D : Decls) : Prop where
  st : D.prim F_stamp_Compare = none ∧ D.code.get F_stamp_Compare = some A_stamp_Compare
  pk : D.prim F_poskey_Compare = none ∧ D.code.get F_poskey_Compare = some A_poskey_Compare
  bf : D.prim F_order_Before = none ∧ D.code.get F_order_Before = some A_order_Before
  c1 : D.prim F_order_Sort_c1 = none ∧ D.code.get F_order_Sort_c1 = some A_order_Sort_c1
  sc : D.prim F_strings_Compare = some fun args M => (pCompare args).map (·, M)

theorem order_Before_runs {D : Decls} (hD : HasCmp D) (a b : Sb) (M : Mem) : Runs D F_order_Before [.agg (sbC a), .agg (sbC b)] M fun v M' => v = .bool (befSb a b) ∧ Grew M M' := by
  refine Runs.walk (F := A_order_Before) hD.bf.1 hD.bf.2 (by rfl) ?_
  unfold A_order_Before
  obtain ⟨a0, a1, a2⟩ := a
  obtain ⟨b0, b1, b2⟩ := b
  simp only [sbC]
  have hG : Grew M ((M.push (.cells [.str a0, .int .i64 a1, .int .i64 a2] false)).push (.cells [.str b0, .int .i64 b1, .int .i64 b2] false)) := (Grew.push M _).trans (Grew.push _ _)
  by_cases h0 : a0 = b0
  · subst h0
    by_cases h1 : a1 = b1 ∧ a2 = b2
    · obtain ⟨rfl, rfl⟩ := h1
      simp -dsimp only [↓w_seq, ↓w_ops, ↓w_skip, ↓w_ret, ↓w_exit, ↓w_scope, ↓w_block, ↓w_cond, cond_true', cond_false', ↓t_nil, ↓t_plain, ↓t_guard, ↓t_again, t_val, t_call, g_true, g_false, a_val, a_call, ↓n_normal, ↓n_ret, ↓n_exit, ↓b_normal, ↓b_ret, ↓b_exit, ↓e_normal, ↓e_ret, e_some, go_sem, ↓reduceIte, Nat.reduceEqDiff, Nat.reduceLT, Nat.reduceSub, A_order_Before_0, A_order_Before_1, A_order_Before_2, A_order_Before_3, Int.lt_irrefl, true_and, and_true, false_and, and_false, and_self, same_two, same_sib, same_spot, vload, vptr, vof, V.cells, Mem.read, rdCells, Mem.get_push, Mem.next_push, Nat.left_eq_add, Nat.add_eq_left, Nat.add_left_cancel_iff, Nat.add_right_cancel_iff, Nat.reduceAdd, Nat.add_zero, Nat.zero_add, Nat.add_assoc, Nat.reduceLeDiff, Nat.reduceBEq, List.length_cons, List.length_nil, List.drop_zero, List.drop_succ_cons, List.take_succ_cons, List.take_zero, List.take_nil, List.drop_nil, List.getElem?_cons_zero, List.getElem?_cons_succ, reduceCtorEq, Nat.succ_ne_self, Nat.one_ne_zero, Nat.le_refl, ne_eq, not_false_eq_true]
      exact ⟨by simp [befSb], hG⟩
    · have hne : ¬ ((a1, a2) : St) = (b1, b2) := fun e => h1 (by cases e; exact ⟨rfl, rfl⟩)
      simp -dsimp only [↓w_seq, ↓w_ops, ↓w_skip, ↓w_ret, ↓w_exit, ↓w_scope, ↓w_block, ↓w_cond, cond_true', cond_false', ↓t_nil, ↓t_plain, ↓t_guard, ↓t_again, t_val, t_call, g_true, g_false, a_val, a_call, ↓n_normal, ↓n_ret, ↓n_exit, ↓b_normal, ↓b_ret, ↓b_exit, ↓e_normal, ↓e_ret, e_some, go_sem, ↓reduceIte, Nat.reduceEqDiff, Nat.reduceLT, Nat.reduceSub, A_order_Before_0, A_order_Before_1, A_order_Before_2, A_order_Before_3, Int.lt_irrefl, true_and, and_true, false_and, and_false, and_self, same_two, same_sib, same_spot, vload, vptr, vof, V.cells, Mem.read, rdCells, Mem.get_push, Mem.next_push, Nat.left_eq_add, Nat.add_eq_left, Nat.add_left_cancel_iff, Nat.add_right_cancel_iff, Nat.reduceAdd, Nat.add_zero, Nat.zero_add, Nat.add_assoc, Nat.reduceLeDiff, Nat.reduceBEq, List.length_cons, List.length_nil, List.drop_zero, List.drop_succ_cons, List.take_succ_cons, List.take_zero, List.take_nil, List.drop_nil, List.getElem?_cons_zero, List.getElem?_cons_succ, reduceCtorEq, Nat.succ_ne_self, Nat.one_ne_zero, Nat.le_refl, ne_eq, not_false_eq_true, h1]
      refine call_of (stamp_Compare_runs D hD.st.1 hD.st.2 (a1, a2) (b1, b2) _) ?_
      rintro v M' ⟨rfl, hM'⟩
      simp -dsimp only [↓w_seq, ↓w_ops, ↓w_skip, ↓w_ret, ↓w_exit, ↓w_scope, ↓w_block, ↓w_cond, cond_true', cond_false', ↓t_nil, ↓t_plain, ↓t_guard, ↓t_again, t_val, t_call, g_true, g_false, a_val, a_call, ↓n_normal, ↓n_ret, ↓n_exit, ↓b_normal, ↓b_ret, ↓b_exit, ↓e_normal, ↓e_ret, e_some, go_sem, ↓reduceIte, Nat.reduceEqDiff, Nat.reduceLT, Nat.reduceSub, A_order_Before_0, A_order_Before_1, A_order_Before_2, A_order_Before_3, Int.lt_irrefl, true_and, and_true, false_and, and_false, and_self, same_two, same_sib, same_spot, vload, vptr, vof, V.cells, Mem.read, rdCells, Mem.get_push, Mem.next_push, Nat.left_eq_add, Nat.add_eq_left, Nat.add_left_cancel_iff, Nat.add_right_cancel_iff, Nat.reduceAdd, Nat.add_zero, Nat.zero_add, Nat.add_assoc, Nat.reduceLeDiff, Nat.reduceBEq, List.length_cons, List.length_nil, List.drop_zero, List.drop_succ_cons, List.take_succ_cons, List.take_zero, List.take_nil, List.drop_nil, List.getElem?_cons_zero, List.getElem?_cons_succ, reduceCtorEq, Nat.succ_ne_self, Nat.one_ne_zero, Nat.le_refl, ne_eq, not_false_eq_true]
      exact ⟨by simp [befSb, hne], hG.trans hM'⟩
  · simp -dsimp only [↓w_seq, ↓w_ops, ↓w_skip, ↓w_ret, ↓w_exit, ↓w_scope, ↓w_block, ↓w_cond, cond_true', cond_false', ↓t_nil, ↓t_plain, ↓t_guard, ↓t_again, t_val, t_call, g_true, g_false, a_val, a_call, ↓n_normal, ↓n_ret, ↓n_exit, ↓b_normal, ↓b_ret, ↓b_exit, ↓e_normal, ↓e_ret, e_some, go_sem, ↓reduceIte, Nat.reduceEqDiff, Nat.reduceLT, Nat.reduceSub, A_order_Before_0, A_order_Before_1, A_order_Before_2, A_order_Before_3, Int.lt_irrefl, true_and, and_true, false_and, and_false, and_self, same_two, same_sib, same_spot, vload, vptr, vof, V.cells, Mem.read, rdCells, Mem.get_push, Mem.next_push, Nat.left_eq_add, Nat.add_eq_left, Nat.add_left_cancel_iff, Nat.add_right_cancel_iff, Nat.reduceAdd, Nat.add_zero, Nat.zero_add, Nat.add_assoc, Nat.reduceLeDiff, Nat.reduceBEq, List.length_cons, List.length_nil, List.drop_zero, List.drop_succ_cons, List.take_succ_cons, List.take_zero, List.take_nil, List.drop_nil, List.getElem?_cons_zero, List.getElem?_cons_succ, reduceCtorEq, Nat.succ_ne_self, Nat.one_ne_zero, Nat.le_refl, ne_eq, not_false_eq_true, h0]
    refine call_eq (poskey_Compare_runs D hD.pk.1 hD.pk.2 hD.sc _ _ _) ?_
    simp -dsimp only [↓w_seq, ↓w_ops, ↓w_skip, ↓w_ret, ↓w_exit, ↓w_scope, ↓w_block, ↓w_cond, cond_true', cond_false', ↓t_nil, ↓t_plain, ↓t_guard, ↓t_again, t_val, t_call, g_true, g_false, a_val, a_call, ↓n_normal, ↓n_ret, ↓n_exit, ↓b_normal, ↓b_ret, ↓b_exit, ↓e_normal, ↓e_ret, e_some, go_sem, ↓reduceIte, Nat.reduceEqDiff, Nat.reduceLT, Nat.reduceSub, A_order_Before_0, A_order_Before_1, A_order_Before_2, A_order_Before_3, Int.lt_irrefl, true_and, and_true, false_and, and_false, and_self, same_two, same_sib, same_spot, vload, vptr, vof, V.cells, Mem.read, rdCells, Mem.get_push, Mem.next_push, Nat.left_eq_add, Nat.add_eq_left, Nat.add_left_cancel_iff, Nat.add_right_cancel_iff, Nat.reduceAdd, Nat.add_zero, Nat.zero_add, Nat.add_assoc, Nat.reduceLeDiff, Nat.reduceBEq, List.length_cons, List.length_nil, List.drop_zero, List.drop_succ_cons, List.take_succ_cons, List.take_zero, List.take_nil, List.drop_nil, List.getElem?_cons_zero, List.getElem?_cons_succ, reduceCtorEq, Nat.succ_ne_self, Nat.one_ne_zero, Nat.le_refl, ne_eq, not_false_eq_true]
    exact ⟨by simp [befSb, h0], hG⟩

theorem order_Sort_c1_runs {D : Decls} (hD : HasCmp D) (a b : Sb) (M : Mem) : Runs D F_order_Sort_c1 [.agg (sbC a), .agg (sbC b)] M fun v M' => v = .int .i64 (cmpSb a b) ∧ Grew M M' := by
  refine Runs.walk (F := A_order_Sort_c1) hD.c1.1 hD.c1.2 (by rfl) ?_
  unfold A_order_Sort_c1
  have hb := fun M => order_Before_runs hD a b M
  obtain ⟨a0, a1, a2⟩ := a
  obtain ⟨b0, b1, b2⟩ := b
  simp only [sbC] at hb ⊢
  have hG : Grew M ((M.push (.cells [.str a0, .int .i64 a1, .int .i64 a2] false)).push (.cells [.str b0, .int .i64 b1, .int .i64 b2] false)) := (Grew.push M _).trans (Grew.push _ _)
  by_cases h1 : a0 = b0 ∧ a1 = b1 ∧ a2 = b2
  · obtain ⟨rfl, rfl, rfl⟩ := h1
    simp -dsimp only [↓w_seq, ↓w_ops, ↓w_skip, ↓w_ret, ↓w_exit, ↓w_scope, ↓w_block, ↓w_cond, cond_true', cond_false', ↓t_nil, ↓t_plain, ↓t_guard, ↓t_again, t_val, t_call, g_true, g_false, a_val, a_call, ↓n_normal, ↓n_ret, ↓n_exit, ↓b_normal, ↓b_ret, ↓b_exit, ↓e_normal, ↓e_ret, e_some, go_sem, ↓reduceIte, Nat.reduceEqDiff, Nat.reduceLT, Nat.reduceSub, A_order_Sort_c1_0, A_order_Sort_c1_1, A_order_Sort_c1_2, A_order_Sort_c1_3, A_order_Sort_c1_4, A_order_Sort_c1_5, Int.lt_irrefl, true_and, and_true, false_and, and_false, and_self, same_two, same_sib, same_spot, vload, vptr, vof, V.cells, Mem.read, rdCells, Mem.get_push, Mem.next_push, Nat.left_eq_add, Nat.add_eq_left, Nat.add_left_cancel_iff, Nat.add_right_cancel_iff, Nat.reduceAdd, Nat.add_zero, Nat.zero_add, Nat.add_assoc, Nat.reduceLeDiff, Nat.reduceBEq, List.length_cons, List.length_nil, List.drop_zero, List.drop_succ_cons, List.take_succ_cons, List.take_zero, List.take_nil, List.drop_nil, List.getElem?_cons_zero, List.getElem?_cons_succ, reduceCtorEq, Nat.succ_ne_self, Nat.one_ne_zero, Nat.le_refl, ne_eq, not_false_eq_true]
    exact ⟨by simp [cmpSb], hG⟩
  · have hne : ¬ ((a0, a1, a2) : Sb) = (b0, b1, b2) := fun e => h1 (by cases e; exact ⟨rfl, rfl, rfl⟩)
    simp -dsimp only [↓w_seq, ↓w_ops, ↓w_skip, ↓w_ret, ↓w_exit, ↓w_scope, ↓w_block, ↓w_cond, cond_true', cond_false', ↓t_nil, ↓t_plain, ↓t_guard, ↓t_again, t_val, t_call, g_true, g_false, a_val, a_call, ↓n_normal, ↓n_ret, ↓n_exit, ↓b_normal, ↓b_ret, ↓b_exit, ↓e_normal, ↓e_ret, e_some, go_sem, ↓reduceIte, Nat.reduceEqDiff, Nat.reduceLT, Nat.reduceSub, A_order_Sort_c1_0, A_order_Sort_c1_1, A_order_Sort_c1_2, A_order_Sort_c1_3, A_order_Sort_c1_4, A_order_Sort_c1_5, Int.lt_irrefl, true_and, and_true, false_and, and_false, and_self, same_two, same_sib, same_spot, vload, vptr, vof, V.cells, Mem.read, rdCells, Mem.get_push, Mem.next_push, Nat.left_eq_add, Nat.add_eq_left, Nat.add_left_cancel_iff, Nat.add_right_cancel_iff, Nat.reduceAdd, Nat.add_zero, Nat.zero_add, Nat.add_assoc, Nat.reduceLeDiff, Nat.reduceBEq, List.length_cons, List.length_nil, List.drop_zero, List.drop_succ_cons, List.take_succ_cons, List.take_zero, List.take_nil, List.drop_nil, List.getElem?_cons_zero, List.getElem?_cons_succ, reduceCtorEq, Nat.succ_ne_self, Nat.one_ne_zero, Nat.le_refl, ne_eq, not_false_eq_true, h1]
    refine call_of (hb _) ?_
    rintro v M' ⟨rfl, hM'⟩
    cases hq : befSb (a0, a1, a2) (b0, b1, b2)
    · simp -dsimp only [↓w_seq, ↓w_ops, ↓w_skip, ↓w_ret, ↓w_exit, ↓w_scope, ↓w_block, ↓w_cond, cond_true', cond_false', ↓t_nil, ↓t_plain, ↓t_guard, ↓t_again, t_val, t_call, g_true, g_false, a_val, a_call, ↓n_normal, ↓n_ret, ↓n_exit, ↓b_normal, ↓b_ret, ↓b_exit, ↓e_normal, ↓e_ret, e_some, go_sem, ↓reduceIte, Nat.reduceEqDiff, Nat.reduceLT, Nat.reduceSub, A_order_Sort_c1_0, A_order_Sort_c1_1, A_order_Sort_c1_2, A_order_Sort_c1_3, A_order_Sort_c1_4, A_order_Sort_c1_5, Int.lt_irrefl, true_and, and_true, false_and, and_false, and_self, same_two, same_sib, same_spot, vload, vptr, vof, V.cells, Mem.read, rdCells, Mem.get_push, Mem.next_push, Nat.left_eq_add, Nat.add_eq_left, Nat.add_left_cancel_iff, Nat.add_right_cancel_iff, Nat.reduceAdd, Nat.add_zero, Nat.zero_add, Nat.add_assoc, Nat.reduceLeDiff, Nat.reduceBEq, List.length_cons, List.length_nil, List.drop_zero, List.drop_succ_cons, List.take_succ_cons, List.take_zero, List.take_nil, List.drop_nil, List.getElem?_cons_zero, List.getElem?_cons_succ, reduceCtorEq, Nat.succ_ne_self, Nat.one_ne_zero, Nat.le_refl, ne_eq, not_false_eq_true]
      exact ⟨by simp [cmpSb, hne, hq], hG.trans hM'⟩
    · simp -dsimp only [↓w_seq, ↓w_ops, ↓w_skip, ↓w_ret, ↓w_exit, ↓w_scope, ↓w_block, ↓w_cond, cond_true', cond_false', ↓t_nil, ↓t_plain, ↓t_guard, ↓t_again, t_val, t_call, g_true, g_false, a_val, a_call, ↓n_normal, ↓n_ret, ↓n_exit, ↓b_normal, ↓b_ret, ↓b_exit, ↓e_normal, ↓e_ret, e_some, go_sem, ↓reduceIte, Nat.reduceEqDiff, Nat.reduceLT, Nat.reduceSub, A_order_Sort_c1_0, A_order_Sort_c1_1, A_order_Sort_c1_2, A_order_Sort_c1_3, A_order_Sort_c1_4, A_order_Sort_c1_5, Int.lt_irrefl, true_and, and_true, false_and, and_false, and_self, same_two, same_sib, same_spot, vload, vptr, vof, V.cells, Mem.read, rdCells, Mem.get_push, Mem.next_push, Nat.left_eq_add, Nat.add_eq_left, Nat.add_left_cancel_iff, Nat.add_right_cancel_iff, Nat.reduceAdd, Nat.add_zero, Nat.zero_add, Nat.add_assoc, Nat.reduceLeDiff, Nat.reduceBEq, List.length_cons, List.length_nil, List.drop_zero, List.drop_succ_cons, List.take_succ_cons, List.take_zero, List.take_nil, List.drop_nil, List.getElem?_cons_zero, List.getElem?_cons_succ, reduceCtorEq, Nat.succ_ne_self, Nat.one_ne_zero, Nat.le_refl, ne_eq, not_false_eq_true]
      exact ⟨by simp [cmpSb, hne, hq], hG.trans hM'⟩
end Go.Am.Try

/- Siblings sorted: the order is one; the kit's sort laid at this program. -/
namespace Go.Proofs
open Go.Shelf
def Try.sortSib_ren : Go.Shelf.Ren := ⟨fun | 6 => 41 | 15 => 55 | 14 => 54 | 28 => 70 | 29 => 71 | 20 => 62 | 21 => 63 | 22 => 64 | 23 => 65 | 24 => 66 | 25 => 67 | 26 => 68 | 27 => 69 | 46 => 73 | 47 => 74 | 48 => 75 | 49 => 76 | 50 => 77 | 57 => 78 | n => n, fun | 22 => 27 | 24 => 36 | 25 => 55 | 3 => 3 | 39 => 88 | 0 => 0 | 53 => 100 | 55 => 102 | 4 => 4 | 46 => 93 | 45 => 92 | 50 => 97 | 5 => 5 | 9 => 9 | 66 => 103 | 70 => 107 | 76 => 109 | 77 => 110 | n => n, fun | n => n⟩
theorem Try.sortSib : Go.Proofs.SlLaysF0.n6 Try.prog Try.sortSib_ren := {
  mixed := by kernel_rfl
  f6 := ⟨Try.f41.name, by decide, Try.func41.trans (congrArg some (by kernel_rfl))⟩
  f14 := ⟨Try.f54.name, by decide, Try.func54.trans (congrArg some (by kernel_rfl))⟩
  f15 := Try.func55.trans (congrArg some (by kernel_rfl))
  f20 := ⟨Try.f62.name, by decide, Try.func62.trans (congrArg some (by kernel_rfl))⟩
  f21 := ⟨Try.f63.name, by decide, Try.func63.trans (congrArg some (by kernel_rfl))⟩
  f22 := ⟨Try.f64.name, by decide, Try.func64.trans (congrArg some (by kernel_rfl))⟩
  f23 := ⟨Try.f65.name, by decide, Try.func65.trans (congrArg some (by kernel_rfl))⟩
  f24 := ⟨Try.f66.name, by decide, Try.func66.trans (congrArg some (by kernel_rfl))⟩
  f25 := ⟨Try.f67.name, by decide, Try.func67.trans (congrArg some (by kernel_rfl))⟩
  f26 := ⟨Try.f68.name, by decide, Try.func68.trans (congrArg some (by kernel_rfl))⟩
  f27 := ⟨Try.f69.name, by decide, Try.func69.trans (congrArg some (by kernel_rfl))⟩
  f28 := Try.func70.trans (congrArg some (by kernel_rfl))
  f29 := Try.func71.trans (congrArg some (by kernel_rfl))
  f46 := ⟨Try.f73.name, by decide, Try.func73.trans (congrArg some (by kernel_rfl))⟩
  f47 := Try.func74.trans (congrArg some (by kernel_rfl))
  f48 := Try.func75.trans (congrArg some (by kernel_rfl))
  f49 := ⟨Try.f76.name, by decide, Try.func76.trans (congrArg some (by kernel_rfl))⟩
  f50 := ⟨Try.f77.name, by decide, Try.func77.trans (congrArg some (by kernel_rfl))⟩
  f57 := ⟨Try.f78.name, by decide, Try.func78.trans (congrArg some (by kernel_rfl))⟩
  t0 := Try.underlying0
  a0 := Try.isAgg0
  z0 := Try.sizeOf0
  v0 := Try.zeroValue0
  t3 := Try.underlying3
  a3 := Try.isAgg3
  z3 := Try.sizeOf3
  v3 := Try.zeroValue3
  t4 := Try.underlying4
  a4 := Try.isAgg4
  z4 := Try.sizeOf4
  v4 := Try.zeroValue4
  t5 := Try.underlying5
  a5 := Try.isAgg5
  z5 := Try.sizeOf5
  v5 := Try.zeroValue5
  t9 := Try.underlying9
  a9 := Try.isAgg9
  z9 := Try.sizeOf9
  v9 := Try.zeroValue9
  t22 := Try.underlying27
  a22 := Try.isAgg27
  z22 := Try.sizeOf27
  v22 := Try.zeroValue27
  t25 := Try.underlying55
  a25 := Try.isAgg55
  z25 := Try.sizeOf55
  v25 := Try.zeroValue55
  t39 := Try.underlying88
  a39 := Try.isAgg88
  z39 := Try.sizeOf88
  v39 := Try.zeroValue88
  t45 := Try.underlying92
  a45 := Try.isAgg92
  z45 := Try.sizeOf92
  v45 := Try.zeroValue92
  t46 := Try.underlying93
  a46 := Try.isAgg93
  z46 := Try.sizeOf93
  v46 := Try.zeroValue93
  t50 := Try.underlying97
  a50 := Try.isAgg97
  z50 := Try.sizeOf97
  v50 := Try.zeroValue97
  t53 := Try.underlying100
  a53 := Try.isAgg100
  z53 := Try.sizeOf100
  v53 := Try.zeroValue100
  t55 := Try.underlying102
  a55 := Try.isAgg102
  z55 := Try.sizeOf102
  v55 := Try.zeroValue102
  t66 := Try.underlying103
  a66 := Try.isAgg103
  z66 := Try.sizeOf103
  v66 := Try.zeroValue103
  t70 := Try.underlying107
  a70 := Try.isAgg107
  z70 := Try.sizeOf107
  v70 := Try.zeroValue107
  t76 := Try.underlying109
  a76 := Try.isAgg109
  z76 := Try.sizeOf109
  v76 := Try.zeroValue109
  t77 := Try.underlying110
  a77 := Try.isAgg110
  z77 := Try.sizeOf110
  v77 := Try.zeroValue110 }
end Go.Proofs

namespace Go.Am.Try
open Go Go.Am Go.Proofs Go.Sort Go.Shelf
set_option maxRecDepth 100000
set_option linter.unusedSimpArgs false
set_option linter.unusedVariables false

/-! ### the orders -/
def ltSt (a b : St) : Bool := decide (a.1 < b.1 ∨ a.1 = b.1 ∧ a.2 < b.2)
theorem ltOf_St (a b : St) : ltOf cmpSt a b = ltSt a b := by
  unfold ltOf cmpSt ltSt
  by_cases h : a = b
  · subst h; simp
  · by_cases h2 : a.1 < b.1 ∨ a.1 = b.1 ∧ a.2 < b.2
    · simp [h, h2]
    · simp [h, h2]
theorem swo_St : SWO ltSt where
  irrefl x := by unfold ltSt; simp
  trans x y z h1 h2 := by
    unfold ltSt at *
    simp only [decide_eq_true_eq] at *
    omega
  ntrans x y z h1 h2 := by
    unfold ltSt at *
    simp only [decide_eq_false_iff_not] at *
    omega
theorem tot_St (x y : St) (h1 : ltSt x y = false) (h2 : ltSt y x = false) : x = y := by
  obtain ⟨a, b⟩ := x
  obtain ⟨c, d⟩ := y
  unfold ltSt at h1 h2
  simp only [decide_eq_false_iff_not] at h1 h2
  have : a = c := by omega
  have : b = d := by omega
  simp [*]
def ltSb (a b : Sb) : Bool := if a.1 = b.1 then ltSt a.2 b.2 else decide (cmpB a.1 b.1 < 0)
theorem bef_is (a b : Sb) : befSb a b = ltSb a b := by
  unfold befSb ltSb
  by_cases h : a.1 = b.1
  · rw [if_pos h, if_pos h, ← ltOf_St]
    unfold ltOf
    by_cases h2 : a = b
    · subst h2; simp [cmpSt]
    · simp [h2]
  · rw [if_neg h, if_neg h]
theorem ltOf_Sb (a b : Sb) : ltOf cmpSb a b = ltSb a b := by
  unfold ltOf cmpSb
  rw [bef_is]
  by_cases h : a = b
  · subst h; simp [ltSb, swo_St.irrefl]
  · cases hq : ltSb a b <;> simp [h]
theorem cmpB_neg (a b : List UInt8) : cmpB a b < 0 ↔ cmpB a b = -1 := by
  rcases cmp_three a b with h | h | h <;> simp [h]
theorem ltSb_iff (a b : Sb) : ltSb a b = true ↔ (a.1 = b.1 ∧ ltSt a.2 b.2 = true) ∨ cmpB a.1 b.1 = -1 := by
  unfold ltSb
  by_cases h : a.1 = b.1
  · rw [if_pos h, h, cmp_self]; simp
  · rw [if_neg h, decide_eq_true_eq, cmpB_neg]; simp [h]
theorem cmpB_anti {a b : List UInt8} (h : cmpB a b = -1) : cmpB b a ≠ -1 := by rw [cmp_neg a b, h]; decide
theorem cmpB_total {a b : List UInt8} (h1 : cmpB a b ≠ -1) (h2 : cmpB b a ≠ -1) : a = b := by
  rcases cmp_three a b with h | h | h
  · exact absurd h h1
  · exact cmp_eq h
  · rw [cmp_neg a b, h] at h2; exact absurd rfl h2
theorem swo_Sb : SWO ltSb where
  irrefl x := by simp [ltSb, swo_St.irrefl]
  trans x y z h1 h2 := by
    rw [ltSb_iff] at *
    rcases h1 with ⟨e1, h1⟩ | h1 <;> rcases h2 with ⟨e2, h2⟩ | h2
    · exact .inl ⟨e1.trans e2, swo_St.trans _ _ _ h1 h2⟩
    · exact .inr (by rw [e1]; exact h2)
    · exact .inr (by rw [← e2]; exact h1)
    · exact .inr (cmp_trans h1 h2)
  ntrans x y z h1 h2 := by
    have n : ∀ a b : Sb, ltSb a b = false ↔ ¬ ((a.1 = b.1 ∧ ltSt a.2 b.2 = true) ∨ cmpB a.1 b.1 = -1) := fun a b => by rw [← ltSb_iff]; simp
    rw [n] at *
    rintro (⟨e, h⟩ | h)
    · by_cases hxy : x.1 = y.1
      · have hyz : y.1 = z.1 := hxy ▸ e
        have h3 : ltSt x.2 y.2 = false := by cases hq : ltSt x.2 y.2 with | false => rfl | true => exact absurd (.inl ⟨hxy, hq⟩) h1
        have h4 : ltSt y.2 z.2 = false := by cases hq : ltSt y.2 z.2 with | false => rfl | true => exact absurd (.inl ⟨hyz, hq⟩) h2
        rw [swo_St.ntrans _ _ _ h3 h4] at h
        cases h
      · have h3 : cmpB y.1 x.1 = -1 := by
          rcases cmp_three y.1 x.1 with q | q | q
          · exact q
          · exact absurd (cmp_eq q).symm hxy
          · exact absurd (.inr (by rw [cmp_neg y.1 x.1, q])) h1
        exact h2 (.inr (by rw [← e]; exact h3))
    · have h3 : cmpB x.1 y.1 ≠ -1 := fun q => h1 (.inr q)
      have h4 : cmpB y.1 z.1 ≠ -1 := fun q => h2 (.inr q)
      by_cases hxy : x.1 = y.1
      · exact h4 (by rw [← hxy]; exact h)
      · have h5 : cmpB y.1 x.1 = -1 := by
          rcases cmp_three y.1 x.1 with q | q | q
          · exact q
          · exact absurd (cmp_eq q).symm hxy
          · exact absurd (by rw [cmp_neg y.1 x.1, q]) h3
        exact h4 (cmp_trans h5 h)
theorem tot_Sb (x y : Sb) (h1 : ltSb x y = false) (h2 : ltSb y x = false) : x = y := by
  have n : ∀ a b : Sb, ltSb a b = false ↔ ¬ ((a.1 = b.1 ∧ ltSt a.2 b.2 = true) ∨ cmpB a.1 b.1 = -1) := fun a b => by rw [← ltSb_iff]; simp
  rw [n] at *
  have e : x.1 = y.1 := cmpB_total (fun q => h1 (.inr q)) (fun q => h2 (.inr q))
  have e2 : x.2 = y.2 := tot_St _ _ (by cases hq : ltSt x.2 y.2 with | false => rfl | true => exact absurd (.inl ⟨e, hq⟩) h1) (by cases hq : ltSt y.2 x.2 with | false => rfl | true => exact absurd (.inl ⟨e.symm, hq⟩) h2)
  exact Prod.ext e e2

/-! ### in cells -/
def decSb : List V → Option Sb
  | [.str s, .int .i64 a, .int .i64 b] => some (s, a, b)
  | _ => none
def elSb : Elem Sb where
  k := 3
  cv := sbC
  enc x := [.string ⟨x.1.toArray⟩, .int .i64 x.2.1, .int .i64 x.2.2]
  dec := decSb
  k_pos := by omega
  len _ := rfl
  elen _ := rfl
  dec_some cs x h := by unfold decSb at h; split at h <;> cases h; rfl
  dec_cv _ := rfl
  rel E x := .cons (by have := VR.str (E := E) ⟨x.1.toArray⟩; simpa using this) (.cons (.int _ _) (.cons (.int _ _) .nil))
  rel_eq E x us h := by
    cases h with
    | cons h1 t => cases t with
      | cons h2 t => cases t with
        | cons h3 t =>
          cases t; cases h2; cases h3
          generalize hs : V.str x.1 = v at h1
          cases h1 <;> first | (cases hs; done) | skip
          rename_i s
          have hx := V.str.inj hs
          rw [hx]
  one x v hv := by simp at hv; rcases hv with rfl | rfl | rfl <;> rfl
  one' _ := rfl
  flat _ := rfl

/-! ### the sort -/
def cmpsOK (D : Decls) : Prop := HasCmp D
theorem hasCmp1 : HasCmp D1 := ⟨⟨rfl, by rfl⟩, ⟨rfl, by rfl⟩, ⟨rfl, by rfl⟩, ⟨rfl, by rfl⟩, rfl⟩
theorem sortSb_ok : CallOK Try.prog gl0 fun f' args M => if f' = F_slices_SortFunc_Sib then sortP elSb F_order_Sort_c1 ltSb args M else none := by
  have h := sort_callOK (P := Try.prog) (gl := gl0) (α := Sb) Try.sortSib elSb Try.isAgg36 Try.sizeOf36 cmpSb (by rw [show ltOf cmpSb = ltSb from funext fun a => funext fun b => ltOf_Sb a b]; exact swo_Sb)
    (by rw [show ltOf cmpSb = ltSb from funext fun a => funext fun b => ltOf_Sb a b]; exact tot_Sb) F_order_Sort_c1 ⟨_, Try.func22, (by kernel_rfl), (by kernel_rfl)⟩ ⟨_, Try.func41, (by kernel_rfl), (by kernel_rfl)⟩ (by
      intro x y w
      obtain ⟨k, v, M', hr, rfl, _⟩ := order_Sort_c1_runs hasCmp1 x y mem0
      obtain ⟨_, hs⟩ := callN_sound dok1 k _ _ mem0 _ M' hr
      refine (hs emb0 w #[.agg (elSb.enc x).toArray, .agg (elSb.enc y).toArray] (rel0 w) (fun x hx => by cases hx) (.cons (.agg (elSb.rel _ x)) (.cons (.agg (elSb.rel _ y)) .nil))).mono ?_
      rintro e w' ⟨E', v', rfl, hv', _, hX⟩
      cases hv'
      exact ⟨rfl, grown_of hX⟩)
  rw [show ltOf cmpSb = ltSb from funext fun a => funext fun b => ltOf_Sb a b] at h
  exact h
end Go.Am.Try

/- Siblings that a function hands on, one by one, collected: slices.AppendSeq, slices.Collect. -/
namespace Go.Am.Try
open Go Go.Am Go.Proofs Go.Sort Go.Shelf
set_option maxRecDepth 100000
set_option linter.unusedSimpArgs false
set_option linter.unusedVariables false

abbrev XP := XRuns Try.prog gl0
/-- What is so while siblings come. -/
structure CollJ (M : Mem) (lp : LoopState → Option Code → O) (pre : List Sb) (M' : Mem) : Prop where
  old : ∀ c, c < M.next → M'.get c = M.get c
  next : M.next + 2 ≤ M'.next
  loop : M'.get (M.next + 1) = some (lp .ready none)
  box : ∃ s, M'.get M.next = some (.cells [s] false) ∧ Hold (M.next + 2) M' 3 s pre.length (elSb.all pre) ∧ (pre = [] → s = .slice none 0 (.exact 0))

theorem CollJ.other {M : Mem} {lp : LoopState → Option Code → O} {pre : List Sb} {M1 M2 : Mem} (h : CollJ M lp pre M1) (hn : M1.next ≤ M2.next) (hk : ∀ c, c < M1.next → (∀ b s k l, M1.get c ≠ some (.mapIter b s k l)) → M2.get c = M1.get c) (hold : ∀ c, c < M.next → M2.get c = M1.get c)
    (hlp : ∀ st p b s k l, lp st p ≠ .mapIter b s k l) : CollJ M lp pre M2 := by
  obtain ⟨a, b, c, s, d, e, e'⟩ := h
  refine ⟨fun q hq => (hold q hq).trans (a q hq), by omega, ?_, s, ?_, e.keep (fun q hq => hk q (e.blk_le hq).2.1 ?_) hn, e'⟩
  · rw [hk _ (by omega) (fun b s k l => by rw [c]; intro h; exact hlp _ _ _ _ _ _ (Option.some.inj h))]; exact c
  · rw [hk _ (by omega) (fun b s k l => by rw [d]; intro h; cases h)]; exact d
  · intro b s k l
    rw [(e.blk_le hq).2.2]
    intro h; cases h

theorem sbC_len (x : Sb) : (sbC x).length = 3 := rfl
theorem AppendSeq_runs {f : FuncId} {first captured : List V} {G : Mem → Prop} {S Sp : List Sb → Prop} {N : Nat} (hseq : SeqX Try.prog gl0 f first captured (fun x => .agg (sbC x)) G S Sp N) (hN : (N + 1) * 32 ≤ maxRoom) (M : Mem)
    (hG : ∀ M', (∀ c, c < M.next → M'.get c = M.get c) → M.next ≤ M'.next → G M') :
    XP F_slices_AppendSeq_Sib [.slice none 0 (.exact 0), .fn f first captured] M fun v M' => ∃ xs, S xs ∧ (∀ c, c < M.next → M'.get c = M.get c) ∧ Hold M.next M' 3 v xs.length (elSb.all xs) ∧ (xs = [] → v = .slice none 0 (.exact 0)) := by
  refine XRuns.walk mixed Try.func53 b_slices_AppendSeq_Sib n_slices_AppendSeq_Sib r_slices_AppendSeq_Sib (by rfl) ?_
  unfold X_slices_AppendSeq_Sib
  simp -dsimp only [↓x_seq', ↓x_ops, ↓x_skip, ↓x_ret, ↓x_exit, ↓x_block', ↓x_cond', cond_true', cond_false', ↓i_nil, ↓i_plain, ↓i_guard, xs_val, xs_call, xs_yield, xg_true, xg_false, ↓n_normal, ↓n_ret, ↓n_exit, ↓b_normal, ↓b_ret, ↓b_exit, ↓xe_normal, ↓xe_ret, e_some, yieldOf, go_sem, ↓reduceIte, Nat.reduceEqDiff, Nat.reduceLT, Nat.reduceSub, X_slices_AppendSeq_Sib_0, X_slices_AppendSeq_Sib_1, X_slices_AppendSeq_Sib_2, X_slices_AppendSeq_Sib_3, X_slices_AppendSeq_Sib_6, Int.lt_irrefl, true_and, and_true, false_and, and_false, and_self, same_two, same_sib, same_spot, vload, vptr, vof, V.cells, Mem.read, rdCells, Mem.get_push, Mem.next_push, Nat.left_eq_add, Nat.add_eq_left, Nat.add_left_cancel_iff, Nat.add_right_cancel_iff, Nat.reduceAdd, Nat.add_zero, Nat.zero_add, Nat.add_assoc, Nat.reduceLeDiff, Nat.reduceBEq, List.length_cons, List.length_nil, List.drop_zero, List.drop_succ_cons, List.take_succ_cons, List.take_zero, List.take_nil, List.drop_nil, List.getElem?_cons_zero, List.getElem?_cons_succ, reduceCtorEq, Nat.succ_ne_self, Nat.one_ne_zero, Nat.le_refl, ne_eq, not_false_eq_true]
  refine x_range' _ _ _ _ _ (f := f) (first := first) (captured := captured) (by simp only [go_sem, ↓reduceIte, Nat.reduceEqDiff, Nat.reduceLT, Nat.reduceSub]) ?_
  intro lp hlp hY
  have hb0 : (M.push (.cells [.slice none 0 (.exact 0)] false)).next = M.next + 1 := rfl
  rw [hb0] at hY ⊢
  have hst : CollJ M lp [] ((M.push (.cells [.slice none 0 (.exact 0)] false)).push (lp .ready none)) := by
    refine ⟨fun c hc => ?_, by simp, ?_, .slice none 0 (.exact 0), ?_, .nil, fun _ => rfl⟩
    · rw [Mem.get_push_ne _ _ (by simp; omega), Mem.get_push_ne _ _ (by omega)]
    · rw [← hb0, Mem.get_push_same]
    · rw [Mem.get_push_ne _ _ (by simp), Mem.get_push_same]
  refine (hseq (M.next + 1) (CollJ M lp) (fun _ _ => False) _ (fun pre M' h => hG M' h.old (by have := h.next; omega)) (fun pre M' o h => ?_) (fun pre M' o o' h => ?_) (fun pre M' c b s k l h hcn hi => ?_) (fun pre x M' h hlen => ?_) hst).mono ?_
  · exact h.other (by simp) (fun c hc _ => Mem.get_push_ne _ _ (by omega)) (fun c hc => Mem.get_push_ne _ _ (by have := h.next; omega)) hlp
  · have hn : ∀ c, c ≠ M'.next → ((M'.push o).set M'.next o').get c = M'.get c := fun c hc => by rw [Mem.get_set_ne _ _ hc, Mem.get_push_ne _ _ hc]
    exact h.other (by simp) (fun c hc _ => hn c (by omega)) (fun c hc => hn c (by have := h.next; omega)) hlp
  · obtain ⟨b', s', k', l', hi⟩ := hi
    refine h.other (by simp) (fun c' _ hc' => Mem.get_set_ne _ _ (fun e => hc' b' s' k' l' (by rw [e]; exact hi))) (fun c' hc' => Mem.get_set_ne _ _ (by simp at hcn; omega)) hlp
  · -- a round
    refine hY [.agg (sbC x)] M' _ h.loop rfl ?_
    unfold X_slices_AppendSeq_Sib_4 X_slices_AppendSeq_Sib_5
    obtain ⟨s, hbox, hH, _⟩ := h.box
    have hnx := h.next
    have hw0 := write_full (M := M'.push (.cells [.str [], .int .i64 0, .int .i64 0] false)) (b := M'.next) (vs := sbC x) (Mem.get_push_same _ _) rfl rfl
    simp -dsimp only [↓x_seq', ↓x_ops, ↓x_skip, ↓x_ret, ↓x_exit, ↓x_block', ↓x_cond', cond_true', cond_false', ↓i_nil, ↓i_plain, ↓i_guard, xs_val, xs_call, xs_yield, xg_true, xg_false, ↓n_normal, ↓n_ret, ↓n_exit, ↓b_normal, ↓b_ret, ↓b_exit, ↓xe_normal, ↓xe_ret, e_some, yieldOf, go_sem, ↓reduceIte, Nat.reduceEqDiff, Nat.reduceLT, Nat.reduceSub, X_slices_AppendSeq_Sib_0, X_slices_AppendSeq_Sib_1, X_slices_AppendSeq_Sib_2, X_slices_AppendSeq_Sib_3, X_slices_AppendSeq_Sib_6, Int.lt_irrefl, true_and, and_true, false_and, and_false, and_self, same_two, same_sib, same_spot, vload, vptr, vof, V.cells, Mem.read, rdCells, Mem.get_push, Mem.next_push, Nat.left_eq_add, Nat.add_eq_left, Nat.add_left_cancel_iff, Nat.add_right_cancel_iff, Nat.reduceAdd, Nat.add_zero, Nat.zero_add, Nat.add_assoc, Nat.reduceLeDiff, Nat.reduceBEq, List.length_cons, List.length_nil, List.drop_zero, List.drop_succ_cons, List.take_succ_cons, List.take_zero, List.take_nil, List.drop_nil, List.getElem?_cons_zero, List.getElem?_cons_succ, reduceCtorEq, Nat.succ_ne_self, Nat.one_ne_zero, Nat.le_refl, ne_eq, not_false_eq_true, putAll', List.zip_cons_cons, List.zip_nil_right, List.foldl_cons, List.foldl_nil, vstore, hw0, sbC_len]
    -- the memory with the round's own variable
    have k1 : ∀ c, c ≠ M'.next → ((M'.push (.cells [.str [], .int .i64 0, .int .i64 0] false)).set M'.next (.cells (sbC x) false)).get c = M'.get c := fun c hc => by rw [Mem.get_set_ne _ _ hc, Mem.get_push_ne _ _ hc]
    have k2 : ((M'.push (.cells [.str [], .int .i64 0, .int .i64 0] false)).set M'.next (.cells (sbC x) false)).get M'.next = some (.cells (sbC x) false) := Mem.get_set_same _ _ _
    have k3 : ((M'.push (.cells [.str [], .int .i64 0, .int .i64 0] false)).set M'.next (.cells (sbC x) false)).next = M'.next + 1 := rfl
    generalize (M'.push (.cells [.str [], .int .i64 0, .int .i64 0] false)).set M'.next (.cells (sbC x) false) = M1 at *
    refine ⟨rfl, (k1 _ (by omega)).trans h.loop, ?_⟩
    have l1 : ∀ c, c ≠ M.next + 1 → (M1.set (M.next + 1) (lp .busy none)).get c = M1.get c := fun c hc => Mem.get_set_ne _ _ hc
    have l2 : (M1.set (M.next + 1) (lp .busy none)).get (M.next + 1) = some (lp .busy none) := Mem.get_set_same _ _ _
    have l3 : (M1.set (M.next + 1) (lp .busy none)).next = M'.next + 1 := k3
    generalize M1.set (M.next + 1) (lp .busy none) = M2 at *
    have hb2 : M2.get M.next = some (.cells [s] false) := by rw [l1 _ (by omega), k1 _ (by omega)]; exact hbox
    have hx2 : M2.get M'.next = some (.cells (sbC x) false) := by rw [l1 _ (by omega)]; exact k2
    have hH2 : Hold (M.next + 2) M2 3 s pre.length (elSb.all pre) := hH.keep (fun c hc => by have := hH.blk_le hc; rw [l1 _ (by omega), k1 _ (by omega)]) (by omega)
    simp -dsimp only [↓x_seq', ↓x_ops, ↓x_skip, ↓x_ret, ↓x_exit, ↓x_block', ↓x_cond', cond_true', cond_false', ↓i_nil, ↓i_plain, ↓i_guard, xs_val, xs_call, xs_yield, xg_true, xg_false, ↓n_normal, ↓n_ret, ↓n_exit, ↓b_normal, ↓b_ret, ↓b_exit, ↓xe_normal, ↓xe_ret, e_some, yieldOf, go_sem, ↓reduceIte, Nat.reduceEqDiff, Nat.reduceLT, Nat.reduceSub, X_slices_AppendSeq_Sib_0, X_slices_AppendSeq_Sib_1, X_slices_AppendSeq_Sib_2, X_slices_AppendSeq_Sib_3, X_slices_AppendSeq_Sib_6, Int.lt_irrefl, true_and, and_true, false_and, and_false, and_self, same_two, same_sib, same_spot, vload, vptr, vof, V.cells, Mem.read, rdCells, Mem.get_push, Mem.next_push, Nat.left_eq_add, Nat.add_eq_left, Nat.add_left_cancel_iff, Nat.add_right_cancel_iff, Nat.reduceAdd, Nat.add_zero, Nat.zero_add, Nat.add_assoc, Nat.reduceLeDiff, Nat.reduceBEq, List.length_cons, List.length_nil, List.drop_zero, List.drop_succ_cons, List.take_succ_cons, List.take_zero, List.take_nil, List.drop_nil, List.getElem?_cons_zero, List.getElem?_cons_succ, reduceCtorEq, Nat.succ_ne_self, Nat.one_ne_zero, Nat.le_refl, ne_eq, not_false_eq_true, hb2, hx2, sbC, fillCells, repl, wrCells, List.append_nil]
    have hH3 : Hold (M.next + 2) (M2.push (.cells (sbC x) false)) 3 s pre.length (elSb.all pre) := hH2.keep (fun c hc => Mem.get_push_ne _ _ (by have := hH2.blk_le hc; omega)) (by simp)
    obtain ⟨M4, hap, hH4, hn4, ho4⟩ := hH3.append (bytes := 32) (m := 1) (x := .slice (some (M2.next, 0)) 1 (.exact 1)) (new := sbC x) (by simp; omega) rfl
      (by
        have := read_all (Mem.get_push_same M2 (.cells (sbC x) false))
        simp only [srcCells, beq_dec, Nat.one_mul, Nat.reduceEqDiff, decide_false, cond_false]
        exact this) (by omega) rfl (by omega) rfl
    simp only [sbC] at hap
    rw [hap]
    have hne4 : ∀ c, c < M'.next → s.blk ≠ some c → c ≠ M.next + 1 → M4.get c = M'.get c := fun c hc hs hl => by
      rw [ho4 c (by simp; omega) hs, Mem.get_push_ne _ _ (by omega), l1 _ hl, k1 _ (by omega)]
    have hsn : s.blk ≠ some M.next := fun e => by have := (hH.blk_le e).1; omega
    have hsl : s.blk ≠ some (M.next + 1) := fun e => by have := (hH.blk_le e).1; omega
    have hb4 : M4.get M.next = some (.cells [s] false) := by rw [hne4 _ (by omega) hsn (by omega)]; exact hbox
    simp only [Mem.next_push] at hap hH4 hn4 ho4
    have hw4 := write_one (v := .slice (some (M2.next + 1, 0)) (pre.length + 1) (.upto 3)) hb4 (show 0 < 1 by omega) rfl
    simp -dsimp only [↓x_seq', ↓x_ops, ↓x_skip, ↓x_ret, ↓x_exit, ↓x_block', ↓x_cond', cond_true', cond_false', ↓i_nil, ↓i_plain, ↓i_guard, xs_val, xs_call, xs_yield, xg_true, xg_false, ↓n_normal, ↓n_ret, ↓n_exit, ↓b_normal, ↓b_ret, ↓b_exit, ↓xe_normal, ↓xe_ret, e_some, yieldOf, go_sem, ↓reduceIte, Nat.reduceEqDiff, Nat.reduceLT, Nat.reduceSub, X_slices_AppendSeq_Sib_0, X_slices_AppendSeq_Sib_1, X_slices_AppendSeq_Sib_2, X_slices_AppendSeq_Sib_3, X_slices_AppendSeq_Sib_6, Int.lt_irrefl, true_and, and_true, false_and, and_false, and_self, same_two, same_sib, same_spot, vload, vptr, vof, V.cells, Mem.read, rdCells, Mem.get_push, Mem.next_push, Nat.left_eq_add, Nat.add_eq_left, Nat.add_left_cancel_iff, Nat.add_right_cancel_iff, Nat.reduceAdd, Nat.add_zero, Nat.zero_add, Nat.add_assoc, Nat.reduceLeDiff, Nat.reduceBEq, List.length_cons, List.length_nil, List.drop_zero, List.drop_succ_cons, List.take_succ_cons, List.take_zero, List.take_nil, List.drop_nil, List.getElem?_cons_zero, List.getElem?_cons_succ, reduceCtorEq, Nat.succ_ne_self, Nat.one_ne_zero, Nat.le_refl, ne_eq, not_false_eq_true, vstore, hw4, List.set_cons_zero]
    have u := Upd.set M4 M.next (.cells [.slice (some (M2.next + 1, 0)) (pre.length + 1) (.upto 3)] false)
    generalize M4.set M.next (.cells [.slice (some (M2.next + 1, 0)) (pre.length + 1) (.upto 3)] false) = M5 at *
    have hl5 : M5.get (M.next + 1) = some (lp .busy none) := by
      rw [u.other _ (by omega), ho4 _ (by omega) hsl, Mem.get_push_ne _ _ (by omega)]; exact l2
    refine ⟨hl5, .inl ⟨rfl, ⟨fun c hc => ?_, ?_, Mem.get_set_same _ _ _, ?_⟩, by simp only [Mem.next_set]; rw [u.next, hn4]; omega, fun c hc hi => ?_⟩⟩
    · rw [Mem.get_set_ne _ _ (by omega), u.other _ (by omega), hne4 c (by omega) (fun e => by have := (hH.blk_le e).1; omega) (by omega)]
      exact h.old c hc
    · simp only [Mem.next_set]; rw [u.next, hn4]; omega
    · refine ⟨.slice (some (M2.next + 1, 0)) (pre.length + 1) (.upto 3), ?_, ?_, fun h => by simp at h⟩
      · rw [Mem.get_set_ne _ _ (by omega)]; exact u.at_
      · have e1 : elSb.all (pre ++ [x]) = elSb.all pre ++ sbC x := by simp [Elem.all, elSb]
        rw [e1, List.length_append, List.length_cons, List.length_nil]
        refine hH4.keep (fun c hc => ?_) (by simp only [Mem.next_set]; rw [u.next]; exact Nat.le_refl _)
        have := hH4.blk_le hc
        simp only [V.blk, Option.some.injEq] at hc
        rw [Mem.get_set_ne _ _ (by omega), u.other _ (by omega)]
    · obtain ⟨b', s', k', l', hi⟩ := hi
      have c1 : c ≠ M.next + 1 := fun e => by
        rw [e] at hi; rw [h.loop] at hi; exact hlp _ _ _ _ _ _ (Option.some.inj hi)
      have c2 : c ≠ M.next := fun e => by rw [e] at hi; rw [hbox] at hi; cases hi
      rw [Mem.get_set_ne _ _ c1, u.other _ c2]
      exact hne4 c hc (fun e => by rw [(hH.blk_le e).2.2] at hi; cases hi) c1
  · -- all have come
    intro v M' h
    rcases h with ⟨xs, hS, hJ⟩ | ⟨pre, _, hS⟩
    · refine .inl ⟨hJ.loop, ?_⟩
      obtain ⟨s, hbox, hH, hnil⟩ := hJ.box
      have hnx := hJ.next
      have k1 : ∀ c, c ≠ M.next + 1 → (M'.set (M.next + 1) (lp .exhausted none)).get c = M'.get c := fun c hc => Mem.get_set_ne _ _ hc
      have k2 : (M'.set (M.next + 1) (lp .exhausted none)).next = M'.next := rfl
      generalize M'.set (M.next + 1) (lp .exhausted none) = M2 at *
      have hb2 : M2.get M.next = some (.cells [s] false) := (k1 _ (by omega)).trans hbox
      simp -dsimp only [↓x_seq', ↓x_ops, ↓x_skip, ↓x_ret, ↓x_exit, ↓x_block', ↓x_cond', cond_true', cond_false', ↓i_nil, ↓i_plain, ↓i_guard, xs_val, xs_call, xs_yield, xg_true, xg_false, ↓n_normal, ↓n_ret, ↓n_exit, ↓b_normal, ↓b_ret, ↓b_exit, ↓xe_normal, ↓xe_ret, e_some, yieldOf, go_sem, ↓reduceIte, Nat.reduceEqDiff, Nat.reduceLT, Nat.reduceSub, X_slices_AppendSeq_Sib_0, X_slices_AppendSeq_Sib_1, X_slices_AppendSeq_Sib_2, X_slices_AppendSeq_Sib_3, X_slices_AppendSeq_Sib_6, Int.lt_irrefl, true_and, and_true, false_and, and_false, and_self, same_two, same_sib, same_spot, vload, vptr, vof, V.cells, Mem.read, rdCells, Mem.get_push, Mem.next_push, Nat.left_eq_add, Nat.add_eq_left, Nat.add_left_cancel_iff, Nat.add_right_cancel_iff, Nat.reduceAdd, Nat.add_zero, Nat.zero_add, Nat.add_assoc, Nat.reduceLeDiff, Nat.reduceBEq, List.length_cons, List.length_nil, List.drop_zero, List.drop_succ_cons, List.take_succ_cons, List.take_zero, List.take_nil, List.drop_nil, List.getElem?_cons_zero, List.getElem?_cons_succ, reduceCtorEq, Nat.succ_ne_self, Nat.one_ne_zero, Nat.le_refl, ne_eq, not_false_eq_true, hb2]
      refine ⟨xs, hS, fun c hc => (k1 c (by omega)).trans (hJ.old c hc), ?_, hnil⟩
      exact (hH.keep (fun c hc => k1 c (by have := (hH.blk_le hc).1; omega)) (by omega)).lower (by omega)
    · exact hS.elim

theorem Collect_runs {f : FuncId} {first captured : List V} {G : Mem → Prop} {S Sp : List Sb → Prop} {N : Nat} (hseq : SeqX Try.prog gl0 f first captured (fun x => .agg (sbC x)) G S Sp N) (hN : (N + 1) * 32 ≤ maxRoom) (M : Mem)
    (hG : ∀ M', (∀ c, c < M.next → M'.get c = M.get c) → M.next ≤ M'.next → G M') :
    XP F_slices_Collect_Sib [.fn f first captured] M fun v M' => ∃ xs, S xs ∧ (∀ c, c < M.next → M'.get c = M.get c) ∧ Hold M.next M' 3 v xs.length (elSb.all xs) ∧ (xs = [] → v = .slice none 0 (.exact 0)) := by
  refine XRuns.walk mixed Try.func40 b_slices_Collect_Sib n_slices_Collect_Sib r_slices_Collect_Sib (by rfl) ?_
  unfold X_slices_Collect_Sib
  simp -dsimp only [↓x_seq', ↓x_ops, ↓x_skip, ↓x_ret, ↓x_exit, ↓x_block', ↓x_cond', cond_true', cond_false', ↓i_nil, ↓i_plain, ↓i_guard, xs_val, xs_call, xs_yield, xg_true, xg_false, ↓n_normal, ↓n_ret, ↓n_exit, ↓b_normal, ↓b_ret, ↓b_exit, ↓xe_normal, ↓xe_ret, e_some, yieldOf, go_sem, ↓reduceIte, Nat.reduceEqDiff, Nat.reduceLT, Nat.reduceSub, X_slices_Collect_Sib_0, X_slices_Collect_Sib_1, Int.lt_irrefl, true_and, and_true, false_and, and_false, and_self, same_two, same_sib, same_spot, vload, vptr, vof, V.cells, Mem.read, rdCells, Mem.get_push, Mem.next_push, Nat.left_eq_add, Nat.add_eq_left, Nat.add_left_cancel_iff, Nat.add_right_cancel_iff, Nat.reduceAdd, Nat.add_zero, Nat.zero_add, Nat.add_assoc, Nat.reduceLeDiff, Nat.reduceBEq, List.length_cons, List.length_nil, List.drop_zero, List.drop_succ_cons, List.take_succ_cons, List.take_zero, List.take_nil, List.drop_nil, List.getElem?_cons_zero, List.getElem?_cons_succ, reduceCtorEq, Nat.succ_ne_self, Nat.one_ne_zero, Nat.le_refl, ne_eq, not_false_eq_true]
  refine xcall_of (AppendSeq_runs hseq hN M hG) ?_
  intro v M' h
  simp -dsimp only [↓x_seq', ↓x_ops, ↓x_skip, ↓x_ret, ↓x_exit, ↓x_block', ↓x_cond', cond_true', cond_false', ↓i_nil, ↓i_plain, ↓i_guard, xs_val, xs_call, xs_yield, xg_true, xg_false, ↓n_normal, ↓n_ret, ↓n_exit, ↓b_normal, ↓b_ret, ↓b_exit, ↓xe_normal, ↓xe_ret, e_some, yieldOf, go_sem, ↓reduceIte, Nat.reduceEqDiff, Nat.reduceLT, Nat.reduceSub, X_slices_Collect_Sib_0, X_slices_Collect_Sib_1, Int.lt_irrefl, true_and, and_true, false_and, and_false, and_self, same_two, same_sib, same_spot, vload, vptr, vof, V.cells, Mem.read, rdCells, Mem.get_push, Mem.next_push, Nat.left_eq_add, Nat.add_eq_left, Nat.add_left_cancel_iff, Nat.add_right_cancel_iff, Nat.reduceAdd, Nat.add_zero, Nat.zero_add, Nat.add_assoc, Nat.reduceLeDiff, Nat.reduceBEq, List.length_cons, List.length_nil, List.drop_zero, List.drop_succ_cons, List.take_succ_cons, List.take_zero, List.take_nil, List.drop_nil, List.getElem?_cons_zero, List.getElem?_cons_succ, reduceCtorEq, Nat.succ_ne_self, Nat.one_ne_zero, Nat.le_refl, ne_eq, not_false_eq_true]
  exact h
end Go.Am.Try

/- slices.Values handed on; slices.SortedFunc; order.Sort. -/
namespace Go.Am.Try
open Go Go.Am Go.Proofs Go.Sort Go.Shelf
set_option maxRecDepth 100000
set_option linter.unusedSimpArgs false
set_option linter.unusedVariables false

theorem Values_loop (bx b : Nat) (s : V) (xs : List Sb) (hl : xs.length < 2 ^ 62) (J Jx : List Sb → Mem → Prop) (Mz : Mem) (hG : ∀ pre M, J pre M → SlR elSb M s xs) (hps : ∀ pre M o o', J pre M → J pre ((M.push o).set M.next o'))
    (hY : ∀ pre x M', J pre M' → pre.length < xs.length → XYield Try.prog gl0 b [.agg (sbC x)] M' fun v M'' => (v = .bool true ∧ J (pre ++ [x]) M'' ∧ M'.next ≤ M''.next ∧ ∀ c, c < M'.next → isIter M' c → M''.get c = M'.get c) ∨ (v = .bool false ∧ Jx (pre ++ [x]) M''))
    (Q : XQ) (hQ : ∀ fr M, J xs M → Q (.exit 0) fr M) (hQx : ∀ pre fr M, pre <+: xs → Jx pre M → Q .ret fr M) :
    ∀ (f i : Nat) (fr : Fr) (M : Mem), i + f = xs.length → J (xs.take i) M → fr.rd 0 = .yld b → fr.rd 5 = s → fr.rd 6 = .int .i64 (xs.length : Int) → fr.rd 7 = .int .i64 (i : Int) →
    roundsX (WX Try.prog gl0 16 X_slices_Values_Sib_c1_5 false) (f + 1) fr M Q := by
  intro f
  induction f with
  | zero =>
    intro i fr M hi hJ h0 h5 h6 h7
    rw [rounds_x_succ]
    refine xw_of ?_
    unfold X_slices_Values_Sib_c1_5
    have : ¬ (i : Int) < xs.length := by omega
    simp -dsimp only [↓x_seq', ↓x_ops, ↓x_skip, ↓x_ret, ↓x_exit, ↓x_block', ↓x_cond', cond_true', cond_false', ↓i_nil, ↓i_plain, ↓i_guard, xs_val, xs_call, xs_yield, xg_true, xg_false, ↓n_normal, ↓n_ret, ↓n_exit, ↓b_normal, ↓b_ret, ↓b_exit, ↓xe_normal, ↓xe_ret, e_some, yieldOf, go_sem, ↓reduceIte, Nat.reduceEqDiff, Nat.reduceLT, Nat.reduceSub, X_slices_Values_Sib_c1_0, X_slices_Values_Sib_c1_1, X_slices_Values_Sib_c1_2, X_slices_Values_Sib_c1_3, X_slices_Values_Sib_c1_4, h0, h5, h6, h7, this, decide_false]
    refine hQ _ _ ?_
    rwa [List.take_of_length_le (by omega)] at hJ
  | succ f ih =>
    intro i fr M hi hJ h0 h5 h6 h7
    rw [rounds_x_succ]
    refine xw_of ?_
    unfold X_slices_Values_Sib_c1_5
    have hlt : i < xs.length := by omega
    have h1 : (i : Int) < xs.length := by omega
    have h2 : i + 1 ≤ xs.length := by omega
    obtain ⟨a, cap, rfl, hS⟩ := hG _ _ hJ
    rcases hS with hS | ⟨bb, o, cs, ro, rfl, hM, hrd⟩
    · subst hS; simp at hlt
    have hr := hrd i hlt
    simp only [elSb] at hr
    have hw0 := write_full (M := M.push (.cells [.str [], .int .i64 0, .int .i64 0] false)) (b := M.next) (vs := sbC xs[i]) (Mem.get_push_same _ _) rfl rfl
    have hrd0 : rdCells cs (o + i * 3) 3 = some (sbC xs[i]) := hr
    have rd3 : rdCells (sbC xs[i]) 0 3 = some (sbC xs[i]) := rfl
    simp -dsimp only [↓x_seq', ↓x_ops, ↓x_skip, ↓x_ret, ↓x_exit, ↓x_block', ↓x_cond', cond_true', cond_false', ↓i_nil, ↓i_plain, ↓i_guard, xs_val, xs_call, xs_yield, xg_true, xg_false, ↓n_normal, ↓n_ret, ↓n_exit, ↓b_normal, ↓b_ret, ↓b_exit, ↓xe_normal, ↓xe_ret, e_some, yieldOf, go_sem, ↓reduceIte, Nat.reduceEqDiff, Nat.reduceLT, Nat.reduceSub, X_slices_Values_Sib_c1_0, X_slices_Values_Sib_c1_1, X_slices_Values_Sib_c1_2, X_slices_Values_Sib_c1_3, X_slices_Values_Sib_c1_4, h0, h5, h6, h7, h1, h2, vload, Mem.read, hM, hrd0, vstore, V.cells, sbC_len, hw0, Nat.reduceEqDiff, Mem.get_set_same, rd3]
    have hJ1 := hps _ _ (.cells [.str [], .int .i64 0, .int .i64 0] false) (.cells (sbC xs[i]) false) hJ
    have hti : (xs.take i).length < xs.length := by rw [List.length_take]; omega
    have htk : xs.take i ++ [xs[i]] = xs.take (i + 1) := by rw [List.take_add_one, List.getElem?_eq_getElem hlt]; rfl
    refine xyield_of (hY _ xs[i] _ hJ1 hti) ?_
    rw [htk]
    rintro v M2 (⟨rfl, hJ2, _⟩ | ⟨rfl, hJ2⟩)
    · have h3 : (i : Int) + 1 = ((i + 1 : Nat) : Int) := by omega
      simp -dsimp only [↓x_seq', ↓x_ops, ↓x_skip, ↓x_ret, ↓x_exit, ↓x_block', ↓x_cond', cond_true', cond_false', ↓i_nil, ↓i_plain, ↓i_guard, xs_val, xs_call, xs_yield, xg_true, xg_false, ↓n_normal, ↓n_ret, ↓n_exit, ↓b_normal, ↓b_ret, ↓b_exit, ↓xe_normal, ↓xe_ret, e_some, yieldOf, go_sem, ↓reduceIte, Nat.reduceEqDiff, Nat.reduceLT, Nat.reduceSub, X_slices_Values_Sib_c1_0, X_slices_Values_Sib_c1_1, X_slices_Values_Sib_c1_2, X_slices_Values_Sib_c1_3, X_slices_Values_Sib_c1_4, h7, IntWalk.i64_in ((i : Int) + 1) (by omega)]
      refine ih (i + 1) _ M2 (by omega) hJ2 ?_ ?_ ?_ ?_ <;> simp only [go_sem, ↓reduceIte, Nat.reduceEqDiff, Nat.reduceLT, Nat.reduceSub, h0, h5, h6, h3]
    · simp -dsimp only [↓x_seq', ↓x_ops, ↓x_skip, ↓x_ret, ↓x_exit, ↓x_block', ↓x_cond', cond_true', cond_false', ↓i_nil, ↓i_plain, ↓i_guard, xs_val, xs_call, xs_yield, xg_true, xg_false, ↓n_normal, ↓n_ret, ↓n_exit, ↓b_normal, ↓b_ret, ↓b_exit, ↓xe_normal, ↓xe_ret, e_some, yieldOf, go_sem, ↓reduceIte, Nat.reduceEqDiff, Nat.reduceLT, Nat.reduceSub, X_slices_Values_Sib_c1_0, X_slices_Values_Sib_c1_1, X_slices_Values_Sib_c1_2, X_slices_Values_Sib_c1_3, X_slices_Values_Sib_c1_4]
      exact hQx _ _ _ (List.take_prefix _ _) hJ2

/-- The elements of a slice, handed on. -/
theorem Values_seq (bx : Nat) (s : V) (ro : Bool) (xs : List Sb) (hl : xs.length < 2 ^ 62) :
    SeqX Try.prog gl0 F_slices_Values_Sib_c1 [] [.ptr (some (bx, 0))] (fun x => .agg (sbC x)) (fun M => M.get bx = some (.cells [s] ro) ∧ SlR elSb M s xs) (fun ys => ys = xs) (fun pre => pre <+: xs) xs.length := by
  intro b J Jx M hG hp hps hi hY hJ
  refine XRuns.walk mixed Try.func42 b_slices_Values_Sib_c1 n_slices_Values_Sib_c1 r_slices_Values_Sib_c1 (by rfl) ?_
  unfold X_slices_Values_Sib_c1
  obtain ⟨h1, h2⟩ := hG _ _ hJ
  obtain ⟨a, cap, rfl, hS⟩ := h2
  simp -dsimp only [↓x_seq', ↓x_ops, ↓x_skip, ↓x_ret, ↓x_exit, ↓x_block', ↓x_cond', cond_true', cond_false', ↓i_nil, ↓i_plain, ↓i_guard, xs_val, xs_call, xs_yield, xg_true, xg_false, ↓n_normal, ↓n_ret, ↓n_exit, ↓b_normal, ↓b_ret, ↓b_exit, ↓xe_normal, ↓xe_ret, e_some, yieldOf, go_sem, ↓reduceIte, Nat.reduceEqDiff, Nat.reduceLT, Nat.reduceSub, X_slices_Values_Sib_c1_0, X_slices_Values_Sib_c1_1, X_slices_Values_Sib_c1_2, X_slices_Values_Sib_c1_3, X_slices_Values_Sib_c1_4, Int.lt_irrefl, true_and, and_true, false_and, and_false, and_self, same_two, same_sib, same_spot, vload, vptr, vof, V.cells, Mem.read, rdCells, Mem.get_push, Mem.next_push, Nat.left_eq_add, Nat.add_eq_left, Nat.add_left_cancel_iff, Nat.add_right_cancel_iff, Nat.reduceAdd, Nat.add_zero, Nat.zero_add, Nat.add_assoc, Nat.reduceLeDiff, Nat.reduceBEq, List.length_cons, List.length_nil, List.drop_zero, List.drop_succ_cons, List.take_succ_cons, List.take_zero, List.take_nil, List.drop_nil, List.getElem?_cons_zero, List.getElem?_cons_succ, reduceCtorEq, Nat.succ_ne_self, Nat.one_ne_zero, Nat.le_refl, ne_eq, not_false_eq_true, List.singleton_append, h1]
  refine ⟨xs.length - 0 + 1, Values_loop bx b (.slice a xs.length cap) xs hl J Jx M (fun pre M' h => (hG pre M' h).2) hps hY _ ?_ ?_ (xs.length - 0) 0 _ M (by omega) (by simpa using hJ) ?_ ?_ ?_ ?_⟩
  · intro fr M' h
    simp -dsimp only [↓x_seq', ↓x_ops, ↓x_skip, ↓x_ret, ↓x_exit, ↓x_block', ↓x_cond', cond_true', cond_false', ↓i_nil, ↓i_plain, ↓i_guard, xs_val, xs_call, xs_yield, xg_true, xg_false, ↓n_normal, ↓n_ret, ↓n_exit, ↓b_normal, ↓b_ret, ↓b_exit, ↓xe_normal, ↓xe_ret, e_some, yieldOf, go_sem, ↓reduceIte, Nat.reduceEqDiff, Nat.reduceLT, Nat.reduceSub]
    exact .inl ⟨xs, rfl, h⟩
  · intro pre fr M' hpre h
    simp -dsimp only [↓x_seq', ↓x_ops, ↓x_skip, ↓x_ret, ↓x_exit, ↓x_block', ↓x_cond', cond_true', cond_false', ↓i_nil, ↓i_plain, ↓i_guard, xs_val, xs_call, xs_yield, xg_true, xg_false, ↓n_normal, ↓n_ret, ↓n_exit, ↓b_normal, ↓b_ret, ↓b_exit, ↓xe_normal, ↓xe_ret, e_some, yieldOf, go_sem, ↓reduceIte, Nat.reduceEqDiff, Nat.reduceLT, Nat.reduceSub]
    exact .inr ⟨pre, hpre, h⟩
  all_goals simp only [go_sem, ↓reduceIte, Nat.reduceEqDiff, Nat.reduceLT, Nat.reduceSub]
  rfl
end Go.Am.Try

/- slices.SortedFunc of a slice's values, as a part; order.Sort. -/
namespace Go.Am.Try
open Go Go.Am Go.Proofs Go.Sort Go.Shelf
set_option maxRecDepth 100000
set_option linter.unusedSimpArgs false
set_option linter.unusedVariables false

def D1s : Decls := D1.addM F_slices_SortFunc_Sib (sortP elSb F_order_Sort_c1 ltSb)
theorem dok1s : DOK Try.prog gl0 D1s := dok1.addM sortSb_ok

theorem SortFunc_hold {lo : Nat} {M : Mem} {s : V} {xs : List Sb} (h : Hold lo M 3 s xs.length (elSb.all xs)) (hn : xs.length ≤ maxRoom) :
    Runs D1s F_slices_SortFunc_Sib [s, .fn F_order_Sort_c1 [] []] M fun v M' => Hold lo M' 3 s xs.length (elSb.all (isort ltSb xs)) ∧ (∀ c, c < lo → M'.get c = M.get c) := by
  have hd := elSb.decs_all xs
  have hl := elSb.all_len (isort ltSb xs)
  rw [isort_len] at hl
  generalize hq : xs.length = n at *
  generalize hc : elSb.all xs = cs at *
  cases h with
  | nil =>
    have : xs = [] := List.eq_nil_of_length_eq_zero hq
    subst this
    exact Runs.prim rfl rfl ⟨.nil, fun _ _ => rfl⟩
  | row h1 h2 h3 h4 =>
    rename_i b
    refine Runs.prim (v := .tup []) (M' := M.set b (.cells (elSb.all (isort ltSb xs)) false)) rfl ?_ ⟨.row (Mem.get_set_same _ _ _) hl h3 (by simpa using h4), fun c hc => Mem.get_set_ne _ _ (by omega)⟩
    simp only [sortP, Nat.beq_refl, cond_true, ble_iff, decide_eq_true hn, h1, hd, Option.map_some]

theorem SortedFunc_runs {f : FuncId} {first captured : List V} {G : Mem → Prop} {S Sp : List Sb → Prop} {N : Nat} (hseq : SeqX Try.prog gl0 f first captured (fun x => .agg (sbC x)) G S Sp N) (hN : (N + 1) * 32 ≤ maxRoom) (hS : ∀ xs, S xs → xs.length ≤ maxRoom) (M : Mem)
    (hG : ∀ M', (∀ c, c < M.next → M'.get c = M.get c) → M.next ≤ M'.next → G M') :
    XP F_slices_SortedFunc_Sib [.fn f first captured, .fn F_order_Sort_c1 [] []] M fun v M' => ∃ xs, S xs ∧ (∀ c, c < M.next → M'.get c = M.get c) ∧ Hold M.next M' 3 v xs.length (elSb.all (isort ltSb xs)) ∧ (xs = [] → v = .slice none 0 (.exact 0)) := by
  refine XRuns.walk mixed Try.func23 b_slices_SortedFunc_Sib n_slices_SortedFunc_Sib r_slices_SortedFunc_Sib (by rfl) ?_
  unfold X_slices_SortedFunc_Sib
  simp -dsimp only [↓x_seq', ↓x_ops, ↓x_skip, ↓x_ret, ↓x_exit, ↓x_block', ↓x_cond', cond_true', cond_false', ↓i_nil, ↓i_plain, ↓i_guard, xs_val, xs_call, xs_yield, xg_true, xg_false, ↓n_normal, ↓n_ret, ↓n_exit, ↓b_normal, ↓b_ret, ↓b_exit, ↓xe_normal, ↓xe_ret, e_some, yieldOf, go_sem, ↓reduceIte, Nat.reduceEqDiff, Nat.reduceLT, Nat.reduceSub, X_slices_SortedFunc_Sib_0, X_slices_SortedFunc_Sib_1, X_slices_SortedFunc_Sib_2, X_slices_SortedFunc_Sib_3, Int.lt_irrefl, true_and, and_true, false_and, and_false, and_self, same_two, same_sib, same_spot, vload, vptr, vof, V.cells, Mem.read, rdCells, Mem.get_push, Mem.next_push, Nat.left_eq_add, Nat.add_eq_left, Nat.add_left_cancel_iff, Nat.add_right_cancel_iff, Nat.reduceAdd, Nat.add_zero, Nat.zero_add, Nat.add_assoc, Nat.reduceLeDiff, Nat.reduceBEq, List.length_cons, List.length_nil, List.drop_zero, List.drop_succ_cons, List.take_succ_cons, List.take_zero, List.take_nil, List.drop_nil, List.getElem?_cons_zero, List.getElem?_cons_succ, reduceCtorEq, Nat.succ_ne_self, Nat.one_ne_zero, Nat.le_refl, ne_eq, not_false_eq_true]
  refine xcall_of (Collect_runs hseq hN M hG) ?_
  rintro v M1 ⟨xs, h1, h2, h3, h6⟩
  simp -dsimp only [↓x_seq', ↓x_ops, ↓x_skip, ↓x_ret, ↓x_exit, ↓x_block', ↓x_cond', cond_true', cond_false', ↓i_nil, ↓i_plain, ↓i_guard, xs_val, xs_call, xs_yield, xg_true, xg_false, ↓n_normal, ↓n_ret, ↓n_exit, ↓b_normal, ↓b_ret, ↓b_exit, ↓xe_normal, ↓xe_ret, e_some, yieldOf, go_sem, ↓reduceIte, Nat.reduceEqDiff, Nat.reduceLT, Nat.reduceSub, X_slices_SortedFunc_Sib_0, X_slices_SortedFunc_Sib_1, X_slices_SortedFunc_Sib_2, X_slices_SortedFunc_Sib_3, Int.lt_irrefl, true_and, and_true, false_and, and_false, and_self, same_two, same_sib, same_spot, vload, vptr, vof, V.cells, Mem.read, rdCells, Mem.get_push, Mem.next_push, Nat.left_eq_add, Nat.add_eq_left, Nat.add_left_cancel_iff, Nat.add_right_cancel_iff, Nat.reduceAdd, Nat.add_zero, Nat.zero_add, Nat.add_assoc, Nat.reduceLeDiff, Nat.reduceBEq, List.length_cons, List.length_nil, List.drop_zero, List.drop_succ_cons, List.take_succ_cons, List.take_zero, List.take_nil, List.drop_nil, List.getElem?_cons_zero, List.getElem?_cons_succ, reduceCtorEq, Nat.succ_ne_self, Nat.one_ne_zero, Nat.le_refl, ne_eq, not_false_eq_true]
  refine xcall_of (XRuns.of_runs dok1s (SortFunc_hold h3 (hS xs h1))) ?_
  rintro v2 M2 ⟨h4, h5⟩
  simp -dsimp only [↓x_seq', ↓x_ops, ↓x_skip, ↓x_ret, ↓x_exit, ↓x_block', ↓x_cond', cond_true', cond_false', ↓i_nil, ↓i_plain, ↓i_guard, xs_val, xs_call, xs_yield, xg_true, xg_false, ↓n_normal, ↓n_ret, ↓n_exit, ↓b_normal, ↓b_ret, ↓b_exit, ↓xe_normal, ↓xe_ret, e_some, yieldOf, go_sem, ↓reduceIte, Nat.reduceEqDiff, Nat.reduceLT, Nat.reduceSub, X_slices_SortedFunc_Sib_0, X_slices_SortedFunc_Sib_1, X_slices_SortedFunc_Sib_2, X_slices_SortedFunc_Sib_3, Int.lt_irrefl, true_and, and_true, false_and, and_false, and_self, same_two, same_sib, same_spot, vload, vptr, vof, V.cells, Mem.read, rdCells, Mem.get_push, Mem.next_push, Nat.left_eq_add, Nat.add_eq_left, Nat.add_left_cancel_iff, Nat.add_right_cancel_iff, Nat.reduceAdd, Nat.add_zero, Nat.zero_add, Nat.add_assoc, Nat.reduceLeDiff, Nat.reduceBEq, List.length_cons, List.length_nil, List.drop_zero, List.drop_succ_cons, List.take_succ_cons, List.take_zero, List.take_nil, List.drop_nil, List.getElem?_cons_zero, List.getElem?_cons_succ, reduceCtorEq, Nat.succ_ne_self, Nat.one_ne_zero, Nat.le_refl, ne_eq, not_false_eq_true]
  exact ⟨xs, h1, fun c hc => (h5 c hc).trans (h2 c hc), h4, h6⟩

/-- What a slice's values come to, sorted. -/
def pSorted (args : List V) (M : Mem) : Option KeepR :=
  match args with
  | [.fn f1 [] [.ptr (some (bx, 0))], .fn f2 [] []] => cond (Nat.beq f1 F_slices_Values_Sib_c1) (cond (Nat.beq f2 F_order_Sort_c1) (match M.get bx with
    | some (.cells [s] _) => (readSl elSb M s).bind fun xs => cond (Nat.ble ((xs.length + 1) * 32) maxRoom) (some (match xs with
      | [] => .flat (.slice none 0 (.exact 0))
      | x :: xs => .row (xs.length + 1) 3 (elSb.all (isort ltSb (x :: xs))))) none
    | _ => none) none) none
  | _ => none
theorem pSorted_ok : CallOK Try.prog gl0 fun f' args M => if f' = F_slices_SortedFunc_Sib then (pSorted args M).map fun r => r.res M else none := by
  refine callOK_keep ⟨_, Try.func23, (by kernel_rfl), (by kernel_rfl)⟩ ?_
  intro args M r h hwf
  refine ⟨[], fun _ _ _ _ _ b hb => absurd hb (by simp), fun Mz hz => ?_⟩
  have hMz : ∀ c, Mz.get c = M.get c := fun c => hz.other c (by simp)
  have hlt : ∀ c o, Mz.get c = some o → c < Mz.next := fun c o hc => by
    rcases Nat.lt_or_ge c Mz.next with h1 | h1
    · exact h1
    · rw [hMz, hwf c (by rw [← hz.next]; exact h1)] at hc; cases hc
  unfold pSorted at h
  split at h
  · rename_i f1 bx f2
    obtain ⟨e1, h1⟩ := cond_some h
    clear h
    obtain ⟨e2, h⟩ := cond_some h1
    clear h1
    obtain rfl : f1 = F_slices_Values_Sib_c1 := Nat.eq_of_beq_eq_true e1
    obtain rfl : f2 = F_order_Sort_c1 := Nat.eq_of_beq_eq_true e2
    split at h
    · rename_i s ro hbx
      simp only [Option.bind_eq_some_iff] at h
      obtain ⟨xs, hxs, h⟩ := h
      obtain ⟨hl, h⟩ := cond_some h
      rw [ble_iff, decide_eq_true_eq] at hl
      obtain ⟨hsl, hle⟩ := readSl_is hxs
      have hbz : Mz.get bx = some (.cells [s] ro) := (hMz bx).trans hbx
      have hslz : SlR elSb Mz s xs := hsl.keep fun b _ => hMz b
      have hbl : ∀ b, s.blk = some b → xs ≠ [] → b < Mz.next := by
        intro b hb hne
        obtain ⟨a, cap, rfl, hq⟩ := hslz
        rcases hq with hq | ⟨b', o, cs, ro', rfl, hq, _⟩
        · exact absurd hq hne
        · simp only [V.blk, Option.some.injEq] at hb
          subst hb
          exact hlt _ _ hq
      refine (SortedFunc_runs (Values_seq bx s ro xs (by unfold maxRoom at hle; omega)) hl (fun ys h => by rw [h]; exact hle) Mz ?_).mono ?_
      · intro M' hk _
        refine ⟨(hk bx (hlt _ _ hbz)).trans hbz, ?_⟩
        obtain ⟨a, cap, rfl, hq⟩ := hslz
        refine ⟨a, cap, rfl, ?_⟩
        rcases hq with hq | ⟨b', o, cs, ro', rfl, hq, hr⟩
        · exact .inl hq
        · exact .inr ⟨b', o, cs, ro', rfl, (hk b' (hlt _ _ hq)).trans hq, hr⟩
      · rintro v M' ⟨ys, rfl, h1, h2, h6⟩
        cases h
        refine ⟨fun c hc => h1 c (by rw [hz.next]; exact hc), ?_⟩
        cases hx : ys with
        | nil =>
          subst hx
          exact ⟨rfl, h6 rfl⟩
        | cons x l =>
          subst hx
          refine ⟨elSb.all_flat _, ?_⟩
          generalize hq : elSb.all (isort ltSb (x :: l)) = cs at h2
          generalize hn : (x :: l).length = n at h2
          cases h2 with
          | nil => simp at hn
          | row a b c d =>
            refine ⟨_, by rw [← hz.next]; exact c, by rw [← hn]; rfl, a⟩
    · cases h
  · cases h

def D1t : Decls := D1s.addM F_slices_SortedFunc_Sib (fun args M => (pSorted args M).map fun r => r.res M)
theorem dok1t : DOK Try.prog gl0 D1t := dok1s.addM pSorted_ok
def pTrue : List V → Option V
  | [] => some (.bool true)
  | _ => none
def D2 : Decls := D1t.add F_law11_knows pTrue
def isTrue : Option (V × Mem) → Bool
  | some (.bool true, _) => true
  | _ => false
theorem isTrue_run {x : Option (V × Mem)} (h : isTrue x = true) : ∃ M, x = some (.bool true, M) := by
  unfold isTrue at h
  split at h
  · exact ⟨_, rfl⟩
  · cases h
theorem knows_eval : isTrue (callN D1t 400 F_law11_knows [] mem0) = true := by kernel_rfl
theorem gl0_none : ∀ x, gl0 x = false := fun x => by
  unfold gl0
  cases h : Nat.ble (x + 1) 0 with
  | false => rfl
  | true => exact absurd (Nat.le_of_ble_eq_true h) (by omega)
theorem dok2 : DOK Try.prog gl0 D2 := by
  refine dok1t.add (prim_flat dok1t gl0_none ?_)
  intro args v h
  unfold pTrue at h
  split at h
  · cases h
    obtain ⟨M, hM⟩ := isTrue_run knows_eval
    exact ⟨rfl, rfl, 400, _, M, hM, rfl⟩
  · cases h
theorem compare_runs (a b : List UInt8) (M : Mem) : Runs D2 F_strings_Compare [.str a, .str b] M fun v M' => v = .int .i64 (Lib.compareBytes a b) ∧ M' = M := Runs.prim rfl rfl ⟨rfl, rfl⟩
theorem knows_runs (M : Mem) : Runs D2 F_law11_knows [] M fun v M' => v = .bool true ∧ M' = M := Runs.prim rfl rfl ⟨rfl, rfl⟩
theorem hasCmp2 : HasCmp D2 := ⟨⟨rfl, by rfl⟩, ⟨rfl, by rfl⟩, ⟨rfl, by rfl⟩, ⟨rfl, by rfl⟩, rfl⟩
theorem before_runs (a b : Sb) (M : Mem) : Runs D2 F_order_Before [.agg (sbC a), .agg (sbC b)] M fun v M' => v = .bool (befSb a b) ∧ Grew M M' := order_Before_runs hasCmp2 a b M

theorem Values_runs (s : V) (M : Mem) : Runs D2 F_slices_Values_Sib [s] M fun v M' => v = .fn F_slices_Values_Sib_c1 [] [.ptr (some (M.next, 0))] ∧ Grew M M' ∧ M.next < M'.next ∧ M'.get M.next = some (.cells s.cells false) := by
  refine Runs.walk (F := A_slices_Values_Sib) rfl (by rfl) (by rfl) ?_
  unfold A_slices_Values_Sib
  simp -dsimp only [↓w_seq, ↓w_ops, A_slices_Values_Sib_0]
  simp -dsimp only [↓w_seq, ↓w_ops, ↓w_skip, ↓w_ret, ↓w_exit, ↓w_scope, ↓w_block, ↓w_cond, cond_true', cond_false', ↓t_nil, ↓t_plain, ↓t_guard, ↓t_again, t_val, t_call, g_true, g_false, a_val, a_call, ↓n_normal, ↓n_ret, ↓n_exit, ↓b_normal, ↓b_ret, ↓b_exit, ↓e_normal, ↓e_ret, e_some, go_sem, ↓reduceIte, Nat.reduceEqDiff, Nat.reduceLT, Nat.reduceSub, A_slices_Values_Sib_0, A_slices_Values_Sib_1]
  exact ⟨trivial, Grew.push _ _, by simp, Mem.get_push_same _ _⟩
end Go.Am.Try
