/- The machine and what is proved of its runs, part 4: what each part says stands at its head. -/
import Derived.Test.YtefigbdkennhaaaGreatDoorJ3
import Derived.Test.YtefigbdkennhaaaGreatDoorChecked
import Derived.KernelRfl
import Derived.Shelf.SlSortCmp.NoneTotal
import Derived.Deep.Slices
import Derived.Below
import Derived.Shelf.SlGeneric
set_option linter.unusedSimpArgs false
set_option linter.unusedVariables false
set_option linter.unusedSectionVars false
/- What the machine runs: the code of the functions, by name, written by a program of mine, each tied to the given program by the kernel. -/
namespace Go.Am.Tryz
open Go Go.Am Go.Proofs
abbrev Row := List Go.Am.Item
abbrev r (t : Nat) : Opd := .tmp t
abbrev i (d : Nat) (op : AOp) : Go.Am.Item := ⟨⟨some d, op, none⟩, []⟩
abbrev i0 (op : AOp) : Go.Am.Item := ⟨⟨none, op, none⟩, []⟩
abbrev g (d : Nat) (op : AOp) (t : Nat) (b : Bool) : Go.Am.Item := ⟨⟨some d, op, some (t, b)⟩, []⟩
abbrev a (d : Nat) (op : AOp) : AOper := ⟨some d, op, none⟩
abbrev F_law11_OrderTrees : Nat := 3
abbrev F_law10_Long : Nat := 7
abbrev F_law11_knows : Nat := 8
abbrev F_tree_New : Nat := 9
abbrev F_tree_Tree_Add : Nat := 10
abbrev F_law10_Own : Nat := 11
abbrev F_ref10_Tree_Add : Nat := 12
abbrev F_tree_Tree_Move : Nat := 13
abbrev F_ref10_Tree_Move : Nat := 14
abbrev F_law11_Same : Nat := 15
abbrev F_order_Row : Nat := 16
abbrev F_ref11_Row : Nat := 17
abbrev F_order_Sort : Nat := 40
abbrev F_order_Key : Nat := 41
abbrev F_law11_num : Nat := 42
abbrev F_order_Find : Nat := 43
abbrev F_tree_Tree_none : Nat := 44
abbrev F_op_Node : Nat := 45
abbrev F_tree_Spot_right : Nat := 46
abbrev F_tree_Tree_node : Nat := 47
abbrev F_tree_Tree_Has : Nat := 48
abbrev F_ref10_Tree_find : Nat := 49
abbrev F_ref07_Node : Nat := 50
abbrev F_ref10_Right : Nat := 51
abbrev F_ref10_Tree_Has : Nat := 52
abbrev F_tree_Tree_Within : Nat := 53
abbrev F_ref10_Tree_Within : Nat := 54
abbrev F_tree_Tree_Below : Nat := 55
abbrev F_tree_Tree_Spot : Nat := 56
abbrev F_ref11_Sort : Nat := 57
abbrev F_tree_Tree_Nodes : Nat := 64
abbrev F_tree_Tree_Above : Nat := 65
abbrev F_ref02_Compare : Nat := 71
abbrev F_ref07_Trash : Nat := 74
abbrev F_ref10_Tree_Spot : Nat := 77
abbrev F_ref10_Tree_Above : Nat := 79
abbrev F_order_Sort_c1 : Nat := 82
abbrev F_order_Before : Nat := 83
abbrev F_slices_SortedFunc_Sib : Nat := 84
abbrev F_slices_Values_Sib : Nat := 85
abbrev F_order_gap : Nat := 86
abbrev F_order_Key_c1 : Nat := 87
abbrev F_poskey_Between : Nat := 88
abbrev F_slices_IndexFunc_Sib : Nat := 89
abbrev F_order_Find_c1 : Nat := 90
abbrev F_stamp_Right : Nat := 91
abbrev F_op_Place : Nat := 92
abbrev F_poskey_Right : Nat := 93
abbrev F_ref02_Right : Nat := 94
abbrev F_ref07_Place : Nat := 95
abbrev F_ref04_Right : Nat := 96
abbrev F_ref07_Root : Nat := 97
abbrev F_tree_Tree_up : Nat := 98
abbrev F_ref11_Before : Nat := 99
abbrev F_stamp_Compare : Nat := 107
abbrev F_slices_SortedFunc_Stamp : Nat := 115
abbrev F_maps_Keys_Stamp_Spot : Nat := 116
abbrev F_slices_Collect_Stamp : Nat := 117
abbrev F_poskey_Compare : Nat := 129
abbrev F_slices_Collect_Sib : Nat := 130
abbrev F_slices_SortFunc_Sib : Nat := 131
abbrev F_slices_Values_Sib_c1 : Nat := 132
abbrev F_poskey_fine : Nat := 133
abbrev F_poskey_above : Nat := 134
abbrev F_poskey_greatest : Nat := 135
abbrev F_tree_Tree_up_c1 : Nat := 136
abbrev F_ref04_Compare : Nat := 137
abbrev F_slices_SortFunc_Stamp : Nat := 142
abbrev F_maps_Keys_Stamp_Spot_c1 : Nat := 143
abbrev F_slices_AppendSeq_Stamp : Nat := 144
abbrev F_strings_Compare : Nat := 147
abbrev F_slices_AppendSeq_Sib : Nat := 148
abbrev F_poskey_fine_c1 : Nat := 151
abbrev F_poskey_digit : Nat := 152
/-! diorama/dioramalaw11.OrderTrees -/
def A_law11_OrderTrees_0 : Row := [i 3 (.box (r 1)), i 4 (.mv (.const (.bool false)))]
def A_law11_OrderTrees_1 : Row := [i 9 (.mv (r 0)), i 10 (.call (.func F_law10_Long) [.tmp 9])]
def A_law11_OrderTrees_2 : Row := [i 11 (.call (.func F_law11_knows) []), i 4 (.mv (r 11))]
def A_law11_OrderTrees_3 : Row := [i 12 (.call (.func F_tree_New) []), i 5 (.mv (r 12))]
def A_law11_OrderTrees_4 : Row := [i 13 (.build [.slice none 0 (.exact 0)] []), i 14 (.box (r 13)), i 6 (.mv (r 14))]
def A_law11_OrderTrees_5 : Row := [i 15 (.mv (r 5)), i 16 (.eqNil false (.ptr) (r 15) (.const (.ptr none))), i 17 (.mv (r 16)), g 18 (.call (.func F_law11_knows) []) 17 false,
  g 19 (.un (.not) (r 18)) 17 false, i 20 (.pick (r 17) (.const (.bool true)) (r 19))]
def A_law11_OrderTrees_6 : Row := [i 4 (.mv (.const (.bool false)))]
def A_law11_OrderTrees_7 : Row := [i 7 (.mv (.const (.int (.i64) 0)))]
def A_law11_OrderTrees_8 : Row := [i 21 (.mv (r 7)), i 22 (.mv (r 0)), i 23 (.lenSlice (r 22)), i 24 (.bin (.lss) (r 21) (r 23))]
def A_law11_OrderTrees_9 : Row := [i 27 (.mv (r 0)), i 28 (.mv (r 7)), i 29 (.indexAddr 6 (r 27) (r 28)), i 30 (.fieldAddr 0 (r 29)), i 31 (.load none (r 30)), i 32 (.bin
  (.eql) (r 31) (.const (.int (.i64) 0)))]
def A_law11_OrderTrees_10 : Row := [i 33 (.mv (r 5)), i 34 (.mv (r 0)), i 35 (.mv (r 7)), i 36 (.indexAddr 6 (r 34) (r 35)), i 37 (.fieldAddr 1 (r 36)), i 38 (.load (some 2)
  (r 37)), i 39 (.mv (r 0)), i 40 (.mv (r 7)), i 41 (.indexAddr 6 (r 39) (r 40)), i 42 (.fieldAddr 3 (r 41)), i 43 (.load (some 3) (r 42)), ⟨a 44 (.call (.func
  F_law10_Own) [.tmp 43]), [a 38 (.load (some 2) (r 37))]⟩, i 45 (.call (.func F_tree_Tree_Add) [.tmp 33, .tmp 38, .tmp 44])]
def A_law11_OrderTrees_11 : Row := [i 46 (.mv (r 6)), i 47 (.mv (r 0)), i 48 (.mv (r 7)), i 49 (.indexAddr 6 (r 47) (r 48)), i 50 (.fieldAddr 1 (r 49)), i 51 (.load (some 2)
  (r 50)), i 52 (.mv (r 0)), i 53 (.mv (r 7)), i 54 (.indexAddr 6 (r 52) (r 53)), i 55 (.fieldAddr 3 (r 54)), i 56 (.load (some 3) (r 55)), i 57 (.call (.func
  F_ref10_Tree_Add) [.tmp 46, .tmp 51, .tmp 56])]
def A_law11_OrderTrees_12 : Row := [i 58 (.mv (r 0)), i 59 (.mv (r 7)), i 60 (.indexAddr 6 (r 58) (r 59)), i 61 (.fieldAddr 0 (r 60)), i 62 (.load none (r 61)), i 63 (.bin
  (.eql) (r 62) (.const (.int (.i64) 1)))]
def A_law11_OrderTrees_13 : Row := [i 64 (.mv (r 5)), i 65 (.mv (r 0)), i 66 (.mv (r 7)), i 67 (.indexAddr 6 (r 65) (r 66)), i 68 (.fieldAddr 1 (r 67)), i 69 (.load (some 2)
  (r 68)), i 70 (.mv (r 0)), i 71 (.mv (r 7)), i 72 (.indexAddr 6 (r 70) (r 71)), i 73 (.fieldAddr 3 (r 72)), i 74 (.load (some 3) (r 73)), ⟨a 75 (.call (.func
  F_law10_Own) [.tmp 74]), [a 69 (.load (some 2) (r 68))]⟩, i 76 (.call (.func F_tree_Tree_Move) [.tmp 64, .tmp 69, .tmp 75])]
def A_law11_OrderTrees_14 : Row := [i 77 (.mv (r 6)), i 78 (.mv (r 0)), i 79 (.mv (r 7)), i 80 (.indexAddr 6 (r 78) (r 79)), i 81 (.fieldAddr 1 (r 80)), i 82 (.load (some 2)
  (r 81)), i 83 (.mv (r 0)), i 84 (.mv (r 7)), i 85 (.indexAddr 6 (r 83) (r 84)), i 86 (.fieldAddr 3 (r 85)), i 87 (.load (some 3) (r 86)), i 88 (.call (.func
  F_ref10_Tree_Move) [.tmp 77, .tmp 82, .tmp 87])]
def A_law11_OrderTrees_15 : Row := [i 25 (.mv (r 7)), i 26 (.bin (.add) (r 25) (.const (.int (.i64) 1))), i 7 (.mv (r 26))]
def A_law11_OrderTrees_16 : ACode := (.seq (.seq (.ops A_law11_OrderTrees_8) (.cond (r 24) .skip (.exit 0))) (.seq (.block 1 (.seq (.seq (.ops A_law11_OrderTrees_9) (.cond (r
  32) (.seq (.ops A_law11_OrderTrees_10) (.ops A_law11_OrderTrees_11)) .skip)) (.seq (.ops A_law11_OrderTrees_12) (.cond (r 63) (.seq (.ops A_law11_OrderTrees_13) (.ops
  A_law11_OrderTrees_14)) .skip)))) (.ops A_law11_OrderTrees_15)))
def A_law11_OrderTrees_17 : Row := [i 8 (.mv (.const (.ptr none)))]
def A_law11_OrderTrees_18 : Row := [i 89 (.mv (r 5)), i 90 (.load (some 2) (r 3)), i 92 (.mv (r 6)), i 93 (.load (some 2) (r 3)), ⟨a 91 (.call (.func F_order_Row) [.tmp 89,
  .tmp 90]), [a 93 (.load (some 2) (r 3))]⟩, i 94 (.call (.func F_ref11_Row) [.tmp 92, .tmp 93]), i 95 (.call (.func F_law11_Same) [.tmp 91, .tmp 94]), i 96 (.mv (r 95)),
  g 97 (.mv (r 5)) 96 true, g 98 (.build [.int (.i64) 0, .int (.i64) 0] []) 96 true, g 100 (.mv (r 6)) 96 true, g 101 (.build [.int (.i64) 0, .int (.i64) 0] []) 96 true, g
  99 (.call (.func F_order_Row) [.tmp 97, .tmp 98]) 96 true, g 102 (.call (.func F_ref11_Row) [.tmp 100, .tmp 101]) 96 true, g 103 (.call (.func F_law11_Same) [.tmp 99,
  .tmp 102]) 96 true, i 104 (.pick (r 96) (r 103) (.const (.bool false))), i 105 (.mv (r 104)), g 106 (.mv (r 8)) 105 true, g 107 (.load (some 2) (r 3)) 105 true, g 108
  (.call (.func F_order_Row) [.tmp 106, .tmp 107]) 105 true, g 109 (.lenSlice (r 108)) 105 true, g 110 (.bin (.eql) (r 109) (.const (.int (.i64) 0))) 105 true, i 111
  (.pick (r 105) (r 110) (.const (.bool false))), i 4 (.mv (r 111))]
/-- diorama/dioramalaw11.OrderTrees -/
def A_law11_OrderTrees : AFunc :=
 ⟨112, [.tmp 4], (.seq (.ops A_law11_OrderTrees_0) (.seq (.seq (.ops A_law11_OrderTrees_1) (.cond (r 10) (.seq (.ops A_law11_OrderTrees_2) .ret) .skip)) (.seq (.ops
  A_law11_OrderTrees_3) (.seq (.ops A_law11_OrderTrees_4) (.seq (.seq (.ops A_law11_OrderTrees_5) (.cond (r 20) (.seq (.ops A_law11_OrderTrees_6) .ret) .skip)) (.seq (.seq
  (.ops A_law11_OrderTrees_7) (.block 0 (.loop A_law11_OrderTrees_16))) (.seq (.ops A_law11_OrderTrees_17) (.seq (.ops A_law11_OrderTrees_18) .ret))))))))⟩
/-! diorama/dioramalaw13.GraphNoRing -/
/-! diorama/dioramalaw13.GraphPlays -/
/-! diorama/dioramalaw13.GraphNil -/
/-! diorama/dioramalaw10.Long -/
def A_law10_Long_0 : Row := [i 2 (.mv (.const (.bool false)))]
def A_law10_Long_1 : Row := [i 3 (.mv (.const (.int (.i64) 0)))]
def A_law10_Long_2 : Row := [i 4 (.mv (r 3)), i 5 (.mv (r 0)), i 6 (.lenSlice (r 5)), i 7 (.bin (.lss) (r 4) (r 6)), i 8 (.mv (r 7)), g 9 (.mv (r 3)) 8 true, g 10 (.bin (.lss)
  (r 9) (.const (.int (.i64) 300))) 8 true, i 11 (.pick (r 8) (r 10) (.const (.bool false)))]
def A_law10_Long_3 : Row := [i 14 (.mv (r 0)), i 15 (.mv (r 3)), i 16 (.indexAddr 6 (r 14) (r 15)), i 17 (.fieldAddr 3 (r 16)), i 18 (.fieldAddr 2 (r 17)), i 19 (.load none (r
  18)), i 20 (.lenStr (r 19)), i 21 (.bin (.gtr) (r 20) (.const (.int (.i64) 500)))]
def A_law10_Long_4 : Row := [i 2 (.mv (.const (.bool true)))]
def A_law10_Long_5 : Row := [i 12 (.mv (r 3)), i 13 (.bin (.add) (r 12) (.const (.int (.i64) 1))), i 3 (.mv (r 13))]
def A_law10_Long_6 : ACode := (.seq (.seq (.ops A_law10_Long_2) (.cond (r 11) .skip (.exit 0))) (.seq (.block 1 (.seq (.ops A_law10_Long_3) (.cond (r 21) (.seq (.ops
  A_law10_Long_4) .ret) .skip))) (.ops A_law10_Long_5)))
def A_law10_Long_7 : Row := [i 22 (.mv (r 0)), i 23 (.lenSlice (r 22)), i 24 (.bin (.gtr) (r 23) (.const (.int (.i64) 150))), i 2 (.mv (r 24))]
/-- diorama/dioramalaw10.Long -/
def A_law10_Long : AFunc :=
 ⟨25, [.tmp 2], (.seq (.ops A_law10_Long_0) (.seq (.seq (.ops A_law10_Long_1) (.block 0 (.loop A_law10_Long_6))) (.seq (.ops A_law10_Long_7) .ret)))⟩
/-! diorama/dioramalaw11.knows -/
def A_law11_knows_0 : Row := [i 0 (.mv (.const (.bool false)))]
def A_law11_knows_1 : Row := [i 6 (.build [.int (.i64) 0, .int (.i64) 0] [(0, 1, .const (.int (.i64) 2))]), i 7 (.build [.str [], .int (.i64) 0, .int (.i64) 0] [(0, 1, .const
  (.str [98])), (1, 2, .tmp 6)]), i 8 (.build [.int (.i64) 0, .int (.i64) 0] [(0, 1, .const (.int (.i64) 1))]), i 9 (.build [.str [], .int (.i64) 0, .int (.i64) 0] [(0, 1,
  .const (.str [98])), (1, 2, .tmp 8)]), i 10 (.build [.int (.i64) 0, .int (.i64) 0] [(0, 1, .const (.int (.i64) 3))]), i 11 (.build [.str [], .int (.i64) 0, .int (.i64)
  0] [(0, 1, .const (.str [97])), (1, 2, .tmp 10)]), i 12 (.buildSlice 3 [.str [], .int (.i64) 0, .int (.i64) 0, .str [], .int (.i64) 0, .int (.i64) 0, .str [], .int
  (.i64) 0, .int (.i64) 0] [(0, 3, .tmp 7), (3, 3, .tmp 9), (6, 3, .tmp 11)]), i 13 (.call (.func F_order_Sort) [.tmp 12]), i 1 (.mv (r 13))]
def A_law11_knows_2 : Row := [i 15 (.mv (r 1)), i 16 (.call (.func F_order_Key) [.tmp 15, .const (.int (.i64) 1)]), i 14 (.mv (r 16)), i 17 (.extract (r 14) 0), i 18 (.extract
  (r 14) 1), i 2 (.mv (r 17)), i 3 (.mv (r 18))]
def A_law11_knows_3 : Row := [i 20 (.mv (r 1)), i 21 (.call (.func F_order_Key) [.tmp 20, .const (.int (.i64) 2)]), i 19 (.mv (r 21)), i 22 (.extract (r 19) 0), i 23 (.extract
  (r 19) 1), i 4 (.mv (r 22)), i 5 (.mv (r 23))]
def A_law11_knows_4 : Row := [i 24 (.mv (r 3)), i 25 (.call (.func F_law11_num) [.tmp 24]), i 26 (.bin (.eql) (r 25) (.const (.int (.i64) 0))), i 27 (.mv (r 26)), g 28 (.mv (r
  5)) 27 true, g 29 (.call (.func F_law11_num) [.tmp 28]) 27 true, g 30 (.bin (.eql) (r 29) (.const (.int (.i64) 32))) 27 true, i 31 (.pick (r 27) (r 30) (.const (.bool
  false))), i 32 (.mv (r 31)), g 33 (.mv (r 1)) 32 true, g 34 (.lenSlice (r 33)) 32 true, g 35 (.bin (.eql) (r 34) (.const (.int (.i64) 3))) 32 true, i 36 (.pick (r 32) (r
  35) (.const (.bool false))), i 37 (.mv (r 36)), g 38 (.mv (r 1)) 37 true, g 39 (.indexAddr 3 (r 38) (.const (.int (.i64) 0))) 37 true, g 40 (.fieldAddr 0 (r 39)) 37
  true, g 41 (.load none (r 40)) 37 true, g 42 (.bin (.eql) (r 41) (.const (.str [97]))) 37 true, i 43 (.pick (r 37) (r 42) (.const (.bool false))), i 44 (.mv (r 43)), g
  45 (.mv (r 1)) 44 true, g 46 (.indexAddr 3 (r 45) (.const (.int (.i64) 1))) 44 true, g 47 (.fieldAddr 1 (r 46)) 44 true, g 48 (.fieldAddr 0 (r 47)) 44 true, g 49 (.load
  none (r 48)) 44 true, g 50 (.bin (.eql) (r 49) (.const (.int (.i64) 1))) 44 true, i 51 (.pick (r 44) (r 50) (.const (.bool false))), i 52 (.mv (r 51)), g 53 (.mv (r 2))
  52 true, g 54 (.bin (.eql) (r 53) (.const (.str [97, 128]))) 52 true, i 55 (.pick (r 52) (r 54) (.const (.bool false))), i 56 (.mv (r 55)), g 57 (.mv (r 1)) 56 true, g
  58 (.build [.int (.i64) 0, .int (.i64) 0] [(0, 1, .const (.int (.i64) 2))]) 56 true, g 59 (.call (.func F_order_Find) [.tmp 57, .tmp 58]) 56 true, g 60 (.bin (.eql) (r
  59) (.const (.int (.i64) 2))) 56 true, i 61 (.pick (r 56) (r 60) (.const (.bool false))), i 0 (.mv (r 61))]
/-- diorama/dioramalaw11.knows -/
def A_law11_knows : AFunc :=
 ⟨62, [.tmp 0], (.seq (.ops A_law11_knows_0) (.seq (.ops A_law11_knows_1) (.seq (.ops A_law11_knows_2) (.seq (.ops A_law11_knows_3) (.seq (.ops A_law11_knows_4) .ret)))))⟩
/-! diorama/tree.New -/
def A_tree_New_0 : Row := [i 0 (.mv (.const (.ptr none)))]
def A_tree_New_1 : Row := [i 1 (.makeMap), i 2 (.build [.map none] [(0, 1, .tmp 1)]), i 3 (.box (r 2)), i 0 (.mv (r 3))]
/-- diorama/tree.New -/
def A_tree_New : AFunc :=
 ⟨4, [.tmp 0], (.seq (.ops A_tree_New_0) (.seq (.ops A_tree_New_1) .ret))⟩
/-! (*diorama/tree.Tree).Add -/
def A_tree_Tree_Add_0 : Row := [i 4 (.box (r 1)), i 5 (.box (r 2)), i 6 (.mv (.const (.int (.i64) 0)))]
def A_tree_Tree_Add_1 : Row := [i 8 (.mv (r 0)), i 9 (.call (.func F_tree_Tree_none) [.tmp 8]), i 10 (.mv (r 9)), g 11 (.load (some 2) (r 4)) 10 false, g 12 (.call (.func
  F_op_Node) [.tmp 11]) 10 false, g 13 (.un (.not) (r 12)) 10 false, i 14 (.pick (r 10) (.const (.bool true)) (r 13)), i 15 (.mv (r 14)), g 16 (.load (some 3) (r 5)) 15
  false, g 17 (.call (.func F_tree_Spot_right) [.tmp 16]) 15 false, g 18 (.un (.not) (r 17)) 15 false, i 19 (.pick (r 15) (.const (.bool true)) (r 18)), i 7 (.mv (r 19))]
def A_tree_Tree_Add_2 : Row := [i 6 (.mv (.const (.int (.i64) 1)))]
def A_tree_Tree_Add_3 : Row := [i 21 (.mv (r 0)), i 22 (.load (some 2) (r 4)), i 23 (.call (.func F_tree_Tree_node) [.tmp 21, .tmp 22]), i 20 (.mv (r 23))]
def A_tree_Tree_Add_4 : Row := [i 6 (.mv (.const (.int (.i64) 4)))]
def A_tree_Tree_Add_5 : Row := [i 25 (.mv (r 0)), i 26 (.fieldAddr 0 (r 5)), i 27 (.load (some 2) (r 26)), i 28 (.call (.func F_tree_Tree_Has) [.tmp 25, .tmp 27]), i 29 (.un
  (.not) (r 28)), i 24 (.mv (r 29))]
def A_tree_Tree_Add_6 : Row := [i 6 (.mv (.const (.int (.i64) 3)))]
def A_tree_Tree_Add_7 : Row := [i 31 (.mv (r 0)), i 32 (.nilCheck (r 31)), i 33 (.fieldAddr 0 (r 32)), i 34 (.load none (r 33)), i 35 (.lenMap (r 34)), i 36 (.bin (.geq) (r
  35) (.const (.int (.i64) 65536))), i 30 (.mv (r 36))]
def A_tree_Tree_Add_8 : Row := [i 6 (.mv (.const (.int (.i64) 7)))]
def A_tree_Tree_Add_9 : Row := [i 37 (.mv (r 0)), i 38 (.nilCheck (r 37)), i 39 (.fieldAddr 0 (r 38)), i 40 (.load none (r 39)), i 41 (.load (some 2) (r 4)), i 42 (.load (some
  3) (r 5)), i0 (.mapUpdate ⟨true, [.int (.i64), .int (.i64)]⟩ (r 40) (r 41) (r 42))]
def A_tree_Tree_Add_10 : Row := [i 6 (.mv (.const (.int (.i64) 0)))]
/-- (*diorama/tree.Tree).Add -/
def A_tree_Tree_Add : AFunc :=
 ⟨43, [.tmp 6], (.seq (.ops A_tree_Tree_Add_0) (.seq (.block 0 (.seq (.ops A_tree_Tree_Add_1) (.cond (r 7) (.seq (.ops A_tree_Tree_Add_2) .ret) (.seq (.ops
  A_tree_Tree_Add_3) (.cond (r 20) (.seq (.ops A_tree_Tree_Add_4) .ret) (.seq (.ops A_tree_Tree_Add_5) (.cond (r 24) (.seq (.ops A_tree_Tree_Add_6) .ret) (.seq (.ops
  A_tree_Tree_Add_7) (.cond (r 30) (.seq (.ops A_tree_Tree_Add_8) .ret) .skip))))))))) (.seq (.ops A_tree_Tree_Add_9) (.seq (.ops A_tree_Tree_Add_10) .ret))))⟩
/-! diorama/dioramalaw10.Own -/
def A_law10_Own_0 : Row := [i 1 (.box (r 0)), i 2 (.alloc [.int (.i64) 0, .int (.i64) 0, .str []])]
def A_law10_Own_1 : Row := [i 3 (.fieldAddr 0 (r 1)), i 4 (.load (some 2) (r 3)), i 5 (.fieldAddr 2 (r 1)), i 6 (.load none (r 5)), i 7 (.build [.int (.i64) 0, .int (.i64) 0,
  .str []] [(0, 2, .tmp 4), (2, 1, .tmp 6)]), i0 (.store 3 (r 2) (r 7))]
/-- diorama/dioramalaw10.Own -/
def A_law10_Own : AFunc :=
 ⟨8, [.cell 2 (some 3)], (.seq (.ops A_law10_Own_0) (.seq (.ops A_law10_Own_1) .ret))⟩
/-! (*diorama/dioramaref10.Tree).Add -/
def A_ref10_Tree_Add_0 : Row := [i 4 (.box (r 1)), i 5 (.box (r 2)), i 6 (.mv (.const (.int (.i64) 0)))]
def A_ref10_Tree_Add_1 : Row := [i 10 (.mv (r 0)), i 11 (.load (some 2) (r 4)), i 12 (.call (.func F_ref10_Tree_find) [.tmp 10, .tmp 11]), i 9 (.mv (r 12)), i 13 (.extract (r
  9) 0), i 14 (.extract (r 9) 1), i 7 (.mv (r 13)), i 8 (.mv (r 14))]
def A_ref10_Tree_Add_2 : Row := [i 16 (.load (some 2) (r 4)), i 17 (.call (.func F_ref07_Node) [.tmp 16]), i 18 (.un (.not) (r 17)), i 19 (.mv (r 18)), g 20 (.load (some 3) (r
  5)) 19 false, g 21 (.call (.func F_ref10_Right) [.tmp 20]) 19 false, g 22 (.un (.not) (r 21)) 19 false, i 23 (.pick (r 19) (.const (.bool true)) (r 22)), i 15 (.mv (r
  23))]
def A_ref10_Tree_Add_3 : Row := [i 6 (.mv (.const (.int (.i64) 1)))]
def A_ref10_Tree_Add_4 : Row := [i 25 (.mv (r 8)), i 24 (.mv (r 25))]
def A_ref10_Tree_Add_5 : Row := [i 6 (.mv (.const (.int (.i64) 4)))]
def A_ref10_Tree_Add_6 : Row := [i 27 (.mv (r 0)), i 28 (.fieldAddr 0 (r 5)), i 29 (.load (some 2) (r 28)), i 30 (.call (.func F_ref10_Tree_Has) [.tmp 27, .tmp 29]), i 31 (.un
  (.not) (r 30)), i 26 (.mv (r 31))]
def A_ref10_Tree_Add_7 : Row := [i 6 (.mv (.const (.int (.i64) 3)))]
def A_ref10_Tree_Add_8 : Row := [i 33 (.mv (r 0)), i 34 (.nilCheck (r 33)), i 35 (.fieldAddr 0 (r 34)), i 36 (.load none (r 35)), i 37 (.lenSlice (r 36)), i 38 (.bin (.geq) (r
  37) (.const (.int (.i64) 65536))), i 32 (.mv (r 38))]
def A_ref10_Tree_Add_9 : Row := [i 6 (.mv (.const (.int (.i64) 7)))]
def A_ref10_Tree_Add_10 : Row := [i 39 (.mv (r 0)), i 40 (.buildSlice 0 [] []), i 41 (.mv (r 0)), i 42 (.nilCheck (r 41)), i 43 (.fieldAddr 0 (r 42)), i 44 (.load none (r
  43)), i 45 (.mv (r 7)), i 46 (.slice 5 (r 44) none (some (r 45)) none), i 48 (.load (some 2) (r 4)), i 49 (.load (some 3) (r 5)), i 50 (.build [.int (.i64) 0, .int
  (.i64) 0, .int (.i64) 0, .int (.i64) 0, .str []] [(0, 2, .tmp 48), (2, 3, .tmp 49)]), i 51 (.buildSlice 1 [.int (.i64) 0, .int (.i64) 0, .int (.i64) 0, .int (.i64) 0,
  .str []] [(0, 5, .tmp 50)]), i 53 (.mv (r 0)), i 54 (.nilCheck (r 53)), i 55 (.fieldAddr 0 (r 54)), i 56 (.load none (r 55)), i 57 (.mv (r 7)), i 58 (.slice 5 (r 56)
  (some (r 57)) none none), ⟨a 47 (.append 5 48 (r 40) (r 46)), [a 56 (.load none (r 55)), a 51 (.buildSlice 1 [.int (.i64) 0, .int (.i64) 0, .int (.i64) 0, .int (.i64) 0,
  .str []] [(0, 5, .tmp 50)]), a 49 (.load (some 3) (r 5)), a 48 (.load (some 2) (r 4))]⟩, ⟨a 52 (.append 5 48 (r 47) (r 51)), [a 56 (.load none (r 55))]⟩, i 59 (.append 5
  48 (r 52) (r 58)), i 60 (.nilCheck (r 39)), i 61 (.fieldAddr 0 (r 60)), i0 (.store 1 (r 61) (r 59))]
def A_ref10_Tree_Add_11 : Row := [i 6 (.mv (.const (.int (.i64) 0)))]
/-- (*diorama/dioramaref10.Tree).Add -/
def A_ref10_Tree_Add : AFunc :=
 ⟨62, [.tmp 6], (.seq (.ops A_ref10_Tree_Add_0) (.seq (.ops A_ref10_Tree_Add_1) (.seq (.block 0 (.seq (.ops A_ref10_Tree_Add_2) (.cond (r 15) (.seq (.ops
  A_ref10_Tree_Add_3) .ret) (.seq (.ops A_ref10_Tree_Add_4) (.cond (r 24) (.seq (.ops A_ref10_Tree_Add_5) .ret) (.seq (.ops A_ref10_Tree_Add_6) (.cond (r 26) (.seq (.ops
  A_ref10_Tree_Add_7) .ret) (.seq (.ops A_ref10_Tree_Add_8) (.cond (r 32) (.seq (.ops A_ref10_Tree_Add_9) .ret) .skip))))))))) (.seq (.ops A_ref10_Tree_Add_10) (.seq (.ops
  A_ref10_Tree_Add_11) .ret)))))⟩
/-! (*diorama/tree.Tree).Move -/
def A_tree_Tree_Move_0 : Row := [i 4 (.box (r 1)), i 5 (.box (r 2)), i 6 (.alloc [.int (.i64) 0, .int (.i64) 0, .str []]), i 7 (.mv (.const (.int (.i64) 0)))]
def A_tree_Tree_Move_1 : Row := [i 9 (.mv (r 0)), i 10 (.call (.func F_tree_Tree_none) [.tmp 9]), i 11 (.mv (r 10)), g 12 (.load (some 2) (r 4)) 11 false, g 13 (.call (.func
  F_op_Node) [.tmp 12]) 11 false, g 14 (.un (.not) (r 13)) 11 false, i 15 (.pick (r 11) (.const (.bool true)) (r 14)), i 16 (.mv (r 15)), g 17 (.load (some 3) (r 5)) 16
  false, g 18 (.call (.func F_tree_Spot_right) [.tmp 17]) 16 false, g 19 (.un (.not) (r 18)) 16 false, i 20 (.pick (r 16) (.const (.bool true)) (r 19)), i 8 (.mv (r 20))]
def A_tree_Tree_Move_2 : Row := [i 21 (.load (some 3) (r 6)), i0 (.store 3 (r 6) (r 21)), i 7 (.mv (.const (.int (.i64) 1)))]
def A_tree_Tree_Move_3 : Row := [i 23 (.mv (r 0)), i 24 (.load (some 2) (r 4)), i 25 (.call (.func F_tree_Tree_node) [.tmp 23, .tmp 24]), i 26 (.un (.not) (r 25)), i 27 (.mv
  (r 26)), g 28 (.mv (r 0)) 27 false, g 29 (.fieldAddr 0 (r 5)) 27 false, g 30 (.load (some 2) (r 29)) 27 false, g 31 (.call (.func F_tree_Tree_Has) [.tmp 28, .tmp 30]) 27
  false, g 32 (.un (.not) (r 31)) 27 false, i 33 (.pick (r 27) (.const (.bool true)) (r 32)), i 22 (.mv (r 33))]
def A_tree_Tree_Move_4 : Row := [i 34 (.load (some 3) (r 6)), i0 (.store 3 (r 6) (r 34)), i 7 (.mv (.const (.int (.i64) 3)))]
def A_tree_Tree_Move_5 : Row := [i 36 (.mv (r 0)), i 37 (.load (some 2) (r 4)), i 38 (.fieldAddr 0 (r 5)), i 39 (.load (some 2) (r 38)), i 40 (.call (.func F_tree_Tree_Within)
  [.tmp 36, .tmp 37, .tmp 39]), i 35 (.mv (r 40))]
def A_tree_Tree_Move_6 : Row := [i 41 (.load (some 3) (r 6)), i0 (.store 3 (r 6) (r 41)), i 7 (.mv (.const (.int (.i64) 41)))]
def A_tree_Tree_Move_7 : Row := [i 42 (.mv (r 0)), i 43 (.nilCheck (r 42)), i 44 (.fieldAddr 0 (r 43)), i 45 (.load none (r 44)), i 46 (.load (some 2) (r 4)), i 47 (.lookup
  ⟨true, [.int (.i64), .int (.i64)]⟩ (.agg [.int (.i64) 0, .int (.i64) 0, .str []]) false (r 45) (r 46)), i0 (.store 3 (r 6) (r 47))]
def A_tree_Tree_Move_8 : Row := [i 48 (.mv (r 0)), i 49 (.nilCheck (r 48)), i 50 (.fieldAddr 0 (r 49)), i 51 (.load none (r 50)), i 52 (.load (some 2) (r 4)), i 53 (.load
  (some 3) (r 5)), i0 (.mapUpdate ⟨true, [.int (.i64), .int (.i64)]⟩ (r 51) (r 52) (r 53))]
def A_tree_Tree_Move_9 : Row := [i 54 (.load (some 3) (r 6)), i0 (.store 3 (r 6) (r 54)), i 7 (.mv (.const (.int (.i64) 0)))]
/-- (*diorama/tree.Tree).Move -/
def A_tree_Tree_Move : AFunc :=
 ⟨55, [.cell 6 (some 3), .tmp 7], (.seq (.ops A_tree_Tree_Move_0) (.seq (.block 0 (.seq (.ops A_tree_Tree_Move_1) (.cond (r 8) (.seq (.ops A_tree_Tree_Move_2) .ret) (.seq
  (.ops A_tree_Tree_Move_3) (.cond (r 22) (.seq (.ops A_tree_Tree_Move_4) .ret) (.seq (.ops A_tree_Tree_Move_5) (.cond (r 35) (.seq (.ops A_tree_Tree_Move_6) .ret)
  .skip))))))) (.seq (.ops A_tree_Tree_Move_7) (.seq (.ops A_tree_Tree_Move_8) (.seq (.ops A_tree_Tree_Move_9) .ret)))))⟩
/-! (*diorama/dioramaref10.Tree).Move -/
def A_ref10_Tree_Move_0 : Row := [i 4 (.box (r 1)), i 5 (.box (r 2)), i 6 (.alloc [.int (.i64) 0, .int (.i64) 0, .str []]), i 7 (.mv (.const (.int (.i64) 0)))]
def A_ref10_Tree_Move_1 : Row := [i 12 (.mv (r 0)), i 13 (.load (some 2) (r 4)), i 14 (.call (.func F_ref10_Tree_find) [.tmp 12, .tmp 13]), i 11 (.mv (r 14)), i 15 (.extract
  (r 11) 0), i 16 (.extract (r 11) 1), i 8 (.mv (r 15)), i 9 (.mv (r 16))]
def A_ref10_Tree_Move_2 : Row := [i 18 (.load (some 2) (r 4)), i 19 (.call (.func F_ref07_Node) [.tmp 18]), i 20 (.un (.not) (r 19)), i 21 (.mv (r 20)), g 22 (.load (some 3)
  (r 5)) 21 false, g 23 (.call (.func F_ref10_Right) [.tmp 22]) 21 false, g 24 (.un (.not) (r 23)) 21 false, i 25 (.pick (r 21) (.const (.bool true)) (r 24)), i 17 (.mv (r
  25))]
def A_ref10_Tree_Move_3 : Row := [i 26 (.build [.int (.i64) 0, .int (.i64) 0, .str []] []), i0 (.store 3 (r 6) (r 26)), i 7 (.mv (.const (.int (.i64) 1)))]
def A_ref10_Tree_Move_4 : Row := [i 28 (.mv (r 9)), i 29 (.un (.not) (r 28)), i 30 (.mv (r 29)), g 31 (.mv (r 0)) 30 false, g 32 (.fieldAddr 0 (r 5)) 30 false, g 33 (.load
  (some 2) (r 32)) 30 false, g 34 (.call (.func F_ref10_Tree_Has) [.tmp 31, .tmp 33]) 30 false, g 35 (.un (.not) (r 34)) 30 false, i 36 (.pick (r 30) (.const (.bool true))
  (r 35)), i 27 (.mv (r 36))]
def A_ref10_Tree_Move_5 : Row := [i 37 (.build [.int (.i64) 0, .int (.i64) 0, .str []] []), i0 (.store 3 (r 6) (r 37)), i 7 (.mv (.const (.int (.i64) 3)))]
def A_ref10_Tree_Move_6 : Row := [i 39 (.mv (r 0)), i 40 (.load (some 2) (r 4)), i 41 (.fieldAddr 0 (r 5)), i 42 (.load (some 2) (r 41)), i 43 (.call (.func
  F_ref10_Tree_Within) [.tmp 39, .tmp 40, .tmp 42]), i 38 (.mv (r 43))]
def A_ref10_Tree_Move_7 : Row := [i 44 (.build [.int (.i64) 0, .int (.i64) 0, .str []] []), i0 (.store 3 (r 6) (r 44)), i 7 (.mv (.const (.int (.i64) 41)))]
def A_ref10_Tree_Move_8 : Row := [i 45 (.mv (r 0)), i 46 (.nilCheck (r 45)), i 47 (.fieldAddr 0 (r 46)), i 48 (.load none (r 47)), i 49 (.mv (r 8)), i 50 (.indexAddr 5 (r 48)
  (r 49)), i 51 (.fieldAddr 2 (r 50)), i 52 (.load (some 3) (r 51)), i 10 (.alloc [.int (.i64) 0, .int (.i64) 0, .str []]), i0 (.store 3 (r 10) (r 52))]
def A_ref10_Tree_Move_9 : Row := [i 53 (.mv (r 0)), i 54 (.nilCheck (r 53)), i 55 (.fieldAddr 0 (r 54)), i 56 (.load none (r 55)), i 57 (.mv (r 8)), i 58 (.load (some 3) (r
  5)), i 59 (.indexAddr 5 (r 56) (r 57)), i 60 (.fieldAddr 2 (r 59)), i0 (.store 3 (r 60) (r 58))]
def A_ref10_Tree_Move_10 : Row := [i 61 (.load (some 3) (r 10)), i0 (.store 3 (r 6) (r 61)), i 7 (.mv (.const (.int (.i64) 0)))]
/-- (*diorama/dioramaref10.Tree).Move -/
def A_ref10_Tree_Move : AFunc :=
 ⟨62, [.cell 6 (some 3), .tmp 7], (.seq (.ops A_ref10_Tree_Move_0) (.seq (.ops A_ref10_Tree_Move_1) (.seq (.block 0 (.seq (.ops A_ref10_Tree_Move_2) (.cond (r 17) (.seq
  (.ops A_ref10_Tree_Move_3) .ret) (.seq (.ops A_ref10_Tree_Move_4) (.cond (r 27) (.seq (.ops A_ref10_Tree_Move_5) .ret) (.seq (.ops A_ref10_Tree_Move_6) (.cond (r 38)
  (.seq (.ops A_ref10_Tree_Move_7) .ret) .skip))))))) (.seq (.ops A_ref10_Tree_Move_8) (.seq (.ops A_ref10_Tree_Move_9) (.seq (.ops A_ref10_Tree_Move_10) .ret))))))⟩
/-! diorama/dioramalaw11.Same -/
def A_law11_Same_0 : Row := [i 4 (.mv (.const (.bool false)))]
def A_law11_Same_1 : Row := [i 6 (.mv (r 0)), i 7 (.lenSlice (r 6)), i 8 (.mv (r 1)), i 9 (.lenSlice (r 8)), i 10 (.bin (.neq) (r 7) (r 9))]
def A_law11_Same_2 : Row := [i 4 (.mv (.const (.bool false)))]
def A_law11_Same_3 : Row := [i 5 (.mv (.const (.int (.i64) 0)))]
def A_law11_Same_4 : Row := [i 11 (.mv (r 5)), i 12 (.mv (r 0)), i 13 (.lenSlice (r 12)), i 14 (.bin (.lss) (r 11) (r 13))]
def A_law11_Same_5 : Row := [i 17 (.mv (r 0)), i 18 (.mv (r 5)), i 19 (.indexAddr 3 (r 17) (r 18)), i 20 (.fieldAddr 0 (r 19)), i 21 (.load none (r 20)), i 22 (.mv (r 1)), i
  23 (.mv (r 5)), i 24 (.indexAddr 3 (r 22) (r 23)), i 25 (.fieldAddr 0 (r 24)), i 26 (.load none (r 25)), i 27 (.bin (.neq) (r 21) (r 26)), i 28 (.mv (r 27)), g 29 (.mv
  (r 0)) 28 false, g 30 (.mv (r 5)) 28 false, g 31 (.indexAddr 3 (r 29) (r 30)) 28 false, g 32 (.fieldAddr 1 (r 31)) 28 false, g 33 (.load (some 2) (r 32)) 28 false, g 34
  (.mv (r 1)) 28 false, g 35 (.mv (r 5)) 28 false, g 36 (.indexAddr 3 (r 34) (r 35)) 28 false, g 37 (.fieldAddr 1 (r 36)) 28 false, g 38 (.load (some 2) (r 37)) 28 false,
  g 39 (.eq true ⟨true, [.int (.i64), .int (.i64)]⟩ (r 33) (r 38)) 28 false, i 40 (.pick (r 28) (.const (.bool true)) (r 39))]
def A_law11_Same_6 : Row := [i 4 (.mv (.const (.bool false)))]
def A_law11_Same_7 : Row := [i 15 (.mv (r 5)), i 16 (.bin (.add) (r 15) (.const (.int (.i64) 1))), i 5 (.mv (r 16))]
def A_law11_Same_8 : ACode := (.seq (.seq (.ops A_law11_Same_4) (.cond (r 14) .skip (.exit 0))) (.seq (.block 1 (.seq (.ops A_law11_Same_5) (.cond (r 40) (.seq (.ops
  A_law11_Same_6) .ret) .skip))) (.ops A_law11_Same_7)))
def A_law11_Same_9 : Row := [i 4 (.mv (.const (.bool true)))]
/-- diorama/dioramalaw11.Same -/
def A_law11_Same : AFunc :=
 ⟨41, [.tmp 4], (.seq (.ops A_law11_Same_0) (.seq (.seq (.ops A_law11_Same_1) (.cond (r 10) (.seq (.ops A_law11_Same_2) .ret) .skip)) (.seq (.seq (.ops A_law11_Same_3)
  (.block 0 (.loop A_law11_Same_8))) (.seq (.ops A_law11_Same_9) .ret))))⟩
/-! diorama/order.Row -/
def A_order_Row_0 : Row := [i 3 (.box (r 1)), i 4 (.mv (.const (.slice none 0 (.exact 0))))]
def A_order_Row_1 : Row := [i 5 (.mv (.const (.slice none 0 (.exact 0))))]
def A_order_Row_2 : Row := [i 10 (.mv (r 0)), i 11 (.load (some 2) (r 3)), i 12 (.call (.func F_tree_Tree_Below) [.tmp 10, .tmp 11]), i 13 (.lenSlice (r 12)), i 14 (.mv
  (.const (.int (.i64) 0)))]
def A_order_Row_3 : Row := [i 15 (.bin (.lss) (r 14) (r 13))]
def A_order_Row_4 : Row := [i 16 (.indexAddr 2 (r 12) (r 14)), i 17 (.load (some 2) (r 16)), i 7 (.alloc [.int (.i64) 0, .int (.i64) 0]), i0 (.store 2 (r 7) (r 17))]
def A_order_Row_5 : Row := [i 19 (.mv (r 0)), i 20 (.load (some 2) (r 7)), i 21 (.call (.func F_tree_Tree_Spot) [.tmp 19, .tmp 20]), i 18 (.mv (r 21)), i 22 (.extract (r 18)
  0), i 23 (.extract (r 18) 1), i 8 (.alloc [.int (.i64) 0, .int (.i64) 0, .str []]), i0 (.store 3 (r 8) (r 22)), i 9 (.mv (r 23))]
def A_order_Row_6 : Row := [i 24 (.mv (r 5)), i 25 (.fieldAddr 2 (r 8)), i 26 (.load none (r 25)), i 27 (.load (some 2) (r 7)), i 28 (.build [.str [], .int (.i64) 0, .int
  (.i64) 0] [(0, 1, .tmp 26), (1, 2, .tmp 27)]), i 29 (.buildSlice 1 [.str [], .int (.i64) 0, .int (.i64) 0] [(0, 3, .tmp 28)]), i 30 (.append 3 32 (r 24) (r 29)), i 5
  (.mv (r 30))]
def A_order_Row_7 : Row := [i 31 (.bin (.add) (r 14) (.const (.int (.i64) 1))), i 14 (.mv (r 31))]
def A_order_Row_8 : ACode := (.seq (.ops A_order_Row_3) (.seq (.cond (r 15) .skip (.exit 0)) (.seq (.block 1 (.seq (.ops A_order_Row_4) (.seq (.ops A_order_Row_5) (.ops
  A_order_Row_6)))) (.ops A_order_Row_7))))
def A_order_Row_9 : Row := [i 32 (.mv (r 5)), i 33 (.call (.func F_order_Sort) [.tmp 32]), i 4 (.mv (r 33))]
/-- diorama/order.Row -/
def A_order_Row : AFunc :=
 ⟨34, [.tmp 4], (.seq (.ops A_order_Row_0) (.seq (.ops A_order_Row_1) (.seq (.seq (.ops A_order_Row_2) (.block 0 (.loop A_order_Row_8))) (.seq (.ops A_order_Row_9)
  .ret))))⟩
/-! diorama/dioramaref11.Row -/
def A_ref11_Row_0 : Row := [i 3 (.box (r 1)), i 4 (.mv (.const (.slice none 0 (.exact 0))))]
def A_ref11_Row_1 : Row := [i 5 (.mv (.const (.slice none 0 (.exact 0))))]
def A_ref11_Row_2 : Row := [i 6 (.mv (.const (.int (.i64) 0)))]
def A_ref11_Row_3 : Row := [i 7 (.mv (r 6)), i 8 (.mv (r 0)), i 9 (.nilCheck (r 8)), i 10 (.fieldAddr 0 (r 9)), i 11 (.load none (r 10)), i 12 (.lenSlice (r 11)), i 13 (.bin
  (.lss) (r 7) (r 12))]
def A_ref11_Row_4 : Row := [i 16 (.mv (r 0)), i 17 (.nilCheck (r 16)), i 18 (.fieldAddr 0 (r 17)), i 19 (.load none (r 18)), i 20 (.mv (r 6)), i 21 (.indexAddr 5 (r 19) (r
  20)), i 22 (.fieldAddr 2 (r 21)), i 23 (.fieldAddr 0 (r 22)), i 24 (.load (some 2) (r 23)), i 25 (.load (some 2) (r 3)), i 26 (.eq false ⟨true, [.int (.i64), .int
  (.i64)]⟩ (r 24) (r 25))]
def A_ref11_Row_5 : Row := [i 27 (.mv (r 5)), i 28 (.mv (r 0)), i 29 (.nilCheck (r 28)), i 30 (.fieldAddr 0 (r 29)), i 31 (.load none (r 30)), i 32 (.mv (r 6)), i 33
  (.indexAddr 5 (r 31) (r 32)), i 34 (.fieldAddr 2 (r 33)), i 35 (.fieldAddr 2 (r 34)), i 36 (.load none (r 35)), i 37 (.mv (r 0)), i 38 (.nilCheck (r 37)), i 39
  (.fieldAddr 0 (r 38)), i 40 (.load none (r 39)), i 41 (.mv (r 6)), i 42 (.indexAddr 5 (r 40) (r 41)), i 43 (.fieldAddr 0 (r 42)), i 44 (.load (some 2) (r 43)), i 45
  (.build [.str [], .int (.i64) 0, .int (.i64) 0] [(0, 1, .tmp 36), (1, 2, .tmp 44)]), i 46 (.buildSlice 1 [.str [], .int (.i64) 0, .int (.i64) 0] [(0, 3, .tmp 45)]), i 47
  (.append 3 32 (r 27) (r 46)), i 5 (.mv (r 47))]
def A_ref11_Row_6 : Row := [i 14 (.mv (r 6)), i 15 (.bin (.add) (r 14) (.const (.int (.i64) 1))), i 6 (.mv (r 15))]
def A_ref11_Row_7 : ACode := (.seq (.seq (.ops A_ref11_Row_3) (.cond (r 13) .skip (.exit 0))) (.seq (.block 1 (.seq (.ops A_ref11_Row_4) (.cond (r 26) (.ops A_ref11_Row_5)
  .skip))) (.ops A_ref11_Row_6)))
def A_ref11_Row_8 : Row := [i 48 (.mv (r 5)), i 49 (.call (.func F_ref11_Sort) [.tmp 48]), i 4 (.mv (r 49))]
/-- diorama/dioramaref11.Row -/
def A_ref11_Row : AFunc :=
 ⟨50, [.tmp 4], (.seq (.ops A_ref11_Row_0) (.seq (.ops A_ref11_Row_1) (.seq (.seq (.ops A_ref11_Row_2) (.block 0 (.loop A_ref11_Row_7))) (.seq (.ops A_ref11_Row_8)
  .ret))))⟩
/-! diorama/dioramalaw13.Light -/
/-! diorama/dioramalaw13.knows -/
/-! diorama/graph.New -/
/-! (*diorama/graph.Graph).Insert -/
/-! diorama/dioramalaw07.Own -/
/-! (*diorama/graph.Graph).Nodes -/
/-! (*diorama/graph.Graph).Above -/
/-! (*diorama/graph.Graph).Spot -/
/-! (*diorama/graph.Graph).Reaches -/
/-! (*diorama/graph.Graph).Ref -/
/-! (*diorama/graph.Graph).Has -/
/-! (*diorama/graph.Graph).Row -/
/-! (*diorama/graph.Graph).Clone -/
/-! (*diorama/dioramaref13.Graph).Insert -/
/-! diorama/dioramalaw13.num -/
/-! (*diorama/graph.Graph).Count -/
/-! (*diorama/graph.Graph).Same -/
/-! (*diorama/dioramaref13.Graph).State -/
/-! diorama/dioramalaw05.Same -/
/-! diorama/dioramalaw13.same -/
/-! (*diorama/graph.Graph).Done -/
/-! diorama/dioramaref13.Same -/
/-! diorama/order.Sort -/
def A_order_Sort_0 : Row := [i 2 (.mv (.const (.slice none 0 (.exact 0))))]
def A_order_Sort_1 : Row := [i 3 (.mv (.func F_order_Sort_c1))]
def A_order_Sort_2 : Row := [i 4 (.mv (r 0)), i 5 (.call (.func F_slices_Values_Sib) [.tmp 4]), i 6 (.mv (r 3)), i 7 (.call (.func F_slices_SortedFunc_Sib) [.tmp 5, .tmp 6]),
  i 2 (.mv (r 7))]
/-- diorama/order.Sort -/
def A_order_Sort : AFunc :=
 ⟨8, [.tmp 2], (.seq (.ops A_order_Sort_0) (.seq (.ops A_order_Sort_1) (.seq (.ops A_order_Sort_2) .ret)))⟩
/-! diorama/order.Key -/
def A_order_Key_0 : Row := [i 4 (.alloc [.str []]), i 5 (.mv (.const (.int (.i64) 0)))]
def A_order_Key_1 : Row := [i 6 (.mv (r 0)), i 7 (.mv (r 1)), i 8 (.makeFunc F_order_Key_c1 [] [.tmp 4]), i 9 (.call (.func F_order_gap) [.tmp 6, .tmp 7, .tmp 8]), i 5 (.mv (r
  9))]
def A_order_Key_2 : Row := [i 10 (.load none (r 4)), i 11 (.mv (r 5)), i0 (.store 1 (r 4) (r 10)), i 5 (.mv (r 11))]
/-- diorama/order.Key -/
def A_order_Key : AFunc :=
 ⟨12, [.cell 4 none, .tmp 5], (.seq (.ops A_order_Key_0) (.seq (.ops A_order_Key_1) (.seq (.ops A_order_Key_2) .ret)))⟩
/-! diorama/dioramalaw11.num -/
def A_law11_num_0 : Row := [i 2 (.mv (.const (.int (.i64) 0)))]
def A_law11_num_1 : Row := [i 3 (.mv (r 0)), i 2 (.mv (r 3))]
/-- diorama/dioramalaw11.num -/
def A_law11_num : AFunc :=
 ⟨4, [.tmp 2], (.seq (.ops A_law11_num_0) (.seq (.ops A_law11_num_1) .ret))⟩
/-! diorama/order.Find -/
def A_order_Find_0 : Row := [i 3 (.box (r 1)), i 4 (.mv (.const (.int (.i64) 0)))]
def A_order_Find_1 : Row := [i 5 (.mv (r 0)), i 6 (.makeFunc F_order_Find_c1 [] [.tmp 3]), i 7 (.call (.func F_slices_IndexFunc_Sib) [.tmp 5, .tmp 6]), i 4 (.mv (r 7))]
/-- diorama/order.Find -/
def A_order_Find : AFunc :=
 ⟨8, [.tmp 4], (.seq (.ops A_order_Find_0) (.seq (.ops A_order_Find_1) .ret))⟩
/-! (*diorama/tree.Tree).none -/
def A_tree_Tree_none_0 : Row := [i 2 (.mv (.const (.bool false)))]
def A_tree_Tree_none_1 : Row := [i 3 (.mv (r 0)), i 4 (.eqNil false (.ptr) (r 3) (.const (.ptr none))), i 5 (.mv (r 4)), g 6 (.mv (r 0)) 5 false, g 7 (.nilCheck (r 6)) 5
  false, g 8 (.fieldAddr 0 (r 7)) 5 false, g 9 (.load none (r 8)) 5 false, g 10 (.eqNil false (.map) (r 9) (.const (.map none))) 5 false, i 11 (.pick (r 5) (.const (.bool
  true)) (r 10)), i 2 (.mv (r 11))]
/-- (*diorama/tree.Tree).none -/
def A_tree_Tree_none : AFunc :=
 ⟨12, [.tmp 2], (.seq (.ops A_tree_Tree_none_0) (.seq (.ops A_tree_Tree_none_1) .ret))⟩
/-! diorama/op.Node -/
def A_op_Node_0 : Row := [i 1 (.box (r 0)), i 2 (.mv (.const (.bool false)))]
def A_op_Node_1 : Row := [i 3 (.load (some 2) (r 1)), i 4 (.call (.func F_stamp_Right) [.tmp 3]), i 5 (.mv (r 4)), g 6 (.fieldAddr 0 (r 1)) 5 true, g 7 (.load none (r 6)) 5
  true, g 8 (.bin (.gtr) (r 7) (.const (.int (.i64) 0))) 5 true, i 9 (.pick (r 5) (r 8) (.const (.bool false))), i 2 (.mv (r 9))]
/-- diorama/op.Node -/
def A_op_Node : AFunc :=
 ⟨10, [.tmp 2], (.seq (.ops A_op_Node_0) (.seq (.ops A_op_Node_1) .ret))⟩
/-! (diorama/tree.Spot).right -/
def A_tree_Spot_right_0 : Row := [i 1 (.box (r 0)), i 2 (.mv (.const (.bool false)))]
def A_tree_Spot_right_1 : Row := [i 3 (.fieldAddr 0 (r 1)), i 4 (.load (some 2) (r 3)), i 5 (.call (.func F_op_Place) [.tmp 4]), i 6 (.mv (r 5)), g 7 (.fieldAddr 2 (r 1)) 6
  true, g 8 (.load none (r 7)) 6 true, g 9 (.call (.func F_poskey_Right) [.tmp 8]) 6 true, i 10 (.pick (r 6) (r 9) (.const (.bool false))), i 2 (.mv (r 10))]
/-- (diorama/tree.Spot).right -/
def A_tree_Spot_right : AFunc :=
 ⟨11, [.tmp 2], (.seq (.ops A_tree_Spot_right_0) (.seq (.ops A_tree_Spot_right_1) .ret))⟩
/-! (*diorama/tree.Tree).node -/
def A_tree_Tree_node_0 : Row := [i 3 (.box (r 1)), i 4 (.mv (.const (.bool false)))]
def A_tree_Tree_node_1 : Row := [i 8 (.mv (r 0)), i 9 (.nilCheck (r 8)), i 10 (.fieldAddr 0 (r 9)), i 11 (.load none (r 10)), i 12 (.load (some 2) (r 3)), i 13 (.lookup ⟨true,
  [.int (.i64), .int (.i64)]⟩ (.agg [.int (.i64) 0, .int (.i64) 0, .str []]) true (r 11) (r 12)), i 7 (.mv (r 13)), i 14 (.extract (r 7) 0), i 15 (.extract (r 7) 1), i 5
  (.alloc [.int (.i64) 0, .int (.i64) 0, .str []]), i0 (.store 3 (r 5) (r 14)), i 6 (.mv (r 15))]
def A_tree_Tree_node_2 : Row := [i 16 (.mv (r 6)), i 4 (.mv (r 16))]
/-- (*diorama/tree.Tree).node -/
def A_tree_Tree_node : AFunc :=
 ⟨17, [.tmp 4], (.seq (.ops A_tree_Tree_node_0) (.seq (.ops A_tree_Tree_node_1) (.seq (.ops A_tree_Tree_node_2) .ret)))⟩
/-! (*diorama/tree.Tree).Has -/
def A_tree_Tree_Has_0 : Row := [i 3 (.box (r 1)), i 4 (.mv (.const (.bool false)))]
def A_tree_Tree_Has_1 : Row := [i 7 (.mv (r 0)), i 8 (.call (.func F_tree_Tree_none) [.tmp 7])]
def A_tree_Tree_Has_2 : Row := [i 4 (.mv (.const (.bool false)))]
def A_tree_Tree_Has_3 : Row := [i 10 (.mv (r 0)), i 11 (.nilCheck (r 10)), i 12 (.fieldAddr 0 (r 11)), i 13 (.load none (r 12)), i 14 (.load (some 2) (r 3)), i 15 (.lookup
  ⟨true, [.int (.i64), .int (.i64)]⟩ (.agg [.int (.i64) 0, .int (.i64) 0, .str []]) true (r 13) (r 14)), i 9 (.mv (r 15)), i 16 (.extract (r 9) 0), i 17 (.extract (r 9)
  1), i 5 (.alloc [.int (.i64) 0, .int (.i64) 0, .str []]), i0 (.store 3 (r 5) (r 16)), i 6 (.mv (r 17))]
def A_tree_Tree_Has_4 : Row := [i 18 (.mv (r 6)), i 19 (.mv (r 18)), g 20 (.load (some 2) (r 3)) 19 false, g 21 (.call (.func F_op_Place) [.tmp 20]) 19 false, g 22 (.mv (r
  21)) 19 false, g 23 (.load (some 2) (r 3)) 22 true, g 24 (.call (.func F_op_Node) [.tmp 23]) 22 true, g 25 (.un (.not) (r 24)) 22 true, g 26 (.pick (r 22) (r 25) (.const
  (.bool false))) 19 false, i 27 (.pick (r 19) (.const (.bool true)) (r 26)), i 4 (.mv (r 27))]
/-- (*diorama/tree.Tree).Has -/
def A_tree_Tree_Has : AFunc :=
 ⟨28, [.tmp 4], (.seq (.ops A_tree_Tree_Has_0) (.seq (.seq (.ops A_tree_Tree_Has_1) (.cond (r 8) (.seq (.ops A_tree_Tree_Has_2) .ret) .skip)) (.seq (.ops A_tree_Tree_Has_3)
  (.seq (.ops A_tree_Tree_Has_4) .ret))))⟩
/-! (*diorama/dioramaref10.Tree).find -/
def A_ref10_Tree_find_0 : Row := [i 3 (.box (r 1)), i 4 (.mv (.const (.int (.i64) 0))), i 5 (.mv (.const (.bool false)))]
def A_ref10_Tree_find_1 : Row := [i 6 (.mv (.const (.int (.i64) 0)))]
def A_ref10_Tree_find_2 : Row := [i 7 (.mv (r 6)), i 8 (.mv (r 0)), i 9 (.nilCheck (r 8)), i 10 (.fieldAddr 0 (r 9)), i 11 (.load none (r 10)), i 12 (.lenSlice (r 11)), i 13
  (.bin (.lss) (r 7) (r 12))]
def A_ref10_Tree_find_3 : Row := [i 16 (.mv (r 0)), i 17 (.nilCheck (r 16)), i 18 (.fieldAddr 0 (r 17)), i 19 (.load none (r 18)), i 20 (.mv (r 6)), i 21 (.indexAddr 5 (r 19)
  (r 20)), i 22 (.fieldAddr 0 (r 21)), i 23 (.load (some 2) (r 22)), i 24 (.load (some 2) (r 3)), i 25 (.call (.func F_ref02_Compare) [.tmp 23, .tmp 24]), i 26 (.bin
  (.geq) (r 25) (.const (.int (.i64) 0)))]
def A_ref10_Tree_find_4 : Row := [i 27 (.mv (r 6)), i 28 (.mv (r 0)), i 29 (.nilCheck (r 28)), i 30 (.fieldAddr 0 (r 29)), i 31 (.load none (r 30)), i 32 (.mv (r 6)), i 33
  (.indexAddr 5 (r 31) (r 32)), i 34 (.fieldAddr 0 (r 33)), i 35 (.load (some 2) (r 34)), i 36 (.load (some 2) (r 3)), i 37 (.eq false ⟨true, [.int (.i64), .int (.i64)]⟩
  (r 35) (r 36)), i 4 (.mv (r 27)), i 5 (.mv (r 37))]
def A_ref10_Tree_find_5 : Row := [i 14 (.mv (r 6)), i 15 (.bin (.add) (r 14) (.const (.int (.i64) 1))), i 6 (.mv (r 15))]
def A_ref10_Tree_find_6 : ACode := (.seq (.seq (.ops A_ref10_Tree_find_2) (.cond (r 13) .skip (.exit 0))) (.seq (.block 1 (.seq (.ops A_ref10_Tree_find_3) (.cond (r 26) (.seq
  (.ops A_ref10_Tree_find_4) .ret) .skip))) (.ops A_ref10_Tree_find_5)))
def A_ref10_Tree_find_7 : Row := [i 38 (.mv (r 0)), i 39 (.nilCheck (r 38)), i 40 (.fieldAddr 0 (r 39)), i 41 (.load none (r 40)), i 42 (.lenSlice (r 41)), i 4 (.mv (r 42)), i
  5 (.mv (.const (.bool false)))]
/-- (*diorama/dioramaref10.Tree).find -/
def A_ref10_Tree_find : AFunc :=
 ⟨43, [.tmp 4, .tmp 5], (.seq (.ops A_ref10_Tree_find_0) (.seq (.seq (.ops A_ref10_Tree_find_1) (.block 0 (.loop A_ref10_Tree_find_6))) (.seq (.ops A_ref10_Tree_find_7)
  .ret)))⟩
/-! diorama/dioramaref07.Node -/
def A_ref07_Node_0 : Row := [i 1 (.box (r 0)), i 2 (.mv (.const (.bool false)))]
def A_ref07_Node_1 : Row := [i 3 (.load (some 2) (r 1)), i 4 (.call (.func F_ref02_Right) [.tmp 3]), i 5 (.mv (r 4)), g 6 (.fieldAddr 0 (r 1)) 5 true, g 7 (.load none (r 6)) 5
  true, g 8 (.bin (.geq) (r 7) (.const (.int (.i64) 1))) 5 true, i 9 (.pick (r 5) (r 8) (.const (.bool false))), i 2 (.mv (r 9))]
/-- diorama/dioramaref07.Node -/
def A_ref07_Node : AFunc :=
 ⟨10, [.tmp 2], (.seq (.ops A_ref07_Node_0) (.seq (.ops A_ref07_Node_1) .ret))⟩
/-! diorama/dioramaref10.Right -/
def A_ref10_Right_0 : Row := [i 1 (.box (r 0)), i 2 (.mv (.const (.bool false)))]
def A_ref10_Right_1 : Row := [i 3 (.fieldAddr 0 (r 1)), i 4 (.load (some 2) (r 3)), i 5 (.call (.func F_ref07_Place) [.tmp 4]), i 6 (.mv (r 5)), g 7 (.fieldAddr 2 (r 1)) 6
  true, g 8 (.load none (r 7)) 6 true, g 9 (.call (.func F_ref04_Right) [.tmp 8]) 6 true, i 10 (.pick (r 6) (r 9) (.const (.bool false))), i 2 (.mv (r 10))]
/-- diorama/dioramaref10.Right -/
def A_ref10_Right : AFunc :=
 ⟨11, [.tmp 2], (.seq (.ops A_ref10_Right_0) (.seq (.ops A_ref10_Right_1) .ret))⟩
/-! (*diorama/dioramaref10.Tree).Has -/
def A_ref10_Tree_Has_0 : Row := [i 3 (.box (r 1)), i 4 (.mv (.const (.bool false)))]
def A_ref10_Tree_Has_1 : Row := [i 8 (.mv (r 0)), i 9 (.load (some 2) (r 3)), i 10 (.call (.func F_ref10_Tree_find) [.tmp 8, .tmp 9]), i 7 (.mv (r 10)), i 11 (.extract (r 7)
  0), i 12 (.extract (r 7) 1), i 5 (.mv (r 11)), i 6 (.mv (r 12))]
def A_ref10_Tree_Has_2 : Row := [i 13 (.mv (r 6)), i 14 (.mv (r 13)), g 15 (.load (some 2) (r 3)) 14 false, ⟨⟨(some 16), .call (.func F_ref07_Root) [], (some (14, false))⟩,
  [⟨(some 15), .load (some 2) (r 3), (some (14, false))⟩]⟩, g 17 (.eq false ⟨true, [.int (.i64), .int (.i64)]⟩ (r 15) (r 16)) 14 false, i 18 (.pick (r 14) (.const (.bool
  true)) (r 17)), i 19 (.mv (r 18)), g 20 (.load (some 2) (r 3)) 19 false, ⟨⟨(some 21), .call (.func F_ref07_Trash) [], (some (19, false))⟩, [⟨(some 20), .load (some 2) (r
  3), (some (19, false))⟩]⟩, g 22 (.eq false ⟨true, [.int (.i64), .int (.i64)]⟩ (r 20) (r 21)) 19 false, i 23 (.pick (r 19) (.const (.bool true)) (r 22)), i 4 (.mv (r
  23))]
/-- (*diorama/dioramaref10.Tree).Has -/
def A_ref10_Tree_Has : AFunc :=
 ⟨24, [.tmp 4], (.seq (.ops A_ref10_Tree_Has_0) (.seq (.ops A_ref10_Tree_Has_1) (.seq (.ops A_ref10_Tree_Has_2) .ret)))⟩
/-! (*diorama/dioramaref10.Tree).Within -/
def A_ref10_Tree_Within_0 : Row := [i 4 (.box (r 1)), i 5 (.box (r 2)), i 6 (.mv (.const (.bool false)))]
def A_ref10_Tree_Within_1 : Row := [i 12 (.mv (r 0)), i 13 (.load (some 2) (r 5)), i 14 (.call (.func F_ref10_Tree_find) [.tmp 12, .tmp 13]), i 11 (.mv (r 14)), i 15 (.extract
  (r 11) 0), i 16 (.extract (r 11) 1), i 7 (.mv (r 15)), i 8 (.mv (r 16))]
def A_ref10_Tree_Within_2 : Row := [i 17 (.mv (r 8)), i 18 (.un (.not) (r 17))]
def A_ref10_Tree_Within_3 : Row := [i 6 (.mv (.const (.bool false)))]
def A_ref10_Tree_Within_4 : Row := [i 19 (.load (some 2) (r 4)), i 20 (.load (some 2) (r 5)), i 21 (.eq false ⟨true, [.int (.i64), .int (.i64)]⟩ (r 19) (r 20))]
def A_ref10_Tree_Within_5 : Row := [i 6 (.mv (.const (.bool true)))]
def A_ref10_Tree_Within_6 : Row := [i 22 (.mv (r 0)), i 23 (.load (some 2) (r 5)), i 24 (.call (.func F_ref10_Tree_Above) [.tmp 22, .tmp 23]), i 9 (.mv (r 24))]
def A_ref10_Tree_Within_7 : Row := [i 10 (.mv (.const (.int (.i64) 0)))]
def A_ref10_Tree_Within_8 : Row := [i 25 (.mv (r 10)), i 26 (.mv (r 9)), i 27 (.lenSlice (r 26)), i 28 (.bin (.lss) (r 25) (r 27))]
def A_ref10_Tree_Within_9 : Row := [i 31 (.mv (r 9)), i 32 (.mv (r 10)), i 33 (.indexAddr 2 (r 31) (r 32)), i 34 (.load (some 2) (r 33)), i 35 (.load (some 2) (r 4)), i 36
  (.eq false ⟨true, [.int (.i64), .int (.i64)]⟩ (r 34) (r 35))]
def A_ref10_Tree_Within_10 : Row := [i 6 (.mv (.const (.bool true)))]
def A_ref10_Tree_Within_11 : Row := [i 29 (.mv (r 10)), i 30 (.bin (.add) (r 29) (.const (.int (.i64) 1))), i 10 (.mv (r 30))]
def A_ref10_Tree_Within_12 : ACode := (.seq (.seq (.ops A_ref10_Tree_Within_8) (.cond (r 28) .skip (.exit 0))) (.seq (.block 1 (.seq (.ops A_ref10_Tree_Within_9) (.cond (r 36)
  (.seq (.ops A_ref10_Tree_Within_10) .ret) .skip))) (.ops A_ref10_Tree_Within_11)))
def A_ref10_Tree_Within_13 : Row := [i 6 (.mv (.const (.bool false)))]
/-- (*diorama/dioramaref10.Tree).Within -/
def A_ref10_Tree_Within : AFunc :=
 ⟨37, [.tmp 6], (.seq (.ops A_ref10_Tree_Within_0) (.seq (.ops A_ref10_Tree_Within_1) (.seq (.seq (.ops A_ref10_Tree_Within_2) (.cond (r 18) (.seq (.ops
  A_ref10_Tree_Within_3) .ret) .skip)) (.seq (.seq (.ops A_ref10_Tree_Within_4) (.cond (r 21) (.seq (.ops A_ref10_Tree_Within_5) .ret) .skip)) (.seq (.ops
  A_ref10_Tree_Within_6) (.seq (.seq (.ops A_ref10_Tree_Within_7) (.block 0 (.loop A_ref10_Tree_Within_12))) (.seq (.ops A_ref10_Tree_Within_13) .ret)))))))⟩
/-! (*diorama/tree.Tree).Below -/
def A_tree_Tree_Below_0 : Row := [i 3 (.box (r 1)), i 4 (.mv (.const (.slice none 0 (.exact 0))))]
def A_tree_Tree_Below_1 : Row := [i 5 (.mv (.const (.slice none 0 (.exact 0))))]
def A_tree_Tree_Below_2 : Row := [i 8 (.mv (r 0)), i 9 (.call (.func F_tree_Tree_Nodes) [.tmp 8]), i 10 (.lenSlice (r 9)), i 11 (.mv (.const (.int (.i64) 0)))]
def A_tree_Tree_Below_3 : Row := [i 12 (.bin (.lss) (r 11) (r 10))]
def A_tree_Tree_Below_4 : Row := [i 13 (.indexAddr 2 (r 9) (r 11)), i 14 (.load (some 2) (r 13)), i 7 (.alloc [.int (.i64) 0, .int (.i64) 0]), i0 (.store 2 (r 7) (r 14))]
def A_tree_Tree_Below_5 : Row := [i 15 (.mv (r 0)), i 16 (.nilCheck (r 15)), i 17 (.fieldAddr 0 (r 16)), i 18 (.load none (r 17)), i 19 (.load (some 2) (r 7)), i 20 (.lookup
  ⟨true, [.int (.i64), .int (.i64)]⟩ (.agg [.int (.i64) 0, .int (.i64) 0, .str []]) false (r 18) (r 19)), i 21 (.field 0 (some 2) (r 20)), i 22 (.load (some 2) (r 3)), i
  23 (.eq false ⟨true, [.int (.i64), .int (.i64)]⟩ (r 21) (r 22))]
def A_tree_Tree_Below_6 : Row := [i 24 (.mv (r 5)), i 25 (.load (some 2) (r 7)), i 26 (.buildSlice 1 [.int (.i64) 0, .int (.i64) 0] [(0, 2, .tmp 25)]), i 27 (.append 2 16 (r
  24) (r 26)), i 5 (.mv (r 27))]
def A_tree_Tree_Below_7 : Row := [i 28 (.bin (.add) (r 11) (.const (.int (.i64) 1))), i 11 (.mv (r 28))]
def A_tree_Tree_Below_8 : ACode := (.seq (.ops A_tree_Tree_Below_3) (.seq (.cond (r 12) .skip (.exit 0)) (.seq (.block 1 (.seq (.ops A_tree_Tree_Below_4) (.seq (.ops
  A_tree_Tree_Below_5) (.cond (r 23) (.ops A_tree_Tree_Below_6) .skip)))) (.ops A_tree_Tree_Below_7))))
def A_tree_Tree_Below_9 : Row := [i 29 (.mv (r 5)), i 4 (.mv (r 29))]
/-- (*diorama/tree.Tree).Below -/
def A_tree_Tree_Below : AFunc :=
 ⟨30, [.tmp 4], (.seq (.ops A_tree_Tree_Below_0) (.seq (.ops A_tree_Tree_Below_1) (.seq (.seq (.ops A_tree_Tree_Below_2) (.block 0 (.loop A_tree_Tree_Below_8))) (.seq (.ops
  A_tree_Tree_Below_9) .ret))))⟩
/-! (*diorama/tree.Tree).Spot -/
def A_tree_Tree_Spot_0 : Row := [i 3 (.box (r 1)), i 4 (.alloc [.int (.i64) 0, .int (.i64) 0, .str []]), i 5 (.mv (.const (.bool false)))]
def A_tree_Tree_Spot_1 : Row := [i 8 (.mv (r 0)), i 9 (.call (.func F_tree_Tree_none) [.tmp 8])]
def A_tree_Tree_Spot_2 : Row := [i 10 (.build [.int (.i64) 0, .int (.i64) 0, .str []] []), i0 (.store 3 (r 4) (r 10)), i 5 (.mv (.const (.bool false)))]
def A_tree_Tree_Spot_3 : Row := [i 12 (.mv (r 0)), i 13 (.nilCheck (r 12)), i 14 (.fieldAddr 0 (r 13)), i 15 (.load none (r 14)), i 16 (.load (some 2) (r 3)), i 17 (.lookup
  ⟨true, [.int (.i64), .int (.i64)]⟩ (.agg [.int (.i64) 0, .int (.i64) 0, .str []]) true (r 15) (r 16)), i 11 (.mv (r 17)), i 18 (.extract (r 11) 0), i 19 (.extract (r 11)
  1), i 6 (.alloc [.int (.i64) 0, .int (.i64) 0, .str []]), i0 (.store 3 (r 6) (r 18)), i 7 (.mv (r 19))]
def A_tree_Tree_Spot_4 : Row := [i 20 (.load (some 3) (r 6)), i 21 (.mv (r 7)), i0 (.store 3 (r 4) (r 20)), i 5 (.mv (r 21))]
/-- (*diorama/tree.Tree).Spot -/
def A_tree_Tree_Spot : AFunc :=
 ⟨22, [.cell 4 (some 3), .tmp 5], (.seq (.ops A_tree_Tree_Spot_0) (.seq (.seq (.ops A_tree_Tree_Spot_1) (.cond (r 9) (.seq (.ops A_tree_Tree_Spot_2) .ret) .skip)) (.seq
  (.ops A_tree_Tree_Spot_3) (.seq (.ops A_tree_Tree_Spot_4) .ret))))⟩
/-! diorama/dioramaref11.Sort -/
def A_ref11_Sort_0 : Row := [i 2 (.mv (.const (.slice none 0 (.exact 0))))]
def A_ref11_Sort_1 : Row := [i 3 (.mv (.const (.slice none 0 (.exact 0))))]
def A_ref11_Sort_2 : Row := [i 4 (.mv (.const (.int (.i64) 0)))]
def A_ref11_Sort_3 : Row := [i 6 (.mv (r 4)), i 7 (.mv (r 0)), i 8 (.lenSlice (r 7)), i 9 (.bin (.lss) (r 6) (r 8))]
def A_ref11_Sort_4 : Row := [i 12 (.mv (r 3)), i 13 (.lenSlice (r 12)), i 5 (.mv (r 13))]
def A_ref11_Sort_5 : Row := [i 14 (.mv (r 5)), i 15 (.bin (.gtr) (r 14) (.const (.int (.i64) 0))), i 16 (.mv (r 15)), g 17 (.mv (r 0)) 16 true, g 18 (.mv (r 4)) 16 true, g 19
  (.indexAddr 3 (r 17) (r 18)) 16 true, g 20 (.load (some 3) (r 19)) 16 true, g 21 (.mv (r 3)) 16 true, g 22 (.mv (r 5)) 16 true, g 23 (.bin (.sub) (r 22) (.const (.int
  (.i64) 1))) 16 true, g 24 (.indexAddr 3 (r 21) (r 23)) 16 true, g 25 (.load (some 3) (r 24)) 16 true, g 26 (.call (.func F_ref11_Before) [.tmp 20, .tmp 25]) 16 true, i
  27 (.pick (r 16) (r 26) (.const (.bool false)))]
def A_ref11_Sort_6 : Row := [i 28 (.mv (r 5)), i 29 (.bin (.sub) (r 28) (.const (.int (.i64) 1))), i 5 (.mv (r 29))]
def A_ref11_Sort_7 : ACode := (.seq (.seq (.ops A_ref11_Sort_5) (.cond (r 27) .skip (.exit 2))) (.block 3 (.ops A_ref11_Sort_6)))
def A_ref11_Sort_8 : Row := [i 30 (.buildSlice 0 [] []), i 31 (.mv (r 3)), i 32 (.mv (r 5)), i 33 (.slice 3 (r 31) none (some (r 32)) none), i 35 (.mv (r 0)), i 36 (.mv (r
  4)), i 37 (.indexAddr 3 (r 35) (r 36)), i 38 (.load (some 3) (r 37)), i 39 (.buildSlice 1 [.str [], .int (.i64) 0, .int (.i64) 0] [(0, 3, .tmp 38)]), i 41 (.mv (r 3)), i
  42 (.mv (r 5)), i 43 (.slice 3 (r 41) (some (r 42)) none none), ⟨a 34 (.append 3 32 (r 30) (r 33)), [a 39 (.buildSlice 1 [.str [], .int (.i64) 0, .int (.i64) 0] [(0, 3,
  .tmp 38)]), a 38 (.load (some 3) (r 37))]⟩, i 40 (.append 3 32 (r 34) (r 39)), i 44 (.append 3 32 (r 40) (r 43)), i 3 (.mv (r 44))]
def A_ref11_Sort_9 : Row := [i 10 (.mv (r 4)), i 11 (.bin (.add) (r 10) (.const (.int (.i64) 1))), i 4 (.mv (r 11))]
def A_ref11_Sort_10 : ACode := (.seq (.seq (.ops A_ref11_Sort_3) (.cond (r 9) .skip (.exit 0))) (.seq (.block 1 (.seq (.ops A_ref11_Sort_4) (.seq (.block 2 (.loop
  A_ref11_Sort_7)) (.ops A_ref11_Sort_8)))) (.ops A_ref11_Sort_9)))
def A_ref11_Sort_11 : Row := [i 45 (.mv (r 3)), i 2 (.mv (r 45))]
/-- diorama/dioramaref11.Sort -/
def A_ref11_Sort : AFunc :=
 ⟨46, [.tmp 2], (.seq (.ops A_ref11_Sort_0) (.seq (.ops A_ref11_Sort_1) (.seq (.seq (.ops A_ref11_Sort_2) (.block 0 (.loop A_ref11_Sort_10))) (.seq (.ops A_ref11_Sort_11)
  .ret))))⟩
/-! diorama/dioramalaw13.ref12Light -/
/-! (*diorama/graph.Graph).none -/
/-! diorama/op.Right -/
/-! (*diorama/graph.Graph).place -/
/-! (*diorama/graph.entry).do -/
/-! (*diorama/tree.Tree).Nodes -/
def A_tree_Tree_Nodes_0 : Row := [i 2 (.mv (.const (.slice none 0 (.exact 0))))]
def A_tree_Tree_Nodes_1 : Row := [i 3 (.mv (r 0)), i 4 (.call (.func F_tree_Tree_none) [.tmp 3])]
def A_tree_Tree_Nodes_2 : Row := [i 2 (.mv (.const (.slice none 0 (.exact 0))))]
def A_tree_Tree_Nodes_3 : Row := [i 5 (.mv (r 0)), i 6 (.nilCheck (r 5)), i 7 (.fieldAddr 0 (r 6)), i 8 (.load none (r 7)), i 9 (.call (.func F_maps_Keys_Stamp_Spot) [.tmp
  8]), i 10 (.call (.func F_slices_SortedFunc_Stamp) [.tmp 9, .func F_stamp_Compare]), i 2 (.mv (r 10))]
/-- (*diorama/tree.Tree).Nodes -/
def A_tree_Tree_Nodes : AFunc :=
 ⟨11, [.tmp 2], (.seq (.ops A_tree_Tree_Nodes_0) (.seq (.seq (.ops A_tree_Tree_Nodes_1) (.cond (r 4) (.seq (.ops A_tree_Tree_Nodes_2) .ret) .skip)) (.seq (.ops
  A_tree_Tree_Nodes_3) .ret)))⟩
/-! (*diorama/graph.Graph).next -/
/-! slices.Clone[[]diorama/graph.entry,diorama/graph.entry] -/
/-! (*diorama/tree.Tree).Clone -/
/-! diorama/dioramaref07.Right -/
/-! diorama/dioramaref02.Compare -/
def A_ref02_Compare_0 : Row := [i 2 (.box (r 0)), i 3 (.box (r 1)), i 4 (.mv (.const (.int (.i64) 0)))]
def A_ref02_Compare_1 : Row := [i 7 (.fieldAddr 0 (r 2)), i 8 (.load none (r 7)), i 5 (.mv (r 8))]
def A_ref02_Compare_2 : Row := [i 9 (.fieldAddr 0 (r 3)), i 10 (.load none (r 9)), i 6 (.mv (r 10))]
def A_ref02_Compare_3 : Row := [i 11 (.mv (r 5)), i 12 (.mv (r 6)), i 13 (.bin (.eql) (r 11) (r 12))]
def A_ref02_Compare_4 : Row := [i 14 (.fieldAddr 1 (r 2)), i 15 (.load none (r 14)), i 5 (.mv (r 15))]
def A_ref02_Compare_5 : Row := [i 16 (.fieldAddr 1 (r 3)), i 17 (.load none (r 16)), i 6 (.mv (r 17))]
def A_ref02_Compare_6 : Row := [i 18 (.mv (r 5)), i 19 (.mv (r 6)), i 20 (.bin (.lss) (r 18) (r 19))]
def A_ref02_Compare_7 : Row := [i 4 (.mv (.const (.int (.i64) (-1))))]
def A_ref02_Compare_8 : Row := [i 21 (.mv (r 5)), i 22 (.mv (r 6)), i 23 (.bin (.gtr) (r 21) (r 22))]
def A_ref02_Compare_9 : Row := [i 4 (.mv (.const (.int (.i64) 1)))]
def A_ref02_Compare_10 : Row := [i 4 (.mv (.const (.int (.i64) 0)))]
/-- diorama/dioramaref02.Compare -/
def A_ref02_Compare : AFunc :=
 ⟨24, [.tmp 4], (.seq (.ops A_ref02_Compare_0) (.seq (.ops A_ref02_Compare_1) (.seq (.ops A_ref02_Compare_2) (.seq (.seq (.ops A_ref02_Compare_3) (.cond (r 13) (.seq (.ops
  A_ref02_Compare_4) (.ops A_ref02_Compare_5)) .skip)) (.seq (.seq (.ops A_ref02_Compare_6) (.cond (r 20) (.seq (.ops A_ref02_Compare_7) .ret) .skip)) (.seq (.seq (.ops
  A_ref02_Compare_8) (.cond (r 23) (.seq (.ops A_ref02_Compare_9) .ret) .skip)) (.seq (.ops A_ref02_Compare_10) .ret)))))))⟩
/-! (*diorama/tree.Tree).Same -/
/-! diorama/dioramaref07.Trash -/
def A_ref07_Trash_0 : Row := [i 0 (.alloc [.int (.i64) 0, .int (.i64) 0])]
def A_ref07_Trash_1 : Row := [i 1 (.build [.int (.i64) 0, .int (.i64) 0] [(1, 1, .const (.int (.i64) 1))]), i0 (.store 2 (r 0) (r 1))]
/-- diorama/dioramaref07.Trash -/
def A_ref07_Trash : AFunc :=
 ⟨2, [.cell 0 (some 2)], (.seq (.ops A_ref07_Trash_0) (.seq (.ops A_ref07_Trash_1) .ret))⟩
/-! (*diorama/dioramaref13.State).move -/
/-! (*diorama/dioramaref13.State).point -/
/-! (*diorama/dioramaref10.Tree).Spot -/
def A_ref10_Tree_Spot_0 : Row := [i 3 (.box (r 1)), i 4 (.alloc [.int (.i64) 0, .int (.i64) 0, .str []]), i 5 (.mv (.const (.bool false)))]
def A_ref10_Tree_Spot_1 : Row := [i 9 (.mv (r 0)), i 10 (.load (some 2) (r 3)), i 11 (.call (.func F_ref10_Tree_find) [.tmp 9, .tmp 10]), i 8 (.mv (r 11)), i 12 (.extract (r
  8) 0), i 13 (.extract (r 8) 1), i 6 (.mv (r 12)), i 7 (.mv (r 13))]
def A_ref10_Tree_Spot_2 : Row := [i 14 (.mv (r 7)), i 15 (.un (.not) (r 14))]
def A_ref10_Tree_Spot_3 : Row := [i 16 (.build [.int (.i64) 0, .int (.i64) 0, .str []] []), i0 (.store 3 (r 4) (r 16)), i 5 (.mv (.const (.bool false)))]
def A_ref10_Tree_Spot_4 : Row := [i 17 (.mv (r 0)), i 18 (.nilCheck (r 17)), i 19 (.fieldAddr 0 (r 18)), i 20 (.load none (r 19)), i 21 (.mv (r 6)), i 22 (.indexAddr 5 (r 20)
  (r 21)), i 23 (.fieldAddr 2 (r 22)), i 24 (.load (some 3) (r 23)), i0 (.store 3 (r 4) (r 24)), i 5 (.mv (.const (.bool true)))]
/-- (*diorama/dioramaref10.Tree).Spot -/
def A_ref10_Tree_Spot : AFunc :=
 ⟨25, [.cell 4 (some 3), .tmp 5], (.seq (.ops A_ref10_Tree_Spot_0) (.seq (.ops A_ref10_Tree_Spot_1) (.seq (.seq (.ops A_ref10_Tree_Spot_2) (.cond (r 15) (.seq (.ops
  A_ref10_Tree_Spot_3) .ret) .skip)) (.seq (.ops A_ref10_Tree_Spot_4) .ret))))⟩
/-! (*diorama/dioramaref13.State).Ref -/
/-! (*diorama/dioramaref10.Tree).Above -/
def A_ref10_Tree_Above_0 : Row := [i 3 (.box (r 1)), i 4 (.mv (.const (.slice none 0 (.exact 0))))]
def A_ref10_Tree_Above_1 : Row := [i 5 (.mv (.const (.slice none 0 (.exact 0))))]
def A_ref10_Tree_Above_2 : Row := [i 6 (.mv (.const (.int (.i64) 0)))]
def A_ref10_Tree_Above_3 : Row := [i 9 (.mv (r 6)), i 10 (.mv (r 0)), i 11 (.nilCheck (r 10)), i 12 (.fieldAddr 0 (r 11)), i 13 (.load none (r 12)), i 14 (.lenSlice (r 13)), i
  15 (.bin (.leq) (r 9) (r 14))]
def A_ref10_Tree_Above_4 : Row := [i 19 (.mv (r 0)), i 20 (.load (some 2) (r 3)), i 21 (.call (.func F_ref10_Tree_find) [.tmp 19, .tmp 20]), i 18 (.mv (r 21)), i 22 (.extract
  (r 18) 0), i 23 (.extract (r 18) 1), i 7 (.mv (r 22)), i 8 (.mv (r 23))]
def A_ref10_Tree_Above_5 : Row := [i 24 (.mv (r 8)), i 25 (.un (.not) (r 24))]
def A_ref10_Tree_Above_6 : Row := [i 26 (.mv (r 5)), i 4 (.mv (r 26))]
def A_ref10_Tree_Above_7 : Row := [i 27 (.mv (r 0)), i 28 (.nilCheck (r 27)), i 29 (.fieldAddr 0 (r 28)), i 30 (.load none (r 29)), i 31 (.mv (r 7)), i 32 (.indexAddr 5 (r 30)
  (r 31)), i 33 (.fieldAddr 2 (r 32)), i 34 (.fieldAddr 0 (r 33)), i 35 (.load (some 2) (r 34)), i0 (.store 2 (r 3) (r 35))]
def A_ref10_Tree_Above_8 : Row := [i 36 (.mv (r 5)), i 37 (.load (some 2) (r 3)), i 38 (.buildSlice 1 [.int (.i64) 0, .int (.i64) 0] [(0, 2, .tmp 37)]), i 39 (.append 2 16 (r
  36) (r 38)), i 5 (.mv (r 39))]
def A_ref10_Tree_Above_9 : Row := [i 16 (.mv (r 6)), i 17 (.bin (.add) (r 16) (.const (.int (.i64) 1))), i 6 (.mv (r 17))]
def A_ref10_Tree_Above_10 : ACode := (.seq (.seq (.ops A_ref10_Tree_Above_3) (.cond (r 15) .skip (.exit 0))) (.seq (.block 1 (.seq (.ops A_ref10_Tree_Above_4) (.seq (.seq
  (.ops A_ref10_Tree_Above_5) (.cond (r 25) (.seq (.ops A_ref10_Tree_Above_6) .ret) .skip)) (.seq (.ops A_ref10_Tree_Above_7) (.ops A_ref10_Tree_Above_8))))) (.ops
  A_ref10_Tree_Above_9)))
def A_ref10_Tree_Above_11 : Row := [i 40 (.mv (r 5)), i 4 (.mv (r 40))]
/-- (*diorama/dioramaref10.Tree).Above -/
def A_ref10_Tree_Above : AFunc :=
 ⟨41, [.tmp 4], (.seq (.ops A_ref10_Tree_Above_0) (.seq (.ops A_ref10_Tree_Above_1) (.seq (.seq (.ops A_ref10_Tree_Above_2) (.block 0 (.loop A_ref10_Tree_Above_10))) (.seq
  (.ops A_ref10_Tree_Above_11) .ret))))⟩
/-! (*diorama/dioramaref13.State).Reaches -/
/-! diorama/dioramaref10.Same -/
/-! diorama/order.Sort$1 -/
def A_order_Sort_c1_0 : Row := [i 2 (.box (r 0)), i 3 (.box (r 1)), i 4 (.mv (.const (.int (.i64) 0)))]
def A_order_Sort_c1_1 : Row := [i 6 (.load (some 3) (r 2)), i 7 (.load (some 3) (r 3)), i 8 (.eq false ⟨true, [.str, .int (.i64), .int (.i64)]⟩ (r 6) (r 7)), i 5 (.mv (r 8))]
def A_order_Sort_c1_2 : Row := [i 4 (.mv (.const (.int (.i64) 0)))]
def A_order_Sort_c1_3 : Row := [i 10 (.load (some 3) (r 2)), i 11 (.load (some 3) (r 3)), i 12 (.call (.func F_order_Before) [.tmp 10, .tmp 11]), i 9 (.mv (r 12))]
def A_order_Sort_c1_4 : Row := [i 4 (.mv (.const (.int (.i64) (-1))))]
def A_order_Sort_c1_5 : Row := [i 4 (.mv (.const (.int (.i64) 1)))]
/-- diorama/order.Sort$1 -/
def A_order_Sort_c1 : AFunc :=
 ⟨13, [.tmp 4], (.seq (.ops A_order_Sort_c1_0) (.seq (.block 0 (.seq (.ops A_order_Sort_c1_1) (.cond (r 5) (.seq (.ops A_order_Sort_c1_2) .ret) (.seq (.ops
  A_order_Sort_c1_3) (.cond (r 9) (.seq (.ops A_order_Sort_c1_4) .ret) .skip))))) (.seq (.ops A_order_Sort_c1_5) .ret)))⟩
/-! diorama/order.Before -/
def A_order_Before_0 : Row := [i 2 (.box (r 0)), i 3 (.box (r 1)), i 4 (.mv (.const (.bool false)))]
def A_order_Before_1 : Row := [i 5 (.fieldAddr 0 (r 2)), i 6 (.load none (r 5)), i 7 (.fieldAddr 0 (r 3)), i 8 (.load none (r 7)), i 9 (.bin (.eql) (r 6) (r 8))]
def A_order_Before_2 : Row := [i 10 (.load (some 3) (r 2)), i 11 (.load (some 3) (r 3)), i 12 (.eq true ⟨true, [.str, .int (.i64), .int (.i64)]⟩ (r 10) (r 11)), i 13 (.mv (r
  12)), g 14 (.fieldAddr 1 (r 2)) 13 true, g 15 (.load (some 2) (r 14)) 13 true, g 16 (.fieldAddr 1 (r 3)) 13 true, g 17 (.load (some 2) (r 16)) 13 true, g 18 (.call
  (.func F_stamp_Compare) [.tmp 15, .tmp 17]) 13 true, g 19 (.bin (.lss) (r 18) (.const (.int (.i64) 0))) 13 true, i 20 (.pick (r 13) (r 19) (.const (.bool false))), i 4
  (.mv (r 20))]
def A_order_Before_3 : Row := [i 21 (.fieldAddr 0 (r 2)), i 22 (.load none (r 21)), i 23 (.fieldAddr 0 (r 3)), i 24 (.load none (r 23)), i 25 (.call (.func F_poskey_Compare)
  [.tmp 22, .tmp 24]), i 26 (.bin (.lss) (r 25) (.const (.int (.i64) 0))), i 4 (.mv (r 26))]
/-- diorama/order.Before -/
def A_order_Before : AFunc :=
 ⟨27, [.tmp 4], (.seq (.ops A_order_Before_0) (.seq (.seq (.ops A_order_Before_1) (.cond (r 9) (.seq (.ops A_order_Before_2) .ret) .skip)) (.seq (.ops A_order_Before_3)
  .ret)))⟩
/-! slices.Values[[]diorama/order.Sib,diorama/order.Sib] -/
def A_slices_Values_Sib_0 : Row := [i 1 (.box (r 0)), i 2 (.mv (.const (.nilFn)))]
def A_slices_Values_Sib_1 : Row := [i 3 (.makeFunc F_slices_Values_Sib_c1 [] [.tmp 1]), i 2 (.mv (r 3))]
/-- slices.Values[[]diorama/order.Sib,diorama/order.Sib] -/
def A_slices_Values_Sib : AFunc :=
 ⟨4, [.tmp 2], (.seq (.ops A_slices_Values_Sib_0) (.seq (.ops A_slices_Values_Sib_1) .ret))⟩
/-! diorama/order.gap -/
def A_order_gap_0 : Row := [i 6 (.mv (.const (.int (.i64) 0)))]
def A_order_gap_1 : Row := [i 10 (.mv (r 0)), i 11 (.lenSlice (r 10)), i 12 (.mv (.const (.int (.i64) 0)))]
def A_order_gap_2 : Row := [i 13 (.bin (.lss) (r 12) (r 11))]
def A_order_gap_3 : Row := [i 14 (.mv (r 12)), i 7 (.mv (r 14))]
def A_order_gap_4 : Row := [i 15 (.mv (r 7)), i 16 (.bin (.gtr) (r 15) (.const (.int (.i64) 0))), i 17 (.mv (r 16)), g 18 (.mv (r 0)) 17 true, g 19 (.mv (r 7)) 17 true, g 20
  (.bin (.sub) (r 19) (.const (.int (.i64) 1))) 17 true, g 21 (.indexAddr 3 (r 18) (r 20)) 17 true, g 22 (.load (some 3) (r 21)) 17 true, g 23 (.mv (r 0)) 17 true, g 24
  (.mv (r 7)) 17 true, g 25 (.indexAddr 3 (r 23) (r 24)) 17 true, g 26 (.load (some 3) (r 25)) 17 true, g 27 (.call (.func F_order_Before) [.tmp 22, .tmp 26]) 17 true, g
  28 (.un (.not) (r 27)) 17 true, i 29 (.pick (r 17) (r 28) (.const (.bool false)))]
def A_order_gap_5 : Row := [i 6 (.mv (.const (.int (.i64) 1)))]
def A_order_gap_6 : Row := [i 30 (.bin (.add) (r 12) (.const (.int (.i64) 1))), i 12 (.mv (r 30))]
def A_order_gap_7 : ACode := (.seq (.ops A_order_gap_2) (.seq (.cond (r 13) .skip (.exit 0)) (.seq (.block 1 (.seq (.ops A_order_gap_3) (.seq (.ops A_order_gap_4) (.cond (r
  29) (.seq (.ops A_order_gap_5) .ret) .skip)))) (.ops A_order_gap_6))))
def A_order_gap_8 : Row := [i 31 (.mv (r 1)), i 32 (.bin (.lss) (r 31) (.const (.int (.i64) 0))), i 33 (.mv (r 32)), g 34 (.mv (r 1)) 33 false, g 35 (.mv (r 0)) 33 false, g 36
  (.lenSlice (r 35)) 33 false, g 37 (.bin (.gtr) (r 34) (r 36)) 33 false, i 38 (.pick (r 33) (.const (.bool true)) (r 37))]
def A_order_gap_9 : Row := [i 6 (.mv (.const (.int (.i64) 1)))]
def A_order_gap_10 : Row := [i 8 (.mv (.const (.str []))), i 9 (.mv (.const (.str [])))]
def A_order_gap_11 : Row := [i 39 (.mv (r 1)), i 40 (.bin (.gtr) (r 39) (.const (.int (.i64) 0)))]
def A_order_gap_12 : Row := [i 41 (.mv (r 0)), i 42 (.mv (r 1)), i 43 (.bin (.sub) (r 42) (.const (.int (.i64) 1))), i 44 (.indexAddr 3 (r 41) (r 43)), i 45 (.fieldAddr 0 (r
  44)), i 46 (.load none (r 45)), i 8 (.mv (r 46))]
def A_order_gap_13 : Row := [i 47 (.mv (r 1)), i 48 (.mv (r 0)), i 49 (.lenSlice (r 48)), i 50 (.bin (.lss) (r 47) (r 49))]
def A_order_gap_14 : Row := [i 51 (.mv (r 0)), i 52 (.mv (r 1)), i 53 (.indexAddr 3 (r 51) (r 52)), i 54 (.fieldAddr 0 (r 53)), i 55 (.load none (r 54)), i 9 (.mv (r 55))]
def A_order_gap_15 : Row := [i 56 (.mv (r 1)), i 57 (.bin (.gtr) (r 56) (.const (.int (.i64) 0))), i 58 (.mv (r 57)), g 59 (.mv (r 1)) 58 true, g 60 (.mv (r 0)) 58 true, g 61
  (.lenSlice (r 60)) 58 true, g 62 (.bin (.lss) (r 59) (r 61)) 58 true, i 63 (.pick (r 58) (r 62) (.const (.bool false))), i 64 (.mv (r 63)), g 65 (.mv (r 8)) 64 true, g
  66 (.mv (r 9)) 64 true, g 67 (.bin (.eql) (r 65) (r 66)) 64 true, i 68 (.pick (r 64) (r 67) (.const (.bool false)))]
def A_order_gap_16 : Row := [i 6 (.mv (.const (.int (.i64) 32)))]
def A_order_gap_17 : Row := [i 69 (.mv (r 2)), i 70 (.mv (r 8)), i 71 (.mv (r 9)), i 72 (.call (r 69) [.tmp 70, .tmp 71]), i 6 (.mv (r 72))]
/-- diorama/order.gap -/
def A_order_gap : AFunc :=
 ⟨73, [.tmp 6], (.seq (.ops A_order_gap_0) (.seq (.seq (.ops A_order_gap_1) (.block 0 (.loop A_order_gap_7))) (.seq (.seq (.ops A_order_gap_8) (.cond (r 38) (.seq (.ops
  A_order_gap_9) .ret) .skip)) (.seq (.ops A_order_gap_10) (.seq (.seq (.ops A_order_gap_11) (.cond (r 40) (.ops A_order_gap_12) .skip)) (.seq (.seq (.ops A_order_gap_13)
  (.cond (r 50) (.ops A_order_gap_14) .skip)) (.seq (.seq (.ops A_order_gap_15) (.cond (r 68) (.seq (.ops A_order_gap_16) .ret) .skip)) (.seq (.ops A_order_gap_17)
  .ret))))))))⟩
/-! diorama/order.Key$1 -/
def A_order_Key_c1_0 : Row := [i 5 (.mv (.const (.int (.i64) 0)))]
def A_order_Key_c1_1 : Row := [i 7 (.mv (r 0)), i 8 (.mv (r 1)), i 9 (.call (.func F_poskey_Between) [.tmp 7, .tmp 8]), i 6 (.mv (r 9)), i 10 (.extract (r 6) 0), i 11
  (.extract (r 6) 1), i0 (.store 1 (r 2) (r 10)), i 5 (.mv (r 11))]
def A_order_Key_c1_2 : Row := [i 12 (.mv (r 5)), i 5 (.mv (r 12))]
/-- diorama/order.Key$1 -/
def A_order_Key_c1 : AFunc :=
 ⟨13, [.tmp 5], (.seq (.ops A_order_Key_c1_0) (.seq (.ops A_order_Key_c1_1) (.seq (.ops A_order_Key_c1_2) .ret)))⟩
/-! diorama/poskey.Between -/
def A_poskey_Between_0 : Row := [i 4 (.mv (.const (.str []))), i 5 (.mv (.const (.int (.i64) 0)))]
def A_poskey_Between_1 : Row := [i 11 (.mv (r 0)), i 12 (.mv (r 1)), i 13 (.call (.func F_poskey_fine) [.tmp 11, .tmp 12]), i 14 (.un (.not) (r 13))]
def A_poskey_Between_2 : Row := [i 4 (.mv (.const (.str []))), i 5 (.mv (.const (.int (.i64) 1)))]
def A_poskey_Between_3 : Row := [i 6 (.mv (.const (.int (.i64) 1)))]
def A_poskey_Between_4 : Row := [i 15 (.mv (r 6)), i 16 (.bin (.leq) (r 15) (.const (.int (.i64) 24)))]
def A_poskey_Between_5 : Row := [i 20 (.mv (r 0)), i 21 (.mv (r 6)), i 22 (.call (.func F_poskey_above) [.tmp 20, .tmp 21]), i 19 (.mv (r 22)), i 23 (.extract (r 19) 0), i 24
  (.extract (r 19) 1), i 7 (.mv (r 23)), i 8 (.mv (r 24))]
def A_poskey_Between_6 : Row := [i 25 (.mv (r 8)), i 26 (.un (.not) (r 25))]
def A_poskey_Between_7 : Row := [i 27 (.mv (r 7)), i 28 (.mv (r 6)), i 29 (.bin (.sub) (r 28) (.const (.int (.i64) 1))), i 30 (.indexAddr 1 (r 27) (r 29)), i 31 (.load none (r
  30)), i 32 (.convInt (.i64) (r 31)), i 33 (.max [.tmp 32, .const (.int (.i64) 1)]), i 34 (.mv (r 7)), i 35 (.mv (r 1)), ⟨a 36 (.call (.func F_poskey_greatest) [.tmp 34,
  .tmp 35]), [a 31 (.load none (r 30))]⟩, i 9 (.mv (r 33)), i 10 (.mv (r 36))]
def A_poskey_Between_8 : Row := [i 37 (.mv (r 10)), i 38 (.mv (r 9)), i 39 (.bin (.lss) (r 37) (r 38))]
def A_poskey_Between_9 : Row := [i 40 (.mv (r 7)), i 41 (.mv (r 6)), i 42 (.bin (.sub) (r 41) (.const (.int (.i64) 1))), i 43 (.mv (r 9)), i 44 (.mv (r 10)), i 45 (.bin (.add)
  (r 43) (r 44)), i 46 (.bin (.quo) (r 45) (.const (.int (.i64) 2))), i 47 (.convInt (.u8) (r 46)), i 48 (.indexAddr 1 (r 40) (r 42)), i0 (.store 1 (r 48) (r 47))]
def A_poskey_Between_10 : Row := [i 49 (.mv (r 7)), i 50 (.bytesStr (r 49)), i 4 (.mv (r 50)), i 5 (.mv (.const (.int (.i64) 0)))]
def A_poskey_Between_11 : Row := [i 17 (.mv (r 6)), i 18 (.bin (.add) (r 17) (.const (.int (.i64) 1))), i 6 (.mv (r 18))]
def A_poskey_Between_12 : ACode := (.seq (.seq (.ops A_poskey_Between_4) (.cond (r 16) .skip (.exit 0))) (.seq (.block 1 (.seq (.ops A_poskey_Between_5) (.seq (.seq (.ops
  A_poskey_Between_6) (.cond (r 26) (.exit 1) .skip)) (.seq (.ops A_poskey_Between_7) (.seq (.seq (.ops A_poskey_Between_8) (.cond (r 39) (.exit 1) .skip)) (.seq (.ops
  A_poskey_Between_9) (.seq (.ops A_poskey_Between_10) .ret))))))) (.ops A_poskey_Between_11)))
def A_poskey_Between_13 : Row := [i 4 (.mv (.const (.str []))), i 5 (.mv (.const (.int (.i64) 32)))]
/-- diorama/poskey.Between -/
def A_poskey_Between : AFunc :=
 ⟨51, [.tmp 4, .tmp 5], (.seq (.ops A_poskey_Between_0) (.scope (.seq (.seq (.ops A_poskey_Between_1) (.cond (r 14) (.seq (.ops A_poskey_Between_2) .ret) .skip)) (.seq
  .skip (.seq (.seq (.ops A_poskey_Between_3) (.block 0 (.loop A_poskey_Between_12))) (.seq (.ops A_poskey_Between_13) .ret))))))⟩
/-! slices.IndexFunc[[]diorama/order.Sib,diorama/order.Sib] -/
def A_slices_IndexFunc_Sib_0 : Row := [i 4 (.mv (.const (.int (.i64) 0)))]
def A_slices_IndexFunc_Sib_1 : Row := [i 6 (.mv (r 0)), i 7 (.lenSlice (r 6)), i 8 (.mv (.const (.int (.i64) 0)))]
def A_slices_IndexFunc_Sib_2 : Row := [i 9 (.bin (.lss) (r 8) (r 7))]
def A_slices_IndexFunc_Sib_3 : Row := [i 10 (.mv (r 8)), i 5 (.mv (r 10))]
def A_slices_IndexFunc_Sib_4 : Row := [i 11 (.mv (r 1)), i 12 (.mv (r 0)), i 13 (.mv (r 5)), i 14 (.indexAddr 3 (r 12) (r 13)), i 15 (.load (some 3) (r 14)), i 16 (.call (r
  11) [.tmp 15])]
def A_slices_IndexFunc_Sib_5 : Row := [i 17 (.mv (r 5)), i 4 (.mv (r 17))]
def A_slices_IndexFunc_Sib_6 : Row := [i 18 (.bin (.add) (r 8) (.const (.int (.i64) 1))), i 8 (.mv (r 18))]
def A_slices_IndexFunc_Sib_7 : ACode := (.seq (.ops A_slices_IndexFunc_Sib_2) (.seq (.cond (r 9) .skip (.exit 0)) (.seq (.block 1 (.seq (.ops A_slices_IndexFunc_Sib_3) (.seq
  (.ops A_slices_IndexFunc_Sib_4) (.cond (r 16) (.seq (.ops A_slices_IndexFunc_Sib_5) .ret) .skip)))) (.ops A_slices_IndexFunc_Sib_6))))
def A_slices_IndexFunc_Sib_8 : Row := [i 4 (.mv (.const (.int (.i64) (-1))))]
/-- slices.IndexFunc[[]diorama/order.Sib,diorama/order.Sib] -/
def A_slices_IndexFunc_Sib : AFunc :=
 ⟨19, [.tmp 4], (.seq (.ops A_slices_IndexFunc_Sib_0) (.seq (.seq (.ops A_slices_IndexFunc_Sib_1) (.block 0 (.loop A_slices_IndexFunc_Sib_7))) (.seq (.ops
  A_slices_IndexFunc_Sib_8) .ret)))⟩
/-! diorama/order.Find$1 -/
def A_order_Find_c1_0 : Row := [i 2 (.box (r 0)), i 3 (.mv (.const (.bool false)))]
def A_order_Find_c1_1 : Row := [i 4 (.fieldAddr 1 (r 2)), i 5 (.load (some 2) (r 4)), i 6 (.load (some 2) (r 1)), i 7 (.eq false ⟨true, [.int (.i64), .int (.i64)]⟩ (r 5) (r
  6)), i 3 (.mv (r 7))]
/-- diorama/order.Find$1 -/
def A_order_Find_c1 : AFunc :=
 ⟨8, [.tmp 3], (.seq (.ops A_order_Find_c1_0) (.seq (.ops A_order_Find_c1_1) .ret))⟩
/-! diorama/stamp.Right -/
def A_stamp_Right_0 : Row := [i 1 (.box (r 0)), i 2 (.mv (.const (.bool false)))]
def A_stamp_Right_1 : Row := [i 3 (.fieldAddr 0 (r 1)), i 4 (.load none (r 3)), i 5 (.bin (.geq) (r 4) (.const (.int (.i64) 0))), i 6 (.mv (r 5)), g 7 (.fieldAddr 0 (r 1)) 6
  true, g 8 (.load none (r 7)) 6 true, g 9 (.bin (.leq) (r 8) (.const (.int (.i64) 1099511627776))) 6 true, i 10 (.pick (r 6) (r 9) (.const (.bool false))), i 11 (.mv (r
  10)), g 12 (.fieldAddr 1 (r 1)) 11 true, g 13 (.load none (r 12)) 11 true, g 14 (.bin (.geq) (r 13) (.const (.int (.i64) 0))) 11 true, i 15 (.pick (r 11) (r 14) (.const
  (.bool false))), i 16 (.mv (r 15)), g 17 (.fieldAddr 1 (r 1)) 16 true, g 18 (.load none (r 17)) 16 true, g 19 (.bin (.lss) (r 18) (.const (.int (.i64) 16))) 16 true, i
  20 (.pick (r 16) (r 19) (.const (.bool false))), i 2 (.mv (r 20))]
/-- diorama/stamp.Right -/
def A_stamp_Right : AFunc :=
 ⟨21, [.tmp 2], (.seq (.ops A_stamp_Right_0) (.seq (.ops A_stamp_Right_1) .ret))⟩
/-! diorama/op.Place -/
def A_op_Place_0 : Row := [i 1 (.box (r 0)), i 2 (.mv (.const (.bool false)))]
def A_op_Place_1 : Row := [i 3 (.load (some 2) (r 1)), i 4 (.call (.func F_op_Node) [.tmp 3]), i 5 (.mv (r 4)), g 6 (.load (some 2) (r 1)) 5 false, g 7 (.load (some 2) (.const
  (.ptr (some (0, 0))))) 5 false, g 8 (.eq false ⟨true, [.int (.i64), .int (.i64)]⟩ (r 6) (r 7)) 5 false, i 9 (.pick (r 5) (.const (.bool true)) (r 8)), i 10 (.mv (r 9)),
  g 11 (.load (some 2) (r 1)) 10 false, g 12 (.load (some 2) (.const (.ptr (some (1, 0))))) 10 false, g 13 (.eq false ⟨true, [.int (.i64), .int (.i64)]⟩ (r 11) (r 12)) 10
  false, i 14 (.pick (r 10) (.const (.bool true)) (r 13)), i 2 (.mv (r 14))]
/-- diorama/op.Place -/
def A_op_Place : AFunc :=
 ⟨15, [.tmp 2], (.seq (.ops A_op_Place_0) (.seq (.ops A_op_Place_1) .ret))⟩
/-! diorama/poskey.Right -/
def A_poskey_Right_0 : Row := [i 2 (.mv (.const (.bool false)))]
def A_poskey_Right_1 : Row := [i 3 (.mv (r 0)), i 4 (.bin (.neq) (r 3) (.const (.str []))), i 5 (.mv (r 4)), g 6 (.mv (r 0)) 5 true, g 7 (.lenStr (r 6)) 5 true, g 8 (.bin
  (.leq) (r 7) (.const (.int (.i64) 24))) 5 true, i 9 (.pick (r 5) (r 8) (.const (.bool false))), i 10 (.mv (r 9)), g 11 (.mv (r 0)) 10 true, g 12 (.mv (r 0)) 10 true, g
  13 (.lenStr (r 12)) 10 true, g 14 (.bin (.sub) (r 13) (.const (.int (.i64) 1))) 10 true, g 15 (.indexStr (r 11) (r 14)) 10 true, g 16 (.bin (.neq) (r 15) (.const (.int
  (.u8) 0))) 10 true, i 17 (.pick (r 10) (r 16) (.const (.bool false))), i 2 (.mv (r 17))]
/-- diorama/poskey.Right -/
def A_poskey_Right : AFunc :=
 ⟨18, [.tmp 2], (.seq (.ops A_poskey_Right_0) (.seq (.ops A_poskey_Right_1) .ret))⟩
/-! diorama/dioramaref02.Right -/
def A_ref02_Right_0 : Row := [i 1 (.box (r 0)), i 2 (.mv (.const (.bool false)))]
def A_ref02_Right_1 : Row := [i 3 (.fieldAddr 0 (r 1)), i 4 (.load none (r 3)), i 5 (.bin (.geq) (r 4) (.const (.int (.i64) 0))), i 6 (.mv (r 5)), g 7 (.fieldAddr 0 (r 1)) 6
  true, g 8 (.load none (r 7)) 6 true, g 9 (.bin (.leq) (r 8) (.const (.int (.i64) 1099511627776))) 6 true, i 10 (.pick (r 6) (r 9) (.const (.bool false))), i 11 (.mv (r
  10)), g 12 (.fieldAddr 1 (r 1)) 11 true, g 13 (.load none (r 12)) 11 true, g 14 (.bin (.geq) (r 13) (.const (.int (.i64) 0))) 11 true, i 15 (.pick (r 11) (r 14) (.const
  (.bool false))), i 16 (.mv (r 15)), g 17 (.fieldAddr 1 (r 1)) 16 true, g 18 (.load none (r 17)) 16 true, g 19 (.bin (.lss) (r 18) (.const (.int (.i64) 16))) 16 true, i
  20 (.pick (r 16) (r 19) (.const (.bool false))), i 2 (.mv (r 20))]
/-- diorama/dioramaref02.Right -/
def A_ref02_Right : AFunc :=
 ⟨21, [.tmp 2], (.seq (.ops A_ref02_Right_0) (.seq (.ops A_ref02_Right_1) .ret))⟩
/-! diorama/dioramaref07.Place -/
def A_ref07_Place_0 : Row := [i 1 (.box (r 0)), i 2 (.mv (.const (.bool false)))]
def A_ref07_Place_1 : Row := [i 3 (.load (some 2) (r 1)), i 4 (.call (.func F_ref07_Node) [.tmp 3]), i 5 (.mv (r 4)), g 6 (.load (some 2) (r 1)) 5 false, ⟨⟨(some 7), .call
  (.func F_ref07_Root) [], (some (5, false))⟩, [⟨(some 6), .load (some 2) (r 1), (some (5, false))⟩]⟩, g 8 (.eq false ⟨true, [.int (.i64), .int (.i64)]⟩ (r 6) (r 7)) 5
  false, i 9 (.pick (r 5) (.const (.bool true)) (r 8)), i 10 (.mv (r 9)), g 11 (.load (some 2) (r 1)) 10 false, ⟨⟨(some 12), .call (.func F_ref07_Trash) [], (some (10,
  false))⟩, [⟨(some 11), .load (some 2) (r 1), (some (10, false))⟩]⟩, g 13 (.eq false ⟨true, [.int (.i64), .int (.i64)]⟩ (r 11) (r 12)) 10 false, i 14 (.pick (r 10)
  (.const (.bool true)) (r 13)), i 2 (.mv (r 14))]
/-- diorama/dioramaref07.Place -/
def A_ref07_Place : AFunc :=
 ⟨15, [.tmp 2], (.seq (.ops A_ref07_Place_0) (.seq (.ops A_ref07_Place_1) .ret))⟩
/-! diorama/dioramaref04.Right -/
def A_ref04_Right_0 : Row := [i 2 (.mv (.const (.bool false)))]
def A_ref04_Right_1 : Row := [i 3 (.mv (r 0)), i 4 (.lenStr (r 3)), i 5 (.bin (.geq) (r 4) (.const (.int (.i64) 1))), i 6 (.mv (r 5)), g 7 (.mv (r 0)) 6 true, g 8 (.lenStr (r
  7)) 6 true, g 9 (.bin (.leq) (r 8) (.const (.int (.i64) 24))) 6 true, i 10 (.pick (r 6) (r 9) (.const (.bool false))), i 11 (.mv (r 10)), g 12 (.mv (r 0)) 11 true, g 13
  (.mv (r 0)) 11 true, g 14 (.lenStr (r 13)) 11 true, g 15 (.bin (.sub) (r 14) (.const (.int (.i64) 1))) 11 true, g 16 (.indexStr (r 12) (r 15)) 11 true, g 17 (.bin (.neq)
  (r 16) (.const (.int (.u8) 0))) 11 true, i 18 (.pick (r 11) (r 17) (.const (.bool false))), i 2 (.mv (r 18))]
/-- diorama/dioramaref04.Right -/
def A_ref04_Right : AFunc :=
 ⟨19, [.tmp 2], (.seq (.ops A_ref04_Right_0) (.seq (.ops A_ref04_Right_1) .ret))⟩
/-! diorama/dioramaref07.Root -/
def A_ref07_Root_0 : Row := [i 0 (.alloc [.int (.i64) 0, .int (.i64) 0])]
def A_ref07_Root_1 : Row := [i 1 (.build [.int (.i64) 0, .int (.i64) 0] []), i0 (.store 2 (r 0) (r 1))]
/-- diorama/dioramaref07.Root -/
def A_ref07_Root : AFunc :=
 ⟨2, [.cell 0 (some 2)], (.seq (.ops A_ref07_Root_0) (.seq (.ops A_ref07_Root_1) .ret))⟩
/-! (*diorama/tree.Tree).up -/
def A_tree_Tree_up_0 : Row := [i 2 (.box (r 0)), i 3 (.box (r 1)), i 4 (.mv (.const (.nilFn)))]
def A_tree_Tree_up_1 : Row := [i 5 (.makeFunc F_tree_Tree_up_c1 [] [.tmp 2, .tmp 3]), i 4 (.mv (r 5))]
/-- (*diorama/tree.Tree).up -/
def A_tree_Tree_up : AFunc :=
 ⟨6, [.tmp 4], (.seq (.ops A_tree_Tree_up_0) (.seq (.ops A_tree_Tree_up_1) .ret))⟩
/-! diorama/dioramaref11.Before -/
def A_ref11_Before_0 : Row := [i 2 (.box (r 0)), i 3 (.box (r 1)), i 4 (.mv (.const (.bool false)))]
def A_ref11_Before_1 : Row := [i 6 (.fieldAddr 0 (r 2)), i 7 (.load none (r 6)), i 8 (.fieldAddr 0 (r 3)), i 9 (.load none (r 8)), i 10 (.call (.func F_ref04_Compare) [.tmp 7,
  .tmp 9]), i 5 (.mv (r 10))]
def A_ref11_Before_2 : Row := [i 11 (.mv (r 5)), i 12 (.bin (.lss) (r 11) (.const (.int (.i64) 0))), i 13 (.mv (r 12)), g 14 (.mv (r 5)) 13 false, g 15 (.bin (.eql) (r 14)
  (.const (.int (.i64) 0))) 13 false, g 16 (.mv (r 15)) 13 false, g 17 (.fieldAddr 1 (r 2)) 16 true, g 18 (.load (some 2) (r 17)) 16 true, g 19 (.fieldAddr 1 (r 3)) 16
  true, g 20 (.load (some 2) (r 19)) 16 true, g 21 (.call (.func F_ref02_Compare) [.tmp 18, .tmp 20]) 16 true, g 22 (.bin (.lss) (r 21) (.const (.int (.i64) 0))) 16 true,
  g 23 (.pick (r 16) (r 22) (.const (.bool false))) 13 false, i 24 (.pick (r 13) (.const (.bool true)) (r 23)), i 4 (.mv (r 24))]
/-- diorama/dioramaref11.Before -/
def A_ref11_Before : AFunc :=
 ⟨25, [.tmp 4], (.seq (.ops A_ref11_Before_0) (.seq (.ops A_ref11_Before_1) (.seq (.ops A_ref11_Before_2) .ret)))⟩
/-! diorama/op.parts -/
/-! diorama/op.Right$1 -/
/-! slices.ContainsFunc[[]diorama/api.Stamp,diorama/api.Stamp] -/
/-! diorama/op.Right$2 -/
/-! diorama/value.Right8 -/
/-! slices.BinarySearchFunc[[]diorama/graph.entry,diorama/graph.entry,diorama/api.Stamp] -/
/-! (*diorama/graph.Graph).place$1 -/
/-! diorama/stamp.Compare -/
def A_stamp_Compare_0 : Row := [i 2 (.box (r 0)), i 3 (.box (r 1)), i 4 (.mv (.const (.int (.i64) 0)))]
def A_stamp_Compare_1 : Row := [i 6 (.load (some 2) (r 2)), i 7 (.load (some 2) (r 3)), i 8 (.eq false ⟨true, [.int (.i64), .int (.i64)]⟩ (r 6) (r 7)), i 5 (.mv (r 8))]
def A_stamp_Compare_2 : Row := [i 4 (.mv (.const (.int (.i64) 0)))]
def A_stamp_Compare_3 : Row := [i 10 (.fieldAddr 0 (r 2)), i 11 (.load none (r 10)), i 12 (.fieldAddr 0 (r 3)), i 13 (.load none (r 12)), i 14 (.bin (.lss) (r 11) (r 13)), i
  15 (.mv (r 14)), g 16 (.fieldAddr 0 (r 2)) 15 false, g 17 (.load none (r 16)) 15 false, g 18 (.fieldAddr 0 (r 3)) 15 false, g 19 (.load none (r 18)) 15 false, g 20 (.bin
  (.eql) (r 17) (r 19)) 15 false, g 21 (.mv (r 20)) 15 false, g 22 (.fieldAddr 1 (r 2)) 21 true, g 23 (.load none (r 22)) 21 true, g 24 (.fieldAddr 1 (r 3)) 21 true, g 25
  (.load none (r 24)) 21 true, g 26 (.bin (.lss) (r 23) (r 25)) 21 true, g 27 (.pick (r 21) (r 26) (.const (.bool false))) 15 false, i 28 (.pick (r 15) (.const (.bool
  true)) (r 27)), i 9 (.mv (r 28))]
def A_stamp_Compare_4 : Row := [i 4 (.mv (.const (.int (.i64) (-1))))]
def A_stamp_Compare_5 : Row := [i 4 (.mv (.const (.int (.i64) 1)))]
/-- diorama/stamp.Compare -/
def A_stamp_Compare : AFunc :=
 ⟨29, [.tmp 4], (.seq (.ops A_stamp_Compare_0) (.seq (.block 0 (.seq (.ops A_stamp_Compare_1) (.cond (r 5) (.seq (.ops A_stamp_Compare_2) .ret) (.seq (.ops
  A_stamp_Compare_3) (.cond (r 9) (.seq (.ops A_stamp_Compare_4) .ret) .skip))))) (.seq (.ops A_stamp_Compare_5) .ret)))⟩
/-! (*diorama/graph.entry).do$1 -/
/-! (*diorama/tree.Tree).Drop -/
/-! (*diorama/graph.entry).do$2 -/
/-! (*diorama/graph.Graph).ring -/
/-! (*diorama/graph.Graph).link -/
/-! maps.Keys[map[diorama/api.Stamp]diorama/tree.Spot,diorama/api.Stamp,diorama/tree.Spot] -/
def A_maps_Keys_Stamp_Spot_0 : Row := [i 1 (.box (r 0)), i 2 (.mv (.const (.nilFn)))]
def A_maps_Keys_Stamp_Spot_1 : Row := [i 3 (.makeFunc F_maps_Keys_Stamp_Spot_c1 [] [.tmp 1]), i 2 (.mv (r 3))]
/-- maps.Keys[map[diorama/api.Stamp]diorama/tree.Spot,diorama/api.Stamp,diorama/tree.Spot] -/
def A_maps_Keys_Stamp_Spot : AFunc :=
 ⟨4, [.tmp 2], (.seq (.ops A_maps_Keys_Stamp_Spot_0) (.seq (.ops A_maps_Keys_Stamp_Spot_1) .ret))⟩
/-! diorama/dioramaref07.Same -/
/-! diorama/dioramaref07.named -/
/-! diorama/dioramaref03.Right8 -/
/-! diorama/dioramaref07.path -/
/-! (*diorama/dioramaref10.Tree).Clone -/
/-! diorama/dioramaref13.without -/
/-! (*diorama/dioramaref13.State).next -/
/-! diorama/dioramaref13.met -/
/-! diorama/poskey.Compare -/
def A_poskey_Compare_0 : Row := [i 4 (.mv (.const (.int (.i64) 0)))]
def A_poskey_Compare_1 : Row := [i 5 (.mv (r 0)), i 6 (.mv (r 1)), i 7 (.call (.func F_strings_Compare) [.tmp 5, .tmp 6]), i 4 (.mv (r 7))]
/-- diorama/poskey.Compare -/
def A_poskey_Compare : AFunc :=
 ⟨8, [.tmp 4], (.seq (.ops A_poskey_Compare_0) (.seq (.ops A_poskey_Compare_1) .ret))⟩
/-! diorama/poskey.fine -/
def A_poskey_fine_0 : Row := [i 4 (.mv (.const (.bool false)))]
def A_poskey_fine_1 : Row := [i 5 (.mv (.func F_poskey_fine_c1))]
def A_poskey_fine_2 : Row := [i 6 (.mv (r 5)), i 7 (.mv (r 0)), i 8 (.call (r 6) [.tmp 7]), i 9 (.mv (r 8)), g 10 (.mv (r 5)) 9 true, g 11 (.mv (r 1)) 9 true, g 12 (.call (r
  10) [.tmp 11]) 9 true, i 13 (.pick (r 9) (r 12) (.const (.bool false))), i 14 (.mv (r 13)), g 15 (.mv (r 0)) 14 true, g 16 (.bin (.eql) (r 15) (.const (.str []))) 14
  true, g 17 (.mv (r 16)) 14 true, g 18 (.mv (r 1)) 17 false, g 19 (.bin (.eql) (r 18) (.const (.str []))) 17 false, g 20 (.pick (r 17) (.const (.bool true)) (r 19)) 14
  true, g 21 (.mv (r 20)) 14 true, g 22 (.mv (r 0)) 21 false, g 23 (.mv (r 1)) 21 false, g 24 (.bin (.lss) (r 22) (r 23)) 21 false, g 25 (.pick (r 21) (.const (.bool
  true)) (r 24)) 14 true, i 26 (.pick (r 14) (r 25) (.const (.bool false))), i 4 (.mv (r 26))]
/-- diorama/poskey.fine -/
def A_poskey_fine : AFunc :=
 ⟨27, [.tmp 4], (.seq (.ops A_poskey_fine_0) (.seq (.ops A_poskey_fine_1) (.seq (.ops A_poskey_fine_2) .ret)))⟩
/-! diorama/poskey.above -/
def A_poskey_above_0 : Row := [i 4 (.mv (.const (.slice none 0 (.exact 0)))), i 5 (.mv (.const (.bool false)))]
def A_poskey_above_1 : Row := [i 8 (.mv (r 1)), i 9 (.makeSlice 1 1 [.int (.u8) 0] (r 8) (r 8)), i 6 (.mv (r 9))]
def A_poskey_above_2 : Row := [i 10 (.mv (r 6)), i 11 (.mv (r 0)), i 12 (.copy 1 (r 10) (r 11))]
def A_poskey_above_3 : Row := [i 13 (.mv (r 1)), i 14 (.bin (.sub) (r 13) (.const (.int (.i64) 1))), i 7 (.mv (r 14))]
def A_poskey_above_4 : Row := [i 15 (.mv (r 7)), i 16 (.bin (.geq) (r 15) (.const (.int (.i64) 0)))]
def A_poskey_above_5 : Row := [i 19 (.mv (r 6)), i 20 (.mv (r 7)), i 21 (.indexAddr 1 (r 19) (r 20)), i 22 (.load none (r 21)), i 23 (.bin (.add) (r 22) (.const (.int (.u8)
  1))), i 24 (.indexAddr 1 (r 19) (r 20)), i0 (.store 1 (r 24) (r 23))]
def A_poskey_above_6 : Row := [i 25 (.mv (r 6)), i 26 (.mv (r 7)), i 27 (.indexAddr 1 (r 25) (r 26)), i 28 (.load none (r 27)), i 29 (.bin (.neq) (r 28) (.const (.int (.u8)
  0)))]
def A_poskey_above_7 : Row := [i 30 (.mv (r 6)), i 4 (.mv (r 30)), i 5 (.mv (.const (.bool true)))]
def A_poskey_above_8 : Row := [i 17 (.mv (r 7)), i 18 (.bin (.sub) (r 17) (.const (.int (.i64) 1))), i 7 (.mv (r 18))]
def A_poskey_above_9 : ACode := (.seq (.seq (.ops A_poskey_above_4) (.cond (r 16) .skip (.exit 0))) (.seq (.block 1 (.seq (.ops A_poskey_above_5) (.seq (.ops A_poskey_above_6)
  (.cond (r 29) (.seq (.ops A_poskey_above_7) .ret) .skip)))) (.ops A_poskey_above_8)))
def A_poskey_above_10 : Row := [i 4 (.mv (.const (.slice none 0 (.exact 0)))), i 5 (.mv (.const (.bool false)))]
/-- diorama/poskey.above -/
def A_poskey_above : AFunc :=
 ⟨31, [.tmp 4, .tmp 5], (.seq (.ops A_poskey_above_0) (.seq (.ops A_poskey_above_1) (.seq (.ops A_poskey_above_2) (.seq (.seq (.ops A_poskey_above_3) (.block 0 (.loop
  A_poskey_above_9))) (.seq (.ops A_poskey_above_10) .ret)))))⟩
/-! diorama/poskey.greatest -/
def A_poskey_greatest_0 : Row := [i 4 (.mv (.const (.int (.i64) 0)))]
def A_poskey_greatest_1 : Row := [i 9 (.mv (r 0)), i 10 (.lenSlice (r 9)), i 11 (.bin (.sub) (r 10) (.const (.int (.i64) 1))), i 5 (.mv (r 11))]
def A_poskey_greatest_2 : Row := [i 12 (.mv (r 0)), i 13 (.mv (r 5)), i 14 (.slice 1 (r 12) none (some (r 13)) none), i 15 (.lenSlice (r 14)), i 16 (.mv (.const (.int (.i64)
  0)))]
def A_poskey_greatest_3 : Row := [i 17 (.bin (.lss) (r 16) (r 15))]
def A_poskey_greatest_4 : Row := [i 18 (.mv (r 16)), i 19 (.indexAddr 1 (r 14) (r 16)), i 20 (.load none (r 19)), i 6 (.mv (r 18)), i 7 (.mv (r 20))]
def A_poskey_greatest_5 : Row := [i 21 (.mv (r 1)), i 22 (.mv (r 6)), i 23 (.call (.func F_poskey_digit) [.tmp 21, .tmp 22]), i 8 (.mv (r 23))]
def A_poskey_greatest_6 : Row := [i 25 (.mv (r 1)), i 26 (.bin (.eql) (r 25) (.const (.str []))), i 27 (.mv (r 26)), g 28 (.mv (r 7)) 27 false, g 29 (.convInt (.i64) (r 28))
  27 false, g 30 (.mv (r 8)) 27 false, g 31 (.bin (.lss) (r 29) (r 30)) 27 false, i 32 (.pick (r 27) (.const (.bool true)) (r 31)), i 24 (.mv (r 32))]
def A_poskey_greatest_7 : Row := [i 4 (.mv (.const (.int (.i64) 255)))]
def A_poskey_greatest_8 : Row := [i 34 (.mv (r 7)), i 35 (.convInt (.i64) (r 34)), i 36 (.mv (r 8)), i 37 (.bin (.gtr) (r 35) (r 36)), i 33 (.mv (r 37))]
def A_poskey_greatest_9 : Row := [i 4 (.mv (.const (.int (.i64) (-1))))]
def A_poskey_greatest_10 : Row := [i 38 (.bin (.add) (r 16) (.const (.int (.i64) 1))), i 16 (.mv (r 38))]
def A_poskey_greatest_11 : ACode := (.seq (.ops A_poskey_greatest_3) (.seq (.cond (r 17) .skip (.exit 0)) (.seq (.block 1 (.seq (.ops A_poskey_greatest_4) (.seq (.ops
  A_poskey_greatest_5) (.block 2 (.seq (.ops A_poskey_greatest_6) (.cond (r 24) (.seq (.ops A_poskey_greatest_7) .ret) (.seq (.ops A_poskey_greatest_8) (.cond (r 33) (.seq
  (.ops A_poskey_greatest_9) .ret) .skip)))))))) (.ops A_poskey_greatest_10))))
def A_poskey_greatest_12 : Row := [i 40 (.mv (r 1)), i 41 (.bin (.eql) (r 40) (.const (.str []))), i 39 (.mv (r 41))]
def A_poskey_greatest_13 : Row := [i 4 (.mv (.const (.int (.i64) 255)))]
def A_poskey_greatest_14 : Row := [i 43 (.mv (r 1)), i 44 (.lenStr (r 43)), i 45 (.mv (r 5)), i 46 (.bin (.add) (r 45) (.const (.int (.i64) 1))), i 47 (.bin (.gtr) (r 44) (r
  46)), i 42 (.mv (r 47))]
def A_poskey_greatest_15 : Row := [i 48 (.mv (r 1)), i 49 (.mv (r 5)), i 50 (.call (.func F_poskey_digit) [.tmp 48, .tmp 49]), i 4 (.mv (r 50))]
def A_poskey_greatest_16 : Row := [i 51 (.mv (r 1)), i 52 (.mv (r 5)), i 53 (.call (.func F_poskey_digit) [.tmp 51, .tmp 52]), i 54 (.bin (.sub) (r 53) (.const (.int (.i64)
  1))), i 4 (.mv (r 54))]
/-- diorama/poskey.greatest -/
def A_poskey_greatest : AFunc :=
 ⟨55, [.tmp 4], (.seq (.ops A_poskey_greatest_0) (.seq (.ops A_poskey_greatest_1) (.seq (.seq (.ops A_poskey_greatest_2) (.block 0 (.loop A_poskey_greatest_11))) (.seq
  (.block 3 (.seq (.ops A_poskey_greatest_12) (.cond (r 39) (.seq (.ops A_poskey_greatest_13) .ret) (.seq (.ops A_poskey_greatest_14) (.cond (r 42) (.seq (.ops
  A_poskey_greatest_15) .ret) .skip))))) (.seq (.ops A_poskey_greatest_16) .ret)))))⟩
/-! diorama/dioramaref04.Compare -/
def A_ref04_Compare_0 : Row := [i 4 (.mv (.const (.int (.i64) 0)))]
def A_ref04_Compare_1 : Row := [i 5 (.mv (.const (.int (.i64) 0)))]
def A_ref04_Compare_2 : Row := [i 6 (.mv (r 5)), i 7 (.mv (r 0)), i 8 (.lenStr (r 7)), i 9 (.bin (.lss) (r 6) (r 8)), i 10 (.mv (r 9)), g 11 (.mv (r 5)) 10 true, g 12 (.mv (r
  1)) 10 true, g 13 (.lenStr (r 12)) 10 true, g 14 (.bin (.lss) (r 11) (r 13)) 10 true, i 15 (.pick (r 10) (r 14) (.const (.bool false)))]
def A_ref04_Compare_3 : Row := [i 18 (.mv (r 0)), i 19 (.mv (r 5)), i 20 (.indexStr (r 18) (r 19)), i 21 (.mv (r 1)), i 22 (.mv (r 5)), i 23 (.indexStr (r 21) (r 22)), i 24
  (.bin (.lss) (r 20) (r 23))]
def A_ref04_Compare_4 : Row := [i 4 (.mv (.const (.int (.i64) (-1))))]
def A_ref04_Compare_5 : Row := [i 25 (.mv (r 0)), i 26 (.mv (r 5)), i 27 (.indexStr (r 25) (r 26)), i 28 (.mv (r 1)), i 29 (.mv (r 5)), i 30 (.indexStr (r 28) (r 29)), i 31
  (.bin (.gtr) (r 27) (r 30))]
def A_ref04_Compare_6 : Row := [i 4 (.mv (.const (.int (.i64) 1)))]
def A_ref04_Compare_7 : Row := [i 16 (.mv (r 5)), i 17 (.bin (.add) (r 16) (.const (.int (.i64) 1))), i 5 (.mv (r 17))]
def A_ref04_Compare_8 : ACode := (.seq (.seq (.ops A_ref04_Compare_2) (.cond (r 15) .skip (.exit 0))) (.seq (.block 1 (.seq (.seq (.ops A_ref04_Compare_3) (.cond (r 24) (.seq
  (.ops A_ref04_Compare_4) .ret) .skip)) (.seq (.ops A_ref04_Compare_5) (.cond (r 31) (.seq (.ops A_ref04_Compare_6) .ret) .skip)))) (.ops A_ref04_Compare_7)))
def A_ref04_Compare_9 : Row := [i 32 (.mv (r 0)), i 33 (.lenStr (r 32)), i 34 (.mv (r 1)), i 35 (.lenStr (r 34)), i 36 (.bin (.lss) (r 33) (r 35))]
def A_ref04_Compare_10 : Row := [i 4 (.mv (.const (.int (.i64) (-1))))]
def A_ref04_Compare_11 : Row := [i 37 (.mv (r 0)), i 38 (.lenStr (r 37)), i 39 (.mv (r 1)), i 40 (.lenStr (r 39)), i 41 (.bin (.gtr) (r 38) (r 40))]
def A_ref04_Compare_12 : Row := [i 4 (.mv (.const (.int (.i64) 1)))]
def A_ref04_Compare_13 : Row := [i 4 (.mv (.const (.int (.i64) 0)))]
/-- diorama/dioramaref04.Compare -/
def A_ref04_Compare : AFunc :=
 ⟨42, [.tmp 4], (.seq (.ops A_ref04_Compare_0) (.seq (.seq (.ops A_ref04_Compare_1) (.block 0 (.loop A_ref04_Compare_8))) (.seq (.seq (.ops A_ref04_Compare_9) (.cond (r 36)
  (.seq (.ops A_ref04_Compare_10) .ret) .skip)) (.seq (.seq (.ops A_ref04_Compare_11) (.cond (r 41) (.seq (.ops A_ref04_Compare_12) .ret) .skip)) (.seq (.ops
  A_ref04_Compare_13) .ret)))))⟩
/-! slices.IndexFunc[[]diorama/api.Stamp,diorama/api.Stamp] -/
/-! diorama/value.Right -/
/-! (*diorama/graph.Graph).link$1 -/
/-! diorama/dioramaref03.Right -/
/-! (*diorama/dioramaref10.Tree).Below -/
/-! diorama/poskey.fine$1 -/
def A_poskey_fine_c1_0 : Row := [i 2 (.mv (.const (.bool false)))]
def A_poskey_fine_c1_1 : Row := [i 3 (.mv (r 0)), i 4 (.bin (.eql) (r 3) (.const (.str []))), i 5 (.mv (r 4)), g 6 (.mv (r 0)) 5 false, g 7 (.call (.func F_poskey_Right) [.tmp
  6]) 5 false, i 8 (.pick (r 5) (.const (.bool true)) (r 7)), i 2 (.mv (r 8))]
/-- diorama/poskey.fine$1 -/
def A_poskey_fine_c1 : AFunc :=
 ⟨9, [.tmp 2], (.seq (.ops A_poskey_fine_c1_0) (.seq (.ops A_poskey_fine_c1_1) .ret))⟩
/-! diorama/poskey.digit -/
def A_poskey_digit_0 : Row := [i 4 (.mv (.const (.int (.i64) 0)))]
def A_poskey_digit_1 : Row := [i 5 (.mv (r 1)), i 6 (.mv (r 0)), i 7 (.lenStr (r 6)), i 8 (.bin (.lss) (r 5) (r 7))]
def A_poskey_digit_2 : Row := [i 9 (.mv (r 0)), i 10 (.mv (r 1)), i 11 (.indexStr (r 9) (r 10)), i 12 (.convInt (.i64) (r 11)), i 4 (.mv (r 12))]
def A_poskey_digit_3 : Row := [i 4 (.mv (.const (.int (.i64) 0)))]
/-- diorama/poskey.digit -/
def A_poskey_digit : AFunc :=
 ⟨13, [.tmp 4], (.seq (.ops A_poskey_digit_0) (.seq (.seq (.ops A_poskey_digit_1) (.cond (r 8) (.seq (.ops A_poskey_digit_2) .ret) .skip)) (.seq (.ops A_poskey_digit_3)
  .ret)))⟩
/-! diorama/value.good -/
/-! diorama/dioramaref03.good -/
/-! (*diorama/tree.Tree).Within -/
def X_tree_Tree_Within_0 : List XItem := [⟨(some 4), .a (.box (r 1)), none⟩, ⟨(some 5), .a (.box (r 2)), none⟩, ⟨(some 6), .a (.alloc [.bool false]), none⟩]
def X_tree_Tree_Within_1 : List XItem := [⟨(some 8), .a (.mv (r 0)), none⟩, ⟨(some 9), .a (.call (.func F_tree_Tree_none) [.tmp 8]), none⟩, ⟨(some 10), .a (.mv (r 9)), none⟩,
  ⟨(some 11), .a (.mv (r 0)), (some (10, false))⟩, ⟨(some 12), .a (.load (some 2) (r 5)), (some (10, false))⟩, ⟨(some 13), .a (.call (.func F_tree_Tree_node) [.tmp 11,
  .tmp 12]), (some (10, false))⟩, ⟨(some 14), .a (.un (.not) (r 13)), (some (10, false))⟩, ⟨(some 15), .a (.pick (r 10) (.const (.bool true)) (r 14)), none⟩]
def X_tree_Tree_Within_2 : List XItem := [⟨none, .a (.store 1 (r 6) (.const (.bool false))), none⟩]
def X_tree_Tree_Within_3 : List XItem := [⟨(some 16), .a (.mv (r 0)), none⟩, ⟨(some 17), .a (.load (some 2) (r 5)), none⟩, ⟨(some 18), .a (.call (.func F_tree_Tree_up) [.tmp
  16, .tmp 17]), none⟩]
def X_tree_Tree_Within_4 : List XItem := [⟨(some 7), .a (.alloc [.int (.i64) 0, .int (.i64) 0]), none⟩, ⟨none, .a (.store 2 (r 7) (r 19)), none⟩]
def X_tree_Tree_Within_5 : List XItem := [⟨(some 20), .a (.load (some 2) (r 7)), none⟩, ⟨(some 21), .a (.load (some 2) (r 4)), none⟩, ⟨(some 22), .a (.eq false ⟨true, [.int
  (.i64), .int (.i64)]⟩ (r 20) (r 21)), none⟩]
def X_tree_Tree_Within_6 : List XItem := [⟨none, .a (.store 1 (r 6) (.const (.bool true))), none⟩]
def X_tree_Tree_Within_7 : XCode := (.ops X_tree_Tree_Within_4)
def X_tree_Tree_Within_8 : XCode := (.block 1 (.seq (.ops X_tree_Tree_Within_5) (.cond (r 22) (.seq (.ops X_tree_Tree_Within_6) .ret) .skip)))
def X_tree_Tree_Within_9 : List XItem := [⟨(some 23), .a (.load (some 2) (r 4)), none⟩, ⟨(some 24), .a (.load (some 2) (r 5)), none⟩, ⟨(some 25), .a (.eq false ⟨true, [.int
  (.i64), .int (.i64)]⟩ (r 23) (r 24)), none⟩, ⟨none, .a (.store 1 (r 6) (r 25)), none⟩]
/-- (*diorama/tree.Tree).Within -/
def X_tree_Tree_Within : XCode :=
 (.seq (.ops X_tree_Tree_Within_0) (.seq (.seq (.ops X_tree_Tree_Within_1) (.cond (r 15) (.seq (.ops X_tree_Tree_Within_2) .ret) .skip)) (.seq (.seq (.ops
  X_tree_Tree_Within_3) (.block 0 (.range (r 18) [19] X_tree_Tree_Within_7 X_tree_Tree_Within_8))) (.seq (.ops X_tree_Tree_Within_9) .ret))))
/-! (*diorama/tree.Tree).Above -/
def X_tree_Tree_Above_0 : List XItem := [⟨(some 3), .a (.box (r 1)), none⟩, ⟨(some 4), .a (.mv (.const (.slice none 0 (.exact 0)))), none⟩]
def X_tree_Tree_Above_1 : List XItem := [⟨(some 5), .a (.mv (r 0)), none⟩, ⟨(some 6), .a (.call (.func F_tree_Tree_none) [.tmp 5]), none⟩]
def X_tree_Tree_Above_2 : List XItem := [⟨(some 4), .a (.mv (.const (.slice none 0 (.exact 0)))), none⟩]
def X_tree_Tree_Above_3 : List XItem := [⟨(some 7), .a (.mv (r 0)), none⟩, ⟨(some 8), .a (.load (some 2) (r 3)), none⟩, ⟨(some 9), .a (.call (.func F_tree_Tree_up) [.tmp 7,
  .tmp 8]), none⟩, ⟨(some 10), .a (.call (.func F_slices_Collect_Stamp) [.tmp 9]), none⟩, ⟨(some 4), .a (.mv (r 10)), none⟩]
/-- (*diorama/tree.Tree).Above -/
def X_tree_Tree_Above : XCode :=
 (.seq (.ops X_tree_Tree_Above_0) (.seq (.seq (.ops X_tree_Tree_Above_1) (.cond (r 6) (.seq (.ops X_tree_Tree_Above_2) .ret) .skip)) (.seq (.ops X_tree_Tree_Above_3)
  .ret)))
/-! maps.Equal[map[diorama/api.Stamp]diorama/api.Stamp,map[diorama/api.Stamp]diorama/api.Stamp,diorama/api.Stamp,diorama/api.Stamp] -/
/-! slices.SortedFunc[diorama/order.Sib] -/
def X_slices_SortedFunc_Sib_0 : List XItem := [⟨(some 4), .a (.mv (.const (.slice none 0 (.exact 0)))), none⟩]
def X_slices_SortedFunc_Sib_1 : List XItem := [⟨(some 6), .a (.mv (r 0)), none⟩, ⟨(some 7), .a (.call (.func F_slices_Collect_Sib) [.tmp 6]), none⟩, ⟨(some 5), .a (.mv (r 7)),
  none⟩]
def X_slices_SortedFunc_Sib_2 : List XItem := [⟨(some 8), .a (.mv (r 5)), none⟩, ⟨(some 9), .a (.mv (r 1)), none⟩, ⟨(some 10), .a (.call (.func F_slices_SortFunc_Sib) [.tmp 8,
  .tmp 9]), none⟩]
def X_slices_SortedFunc_Sib_3 : List XItem := [⟨(some 11), .a (.mv (r 5)), none⟩, ⟨(some 4), .a (.mv (r 11)), none⟩]
/-- slices.SortedFunc[diorama/order.Sib] -/
def X_slices_SortedFunc_Sib : XCode :=
 (.seq (.ops X_slices_SortedFunc_Sib_0) (.seq (.ops X_slices_SortedFunc_Sib_1) (.seq (.ops X_slices_SortedFunc_Sib_2) (.seq (.ops X_slices_SortedFunc_Sib_3) .ret))))
/-! slices.SortedFunc[diorama/api.Stamp] -/
def X_slices_SortedFunc_Stamp_0 : List XItem := [⟨(some 4), .a (.mv (.const (.slice none 0 (.exact 0)))), none⟩]
def X_slices_SortedFunc_Stamp_1 : List XItem := [⟨(some 6), .a (.mv (r 0)), none⟩, ⟨(some 7), .a (.call (.func F_slices_Collect_Stamp) [.tmp 6]), none⟩, ⟨(some 5), .a (.mv (r
  7)), none⟩]
def X_slices_SortedFunc_Stamp_2 : List XItem := [⟨(some 8), .a (.mv (r 5)), none⟩, ⟨(some 9), .a (.mv (r 1)), none⟩, ⟨(some 10), .a (.call (.func F_slices_SortFunc_Stamp)
  [.tmp 8, .tmp 9]), none⟩]
def X_slices_SortedFunc_Stamp_3 : List XItem := [⟨(some 11), .a (.mv (r 5)), none⟩, ⟨(some 4), .a (.mv (r 11)), none⟩]
/-- slices.SortedFunc[diorama/api.Stamp] -/
def X_slices_SortedFunc_Stamp : XCode :=
 (.seq (.ops X_slices_SortedFunc_Stamp_0) (.seq (.ops X_slices_SortedFunc_Stamp_1) (.seq (.ops X_slices_SortedFunc_Stamp_2) (.seq (.ops X_slices_SortedFunc_Stamp_3)
  .ret))))
/-! slices.Collect[diorama/api.Stamp] -/
def X_slices_Collect_Stamp_0 : List XItem := [⟨(some 2), .a (.mv (.const (.slice none 0 (.exact 0)))), none⟩]
def X_slices_Collect_Stamp_1 : List XItem := [⟨(some 3), .a (.mv (r 0)), none⟩, ⟨(some 4), .a (.call (.func F_slices_AppendSeq_Stamp) [.const (.slice none 0 (.exact 0)), .tmp
  3]), none⟩, ⟨(some 2), .a (.mv (r 4)), none⟩]
/-- slices.Collect[diorama/api.Stamp] -/
def X_slices_Collect_Stamp : XCode :=
 (.seq (.ops X_slices_Collect_Stamp_0) (.seq (.ops X_slices_Collect_Stamp_1) .ret))
/-! maps.Equal[map[diorama/api.Stamp]diorama/tree.Spot,map[diorama/api.Stamp]diorama/tree.Spot,diorama/api.Stamp,diorama/tree.Spot] -/
/-! slices.Collect[diorama/order.Sib] -/
def X_slices_Collect_Sib_0 : List XItem := [⟨(some 2), .a (.mv (.const (.slice none 0 (.exact 0)))), none⟩]
def X_slices_Collect_Sib_1 : List XItem := [⟨(some 3), .a (.mv (r 0)), none⟩, ⟨(some 4), .a (.call (.func F_slices_AppendSeq_Sib) [.const (.slice none 0 (.exact 0)), .tmp 3]),
  none⟩, ⟨(some 2), .a (.mv (r 4)), none⟩]
/-- slices.Collect[diorama/order.Sib] -/
def X_slices_Collect_Sib : XCode :=
 (.seq (.ops X_slices_Collect_Sib_0) (.seq (.ops X_slices_Collect_Sib_1) .ret))
/-! slices.Values[[]diorama/order.Sib,diorama/order.Sib]$1 -/
def X_slices_Values_Sib_c1_0 : List XItem := [⟨(some 5), .a (.load none (r 1)), none⟩, ⟨(some 6), .a (.lenSlice (r 5)), none⟩, ⟨(some 7), .a (.mv (.const (.int (.i64) 0))),
  none⟩]
def X_slices_Values_Sib_c1_1 : List XItem := [⟨(some 8), .a (.bin (.lss) (r 7) (r 6)), none⟩]
def X_slices_Values_Sib_c1_2 : List XItem := [⟨(some 9), .a (.indexAddr 3 (r 5) (r 7)), none⟩, ⟨(some 10), .a (.load (some 3) (r 9)), none⟩, ⟨(some 4), .a (.alloc [.str [],
  .int (.i64) 0, .int (.i64) 0]), none⟩, ⟨none, .a (.store 3 (r 4) (r 10)), none⟩]
def X_slices_Values_Sib_c1_3 : List XItem := [⟨(some 11), .a (.mv (r 0)), none⟩, ⟨(some 12), .a (.load (some 3) (r 4)), none⟩, ⟨(some 13), .a (.call (r 11) [.tmp 12]), none⟩,
  ⟨(some 14), .a (.un (.not) (r 13)), none⟩]
def X_slices_Values_Sib_c1_4 : List XItem := [⟨(some 15), .a (.bin (.add) (r 7) (.const (.int (.i64) 1))), none⟩, ⟨(some 7), .a (.mv (r 15)), none⟩]
def X_slices_Values_Sib_c1_5 : XCode := (.seq (.ops X_slices_Values_Sib_c1_1) (.seq (.cond (r 8) .skip (.exit 0)) (.seq (.block 1 (.seq (.ops X_slices_Values_Sib_c1_2) (.seq
  (.ops X_slices_Values_Sib_c1_3) (.cond (r 14) .ret .skip)))) (.ops X_slices_Values_Sib_c1_4))))
/-- slices.Values[[]diorama/order.Sib,diorama/order.Sib]$1 -/
def X_slices_Values_Sib_c1 : XCode :=
 (.seq (.ops X_slices_Values_Sib_c1_0) (.block 0 (.loop X_slices_Values_Sib_c1_5)))
/-! (*diorama/tree.Tree).up$1 -/
def X_tree_Tree_up_c1_0 : Row := [i 7 (.load none (r 1)), i 8 (.nilCheck (r 7)), i 9 (.fieldAddr 0 (r 8)), i 10 (.load none (r 9)), i 11 (.load (some 2) (r 2)), i 12 (.lookup
  ⟨true, [.int (.i64), .int (.i64)]⟩ (.agg [.int (.i64) 0, .int (.i64) 0, .str []]) true (r 10) (r 11)), i 6 (.mv (r 12)), i 13 (.extract (r 6) 0), i 14 (.extract (r 6)
  1), i 4 (.alloc [.int (.i64) 0, .int (.i64) 0, .str []]), i0 (.store 3 (r 4) (r 13)), i 5 (.mv (r 14))]
def X_tree_Tree_up_c1_1 : List XItem := [⟨(some 15), .a (.mv (r 5)), none⟩]
def X_tree_Tree_up_c1_2 : List XItem := [⟨(some 26), .a (.mv (r 0)), none⟩, ⟨(some 27), .a (.fieldAddr 0 (r 4)), none⟩, ⟨(some 28), .a (.load (some 2) (r 27)), none⟩, ⟨(some
  29), .a (.call (r 26) [.tmp 28]), none⟩, ⟨(some 30), .a (.un (.not) (r 29)), none⟩]
def X_tree_Tree_up_c1_3 : List XItem := [⟨(some 31), .a (.load (some 3) (r 4)), none⟩]
def X_tree_Tree_up_c1_4 : List XItem := [⟨(some 4), .a (.alloc [.int (.i64) 0, .int (.i64) 0, .str []]), none⟩, ⟨none, .a (.store 3 (r 4) (r 31)), none⟩]
def X_tree_Tree_up_c1_5 : Row := [i 17 (.load none (r 1)), i 18 (.nilCheck (r 17)), i 19 (.fieldAddr 0 (r 18)), i 20 (.load none (r 19)), i 21 (.fieldAddr 0 (r 4)), i 22
  (.load (some 2) (r 21)), i 23 (.lookup ⟨true, [.int (.i64), .int (.i64)]⟩ (.agg [.int (.i64) 0, .int (.i64) 0, .str []]) true (r 20) (r 22)), i 16 (.mv (r 23)), i 24
  (.extract (r 16) 0), i 25 (.extract (r 16) 1), i0 (.store 3 (r 4) (r 24)), i 5 (.mv (r 25))]
def X_tree_Tree_up_c1_6 : XCode := (.seq (.seq (.ops X_tree_Tree_up_c1_1) (.cond (r 15) .skip (.exit 0))) (.seq (.block 1 (.seq (.ops X_tree_Tree_up_c1_2) (.cond (r 30) .ret
  .skip))) (.seq (.seq (.ops X_tree_Tree_up_c1_3) (.ops X_tree_Tree_up_c1_4)) (.dops X_tree_Tree_up_c1_5))))
/-- (*diorama/tree.Tree).up$1 -/
def X_tree_Tree_up_c1 : XCode :=
 (.seq (.dops X_tree_Tree_up_c1_0) (.block 0 (.loop X_tree_Tree_up_c1_6)))
/-! maps.Keys[map[diorama/api.Stamp]diorama/tree.Spot,diorama/api.Stamp,diorama/tree.Spot]$1 -/
def X_maps_Keys_Stamp_Spot_c1_0 : List XItem := [⟨(some 4), .a (.load none (r 1)), none⟩, ⟨(some 5), .rangeMap (r 4), none⟩]
def X_maps_Keys_Stamp_Spot_c1_1 : List XItem := [⟨(some 6), .nextMap (r 5), none⟩, ⟨(some 7), .a (.extract (r 6) 0), none⟩]
def X_maps_Keys_Stamp_Spot_c1_2 : List XItem := [⟨(some 8), .entryMap (r 5), none⟩, ⟨(some 9), .a (.extract (r 8) 0), none⟩, ⟨(some 3), .a (.alloc [.int (.i64) 0, .int (.i64)
  0]), none⟩, ⟨none, .a (.store 2 (r 3) (r 9)), none⟩]
def X_maps_Keys_Stamp_Spot_c1_3 : List XItem := [⟨(some 10), .a (.mv (r 0)), none⟩, ⟨(some 11), .a (.load (some 2) (r 3)), none⟩, ⟨(some 12), .a (.call (r 10) [.tmp 11]),
  none⟩, ⟨(some 13), .a (.un (.not) (r 12)), none⟩]
def X_maps_Keys_Stamp_Spot_c1_4 : XCode := (.seq (.ops X_maps_Keys_Stamp_Spot_c1_1) (.seq (.cond (r 7) .skip (.exit 0)) (.block 1 (.seq (.ops X_maps_Keys_Stamp_Spot_c1_2)
  (.seq (.ops X_maps_Keys_Stamp_Spot_c1_3) (.cond (r 13) .ret .skip))))))
/-- maps.Keys[map[diorama/api.Stamp]diorama/tree.Spot,diorama/api.Stamp,diorama/tree.Spot]$1 -/
def X_maps_Keys_Stamp_Spot_c1 : XCode :=
 (.seq (.ops X_maps_Keys_Stamp_Spot_c1_0) (.block 0 (.loop X_maps_Keys_Stamp_Spot_c1_4)))
/-! slices.AppendSeq[[]diorama/api.Stamp,diorama/api.Stamp] -/
def X_slices_AppendSeq_Stamp_0 : List XItem := [⟨(some 2), .a (.box (r 0)), none⟩, ⟨(some 4), .a (.mv (.const (.slice none 0 (.exact 0)))), none⟩]
def X_slices_AppendSeq_Stamp_1 : List XItem := [⟨(some 6), .a (.mv (r 1)), none⟩]
def X_slices_AppendSeq_Stamp_2 : List XItem := [⟨(some 5), .a (.alloc [.int (.i64) 0, .int (.i64) 0]), none⟩, ⟨none, .a (.store 2 (r 5) (r 7)), none⟩]
def X_slices_AppendSeq_Stamp_3 : List XItem := [⟨(some 8), .a (.load none (r 2)), none⟩, ⟨(some 9), .a (.load (some 2) (r 5)), none⟩, ⟨(some 10), .a (.buildSlice 1 [.int
  (.i64) 0, .int (.i64) 0] [(0, 2, .tmp 9)]), none⟩, ⟨(some 11), .a (.append 2 16 (r 8) (r 10)), none⟩, ⟨none, .a (.store 1 (r 2) (r 11)), none⟩]
def X_slices_AppendSeq_Stamp_4 : XCode := (.ops X_slices_AppendSeq_Stamp_2)
def X_slices_AppendSeq_Stamp_5 : XCode := (.block 1 (.ops X_slices_AppendSeq_Stamp_3))
def X_slices_AppendSeq_Stamp_6 : List XItem := [⟨(some 12), .a (.load none (r 2)), none⟩, ⟨(some 4), .a (.mv (r 12)), none⟩]
/-- slices.AppendSeq[[]diorama/api.Stamp,diorama/api.Stamp] -/
def X_slices_AppendSeq_Stamp : XCode :=
 (.seq (.ops X_slices_AppendSeq_Stamp_0) (.seq (.seq (.ops X_slices_AppendSeq_Stamp_1) (.block 0 (.range (r 6) [7] X_slices_AppendSeq_Stamp_4 X_slices_AppendSeq_Stamp_5)))
  (.seq (.ops X_slices_AppendSeq_Stamp_6) .ret)))
/-! slices.AppendSeq[[]diorama/order.Sib,diorama/order.Sib] -/
def X_slices_AppendSeq_Sib_0 : List XItem := [⟨(some 2), .a (.box (r 0)), none⟩, ⟨(some 4), .a (.mv (.const (.slice none 0 (.exact 0)))), none⟩]
def X_slices_AppendSeq_Sib_1 : List XItem := [⟨(some 6), .a (.mv (r 1)), none⟩]
def X_slices_AppendSeq_Sib_2 : List XItem := [⟨(some 5), .a (.alloc [.str [], .int (.i64) 0, .int (.i64) 0]), none⟩, ⟨none, .a (.store 3 (r 5) (r 7)), none⟩]
def X_slices_AppendSeq_Sib_3 : List XItem := [⟨(some 8), .a (.load none (r 2)), none⟩, ⟨(some 9), .a (.load (some 3) (r 5)), none⟩, ⟨(some 10), .a (.buildSlice 1 [.str [],
  .int (.i64) 0, .int (.i64) 0] [(0, 3, .tmp 9)]), none⟩, ⟨(some 11), .a (.append 3 32 (r 8) (r 10)), none⟩, ⟨none, .a (.store 1 (r 2) (r 11)), none⟩]
def X_slices_AppendSeq_Sib_4 : XCode := (.ops X_slices_AppendSeq_Sib_2)
def X_slices_AppendSeq_Sib_5 : XCode := (.block 1 (.ops X_slices_AppendSeq_Sib_3))
def X_slices_AppendSeq_Sib_6 : List XItem := [⟨(some 12), .a (.load none (r 2)), none⟩, ⟨(some 4), .a (.mv (r 12)), none⟩]
/-- slices.AppendSeq[[]diorama/order.Sib,diorama/order.Sib] -/
def X_slices_AppendSeq_Sib : XCode :=
 (.seq (.ops X_slices_AppendSeq_Sib_0) (.seq (.seq (.ops X_slices_AppendSeq_Sib_1) (.block 0 (.range (r 6) [7] X_slices_AppendSeq_Sib_4 X_slices_AppendSeq_Sib_5))) (.seq
  (.ops X_slices_AppendSeq_Sib_6) .ret)))
def gl0 : Nat → Bool := fun g => Nat.ble (g + 1) 2
set_option maxRecDepth 100000
theorem c_law11_OrderTrees : cFunc Tryz.prog gl0 Tryz.f3 = some A_law11_OrderTrees := by kernel_rfl
theorem c_law10_Long : cFunc Tryz.prog gl0 Tryz.f7 = some A_law10_Long := by kernel_rfl
theorem c_law11_knows : cFunc Tryz.prog gl0 Tryz.f8 = some A_law11_knows := by kernel_rfl
theorem c_tree_New : cFunc Tryz.prog gl0 Tryz.f9 = some A_tree_New := by kernel_rfl
theorem c_tree_Tree_Add : cFunc Tryz.prog gl0 Tryz.f10 = some A_tree_Tree_Add := by kernel_rfl
theorem c_law10_Own : cFunc Tryz.prog gl0 Tryz.f11 = some A_law10_Own := by kernel_rfl
theorem c_ref10_Tree_Add : cFunc Tryz.prog gl0 Tryz.f12 = some A_ref10_Tree_Add := by kernel_rfl
theorem c_tree_Tree_Move : cFunc Tryz.prog gl0 Tryz.f13 = some A_tree_Tree_Move := by kernel_rfl
theorem c_ref10_Tree_Move : cFunc Tryz.prog gl0 Tryz.f14 = some A_ref10_Tree_Move := by kernel_rfl
theorem c_law11_Same : cFunc Tryz.prog gl0 Tryz.f15 = some A_law11_Same := by kernel_rfl
theorem c_order_Row : cFunc Tryz.prog gl0 Tryz.f16 = some A_order_Row := by kernel_rfl
theorem c_ref11_Row : cFunc Tryz.prog gl0 Tryz.f17 = some A_ref11_Row := by kernel_rfl
theorem c_order_Sort : cFunc Tryz.prog gl0 Tryz.f40 = some A_order_Sort := by kernel_rfl
theorem c_order_Key : cFunc Tryz.prog gl0 Tryz.f41 = some A_order_Key := by kernel_rfl
theorem c_law11_num : cFunc Tryz.prog gl0 Tryz.f42 = some A_law11_num := by kernel_rfl
theorem c_order_Find : cFunc Tryz.prog gl0 Tryz.f43 = some A_order_Find := by kernel_rfl
theorem c_tree_Tree_none : cFunc Tryz.prog gl0 Tryz.f44 = some A_tree_Tree_none := by kernel_rfl
theorem c_op_Node : cFunc Tryz.prog gl0 Tryz.f45 = some A_op_Node := by kernel_rfl
theorem c_tree_Spot_right : cFunc Tryz.prog gl0 Tryz.f46 = some A_tree_Spot_right := by kernel_rfl
theorem c_tree_Tree_node : cFunc Tryz.prog gl0 Tryz.f47 = some A_tree_Tree_node := by kernel_rfl
theorem c_tree_Tree_Has : cFunc Tryz.prog gl0 Tryz.f48 = some A_tree_Tree_Has := by kernel_rfl
theorem c_ref10_Tree_find : cFunc Tryz.prog gl0 Tryz.f49 = some A_ref10_Tree_find := by kernel_rfl
theorem c_ref07_Node : cFunc Tryz.prog gl0 Tryz.f50 = some A_ref07_Node := by kernel_rfl
theorem c_ref10_Right : cFunc Tryz.prog gl0 Tryz.f51 = some A_ref10_Right := by kernel_rfl
theorem c_ref10_Tree_Has : cFunc Tryz.prog gl0 Tryz.f52 = some A_ref10_Tree_Has := by kernel_rfl
theorem c_ref10_Tree_Within : cFunc Tryz.prog gl0 Tryz.f54 = some A_ref10_Tree_Within := by kernel_rfl
theorem c_tree_Tree_Below : cFunc Tryz.prog gl0 Tryz.f55 = some A_tree_Tree_Below := by kernel_rfl
theorem c_tree_Tree_Spot : cFunc Tryz.prog gl0 Tryz.f56 = some A_tree_Tree_Spot := by kernel_rfl
theorem c_ref11_Sort : cFunc Tryz.prog gl0 Tryz.f57 = some A_ref11_Sort := by kernel_rfl
theorem c_tree_Tree_Nodes : cFunc Tryz.prog gl0 Tryz.f64 = some A_tree_Tree_Nodes := by kernel_rfl
theorem c_ref02_Compare : cFunc Tryz.prog gl0 Tryz.f71 = some A_ref02_Compare := by kernel_rfl
theorem c_ref07_Trash : cFunc Tryz.prog gl0 Tryz.f74 = some A_ref07_Trash := by kernel_rfl
theorem c_ref10_Tree_Spot : cFunc Tryz.prog gl0 Tryz.f77 = some A_ref10_Tree_Spot := by kernel_rfl
theorem c_ref10_Tree_Above : cFunc Tryz.prog gl0 Tryz.f79 = some A_ref10_Tree_Above := by kernel_rfl
theorem c_order_Sort_c1 : cFunc Tryz.prog gl0 Tryz.f82 = some A_order_Sort_c1 := by kernel_rfl
theorem c_order_Before : cFunc Tryz.prog gl0 Tryz.f83 = some A_order_Before := by kernel_rfl
theorem c_slices_Values_Sib : cFunc Tryz.prog gl0 Tryz.f85 = some A_slices_Values_Sib := by kernel_rfl
theorem c_order_gap : cFunc Tryz.prog gl0 Tryz.f86 = some A_order_gap := by kernel_rfl
theorem c_order_Key_c1 : cFunc Tryz.prog gl0 Tryz.f87 = some A_order_Key_c1 := by kernel_rfl
theorem c_poskey_Between : cFunc Tryz.prog gl0 Tryz.f88 = some A_poskey_Between := by kernel_rfl
theorem c_slices_IndexFunc_Sib : cFunc Tryz.prog gl0 Tryz.f89 = some A_slices_IndexFunc_Sib := by kernel_rfl
theorem c_order_Find_c1 : cFunc Tryz.prog gl0 Tryz.f90 = some A_order_Find_c1 := by kernel_rfl
theorem c_stamp_Right : cFunc Tryz.prog gl0 Tryz.f91 = some A_stamp_Right := by kernel_rfl
theorem c_op_Place : cFunc Tryz.prog gl0 Tryz.f92 = some A_op_Place := by kernel_rfl
theorem c_poskey_Right : cFunc Tryz.prog gl0 Tryz.f93 = some A_poskey_Right := by kernel_rfl
theorem c_ref02_Right : cFunc Tryz.prog gl0 Tryz.f94 = some A_ref02_Right := by kernel_rfl
theorem c_ref07_Place : cFunc Tryz.prog gl0 Tryz.f95 = some A_ref07_Place := by kernel_rfl
theorem c_ref04_Right : cFunc Tryz.prog gl0 Tryz.f96 = some A_ref04_Right := by kernel_rfl
theorem c_ref07_Root : cFunc Tryz.prog gl0 Tryz.f97 = some A_ref07_Root := by kernel_rfl
theorem c_tree_Tree_up : cFunc Tryz.prog gl0 Tryz.f98 = some A_tree_Tree_up := by kernel_rfl
theorem c_ref11_Before : cFunc Tryz.prog gl0 Tryz.f99 = some A_ref11_Before := by kernel_rfl
theorem c_stamp_Compare : cFunc Tryz.prog gl0 Tryz.f107 = some A_stamp_Compare := by kernel_rfl
theorem c_maps_Keys_Stamp_Spot : cFunc Tryz.prog gl0 Tryz.f116 = some A_maps_Keys_Stamp_Spot := by kernel_rfl
theorem c_poskey_Compare : cFunc Tryz.prog gl0 Tryz.f129 = some A_poskey_Compare := by kernel_rfl
theorem c_poskey_fine : cFunc Tryz.prog gl0 Tryz.f133 = some A_poskey_fine := by kernel_rfl
theorem c_poskey_above : cFunc Tryz.prog gl0 Tryz.f134 = some A_poskey_above := by kernel_rfl
theorem c_poskey_greatest : cFunc Tryz.prog gl0 Tryz.f135 = some A_poskey_greatest := by kernel_rfl
theorem c_ref04_Compare : cFunc Tryz.prog gl0 Tryz.f137 = some A_ref04_Compare := by kernel_rfl
theorem c_poskey_fine_c1 : cFunc Tryz.prog gl0 Tryz.f151 = some A_poskey_fine_c1 := by kernel_rfl
theorem c_poskey_digit : cFunc Tryz.prog gl0 Tryz.f152 = some A_poskey_digit := by kernel_rfl
theorem b_tree_Tree_Within : ∃ c, Tryz.f53.body = some c ∧ cX Tryz.prog gl0 c = X_tree_Tree_Within := ⟨_, rfl, by kernel_rfl⟩
theorem r_tree_Tree_Within : cRes Tryz.prog Tryz.f53.results.toList = some [.cell 6 none] := by kernel_rfl
theorem n_tree_Tree_Within : Tryz.f53.ntmps = 26 ∧ (Tryz.f53.name == "runtime.NumGoroutine") = false := ⟨by kernel_rfl, by kernel_rfl⟩
theorem b_tree_Tree_Above : ∃ c, Tryz.f65.body = some c ∧ cX Tryz.prog gl0 c = X_tree_Tree_Above := ⟨_, rfl, by kernel_rfl⟩
theorem r_tree_Tree_Above : cRes Tryz.prog Tryz.f65.results.toList = some [.tmp 4] := by kernel_rfl
theorem n_tree_Tree_Above : Tryz.f65.ntmps = 11 ∧ (Tryz.f65.name == "runtime.NumGoroutine") = false := ⟨by kernel_rfl, by kernel_rfl⟩
theorem b_slices_SortedFunc_Sib : ∃ c, Tryz.f84.body = some c ∧ cX Tryz.prog gl0 c = X_slices_SortedFunc_Sib := ⟨_, rfl, by kernel_rfl⟩
theorem r_slices_SortedFunc_Sib : cRes Tryz.prog Tryz.f84.results.toList = some [.tmp 4] := by kernel_rfl
theorem n_slices_SortedFunc_Sib : Tryz.f84.ntmps = 12 ∧ (Tryz.f84.name == "runtime.NumGoroutine") = false := ⟨by kernel_rfl, by kernel_rfl⟩
theorem b_slices_SortedFunc_Stamp : ∃ c, Tryz.f115.body = some c ∧ cX Tryz.prog gl0 c = X_slices_SortedFunc_Stamp := ⟨_, rfl, by kernel_rfl⟩
theorem r_slices_SortedFunc_Stamp : cRes Tryz.prog Tryz.f115.results.toList = some [.tmp 4] := by kernel_rfl
theorem n_slices_SortedFunc_Stamp : Tryz.f115.ntmps = 12 ∧ (Tryz.f115.name == "runtime.NumGoroutine") = false := ⟨by kernel_rfl, by kernel_rfl⟩
theorem b_slices_Collect_Stamp : ∃ c, Tryz.f117.body = some c ∧ cX Tryz.prog gl0 c = X_slices_Collect_Stamp := ⟨_, rfl, by kernel_rfl⟩
theorem r_slices_Collect_Stamp : cRes Tryz.prog Tryz.f117.results.toList = some [.tmp 2] := by kernel_rfl
theorem n_slices_Collect_Stamp : Tryz.f117.ntmps = 5 ∧ (Tryz.f117.name == "runtime.NumGoroutine") = false := ⟨by kernel_rfl, by kernel_rfl⟩
theorem b_slices_Collect_Sib : ∃ c, Tryz.f130.body = some c ∧ cX Tryz.prog gl0 c = X_slices_Collect_Sib := ⟨_, rfl, by kernel_rfl⟩
theorem r_slices_Collect_Sib : cRes Tryz.prog Tryz.f130.results.toList = some [.tmp 2] := by kernel_rfl
theorem n_slices_Collect_Sib : Tryz.f130.ntmps = 5 ∧ (Tryz.f130.name == "runtime.NumGoroutine") = false := ⟨by kernel_rfl, by kernel_rfl⟩
theorem b_slices_Values_Sib_c1 : ∃ c, Tryz.f132.body = some c ∧ cX Tryz.prog gl0 c = X_slices_Values_Sib_c1 := ⟨_, rfl, by kernel_rfl⟩
theorem r_slices_Values_Sib_c1 : cRes Tryz.prog Tryz.f132.results.toList = some [] := by kernel_rfl
theorem n_slices_Values_Sib_c1 : Tryz.f132.ntmps = 16 ∧ (Tryz.f132.name == "runtime.NumGoroutine") = false := ⟨by kernel_rfl, by kernel_rfl⟩
theorem b_tree_Tree_up_c1 : ∃ c, Tryz.f136.body = some c ∧ cX Tryz.prog gl0 c = X_tree_Tree_up_c1 := ⟨_, rfl, by kernel_rfl⟩
theorem r_tree_Tree_up_c1 : cRes Tryz.prog Tryz.f136.results.toList = some [] := by kernel_rfl
theorem n_tree_Tree_up_c1 : Tryz.f136.ntmps = 32 ∧ (Tryz.f136.name == "runtime.NumGoroutine") = false := ⟨by kernel_rfl, by kernel_rfl⟩
theorem b_maps_Keys_Stamp_Spot_c1 : ∃ c, Tryz.f143.body = some c ∧ cX Tryz.prog gl0 c = X_maps_Keys_Stamp_Spot_c1 := ⟨_, rfl, by kernel_rfl⟩
theorem r_maps_Keys_Stamp_Spot_c1 : cRes Tryz.prog Tryz.f143.results.toList = some [] := by kernel_rfl
theorem n_maps_Keys_Stamp_Spot_c1 : Tryz.f143.ntmps = 14 ∧ (Tryz.f143.name == "runtime.NumGoroutine") = false := ⟨by kernel_rfl, by kernel_rfl⟩
theorem b_slices_AppendSeq_Stamp : ∃ c, Tryz.f144.body = some c ∧ cX Tryz.prog gl0 c = X_slices_AppendSeq_Stamp := ⟨_, rfl, by kernel_rfl⟩
theorem r_slices_AppendSeq_Stamp : cRes Tryz.prog Tryz.f144.results.toList = some [.tmp 4] := by kernel_rfl
theorem n_slices_AppendSeq_Stamp : Tryz.f144.ntmps = 13 ∧ (Tryz.f144.name == "runtime.NumGoroutine") = false := ⟨by kernel_rfl, by kernel_rfl⟩
theorem b_slices_AppendSeq_Sib : ∃ c, Tryz.f148.body = some c ∧ cX Tryz.prog gl0 c = X_slices_AppendSeq_Sib := ⟨_, rfl, by kernel_rfl⟩
theorem r_slices_AppendSeq_Sib : cRes Tryz.prog Tryz.f148.results.toList = some [.tmp 4] := by kernel_rfl
theorem n_slices_AppendSeq_Sib : Tryz.f148.ntmps = 13 ∧ (Tryz.f148.name == "runtime.NumGoroutine") = false := ⟨by kernel_rfl, by kernel_rfl⟩
theorem mixed : Tryz.prog.follows .mixedOrders = true := by kernel_rfl
def codes0 : List (Nat × AFunc) := [(F_law11_OrderTrees, A_law11_OrderTrees), (F_law10_Long, A_law10_Long), (F_tree_New, A_tree_New), (F_tree_Tree_Add, A_tree_Tree_Add), (F_law10_Own, A_law10_Own), (F_ref10_Tree_Add, A_ref10_Tree_Add), (F_tree_Tree_Move, A_tree_Tree_Move), (F_ref10_Tree_Move, A_ref10_Tree_Move), (F_law11_Same, A_law11_Same), (F_order_Row, A_order_Row), (F_ref11_Row, A_ref11_Row), (F_order_Sort, A_order_Sort), (F_order_Key, A_order_Key), (F_law11_num, A_law11_num)]
theorem codes0_ok : ∀ x ∈ codes0, ∃ fn, Tryz.prog.funcs[x.1]? = some fn ∧ (fn.name == "runtime.NumGoroutine") = false ∧ cFunc Tryz.prog gl0 fn = some x.2 := by
  unfold codes0
  simp only [List.forall_mem_cons]
  exact ⟨⟨_, Tryz.func3, (by kernel_rfl), c_law11_OrderTrees⟩, ⟨_, Tryz.func7, (by kernel_rfl), c_law10_Long⟩, ⟨_, Tryz.func9, (by kernel_rfl), c_tree_New⟩, ⟨_, Tryz.func10, (by kernel_rfl), c_tree_Tree_Add⟩, ⟨_, Tryz.func11, (by kernel_rfl), c_law10_Own⟩, ⟨_, Tryz.func12, (by kernel_rfl), c_ref10_Tree_Add⟩, ⟨_, Tryz.func13, (by kernel_rfl), c_tree_Tree_Move⟩, ⟨_, Tryz.func14, (by kernel_rfl), c_ref10_Tree_Move⟩, ⟨_, Tryz.func15, (by kernel_rfl), c_law11_Same⟩, ⟨_, Tryz.func16, (by kernel_rfl), c_order_Row⟩, ⟨_, Tryz.func17, (by kernel_rfl), c_ref11_Row⟩, ⟨_, Tryz.func40, (by kernel_rfl), c_order_Sort⟩, ⟨_, Tryz.func41, (by kernel_rfl), c_order_Key⟩, ⟨_, Tryz.func42, (by kernel_rfl), c_law11_num⟩, fun _ h => (by cases h)⟩
def codes1 : List (Nat × AFunc) := [(F_order_Find, A_order_Find), (F_tree_Tree_none, A_tree_Tree_none), (F_op_Node, A_op_Node), (F_tree_Spot_right, A_tree_Spot_right), (F_tree_Tree_node, A_tree_Tree_node), (F_tree_Tree_Has, A_tree_Tree_Has), (F_ref10_Tree_find, A_ref10_Tree_find), (F_ref07_Node, A_ref07_Node), (F_ref10_Right, A_ref10_Right), (F_ref10_Tree_Has, A_ref10_Tree_Has), (F_ref10_Tree_Within, A_ref10_Tree_Within), (F_tree_Tree_Below, A_tree_Tree_Below), (F_tree_Tree_Spot, A_tree_Tree_Spot), (F_ref11_Sort, A_ref11_Sort), (F_tree_Tree_Nodes, A_tree_Tree_Nodes), (F_ref02_Compare, A_ref02_Compare), (F_ref07_Trash, A_ref07_Trash), (F_ref10_Tree_Spot, A_ref10_Tree_Spot), (F_ref10_Tree_Above, A_ref10_Tree_Above), (F_order_Sort_c1, A_order_Sort_c1), (F_order_Before, A_order_Before), (F_slices_Values_Sib, A_slices_Values_Sib), (F_order_gap, A_order_gap), (F_order_Key_c1, A_order_Key_c1), (F_poskey_Between, A_poskey_Between)]
theorem codes1_ok : ∀ x ∈ codes1, ∃ fn, Tryz.prog.funcs[x.1]? = some fn ∧ (fn.name == "runtime.NumGoroutine") = false ∧ cFunc Tryz.prog gl0 fn = some x.2 := by
  unfold codes1
  simp only [List.forall_mem_cons]
  exact ⟨⟨_, Tryz.func43, (by kernel_rfl), c_order_Find⟩, ⟨_, Tryz.func44, (by kernel_rfl), c_tree_Tree_none⟩, ⟨_, Tryz.func45, (by kernel_rfl), c_op_Node⟩, ⟨_, Tryz.func46, (by kernel_rfl), c_tree_Spot_right⟩, ⟨_, Tryz.func47, (by kernel_rfl), c_tree_Tree_node⟩, ⟨_, Tryz.func48, (by kernel_rfl), c_tree_Tree_Has⟩, ⟨_, Tryz.func49, (by kernel_rfl), c_ref10_Tree_find⟩, ⟨_, Tryz.func50, (by kernel_rfl), c_ref07_Node⟩, ⟨_, Tryz.func51, (by kernel_rfl), c_ref10_Right⟩, ⟨_, Tryz.func52, (by kernel_rfl), c_ref10_Tree_Has⟩, ⟨_, Tryz.func54, (by kernel_rfl), c_ref10_Tree_Within⟩, ⟨_, Tryz.func55, (by kernel_rfl), c_tree_Tree_Below⟩, ⟨_, Tryz.func56, (by kernel_rfl), c_tree_Tree_Spot⟩, ⟨_, Tryz.func57, (by kernel_rfl), c_ref11_Sort⟩, ⟨_, Tryz.func64, (by kernel_rfl), c_tree_Tree_Nodes⟩, ⟨_, Tryz.func71, (by kernel_rfl), c_ref02_Compare⟩, ⟨_, Tryz.func74, (by kernel_rfl), c_ref07_Trash⟩, ⟨_, Tryz.func77, (by kernel_rfl), c_ref10_Tree_Spot⟩, ⟨_, Tryz.func79, (by kernel_rfl), c_ref10_Tree_Above⟩, ⟨_, Tryz.func82, (by kernel_rfl), c_order_Sort_c1⟩, ⟨_, Tryz.func83, (by kernel_rfl), c_order_Before⟩, ⟨_, Tryz.func85, (by kernel_rfl), c_slices_Values_Sib⟩, ⟨_, Tryz.func86, (by kernel_rfl), c_order_gap⟩, ⟨_, Tryz.func87, (by kernel_rfl), c_order_Key_c1⟩, ⟨_, Tryz.func88, (by kernel_rfl), c_poskey_Between⟩, fun _ h => (by cases h)⟩
def codes2 : List (Nat × AFunc) := [(F_slices_IndexFunc_Sib, A_slices_IndexFunc_Sib), (F_order_Find_c1, A_order_Find_c1), (F_stamp_Right, A_stamp_Right), (F_op_Place, A_op_Place), (F_poskey_Right, A_poskey_Right), (F_ref02_Right, A_ref02_Right), (F_ref07_Place, A_ref07_Place), (F_ref04_Right, A_ref04_Right), (F_ref07_Root, A_ref07_Root), (F_tree_Tree_up, A_tree_Tree_up), (F_ref11_Before, A_ref11_Before), (F_stamp_Compare, A_stamp_Compare), (F_maps_Keys_Stamp_Spot, A_maps_Keys_Stamp_Spot), (F_poskey_Compare, A_poskey_Compare), (F_poskey_fine, A_poskey_fine), (F_poskey_above, A_poskey_above), (F_poskey_greatest, A_poskey_greatest), (F_ref04_Compare, A_ref04_Compare)]
theorem codes2_ok : ∀ x ∈ codes2, ∃ fn, Tryz.prog.funcs[x.1]? = some fn ∧ (fn.name == "runtime.NumGoroutine") = false ∧ cFunc Tryz.prog gl0 fn = some x.2 := by
  unfold codes2
  simp only [List.forall_mem_cons]
  exact ⟨⟨_, Tryz.func89, (by kernel_rfl), c_slices_IndexFunc_Sib⟩, ⟨_, Tryz.func90, (by kernel_rfl), c_order_Find_c1⟩, ⟨_, Tryz.func91, (by kernel_rfl), c_stamp_Right⟩, ⟨_, Tryz.func92, (by kernel_rfl), c_op_Place⟩, ⟨_, Tryz.func93, (by kernel_rfl), c_poskey_Right⟩, ⟨_, Tryz.func94, (by kernel_rfl), c_ref02_Right⟩, ⟨_, Tryz.func95, (by kernel_rfl), c_ref07_Place⟩, ⟨_, Tryz.func96, (by kernel_rfl), c_ref04_Right⟩, ⟨_, Tryz.func97, (by kernel_rfl), c_ref07_Root⟩, ⟨_, Tryz.func98, (by kernel_rfl), c_tree_Tree_up⟩, ⟨_, Tryz.func99, (by kernel_rfl), c_ref11_Before⟩, ⟨_, Tryz.func107, (by kernel_rfl), c_stamp_Compare⟩, ⟨_, Tryz.func116, (by kernel_rfl), c_maps_Keys_Stamp_Spot⟩, ⟨_, Tryz.func129, (by kernel_rfl), c_poskey_Compare⟩, ⟨_, Tryz.func133, (by kernel_rfl), c_poskey_fine⟩, ⟨_, Tryz.func134, (by kernel_rfl), c_poskey_above⟩, ⟨_, Tryz.func135, (by kernel_rfl), c_poskey_greatest⟩, ⟨_, Tryz.func137, (by kernel_rfl), c_ref04_Compare⟩, fun _ h => (by cases h)⟩
def codes3 : List (Nat × AFunc) := [(F_poskey_fine_c1, A_poskey_fine_c1), (F_poskey_digit, A_poskey_digit)]
theorem codes3_ok : ∀ x ∈ codes3, ∃ fn, Tryz.prog.funcs[x.1]? = some fn ∧ (fn.name == "runtime.NumGoroutine") = false ∧ cFunc Tryz.prog gl0 fn = some x.2 := by
  unfold codes3
  simp only [List.forall_mem_cons]
  exact ⟨⟨_, Tryz.func151, (by kernel_rfl), c_poskey_fine_c1⟩, ⟨_, Tryz.func152, (by kernel_rfl), c_poskey_digit⟩, fun _ h => (by cases h)⟩
def codes : List (Nat × AFunc) := codes0 ++ codes1 ++ codes2 ++ codes3
theorem codes_ok : ∀ x ∈ codes, ∃ fn, Tryz.prog.funcs[x.1]? = some fn ∧ (fn.name == "runtime.NumGoroutine") = false ∧ cFunc Tryz.prog gl0 fn = some x.2 := by
  intro x hx
  simp only [codes, List.mem_append] at hx

  rcases hx with (((h | h) | h) | h)
  · exact codes0_ok x h
  · exact codes1_ok x h
  · exact codes2_ok x h
  · exact codes3_ok x h
def codesK : List (Nat × AFunc) := [(F_law11_knows, A_law11_knows)]
theorem codesK_ok : ∀ x ∈ codesK, ∃ fn, Tryz.prog.funcs[x.1]? = some fn ∧ (fn.name == "runtime.NumGoroutine") = false ∧ cFunc Tryz.prog gl0 fn = some x.2 := by
  unfold codesK
  simp only [List.forall_mem_cons]
  exact ⟨⟨_, Tryz.func8, (by kernel_rfl), c_law11_knows⟩, fun x hx => by cases hx⟩
theorem codesA_ok : ∀ x ∈ codesK ++ codes, ∃ fn, Tryz.prog.funcs[x.1]? = some fn ∧ (fn.name == "runtime.NumGoroutine") = false ∧ cFunc Tryz.prog gl0 fn = some x.2 := by
  intro x hx
  rcases List.mem_append.mp hx with h | h
  · exact codesK_ok x h
  · exact codes_ok x h
end Go.Am.Tryz


/- slices.SortFunc as a part of the machine: by the kit's contract, at elements of some cells. -/
namespace Go.Am
open Go Go.RowKit Go.Sort

/-- How elements stand in cells. -/
structure Elem (α : Type) where
  k : Nat
  cv : α → List V
  enc : α → List Value
  dec : List V → Option α
  k_pos : 0 < k
  len : ∀ x, (cv x).length = k
  elen : ∀ x, (enc x).length = k
  dec_some : ∀ cs x, dec cs = some x → cs = cv x
  dec_cv : ∀ x, dec (cv x) = some x
  rel : ∀ E x, VRs E (cv x) (enc x)
  rel_eq : ∀ E x us, VRs E (cv x) us → us = enc x
  one : ∀ x, ∀ v ∈ enc x, v.oneCell' = true
  one' : ∀ x, allOne (cv x) = true
  flat : ∀ x, V.flats (cv x) = true

section
variable {α : Type} (e : Elem α)
def Elem.all (l : List α) : List V := l.flatMap e.cv
def Elem.encs (l : List α) : List Value := l.flatMap e.enc
def Elem.decs : Nat → List V → Option (List α)
  | 0, [] => some []
  | 0, _ :: _ => none
  | n + 1, cs => (e.dec (cs.take e.k)).bind fun x => (Elem.decs n (cs.drop e.k)).map (x :: ·)
theorem Elem.all_len (l : List α) : (e.all l).length = l.length * e.k := by
  induction l with
  | nil => simp [Elem.all]
  | cons x l ih => simp only [Elem.all, List.flatMap_cons, List.length_append, List.length_cons, e.len, Nat.add_mul, Nat.one_mul] at ih ⊢; omega
theorem Elem.encs_len (l : List α) : (e.encs l).length = l.length * e.k := by
  induction l with
  | nil => simp [Elem.encs]
  | cons x l ih => simp only [Elem.encs, List.flatMap_cons, List.length_append, List.length_cons, e.elen, Nat.add_mul, Nat.one_mul] at ih ⊢; omega
theorem Elem.decs_some : ∀ {n : Nat} {cs : List V} {l : List α}, e.decs n cs = some l → l.length = n ∧ cs = e.all l
  | 0, [], l, h => by cases h; exact ⟨rfl, rfl⟩
  | 0, _ :: _, l, h => by cases h
  | n + 1, cs, l, h => by
    simp only [Elem.decs, Option.bind_eq_some_iff, Option.map_eq_some_iff] at h
    obtain ⟨x, hx, l', hl, rfl⟩ := h
    obtain ⟨h1, h2⟩ := Elem.decs_some hl
    refine ⟨by simp [h1], ?_⟩
    show cs = e.cv x ++ l'.flatMap e.cv
    rw [← e.dec_some _ _ hx, show l'.flatMap e.cv = e.all l' from rfl, ← h2, List.take_append_drop]
theorem Elem.decs_all : ∀ (l : List α), e.decs l.length (e.all l) = some l
  | [] => rfl
  | x :: l => by
    have h1 : (e.all (x :: l)).take e.k = e.cv x := by
      show (e.cv x ++ l.flatMap e.cv).take e.k = _
      rw [← e.len x, List.take_left]
    have h2 : (e.all (x :: l)).drop e.k = e.all l := by
      show (e.cv x ++ l.flatMap e.cv).drop e.k = _
      rw [← e.len x, List.drop_left]; rfl
    simp only [List.length_cons, Elem.decs, h1, h2, e.dec_cv, Option.bind_some, Elem.decs_all l, Option.map_some]
theorem Elem.rels (E : Emb) : ∀ l : List α, VRs E (e.all l) (e.encs l)
  | [] => .nil
  | x :: l => (e.rel E x).app (Elem.rels E l)
theorem VRs.split {E : Emb} : ∀ {xs ys : List V} {us : List Value}, VRs E (xs ++ ys) us → ∃ u1 u2, us = u1 ++ u2 ∧ VRs E xs u1 ∧ VRs E ys u2
  | [], ys, us, h => ⟨[], us, rfl, .nil, h⟩
  | x :: xs, ys, _, .cons h t => by
    obtain ⟨u1, u2, rfl, h1, h2⟩ := VRs.split t
    exact ⟨_ :: u1, u2, rfl, .cons h h1, h2⟩
theorem Elem.rels_eq (E : Emb) : ∀ (l : List α) (us : List Value), VRs E (e.all l) us → us = e.encs l
  | [], us, h => by cases h; rfl
  | x :: l, us, h => by
    obtain ⟨u1, u2, rfl, h1, h2⟩ := VRs.split h
    rw [e.rel_eq E x u1 h1, Elem.rels_eq E l u2 h2]
    rfl
theorem Elem.all_one : ∀ l : List α, allOne (e.all l) = true
  | [] => rfl
  | x :: l => by
    have : ∀ (a b : List V), allOne a = true → allOne b = true → allOne (a ++ b) = true := by
      intro a b ha hb
      induction a with
      | nil => exact hb
      | cons v a ih =>
        simp only [allOne, cond_true_iff] at ha
        simp only [List.cons_append, allOne, ha.1, cond_true]
        exact ih ha.2
    exact this _ _ (e.one' x) (Elem.all_one l)
theorem Elem.all_flat : ∀ l : List α, V.flats (e.all l) = true
  | [] => rfl
  | x :: l => by
    have : ∀ (a b : List V), V.flats a = true → V.flats b = true → V.flats (a ++ b) = true := by
      intro a b ha hb
      induction a with
      | nil => exact hb
      | cons v a ih =>
        simp only [V.flats, Bool.and_eq_true] at ha
        simp only [List.cons_append, V.flats, ha.1, Bool.true_and]
        exact ih ha.2
    exact this _ _ (e.flat x) (Elem.all_flat l)

/-- A slice that is read: its elements. -/
def SlR (M : Mem) (s : V) (xs : List α) : Prop := ∃ a cap, s = .slice a xs.length cap ∧ (xs = [] ∨ ∃ b o cs ro, a = some (b, o) ∧ M.get b = some (.cells cs ro) ∧ ∀ (i : Nat) (h : i < xs.length), rdCells cs (o + i * e.k) e.k = some (e.cv xs[i]))
theorem SlR.keep {e : Elem α} {M M' : Mem} {s : V} {xs : List α} (h : SlR e M s xs) (hk : ∀ b, s.blk = some b → M'.get b = M.get b) : SlR e M' s xs := by
  obtain ⟨a, cap, rfl, h⟩ := h
  refine ⟨a, cap, rfl, ?_⟩
  rcases h with h | ⟨b, o, cs, ro, rfl, h1, h2⟩
  · exact .inl h
  · exact .inr ⟨b, o, cs, ro, rfl, (hk b rfl).trans h1, h2⟩
theorem Elem.rd (e : Elem α) : ∀ (xs : List α) (i : Nat) (h : i < xs.length), rdCells (e.all xs) (i * e.k) e.k = some (e.cv xs[i])
  | [], i, h => by simp at h
  | x :: xs, 0, h => by
    simp only [Nat.zero_mul, rdCells, Nat.zero_add, ble_iff]
    have hl : (e.all (x :: xs)) = e.cv x ++ e.all xs := rfl
    rw [hl, List.length_append, e.len, decide_eq_true (by omega)]
    simp only [cond_true, List.drop_zero, List.getElem_cons_zero, Option.some.injEq]
    rw [← e.len x, List.take_left]
  | x :: xs, i + 1, h => by
    have ih := Elem.rd e xs i (by simpa using h)
    have hl : (e.all (x :: xs)) = e.cv x ++ e.all xs := rfl
    simp only [rdCells, ble_iff] at ih ⊢
    have hlen := e.all_len xs
    have hi : i < xs.length := by simpa using h
    have h1 : i * e.k + e.k ≤ (e.all xs).length := by
      rw [hlen]
      have := Nat.mul_le_mul_right e.k (show i + 1 ≤ xs.length from hi)
      rw [Nat.add_mul, Nat.one_mul] at this
      exact this
    rw [decide_eq_true h1] at ih
    simp only [cond_true, Option.some.injEq] at ih
    have h2 : (i + 1) * e.k + e.k ≤ (e.all (x :: xs)).length := by
      rw [hl, List.length_append, e.len, Nat.add_mul, Nat.one_mul]
      omega
    rw [decide_eq_true h2]
    simp only [cond_true, Option.some.injEq, List.getElem_cons_succ]
    rw [hl, Nat.add_mul, Nat.one_mul, Nat.add_comm (i * e.k) e.k, ← List.drop_drop, show e.k = (e.cv x).length from (e.len x).symm, List.drop_left]
    rw [e.len]
    exact ih
theorem Hold.slR {e : Elem α} {lo : Nat} {M : Mem} {s : V} {xs : List α} (h : Hold lo M e.k s xs.length (e.all xs)) : SlR e M s xs := by
  generalize hn : xs.length = n at h
  generalize hc : e.all xs = cs at h
  cases h with
  | nil => exact ⟨_, _, by rw [hn], .inl (List.eq_nil_of_length_eq_zero hn)⟩
  | row h1 h2 h3 h4 => exact ⟨_, _, by rw [hn], .inr ⟨_, 0, cs, false, rfl, h1, fun i hi => by rw [← hc, Nat.zero_add]; exact e.rd xs i hi⟩⟩
theorem rd_cell {cs l : List V} {p k : Nat} (h : rdCells cs p k = some l) (j : Nat) (hj : j < k) : cs[p + j]? = l[j]? := by
  unfold rdCells at h
  obtain ⟨h1, h⟩ := cond_some h
  rw [ble_iff, decide_eq_true_eq] at h1
  cases h
  rw [List.getElem?_take, if_pos hj, List.getElem?_drop]
theorem rd_part {cs l : List V} {p k : Nat} (h : rdCells cs p k = some l) (j m : Nat) (hj : j + m ≤ k) : rdCells cs (p + j) m = some ((l.drop j).take m) := by
  unfold rdCells at h ⊢
  obtain ⟨h1, h⟩ := cond_some h
  rw [ble_iff, decide_eq_true_eq] at h1
  cases h
  rw [ble_iff, decide_eq_true (by omega)]
  simp only [cond_true, Option.some.injEq]
  rw [List.drop_take, List.take_take, List.drop_drop, Nat.min_eq_left (by omega)]
/-- The elements of a slice, read. -/
def readSl (M : Mem) (s : V) : Option (List α) :=
  match s with
  | .slice none 0 (.exact 0) => some []
  | .slice (some (b, o)) n _ => match M.get b with
    | some (.cells cs _) => cond (Nat.ble n maxRoom) ((rdCells cs o (n * e.k)).bind fun l => e.decs n l) none
    | _ => none
  | _ => none
theorem readSl_is {e : Elem α} {M : Mem} {s : V} {xs : List α} (h : readSl e M s = some xs) : SlR e M s xs ∧ xs.length ≤ maxRoom := by
  unfold readSl at h
  split at h
  · cases h; exact ⟨⟨_, _, rfl, .inl rfl⟩, by simp⟩
  · rename_i b o n cap
    split at h
    · rename_i cs ro hM
      obtain ⟨hn, h⟩ := cond_some h
      simp only [Option.bind_eq_some_iff] at h
      obtain ⟨l, hl, h⟩ := h
      obtain ⟨h1, rfl⟩ := e.decs_some h
      refine ⟨⟨_, _, by rw [h1], .inr ⟨b, o, cs, ro, rfl, hM, fun i hi => ?_⟩⟩, by rw [h1]; exact Nat.le_of_ble_eq_true hn⟩
      have hr := e.rd xs i hi
      unfold rdCells at hl hr ⊢
      obtain ⟨c1, hl⟩ := cond_some hl
      obtain ⟨c2, hr⟩ := cond_some hr
      rw [ble_iff, decide_eq_true_eq] at c1 c2
      simp only [Option.some.injEq] at hl hr
      have hlen := e.all_len xs
      rw [h1] at hlen
      rw [ble_iff, decide_eq_true (by omega)]
      simp only [cond_true, Option.some.injEq]
      rw [← hr, ← hl, List.drop_take, List.take_take, List.drop_drop, Nat.min_eq_left (by omega)]
    · cases h
  · cases h
theorem readSl_of {e : Elem α} {lo : Nat} {M : Mem} {s : V} {xs : List α} (h : Hold lo M e.k s xs.length (e.all xs)) (hn : xs.length ≤ maxRoom) : readSl e M s = some xs := by
  have hd := e.decs_all xs
  have hl := e.all_len xs
  generalize hq : xs.length = n at h hd hl
  generalize hc : e.all xs = cs at h hd hl
  cases h with
  | nil => simp only [readSl]; rw [List.eq_nil_of_length_eq_zero hq]
  | row h1 h2 h3 h4 =>
    simp only [readSl, h1, rdCells, Nat.zero_add, ble_iff]
    rw [decide_eq_true (by omega), decide_eq_true (by omega)]
    simp only [cond_true, Option.bind_some, List.drop_zero]
    rw [← h2, List.take_length]
    exact hd
/-! ### sorting -/
def ins (lt : α → α → Bool) (x : α) : List α → List α
  | [] => [x]
  | y :: l => cond (lt y x) (y :: ins lt x l) (x :: y :: l)
def isort (lt : α → α → Bool) : List α → List α
  | [] => []
  | x :: l => ins lt x (isort lt l)
theorem ins_perm (lt : α → α → Bool) (x : α) : ∀ l : List α, (ins lt x l).Perm (x :: l)
  | [] => .refl _
  | y :: l => by
    simp only [ins]
    cases lt y x
    · exact .refl _
    · exact ((ins_perm lt x l).cons y).trans (.swap x y l)
theorem isort_perm (lt : α → α → Bool) : ∀ l : List α, (isort lt l).Perm l
  | [] => .refl _
  | x :: l => (ins_perm lt x _).trans ((isort_perm lt l).cons x)
theorem isort_len (lt : α → α → Bool) (l : List α) : (isort lt l).length = l.length := (isort_perm lt l).length_eq
variable [Inhabited α]
theorem ins_sorted {lt : α → α → Bool} (hO : SWO lt) (x : α) : ∀ l : List α, l.Pairwise (fun a b => lt b a = false) → (ins lt x l).Pairwise (fun a b => lt b a = false)
  | [], _ => by simp [ins]
  | y :: l, h => by
    rw [List.pairwise_cons] at h
    simp only [ins]
    cases hxy : lt y x with
    | true =>
      simp only [cond_true]
      rw [List.pairwise_cons]
      refine ⟨fun z hz => ?_, ins_sorted hO x l h.2⟩
      rcases List.mem_cons.1 ((ins_perm lt x l).mem_iff.1 hz) with rfl | hz
      · cases hq : lt z y with
        | false => rfl
        | true => have := hO.trans _ _ _ hq hxy; rw [hO.irrefl] at this; cases this
      · exact h.1 z hz
    | false =>
      simp only [cond_false]
      rw [List.pairwise_cons]
      refine ⟨fun z hz => ?_, List.pairwise_cons.2 h⟩
      rcases List.mem_cons.1 hz with rfl | hz
      · exact hxy
      · exact hO.ntrans _ _ _ (h.1 z hz) hxy
theorem isort_sorted {lt : α → α → Bool} (hO : SWO lt) : ∀ l : List α, (isort lt l).Pairwise (fun a b => lt b a = false)
  | [] => .nil
  | x :: l => ins_sorted hO x _ (isort_sorted hO l)
theorem sorted_is_isort {lt : α → α → Bool} (hO : SWO lt) (hT : ∀ x y, lt x y = false → lt y x = false → x = y) {l : List α} {d' : Array α} (hp : PermIn 0 l.toArray.size l.toArray d') (hs : SortedIn lt 0 l.toArray.size d') : d' = (isort lt l).toArray := by
  have h1 := sorted_unique_holds hO hT l.toArray d' hp hs
  have h2 := sorted_unique_holds hO hT l.toArray (isort lt l).toArray
    ⟨by simp [isort_len], fun i hi => by
      rcases hi with hi | hi
      · omega
      · rw [getElem!_neg _ _ (by simp [isort_len]; simpa using hi), getElem!_neg _ _ (by simpa using hi)], by
      have e1 : (isort lt l).toArray.extract 0 l.toArray.size = (isort lt l).toArray := by
        rw [show l.toArray.size = (isort lt l).toArray.size by simp [isort_len]]; exact Array.extract_size
      rw [e1, Array.extract_size]
      exact isort_perm lt l⟩
    (fun i j _ hij hj => by
      have := isort_sorted hO l
      rw [List.pairwise_iff_getElem] at this
      have hj' : j < (isort lt l).length := by rw [isort_len]; simpa using hj
      have := this i j (by omega) hj' hij
      simpa [hj', show i < (isort lt l).length by omega] using this)
  exact Array.toList_inj.1 (h1.trans h2.symm)
end
end Go.Am


/- slices.SortFunc as a part of the machine. -/
namespace Go.Am
open Go Go.RowKit Go.Sort Go.Proofs Go.Shelf

section
variable {P : Program} {gl : Nat → Bool} {α : Type} [Inhabited α]

theorem flatK_encs (e : Elem α) (l : List α) : (flatK e.enc e.k l.toArray).toList = e.encs l := by
  apply List.ext_getElem?
  intro t
  by_cases ht : t < l.length * e.k
  · have hk := e.k_pos
    have hq : t / e.k < l.length := (Nat.div_lt_iff_lt_mul hk).2 ht
    have hr : t % e.k < e.k := Nat.mod_lt _ hk
    have h1 : (flatK e.enc e.k l.toArray)[t]! = (e.enc l.toArray[t / e.k]!)[t % e.k]! := get_flatK _ _ _ _ (by simpa using ht)
    have hsz : t < (flatK e.enc e.k l.toArray).size := by simpa using ht
    rw [getElem!_pos (flatK e.enc e.k l.toArray) t hsz] at h1
    have h2 : l.toArray[t / e.k]! = l[t / e.k] := by simp [hq]
    rw [h2] at h1
    have h3 : (e.enc l[t / e.k])[t % e.k]! = (e.enc l[t / e.k])[t % e.k]'(by rw [e.elen]; exact hr) := by rw [getElem!_pos]
    rw [h3] at h1
    rw [Array.getElem?_toList, Array.getElem?_eq_getElem hsz, h1]
    -- the flat list at t
    have key : ∀ (l : List α) (t : Nat) (hq : t / e.k < l.length), (e.encs l)[t]? = some ((e.enc l[t / e.k])[t % e.k]'(by rw [e.elen]; exact Nat.mod_lt _ hk)) := by
      intro l
      induction l with
      | nil => intro t hq; simp at hq
      | cons x l ih =>
        intro t hq
        show (e.enc x ++ e.encs l)[t]? = _
        by_cases hlt : t < e.k
        · have h0 : t / e.k = 0 := Nat.div_eq_of_lt hlt
          have hm : t % e.k = t := Nat.mod_eq_of_lt hlt
          rw [List.getElem?_append_left (by rw [e.elen]; exact hlt)]
          simp [h0, hm, e.elen, hlt]
        · obtain ⟨u, rfl⟩ : ∃ u, t = u + e.k := ⟨t - e.k, by omega⟩
          have h0 : (u + e.k) / e.k = u / e.k + 1 := Nat.add_div_right u hk
          have hm : (u + e.k) % e.k = u % e.k := Nat.add_mod_right u e.k
          rw [List.getElem?_append_right (by rw [e.elen]; omega), e.elen, Nat.add_sub_cancel]
          have := ih u (by rw [h0] at hq; simpa using hq)
          rw [this]
          simp [h0, hm]
    exact (key l t hq).symm
  · rw [Array.getElem?_toList, Array.getElem?_eq_none (by simp; omega), List.getElem?_eq_none (by rw [e.encs_len]; omega)]

/-- What the sort does to a row. -/
def sortP (e : Elem α) (g : FuncId) (lt : α → α → Bool) (args : List V) (M : Mem) : Option (V × Mem) :=
  match args with
  | [.slice none 0 (.exact 0), .fn g' [] []] => cond (Nat.beq g' g) (some (.tup [], M)) none
  | [.slice (some (b, 0)) n _, .fn g' [] []] => cond (Nat.beq g' g) (cond (Nat.ble n maxRoom) (match M.get b with
      | some (.cells cs false) => (e.decs n cs).map fun l => (.tup [], M.set b (.cells (e.all (isort lt l)) false))
      | _ => none) none) none
  | _ => none

theorem Rel.heapEq {E : Emb} {M : Mem} {w w' : World} (h : Rel E M w) (hh : w'.heap = w.heap) : Rel E M w' := ⟨fun b c d k hb => by rw [hh]; exact h.at_ b c d k hb, fun b c d k hb => by rw [hh]; exact h.lt b c d k hb, h.inj, h.wf⟩
theorem Rel.grow {E : Emb} {M : Mem} {w : World} (h : Rel E M w) (os : Array Obj) : Rel E M (Go.Sort.grow w os) ∧ Ext E M w E M (Go.Sort.grow w os) := by
  have hk : ∀ c, c < w.heap.size → (w.heap ++ os)[c]? = w.heap[c]? := fun c hc => Array.getElem?_append_left hc
  refine ⟨⟨fun b c d k hb => ?_, fun b c d k hb => ?_, h.inj, h.wf⟩, ⟨Emb.le_refl E, rfl, rfl, rfl, ?_, Nat.le_refl _, fun c hc _ => hk c hc, fun b c d k h1 h2 => by (rw [h1] at h2; cases h2), fun _ _ => rfl, Nat.le_refl _⟩⟩
  · obtain ⟨o, ho, hr⟩ := h.at_ b c d k hb
    exact ⟨o, ho, by show OR E o (w.heap ++ os)[c]? d k; rw [hk c (h.lt b c d k hb)]; exact hr⟩
  · show c < (w.heap ++ os).size
    have := h.lt b c d k hb
    simp
    omega
  · show w.heap.size ≤ (w.heap ++ os).size
    simp

theorem sort_callOK {ρ : Ren} (L : SlLaysF0.n6 P ρ) (e : Elem α) (aE : ∀ w, (isAgg (ρ.t 24)).run P w = .ok true w) (zE : ∀ w, (Go.sizeOf (ρ.t 24)).run P w = .ok e.k w) (cf : α → α → Int) (hO : SWO (ltOf cf)) (hT : ∀ x y, (ltOf cf) x y = false → (ltOf cf) y x = false → x = y) (g : FuncId)
    (hg : Callable P g) (hc : Callable P (ρ.f 6))
    (hcmp : ∀ (x y : α) (w : World), Calls P g #[.agg (e.enc x).toArray, .agg (e.enc y).toArray] w fun r w' => r = .returned (.int .i64 (cf x y)) ∧ ∃ q os, w' = Go.Sort.grow (w.drewN q) os) :
    CallOK P gl fun f' args M => if f' = ρ.f 6 then sortP e g (ltOf cf) args M else none := by
  intro f' args M v M' he
  simp only at he
  split at he
  · rename_i ef
    subst ef
    refine ⟨hc, fun E w args' hR hG hA => ?_⟩
    unfold sortP at he
    split at he
    · rename_i g'
      obtain ⟨h1, he⟩ := cond_some he
      cases he
      have : ∃ fv, args' = #[.slice none 0 0, fv] := by
        obtain ⟨l⟩ := args'
        simp only at hA
        cases hA with
        | cons h1 t => cases h1 with | sliceNil => cases t with | cons h2 t => cases t; exact ⟨_, rfl⟩
      obtain ⟨fv, rfl⟩ := this
      refine (AnyF.slices_SortFunc_none L none 0 fv w).mono ?_
      rintro r w' ⟨rfl, rfl⟩
      exact ⟨E, _, rfl, .tup (cs' := #[]) .nil, hR, Ext.refl E M w'⟩
    · rename_i b n cap g'
      obtain ⟨h1, he1⟩ := cond_some he
      clear he
      have : g' = g := Nat.eq_of_beq_eq_true h1
      subst this
      obtain ⟨h2, he⟩ := cond_some he1
      have hn : n ≤ maxRoom := Nat.le_of_ble_eq_true h2
      split at he
      · rename_i cs hM
        simp only [Option.map_eq_some_iff] at he
        obtain ⟨l, hl, he⟩ := he
        cases he
        obtain ⟨hln, rfl⟩ := e.decs_some hl
        -- the arguments
        have : ∃ sv, args' = #[sv, .func (.func g') #[] #[]] ∧ VR E (.slice (some (b, 0)) n cap) sv := by
          obtain ⟨l⟩ := args'
          simp only at hA
          cases hA with
          | cons h1 t => cases t with
            | cons h2 t => cases t; cases h2 with
              | fn ha hb =>
                rename_i a' b'
                cases ha' : a' with | mk la => cases hb' : b' with | mk lb =>
                rw [ha'] at ha; rw [hb'] at hb
                cases ha; cases hb
                exact ⟨_, rfl, h1⟩
        obtain ⟨sv, rfl, hsv⟩ := this
        have hown : own M b := by unfold own; rw [hM]; trivial
        by_cases hn0 : n = 0
        · have hl0 : l = [] := List.eq_nil_of_length_eq_zero (by omega)
          subst hl0
          subst hn0
          have : ∃ p c, sv = .slice p 0 c := by
            cases hsv with
            | slice => exact ⟨_, _, rfl⟩
            | sliceZero => exact ⟨_, _, rfl⟩
          obtain ⟨p, c, rfl⟩ := this
          refine (AnyF.slices_SortFunc_none L p c _ w).mono ?_
          rintro r w' ⟨rfl, rfl⟩
          cases hsv with
          | slice hE _ _ =>
            obtain ⟨o, ho, hor⟩ := hR.at_ b _ _ _ hE
            rw [hM] at ho
            cases ho
            obtain ⟨arr, elem, fz, hx, hrest⟩ := hor
            obtain ⟨p1, p2⟩ := hR.setBlock (o' := .cells (e.all (isort (ltOf cf) [])) false) (w' := w') hE hown trivial rfl rfl rfl (Nat.le_refl _) rfl hx (fun _ _ => rfl) ⟨arr, elem, fz, rfl, hrest⟩
            exact ⟨E, _, rfl, .tup (cs' := #[]) .nil, p1, p2⟩
          | sliceZero hE _ _ =>
            obtain ⟨o, ho, hor⟩ := hR.at_ b _ _ _ hE
            rw [hM] at ho
            cases ho
            obtain ⟨arr, elem, fz, hx, hrest⟩ := hor
            obtain ⟨p1, p2⟩ := hR.setBlock (o' := .cells (e.all (isort (ltOf cf) [])) false) (w' := w') hE hown trivial rfl rfl rfl (Nat.le_refl _) rfl hx (fun _ _ => rfl) ⟨arr, elem, fz, rfl, hrest⟩
            exact ⟨E, _, rfl, .tup (cs' := #[]) .nil, p1, p2⟩
        · cases hsv with
          | sliceZero => exact absurd rfl hn0
          | slice hE hcap hnc =>
            rename_i c d kk c'
            obtain ⟨o, ho, hor⟩ := hR.at_ b c d kk hE
            rw [hM] at ho
            cases ho
            obtain ⟨arr, elem, fz, hx, hcr, hk, hfree⟩ := hor
            have hfree := hfree rfl
            have hlen := e.all_len l
            have hcell : ∀ t, t < l.length * e.k → ∃ u, arr[d + t]? = some u ∧ (e.encs l)[t]? = some u := by
              intro t ht
              have hv : (e.all l)[t]? = some (e.all l)[t] := List.getElem?_eq_getElem (by omega)
              obtain ⟨u, hu, hvu⟩ := hcr t _ hv
              obtain ⟨u2, hu2, hvu2⟩ := (e.rels E l).get t _ hv
              refine ⟨u, hu, ?_⟩
              -- both stand for the one cell
              have hF := (e.all_flat l)
              have hone : ∀ {x : V} {y z : Value}, x.flat = true → VR E x y → VR E x z → (∃ q : V, True) := fun _ _ _ => ⟨.nilFn, trivial⟩
              have : u2 = u := by
                have hall : VRs E (e.all l) ((e.encs l).set t u) := by
                  refine VRs.of_get (by rw [List.length_set]; exact (e.rels E l).length) fun i v hi => ?_
                  obtain ⟨y, hy, hvy⟩ := (e.rels E l).get i v hi
                  by_cases hit : i = t
                  · subst hit
                    rw [hv] at hi
                    cases hi
                    exact ⟨u, by rw [List.getElem?_set_self (by rw [e.encs_len]; exact ht)], hvu⟩
                  · exact ⟨y, by rw [List.getElem?_set_ne (Ne.symm hit)]; exact hy, hvy⟩
                have := e.rels_eq E l _ hall
                have h3 : ((e.encs l).set t u)[t]? = some u := List.getElem?_set_self (by rw [e.encs_len]; exact ht)
                rw [this, hu2] at h3
                exact Option.some.inj h3
              rw [← this]; exact hu2
            have hsz : ∀ t, t < l.length * e.k → d + t < arr.size := fun t ht => by
              obtain ⟨u, hu, _⟩ := hcell t ht
              exact (Array.getElem?_eq_some_iff.1 hu).1
            have hflat := flatK_encs e l
            have hH : HoldsK e.enc e.k w c d l.toArray := by
              intro j hj
              have hj' : j < l.length * e.k := by simpa using hj
              obtain ⟨u, hu, hu2⟩ := hcell j hj'
              rw [← hflat, Array.getElem?_toList] at hu2
              have hq : (flatK e.enc e.k l.toArray)[j]! = u := by
                rw [getElem!_pos (flatK e.enc e.k l.toArray) j hj]
                rw [Array.getElem?_eq_getElem hj] at hu2
                exact Option.some.inj hu2
              refine ⟨?_, ?_⟩
              · rw [hq]
                simp only [World.cell?, hx]
                exact hu
              · simp only [World.frozen?, hx]
                have := hfree (d + j) (hsz j hj')
                simpa using this
            have hclt := hR.lt b c d kk hE
            have hgE : ∀ args w, (callFunc g' args).run P w = .ok (.enter g' args) w := fun args w => run_callFunc hg args w
            have hcl : CmpLays P g' #[] e.enc e.k cf c d l.toArray.size w := fun m os dk _ x y => by
              have := hcmp x y (sortWorldK e.enc e.k w c d m dk os)
              simpa using this
            have hcall := AnyQ.slices_SortFunc L e.k aE zE e.enc e.elen e.one cf hO g' #[] c d c' l.toArray w hgE hcl hH hclt (by simp; unfold maxRoom at hn; omega)
            rw [show (⟨c, d + 0, none⟩ : Addr) = ⟨c, d, none⟩ from rfl, show n = l.toArray.size by simp [hln]]
            refine hcall.mono ?_
            rintro r w' ⟨rfl, d', q, os, hp, hs, rfl⟩
            have hd' := sorted_is_isort hO hT hp hs
            subst hd'
            -- the row laid anew
            have hR1 : Rel E M (Go.Sort.ahead w q) := hR.heapEq rfl
            have hX1 : Ext E M w E M (Go.Sort.ahead w q) := ⟨Emb.le_refl E, rfl, rfl, rfl, Nat.le_refl _, Nat.le_refl _, fun _ _ _ => rfl, fun b c d k h1 h2 => by (rw [h1] at h2; cases h2), fun _ _ => rfl, Nat.le_add_right _ _⟩
            have hflat2 := flatK_encs e (isort (ltOf cf) l)
            have hl2 := isort_len (ltOf cf) l
            generalize isort (ltOf cf) l = l2 at *
            have hx2 : (putRowK e.enc e.k (Go.Sort.ahead w q) c d l2.toArray).heap[c]? = some (.cells (putCells id d (flatK e.enc e.k l2.toArray) arr) elem fz) := by
              show (w.heap.modify c _)[c]? = _
              rw [Array.getElem?_modify, if_pos rfl, hx]
              rfl
            have hoth : ∀ i, i ≠ c → (putRowK e.enc e.k (Go.Sort.ahead w q) c d l2.toArray).heap[i]? = (Go.Sort.ahead w q).heap[i]? := by
              intro i hi
              show (w.heap.modify c _)[i]? = _
              rw [Array.getElem?_modify, if_neg (Ne.symm hi)]
              rfl
            have hps : (putCells id d (flatK e.enc e.k l2.toArray) arr).size = arr.size := by simp [putCells]
            obtain ⟨p1, p2⟩ := hR1.setBlock (o' := .cells (e.all l2) false) (w' := putRowK e.enc e.k (Go.Sort.ahead w q) c d l2.toArray) hE hown trivial rfl rfl rfl (Nat.le_refl _) (by simp [putRowK]) hx2 hoth
              ⟨_, elem, fz, rfl, fun i v hi => by
                have hil := (List.getElem?_eq_some_iff.1 hi).1
                rw [e.all_len] at hil
                obtain ⟨u, hu, hvu⟩ := (e.rels E l2).get i v hi
                refine ⟨u, ?_, hvu⟩
                have hii := hsz i (by rw [← hl2]; exact hil)
                rw [← hflat2, Array.getElem?_toList] at hu
                have hF : i < (flatK e.enc e.k l2.toArray).size := by simpa using hil
                simp only [putCells, Array.getElem?_mapIdx, Array.getElem?_eq_getElem hii, Option.map_some, id]
                rw [if_pos ⟨by omega, by omega⟩, Nat.add_sub_cancel_left, getElem!_pos (flatK e.enc e.k l2.toArray) i hF]
                rw [Array.getElem?_eq_getElem hF] at hu
                exact hu, by rw [hps]; exact hk, fun _ => by rw [hps]; exact hfree⟩
            obtain ⟨p3, p4⟩ := p1.grow os
            exact ⟨E, _, rfl, .tup (cs' := #[]) .nil, p3, (hX1.trans p2).trans p4⟩
      · cases he
    · cases he
  · cases he
end
end Go.Am


/- The row: slices of flat elements handed in; a law's run from memory in which they stand. -/
namespace Go.Am
open Go Go.RowKit Go.ChangeShapes Go.WideShapes

/-! ### memory that is only read -/
/-- Blocks only read: their cells; where they stand in the world. -/
abbrev Env := List (List V × Nat × Nat × Nat)
def Env.mem : Env → Mem
  | l => l.foldl (fun M x => M.push (.cells x.1 true)) mem0
def Env.emb (l : Env) : Emb := fun b => l[b]?.map (·.2)
def Env.ok (l : Env) (w : World) : Prop := ∀ x ∈ l, ∃ arr elem fz, w.heap[x.2.1]? = some (.cells arr elem fz) ∧ (∀ E, CR E x.1 arr x.2.2.1) ∧ x.2.2.1 + x.2.2.2 = arr.size

theorem env_fold : ∀ (l : Env) (M : Mem), (∀ b, M.next ≤ b → M.get b = none) →
    (l.foldl (fun M x => M.push (.cells x.1 true)) M).next = M.next + l.length ∧ (∀ b, b < M.next → (l.foldl (fun M x => M.push (.cells x.1 true)) M).get b = M.get b) ∧
    (∀ i, (l.foldl (fun M x => M.push (.cells x.1 true)) M).get (M.next + i) = l[i]?.map fun x => .cells x.1 true)
  | [], M, hM => ⟨rfl, fun _ _ => rfl, fun i => by simpa using hM _ (by omega)⟩
  | x :: l, M, hM => by
    have h1 : ∀ b, (M.push (.cells x.1 true)).next ≤ b → (M.push (.cells x.1 true)).get b = none := fun b hb => by
      rw [Mem.next_push] at hb
      rw [Mem.get_push_ne _ _ (by omega)]
      exact hM b (by omega)
    obtain ⟨a, b, c⟩ := env_fold l (M.push (.cells x.1 true)) h1
    simp only [List.foldl_cons]
    refine ⟨by rw [a, Mem.next_push, List.length_cons]; omega, fun d hd => ?_, fun i => ?_⟩
    · rw [b d (by rw [Mem.next_push]; omega), Mem.get_push_ne _ _ (by omega)]
    · cases i with
      | zero => rw [Nat.add_zero, b _ (by rw [Mem.next_push]; omega), Mem.get_push_same]; rfl
      | succ i =>
        have := c i
        rw [Mem.next_push] at this
        rw [show M.next + (i + 1) = M.next + 1 + i from by omega, this]
        rfl
theorem Env.next_mem (l : Env) : l.mem.next = l.length := by
  have := (env_fold l mem0 (fun b _ => rfl)).1
  simpa [Env.mem, mem0] using this
theorem Env.get_mem (l : Env) (i : Nat) : l.mem.get i = l[i]?.map fun x => .cells x.1 true := by
  have := (env_fold l mem0 (fun b _ => rfl)).2.2 i
  simpa [Env.mem, mem0] using this

theorem Env.rel {l : Env} {w : World} (h : l.ok w) : Rel l.emb l.mem w := by
  have hat : ∀ b c d k, l.emb b = some (c, d, k) → ∃ x, l[b]? = some x ∧ x.2 = (c, d, k) := fun b c d k hb => by
    simp only [Env.emb, Option.map_eq_some_iff] at hb
    exact hb
  refine ⟨fun b c d k hb => ?_, fun b c d k hb => ?_, fun b b' c d k d' k' hb _ ho _ => ?_, fun b hb => ?_⟩
  · obtain ⟨⟨cs, c', d', k'⟩, hx, he⟩ := hat b c d k hb
    cases he
    obtain ⟨arr, elem, fz, h1, h2, h3⟩ := h _ (List.mem_of_getElem? hx)
    exact ⟨.cells cs true, by rw [l.get_mem, hx]; rfl, arr, elem, fz, h1, h2 _, h3, fun hf => by cases hf⟩
  · obtain ⟨⟨cs, c', d', k'⟩, hx, he⟩ := hat b c d k hb
    cases he
    obtain ⟨arr, elem, fz, h1, _⟩ := h _ (List.mem_of_getElem? hx)
    exact (Array.getElem?_eq_some_iff.mp h1).1
  · obtain ⟨x, hx, _⟩ := hat b c d k hb
    have : l.mem.get b = some (.cells x.1 true) := by rw [l.get_mem, hx]; rfl
    simp only [own, this] at ho
  · rw [l.next_mem] at hb
    rw [l.get_mem, List.getElem?_eq_none hb]
    rfl

/-! ### what is read of a slice -/
theorem flat_at {arr : Array Value} {es : Nat} : ∀ (rows : List (List Value)) (off : Nat), (∀ r ∈ rows, r.length = es) → (∀ i (h : i < rows.length), ∀ j, j < es → arr[off + i * es + j]? = rows[i][j]?) → ∀ (j : Nat) (u : Value), rows.flatten[j]? = some u → arr[off + j]? = some u
  | [], _, _, _, j, u, h => by simp at h
  | r :: rs, off, hr, ha, j, u, h => by
    have hrl := hr r (List.mem_cons_self ..)
    rw [List.flatten_cons] at h
    rcases Nat.lt_or_ge j es with hj | hj
    · rw [List.getElem?_append_left (by omega)] at h
      have := ha 0 (by simp) j hj
      rw [Nat.zero_mul, Nat.add_zero] at this
      rw [this]
      exact h
    · rw [List.getElem?_append_right (by omega), hrl] at h
      have := flat_at rs (off + es) (fun r hr' => hr r (List.mem_cons_of_mem _ hr')) (fun i hi j hj => by
        have := ha (i + 1) (by simp; omega) j hj
        rw [List.getElem_cons_succ] at this
        rw [← this]
        congr 1
        rw [Nat.add_mul]; omega) (j - es) u h
      rw [← this]
      congr 1
      omega

section
variable {H : Type} {enc : TypeId × Value → H} {P : Program} {W : World}

theorem cells_at {w : World} {a : Addr} {n : Nat} {cs : List Value} (h : w.cells? 0 a n = some cs) : cs.length = n ∧ ∀ i, i < n → w.cell? (a.add i) = cs[i]? := by
  unfold World.cells? at h
  rw [if_pos (Nat.zero_le _)] at h
  have hl := mapM_some_length h
  rw [List.length_range] at hl
  refine ⟨hl, fun i hi => ?_⟩
  have := mapM_some_get h i i (by rw [List.getElem?_range hi])
  exact this

theorem cells_keep {w w' : World} (hb : ∀ c, c < w.heap.size → w'.heap[c]? = w.heap[c]?) {a : Addr} {n : Nat} {cs : List Value} (hn : 0 < n) (h : w.cells? 0 a n = some cs) : w'.cells? 0 a n = some cs ∧ a.block < w.heap.size := by
  obtain ⟨hl, hc⟩ := cells_at h
  have h0 := hc 0 hn
  rw [List.getElem?_eq_getElem (by omega)] at h0
  have hlt : a.block < w.heap.size := by
    unfold World.cell? at h0
    split at h0
    · rename_i c _ _ hh
      have := (Array.getElem?_eq_some_iff.mp hh).1
      simpa [Addr.add] using this
    · cases h0
  refine ⟨?_, hlt⟩
  rw [← h]
  unfold World.cells?
  rw [if_pos (Nat.zero_le _), if_pos (Nat.zero_le _)]
  congr 1
  funext i
  unfold World.cell?
  have : (a.add i).block = a.block := by unfold Addr.add; split <;> rfl
  rw [this, hb _ hlt]

theorem add_spec {a : Addr} (hs : a.spot = none) (n : Nat) : a.add n = ⟨a.block, a.off + n, none⟩ := by
  unfold Addr.add
  split
  · rename_i h
    subst h
    obtain ⟨b, o, s⟩ := a
    simp only at hs
    subst hs
    rfl
  · rfl

theorem ok_slice {r : Reach} {t e : TypeId} {b0 : Nat} {v : Value} (hu : P.underlying t = some (.slice e)) (hok : Cell.ok P W r b0 t v) : v = .slice none 0 0 ∨ ∃ a len cap, v = .slice (some a) len cap ∧ len ≤ cap ∧ W.has P r b0 a e cap := by
  unfold Cell.ok at hok
  rw [hu] at hok
  split at hok
  all_goals first | (rename_i hh; cases hh; done) | (rename_i hh _; cases hh; done) | skip
  · exact .inl rfl
  · rename_i e' a len cap he
    cases he
    exact .inr ⟨a, len, cap, rfl, hok.1, hok.2.2⟩
  · exact hok.elim

/-- A slice of flat elements handed in: nil, or the elements, where they stand, and its reading behind a run that keeps what was. -/
theorem open_rows {α : Type} (el : Elem α) {t e : TypeId} {ks : List CK} {n b0 : Nat} {v : Value} {d : DataW H} {p : List MemPlace} (hu : P.underlying t = some (.slice e)) (hk : shape P n e = some ks) (hc : P.cellsOf e = el.k)
    (hfit : ∀ r, Fits ks r → ∃ x, el.enc x = r) (hv : Value.okWide P W .any b0 t v) (h : DataW.Trod enc P W 0 (fun _ => true) true t v d p) :
    (∀ W', Below W.heap.size W W' → DataW.Trod enc P W' 0 (fun b => decide (b < W.heap.size)) true t v d p) ∧
    (v = .slice none 0 0 ∨ ∃ (a : Addr) (len cap : Nat) (xs : List α) (c o k : Nat), v = .slice (some a) len cap ∧ len ≤ cap ∧ cap ≤ maxLen ∧ xs.length = cap ∧ (∀ r ∈ xs, Fits ks (el.enc r)) ∧ Env.ok [(el.all xs, c, o, k)] W ∧
      ∀ E b, E b = some (c, o, k) → VR E (.slice (some (b, 0)) len (.exact cap)) v) := by
  have hkp := el.k_pos
  obtain ⟨fuel, hf⟩ := h
  have hok : Cell.ok P W .any b0 t v := by
    have := hv
    unfold Value.okWide Cell.okWide at this
    rw [hu] at this
    exact this
  rcases ok_slice hu hok with rfl | ⟨a, len, cap, rfl, hlc, hhas⟩
  · rcases Go.Deep.open_slice hu hf with ⟨_, hx⟩ | ⟨a, len, cap, m, n', D, Pl, he, _⟩
    · cases hx
      exact ⟨fun W' _ => shut_slice_nil hu, .inl rfl⟩
    · simp [Value.cells] at he
  · obtain ⟨_, hspot, row, ncells, hsh, _⟩ := hhas
    have hblk : ∃ arr fz, W.heap[a.block]? = some (.cells arr row fz) := by
      unfold World.shape? at hsh
      split at hsh
      · rename_i c el' fz hh
        cases hsh
        exact ⟨c, fz, hh⟩
      · cases hsh
    obtain ⟨arr, fz, harr⟩ := hblk
    have hlt : a.block < W.heap.size := (Array.getElem?_eq_some_iff.mp harr).1
    rcases Go.Deep.open_slice hu hf with ⟨he, _⟩ | ⟨a', len', cap', m, n', D, Pl, he, _, _, hcm, hm, hx, hall⟩
    · simp [Value.cells] at he
    · simp only [Value.cells, List.cons.injEq, Value.slice.injEq, Option.some.injEq, and_true] at he
      obtain ⟨rfl, rfl, rfl⟩ := he
      simp only [if_true] at hm
      subst hm
      rw [hc] at hall
      refine ⟨fun W' bel => ?_, .inr ?_⟩
      · obtain ⟨k, hk'⟩ := Go.Deep.shut_slice_whole_cells (enc := enc) (w := W') (base := 0) (spare := fun b => decide (b < W.heap.size)) (held := true) hu (Nat.zero_le _) hlc hcm (by simpa using hlt) D Pl (fun i hi => by
          rw [hc]
          obtain ⟨cs', h1, h2⟩ := hall i hi
          exact ⟨cs', n', (cells_keep bel.block hkp h1).1, (flat_trod n e ks hk n' cs' _ h2).2.2 _ _ _⟩)
        refine ⟨k, ?_⟩
        rw [hx]
        exact hk'
      · have hX : ∀ i : Fin m, ∃ x : α, W.cells? 0 (a.add (i.1 * el.k)) el.k = some (el.enc x) ∧ Fits ks (el.enc x) := fun i => by
          obtain ⟨cs', h1, h2⟩ := hall i.1 i.2
          have hf' := (flat_trod n e ks hk n' cs' _ h2).1
          obtain ⟨x, rfl⟩ := hfit _ hf'
          exact ⟨x, h1, hf'⟩
        obtain ⟨X, hX⟩ := Classical.axiomOfChoice hX
        have hat : ∀ i (h : i < m) j, j < el.k → arr[a.off + i * el.k + j]? = (el.enc (X ⟨i, h⟩))[j]? := fun i h j hj => by
          obtain ⟨_, h2⟩ := cells_at (hX ⟨i, h⟩).1
          rw [← h2 j hj, add_spec hspot, add_spec rfl]
          unfold World.cell?
          simp only [harr]
          rfl
        have hflat : ∀ j u, (el.encs (List.ofFn X))[j]? = some u → arr[a.off + j]? = some u := fun j u hu' => by
          refine flat_at (es := el.k) ((List.ofFn X).map el.enc) a.off ?_ ?_ j u ?_
          · intro r hr
            obtain ⟨x, _, rfl⟩ := List.mem_map.mp hr
            exact el.elen x
          · intro i hi j' hj'
            have hi' : i < m := by simpa using hi
            rw [hat i hi' j' hj']
            simp
          · rw [← List.flatMap_def]; exact hu'
        have hfits : ∀ r ∈ List.ofFn X, Fits ks (el.enc r) := fun r hr => by
          obtain ⟨i, rfl⟩ := List.mem_ofFn.mp hr
          exact (hX i).2
        rcases Nat.eq_zero_or_pos m with hz | hz
        · subst hz
          have hl0 : len = 0 := by omega
          subst hl0
          refine ⟨a, 0, 0, [], a.block, 0, arr.size, rfl, Nat.le_refl _, hcm, rfl, fun r hr => absurd hr (by simp), ?_, fun E b hb => .sliceZero hb hspot rfl⟩
          intro x hx'
          simp only [List.mem_singleton] at hx'
          subst hx'
          exact ⟨arr, row, fz, harr, fun E i v hv => by simp [Elem.all] at hv, by simp⟩
        · have hoff : a.off < arr.size := by
            have h0 := hat 0 hz 0 hkp
            rw [List.getElem?_eq_getElem (by rw [el.elen]; exact hkp)] at h0
            have := (Array.getElem?_eq_some_iff.mp h0).1
            omega
          refine ⟨a, len, m, List.ofFn X, a.block, a.off, arr.size - a.off, rfl, hlc, hcm, by simp, hfits, ?_, fun E b hb => ?_⟩
          · intro x hx'
            simp only [List.mem_singleton] at hx'
            subst hx'
            refine ⟨arr, row, fz, harr, fun E i v hv => ?_, by simp only; omega⟩
            obtain ⟨u, hu', hr⟩ := VRs.get (el.rels E (List.ofFn X)) i v hv
            exact ⟨u, hflat i u hu', hr⟩
          · have : a = ⟨a.block, a.off + 0, none⟩ := by rw [← add_spec hspot 0]; rfl
            rw [this]
            exact .slice hb rfl hlc
end
end Go.Am


/- Stamps: how they stand in cells, how they are compared, sorted. -/
namespace Go.Proofs
open Go.Shelf
def Tryz.sortSt_ren : Go.Shelf.Ren := ⟨fun | 6 => 142 | 15 => 150 | 14 => 155 | 28 => 166 | 29 => 167 | 20 => 168 | 21 => 169 | 22 => 170 | 23 => 171 | 24 => 172 | 25 => 173 | 26 => 174 | 27 => 175 | 46 => 182 | 47 => 178 | 48 => 179 | 49 => 183 | 50 => 184 | 57 => 186 | n => n, fun | 22 => 58 | 24 => 24 | 25 => 130 | 3 => 3 | 39 => 189 | 0 => 0 | 53 => 206 | 55 => 208 | 4 => 4 | 46 => 200 | 45 => 199 | 50 => 113 | 5 => 5 | 9 => 9 | 66 => 214 | 70 => 218 | 76 => 222 | 77 => 82 | n => n, fun | n => n⟩
theorem Tryz.sortSt : Go.Proofs.SlLaysF0.n6 Tryz.prog Tryz.sortSt_ren := {
  mixed := by kernel_rfl
  f6 := ⟨Tryz.f142.name, by decide, Tryz.func142.trans (congrArg some (by kernel_rfl))⟩
  f14 := ⟨Tryz.f155.name, by decide, Tryz.func155.trans (congrArg some (by kernel_rfl))⟩
  f15 := Tryz.func150.trans (congrArg some (by kernel_rfl))
  f20 := ⟨Tryz.f168.name, by decide, Tryz.func168.trans (congrArg some (by kernel_rfl))⟩
  f21 := ⟨Tryz.f169.name, by decide, Tryz.func169.trans (congrArg some (by kernel_rfl))⟩
  f22 := ⟨Tryz.f170.name, by decide, Tryz.func170.trans (congrArg some (by kernel_rfl))⟩
  f23 := ⟨Tryz.f171.name, by decide, Tryz.func171.trans (congrArg some (by kernel_rfl))⟩
  f24 := ⟨Tryz.f172.name, by decide, Tryz.func172.trans (congrArg some (by kernel_rfl))⟩
  f25 := ⟨Tryz.f173.name, by decide, Tryz.func173.trans (congrArg some (by kernel_rfl))⟩
  f26 := ⟨Tryz.f174.name, by decide, Tryz.func174.trans (congrArg some (by kernel_rfl))⟩
  f27 := ⟨Tryz.f175.name, by decide, Tryz.func175.trans (congrArg some (by kernel_rfl))⟩
  f28 := Tryz.func166.trans (congrArg some (by kernel_rfl))
  f29 := Tryz.func167.trans (congrArg some (by kernel_rfl))
  f46 := ⟨Tryz.f182.name, by decide, Tryz.func182.trans (congrArg some (by kernel_rfl))⟩
  f47 := Tryz.func178.trans (congrArg some (by kernel_rfl))
  f48 := Tryz.func179.trans (congrArg some (by kernel_rfl))
  f49 := ⟨Tryz.f183.name, by decide, Tryz.func183.trans (congrArg some (by kernel_rfl))⟩
  f50 := ⟨Tryz.f184.name, by decide, Tryz.func184.trans (congrArg some (by kernel_rfl))⟩
  f57 := ⟨Tryz.f186.name, by decide, Tryz.func186.trans (congrArg some (by kernel_rfl))⟩
  t0 := Tryz.underlying0
  a0 := Tryz.isAgg0
  z0 := Tryz.sizeOf0
  v0 := Tryz.zeroValue0
  t3 := Tryz.underlying3
  a3 := Tryz.isAgg3
  z3 := Tryz.sizeOf3
  v3 := Tryz.zeroValue3
  t4 := Tryz.underlying4
  a4 := Tryz.isAgg4
  z4 := Tryz.sizeOf4
  v4 := Tryz.zeroValue4
  t5 := Tryz.underlying5
  a5 := Tryz.isAgg5
  z5 := Tryz.sizeOf5
  v5 := Tryz.zeroValue5
  t9 := Tryz.underlying9
  a9 := Tryz.isAgg9
  z9 := Tryz.sizeOf9
  v9 := Tryz.zeroValue9
  t22 := Tryz.underlying58
  a22 := Tryz.isAgg58
  z22 := Tryz.sizeOf58
  v22 := Tryz.zeroValue58
  t25 := Tryz.underlying130
  a25 := Tryz.isAgg130
  z25 := Tryz.sizeOf130
  v25 := Tryz.zeroValue130
  t39 := Tryz.underlying189
  a39 := Tryz.isAgg189
  z39 := Tryz.sizeOf189
  v39 := Tryz.zeroValue189
  t45 := Tryz.underlying199
  a45 := Tryz.isAgg199
  z45 := Tryz.sizeOf199
  v45 := Tryz.zeroValue199
  t46 := Tryz.underlying200
  a46 := Tryz.isAgg200
  z46 := Tryz.sizeOf200
  v46 := Tryz.zeroValue200
  t50 := Tryz.underlying113
  a50 := Tryz.isAgg113
  z50 := Tryz.sizeOf113
  v50 := Tryz.zeroValue113
  t53 := Tryz.underlying206
  a53 := Tryz.isAgg206
  z53 := Tryz.sizeOf206
  v53 := Tryz.zeroValue206
  t55 := Tryz.underlying208
  a55 := Tryz.isAgg208
  z55 := Tryz.sizeOf208
  v55 := Tryz.zeroValue208
  t66 := Tryz.underlying214
  a66 := Tryz.isAgg214
  z66 := Tryz.sizeOf214
  v66 := Tryz.zeroValue214
  t70 := Tryz.underlying218
  a70 := Tryz.isAgg218
  z70 := Tryz.sizeOf218
  v70 := Tryz.zeroValue218
  t76 := Tryz.underlying222
  a76 := Tryz.isAgg222
  z76 := Tryz.sizeOf222
  v76 := Tryz.zeroValue222
  t77 := Tryz.underlying82
  a77 := Tryz.isAgg82
  z77 := Tryz.sizeOf82
  v77 := Tryz.zeroValue82 }
end Go.Proofs
namespace Go.Am.Tryz
open Go Go.Am Go.Proofs Go.Sort Go.Shelf
set_option maxRecDepth 100000
set_option linter.unusedSimpArgs false
set_option linter.unusedVariables false

def D0 : Decls := ⟨codeOf codes, fun _ => none⟩
theorem dok0 : DOK Tryz.prog gl0 D0 := dok_codes mixed codes_ok

/-! ### stamps -/
abbrev St := Int × Int
def stC (s : St) : List V := [.int .i64 s.1, .int .i64 s.2]
def cmpSt (a b : St) : Int := if a = b then 0 else if a.1 < b.1 ∨ a.1 = b.1 ∧ a.2 < b.2 then -1 else 1

theorem stamp_Compare_runs (D : Decls) (hp : D.prim F_stamp_Compare = none) (hc : D.code.get F_stamp_Compare = some A_stamp_Compare) (a b : St) (M : Mem) : Runs D F_stamp_Compare [.agg (stC a), .agg (stC b)] M fun v M' => v = .int .i64 (cmpSt a b) ∧ Grew M M' := by
  refine Runs.walk (F := A_stamp_Compare) hp hc (by rfl) ?_
  unfold A_stamp_Compare
  obtain ⟨a1, a2⟩ := a
  obtain ⟨b1, b2⟩ := b
  simp only [stC]
  have hG : Grew M ((M.push (.cells [.int .i64 a1, .int .i64 a2] false)).push (.cells [.int .i64 b1, .int .i64 b2] false)) := (Grew.push M _).trans (Grew.push _ _)
  by_cases h1 : a1 = b1 ∧ a2 = b2
  · obtain ⟨rfl, rfl⟩ := h1
    simp -dsimp only [↓w_seq, ↓w_ops, ↓w_skip, ↓w_ret, ↓w_exit, ↓w_scope, ↓w_block, ↓w_cond, cond_true', cond_false', ↓t_nil, ↓t_plain, ↓t_guard, ↓t_gagain, ↓t_again, t_val, t_call, g_true, g_false, ga_true, ga_false, a_val, a_call, ↓n_normal, ↓n_ret, ↓n_exit, ↓b_normal, ↓b_ret, ↓b_exit, ↓e_normal, ↓e_ret, e_some, go_sem, ↓reduceIte, Nat.reduceEqDiff, Nat.reduceLT, Nat.reduceSub, A_stamp_Compare_0, A_stamp_Compare_1, A_stamp_Compare_2, A_stamp_Compare_3, A_stamp_Compare_4, A_stamp_Compare_5, Int.lt_irrefl, true_and, and_true, false_and, and_false, and_self, same_two, same_sib, same_spot, vload, vptr, vof, V.cells, Mem.read, rdCells, Mem.get_push, Mem.next_push, Nat.left_eq_add, Nat.add_eq_left, Nat.add_left_cancel_iff, Nat.add_right_cancel_iff, Nat.reduceAdd, Nat.add_zero, Nat.zero_add, Nat.add_assoc, Nat.reduceLeDiff, Nat.reduceBEq, List.length_cons, List.length_nil, List.drop_zero, List.drop_succ_cons, List.take_succ_cons, List.take_zero, List.take_nil, List.drop_nil, List.getElem?_cons_zero, List.getElem?_cons_succ, reduceCtorEq, Nat.succ_ne_self, Nat.one_ne_zero, Nat.le_refl, ne_eq, not_false_eq_true, and_self]
    exact ⟨by simp [cmpSt], hG⟩
  · have hne : ¬ ((a1, a2) : St) = (b1, b2) := fun e => h1 (by cases e; exact ⟨rfl, rfl⟩)
    by_cases h2 : a1 < b1
    · simp -dsimp only [↓w_seq, ↓w_ops, ↓w_skip, ↓w_ret, ↓w_exit, ↓w_scope, ↓w_block, ↓w_cond, cond_true', cond_false', ↓t_nil, ↓t_plain, ↓t_guard, ↓t_gagain, ↓t_again, t_val, t_call, g_true, g_false, ga_true, ga_false, a_val, a_call, ↓n_normal, ↓n_ret, ↓n_exit, ↓b_normal, ↓b_ret, ↓b_exit, ↓e_normal, ↓e_ret, e_some, go_sem, ↓reduceIte, Nat.reduceEqDiff, Nat.reduceLT, Nat.reduceSub, A_stamp_Compare_0, A_stamp_Compare_1, A_stamp_Compare_2, A_stamp_Compare_3, A_stamp_Compare_4, A_stamp_Compare_5, Int.lt_irrefl, true_and, and_true, false_and, and_false, and_self, same_two, same_sib, same_spot, vload, vptr, vof, V.cells, Mem.read, rdCells, Mem.get_push, Mem.next_push, Nat.left_eq_add, Nat.add_eq_left, Nat.add_left_cancel_iff, Nat.add_right_cancel_iff, Nat.reduceAdd, Nat.add_zero, Nat.zero_add, Nat.add_assoc, Nat.reduceLeDiff, Nat.reduceBEq, List.length_cons, List.length_nil, List.drop_zero, List.drop_succ_cons, List.take_succ_cons, List.take_zero, List.take_nil, List.drop_nil, List.getElem?_cons_zero, List.getElem?_cons_succ, reduceCtorEq, Nat.succ_ne_self, Nat.one_ne_zero, Nat.le_refl, ne_eq, not_false_eq_true, h1, h2]
      exact ⟨by simp [cmpSt, hne, h2], hG⟩
    · by_cases h3 : a1 = b1
      · have h5 : ¬ a2 = b2 := fun e => h1 ⟨h3, e⟩
        subst h3
        by_cases h4 : a2 < b2
        · simp -dsimp only [↓w_seq, ↓w_ops, ↓w_skip, ↓w_ret, ↓w_exit, ↓w_scope, ↓w_block, ↓w_cond, cond_true', cond_false', ↓t_nil, ↓t_plain, ↓t_guard, ↓t_gagain, ↓t_again, t_val, t_call, g_true, g_false, ga_true, ga_false, a_val, a_call, ↓n_normal, ↓n_ret, ↓n_exit, ↓b_normal, ↓b_ret, ↓b_exit, ↓e_normal, ↓e_ret, e_some, go_sem, ↓reduceIte, Nat.reduceEqDiff, Nat.reduceLT, Nat.reduceSub, A_stamp_Compare_0, A_stamp_Compare_1, A_stamp_Compare_2, A_stamp_Compare_3, A_stamp_Compare_4, A_stamp_Compare_5, Int.lt_irrefl, true_and, and_true, false_and, and_false, and_self, same_two, same_sib, same_spot, vload, vptr, vof, V.cells, Mem.read, rdCells, Mem.get_push, Mem.next_push, Nat.left_eq_add, Nat.add_eq_left, Nat.add_left_cancel_iff, Nat.add_right_cancel_iff, Nat.reduceAdd, Nat.add_zero, Nat.zero_add, Nat.add_assoc, Nat.reduceLeDiff, Nat.reduceBEq, List.length_cons, List.length_nil, List.drop_zero, List.drop_succ_cons, List.take_succ_cons, List.take_zero, List.take_nil, List.drop_nil, List.getElem?_cons_zero, List.getElem?_cons_succ, reduceCtorEq, Nat.succ_ne_self, Nat.one_ne_zero, Nat.le_refl, ne_eq, not_false_eq_true, h5, h2, h4]
          exact ⟨by simp [cmpSt, h5, h4], hG⟩
        · simp -dsimp only [↓w_seq, ↓w_ops, ↓w_skip, ↓w_ret, ↓w_exit, ↓w_scope, ↓w_block, ↓w_cond, cond_true', cond_false', ↓t_nil, ↓t_plain, ↓t_guard, ↓t_gagain, ↓t_again, t_val, t_call, g_true, g_false, ga_true, ga_false, a_val, a_call, ↓n_normal, ↓n_ret, ↓n_exit, ↓b_normal, ↓b_ret, ↓b_exit, ↓e_normal, ↓e_ret, e_some, go_sem, ↓reduceIte, Nat.reduceEqDiff, Nat.reduceLT, Nat.reduceSub, A_stamp_Compare_0, A_stamp_Compare_1, A_stamp_Compare_2, A_stamp_Compare_3, A_stamp_Compare_4, A_stamp_Compare_5, Int.lt_irrefl, true_and, and_true, false_and, and_false, and_self, same_two, same_sib, same_spot, vload, vptr, vof, V.cells, Mem.read, rdCells, Mem.get_push, Mem.next_push, Nat.left_eq_add, Nat.add_eq_left, Nat.add_left_cancel_iff, Nat.add_right_cancel_iff, Nat.reduceAdd, Nat.add_zero, Nat.zero_add, Nat.add_assoc, Nat.reduceLeDiff, Nat.reduceBEq, List.length_cons, List.length_nil, List.drop_zero, List.drop_succ_cons, List.take_succ_cons, List.take_zero, List.take_nil, List.drop_nil, List.getElem?_cons_zero, List.getElem?_cons_succ, reduceCtorEq, Nat.succ_ne_self, Nat.one_ne_zero, Nat.le_refl, ne_eq, not_false_eq_true, h5, h2, h4]
          exact ⟨by simp [cmpSt, h5, h4], hG⟩
      · simp -dsimp only [↓w_seq, ↓w_ops, ↓w_skip, ↓w_ret, ↓w_exit, ↓w_scope, ↓w_block, ↓w_cond, cond_true', cond_false', ↓t_nil, ↓t_plain, ↓t_guard, ↓t_gagain, ↓t_again, t_val, t_call, g_true, g_false, ga_true, ga_false, a_val, a_call, ↓n_normal, ↓n_ret, ↓n_exit, ↓b_normal, ↓b_ret, ↓b_exit, ↓e_normal, ↓e_ret, e_some, go_sem, ↓reduceIte, Nat.reduceEqDiff, Nat.reduceLT, Nat.reduceSub, A_stamp_Compare_0, A_stamp_Compare_1, A_stamp_Compare_2, A_stamp_Compare_3, A_stamp_Compare_4, A_stamp_Compare_5, Int.lt_irrefl, true_and, and_true, false_and, and_false, and_self, same_two, same_sib, same_spot, vload, vptr, vof, V.cells, Mem.read, rdCells, Mem.get_push, Mem.next_push, Nat.left_eq_add, Nat.add_eq_left, Nat.add_left_cancel_iff, Nat.add_right_cancel_iff, Nat.reduceAdd, Nat.add_zero, Nat.zero_add, Nat.add_assoc, Nat.reduceLeDiff, Nat.reduceBEq, List.length_cons, List.length_nil, List.drop_zero, List.drop_succ_cons, List.take_succ_cons, List.take_zero, List.take_nil, List.drop_nil, List.getElem?_cons_zero, List.getElem?_cons_succ, reduceCtorEq, Nat.succ_ne_self, Nat.one_ne_zero, Nat.le_refl, ne_eq, not_false_eq_true, h1, h2, h3]
        exact ⟨by simp [cmpSt, hne, h2, h3], hG⟩

def ltSt (a b : St) : Bool := decide (a.1 < b.1 ∨ a.1 = b.1 ∧ a.2 < b.2)
theorem ltOf_St (a b : St) : ltOf cmpSt a b = ltSt a b := by
  unfold ltOf cmpSt ltSt
  by_cases h : a = b
  · subst h; simp
  · by_cases h2 : a.1 < b.1 ∨ a.1 = b.1 ∧ a.2 < b.2
    · simp [h, h2]
    · simp [h, h2]
theorem swo_St : SWO ltSt where
  irrefl x := by unfold ltSt; simp
  trans x y z h1 h2 := by
    unfold ltSt at *
    simp only [decide_eq_true_eq] at *
    omega
  ntrans x y z h1 h2 := by
    unfold ltSt at *
    simp only [decide_eq_false_iff_not] at *
    omega
theorem tot_St (x y : St) (h1 : ltSt x y = false) (h2 : ltSt y x = false) : x = y := by
  obtain ⟨a, b⟩ := x
  obtain ⟨c, d⟩ := y
  unfold ltSt at h1 h2
  simp only [decide_eq_false_iff_not] at h1 h2
  have : a = c := by omega
  have : b = d := by omega
  simp [*]

def elSt : Elem St where
  k := 2
  cv := stC
  enc x := [.int .i64 x.1, .int .i64 x.2]
  dec := fun | [.int .i64 a, .int .i64 b] => some (a, b) | _ => none
  k_pos := by omega
  len _ := rfl
  elen _ := rfl
  dec_some cs x h := by
    split at h <;> cases h
    rfl
  dec_cv _ := rfl
  rel E x := .cons (.int _ _) (.cons (.int _ _) .nil)
  rel_eq E x us h := by
    cases h with
    | cons h1 t => cases t with
      | cons h2 t => cases t; cases h1; cases h2; rfl
  one x v hv := by simp at hv; rcases hv with rfl | rfl <;> rfl
  one' _ := rfl
  flat _ := rfl

/-! ### the sort: the compare alone, no variable in sight -/
def gln : Nat → Bool := fun _ => false
theorem cmp_code : cFunc Tryz.prog gln Tryz.f107 = some A_stamp_Compare := by kernel_rfl
def Dc : Decls := ⟨codeOf [(F_stamp_Compare, A_stamp_Compare)], fun _ => none⟩
theorem dokc : DOK Tryz.prog gln Dc := dok_codes mixed (by
  intro x hx
  simp only [List.mem_singleton] at hx
  subst hx
  exact ⟨_, Tryz.func107, (by kernel_rfl), cmp_code⟩)
theorem sortSt_ok : CallOK Tryz.prog gl0 fun f' args M => if f' = F_slices_SortFunc_Stamp then sortP elSt F_stamp_Compare ltSt args M else none := by
  have h := sort_callOK (P := Tryz.prog) (gl := gl0) (α := St) Tryz.sortSt elSt Tryz.isAgg24 Tryz.sizeOf24 cmpSt (by rw [show ltOf cmpSt = ltSt from funext fun a => funext fun b => ltOf_St a b]; exact swo_St)
    (by rw [show ltOf cmpSt = ltSt from funext fun a => funext fun b => ltOf_St a b]; exact tot_St) F_stamp_Compare ⟨_, Tryz.func107, (by kernel_rfl), (by kernel_rfl)⟩ ⟨_, Tryz.func142, (by kernel_rfl), (by kernel_rfl)⟩ (by
      intro x y w
      obtain ⟨k, v, M', hr, rfl, _⟩ := stamp_Compare_runs Dc rfl (by rfl) x y mem0
      obtain ⟨_, hs⟩ := callN_sound dokc k _ _ mem0 _ M' hr
      refine (hs emb0 w #[.agg (elSt.enc x).toArray, .agg (elSt.enc y).toArray] (rel0 w) (fun x hx => by cases hx) (.cons (.agg (elSt.rel _ x)) (.cons (.agg (elSt.rel _ y)) .nil))).mono ?_
      rintro e w' ⟨E', v', rfl, hv', _, hX⟩
      cases hv'
      exact ⟨rfl, grown_of hX⟩)
  rw [show ltOf cmpSt = ltSt from funext fun a => funext fun b => ltOf_St a b] at h
  exact h
def D1 : Decls := D0.addM F_slices_SortFunc_Stamp (sortP elSt F_stamp_Compare ltSt)
theorem dok1 : DOK Tryz.prog gl0 D1 := dok0.addM sortSt_ok
end Go.Am.Tryz


/- Stamps that a function hands on, one by one, collected: slices.AppendSeq, slices.Collect. -/
namespace Go.Am.Tryz
open Go Go.Am Go.Proofs Go.Sort Go.Shelf
set_option maxRecDepth 100000
set_option linter.unusedSimpArgs false
set_option linter.unusedVariables false

abbrev XP := XRuns Tryz.prog gl0
/-- What is so while stamps come. -/
structure CollJ (M : Mem) (lp : LoopState → Option Code → O) (pre : List St) (M' : Mem) : Prop where
  old : ∀ c, c < M.next → M'.get c = M.get c
  next : M.next + 2 ≤ M'.next
  loop : M'.get (M.next + 1) = some (lp .ready none)
  box : ∃ s, M'.get M.next = some (.cells [s] false) ∧ Hold (M.next + 2) M' 2 s pre.length (elSt.all pre) ∧ (pre = [] → s = .slice none 0 (.exact 0))

theorem CollJ.other {M : Mem} {lp : LoopState → Option Code → O} {pre : List St} {M1 M2 : Mem} (h : CollJ M lp pre M1) (hn : M1.next ≤ M2.next) (hk : ∀ c, c < M1.next → (∀ b s k l, M1.get c ≠ some (.mapIter b s k l)) → M2.get c = M1.get c) (hold : ∀ c, c < M.next → M2.get c = M1.get c)
    (hlp : ∀ st p b s k l, lp st p ≠ .mapIter b s k l) : CollJ M lp pre M2 := by
  obtain ⟨a, b, c, s, d, e, e'⟩ := h
  refine ⟨fun q hq => (hold q hq).trans (a q hq), by omega, ?_, s, ?_, e.keep (fun q hq => hk q (e.blk_le hq).2.1 ?_) hn, e'⟩
  · rw [hk _ (by omega) (fun b s k l => by rw [c]; intro h; exact hlp _ _ _ _ _ _ (Option.some.inj h))]; exact c
  · rw [hk _ (by omega) (fun b s k l => by rw [d]; intro h; cases h)]; exact d
  · intro b s k l
    rw [(e.blk_le hq).2.2]
    intro h; cases h

/-- A variable that holds a spot. -/
def isSpot (M : Mem) (c : Nat) : Prop := ∃ a b t, M.get c = some (.cells [.int .i64 a, .int .i64 b, .str t] false)
/-- A function that is ranged over, with such a variable of its own. -/
def SeqP {α : Type} (f : FuncId) (first captured : List V) (cv : α → V) (G : Mem → Prop) (S Sp : List α → Prop) (N : Nat) : Prop :=
  ∀ (b : Nat) (J Jx : List α → Mem → Prop) (M : Mem),
    (∀ pre M, J pre M → G M) →
    (∀ pre M o, J pre M → J pre (M.push o)) →
    (∀ pre M o o', J pre M → J pre ((M.push o).set M.next o')) →
    (∀ pre M' c b s n l, J pre M' → M.next ≤ c → isIter M' c → J pre (M'.set c (.mapIter b s n l))) →
    (∀ pre M' c x y t, J pre M' → M.next ≤ c → isSpot M' c → J pre (M'.set c (.cells [.int .i64 x, .int .i64 y, .str t] false))) →
    (∀ pre x M', J pre M' → pre.length < N → XYield Tryz.prog gl0 b [cv x] M' fun v M'' => (v = .bool true ∧ J (pre ++ [x]) M'' ∧ M'.next ≤ M''.next ∧ (∀ c, c < M'.next → isIter M' c → M''.get c = M'.get c) ∧ ∀ c, M.next ≤ c → c < M'.next → isSpot M' c → M''.get c = M'.get c) ∨ (v = .bool false ∧ Jx (pre ++ [x]) M'')) →
    J [] M →
    XRuns Tryz.prog gl0 f (first ++ [.yld b] ++ captured) M fun _ M' => (∃ xs, S xs ∧ J xs M') ∨ ∃ pre, Sp pre ∧ Jx pre M'
theorem SeqP.of {α : Type} {f : FuncId} {first captured : List V} {cv : α → V} {G : Mem → Prop} {S Sp : List α → Prop} {N : Nat} (h : SeqX Tryz.prog gl0 f first captured cv G S Sp N) : SeqP f first captured cv G S Sp N :=
  fun b J Jx M hG hp hps hi _ hY hJ => h b J Jx M hG hp hps hi (fun pre x M' h1 h2 => (hY pre x M' h1 h2).mono fun v M'' h => by
    rcases h with ⟨a, b, c, d, _⟩ | h
    · exact .inl ⟨a, b, c, d⟩
    · exact .inr h) hJ

theorem stC_len (x : St) : (stC x).length = 2 := rfl
theorem AppendSeq_runs {f : FuncId} {first captured : List V} {G : Mem → Prop} {S Sp : List St → Prop} {N : Nat} (hseq : SeqP f first captured (fun x => .agg (stC x)) G S Sp N) (hN : (N + 1) * 16 ≤ maxRoom) (M : Mem)
    (hG : ∀ M', (∀ c, c < M.next → M'.get c = M.get c) → M.next ≤ M'.next → G M') :
    XP F_slices_AppendSeq_Stamp [.slice none 0 (.exact 0), .fn f first captured] M fun v M' => ∃ xs, S xs ∧ (∀ c, c < M.next → M'.get c = M.get c) ∧ Hold M.next M' 2 v xs.length (elSt.all xs) ∧ (xs = [] → v = .slice none 0 (.exact 0)) := by
  refine XRuns.walk mixed Tryz.func144 b_slices_AppendSeq_Stamp n_slices_AppendSeq_Stamp r_slices_AppendSeq_Stamp (by rfl) ?_
  unfold X_slices_AppendSeq_Stamp
  simp -dsimp only [↓x_seq', ↓x_ops, ↓x_skip, ↓x_ret, ↓x_exit, ↓x_block', ↓x_cond', cond_true', cond_false', ↓i_nil, ↓i_plain, ↓i_guard, xs_val, xs_call, xs_yield, xg_true, xg_false, ↓n_normal, ↓n_ret, ↓n_exit, ↓b_normal, ↓b_ret, ↓b_exit, ↓xe_normal, ↓xe_ret, e_some, yieldOf, go_sem, ↓reduceIte, Nat.reduceEqDiff, Nat.reduceLT, Nat.reduceSub, X_slices_AppendSeq_Stamp_0, X_slices_AppendSeq_Stamp_1, X_slices_AppendSeq_Stamp_2, X_slices_AppendSeq_Stamp_3, X_slices_AppendSeq_Stamp_6, Int.lt_irrefl, true_and, and_true, false_and, and_false, and_self, same_two, same_sib, same_spot, vload, vptr, vof, V.cells, Mem.read, rdCells, Mem.get_push, Mem.next_push, Nat.left_eq_add, Nat.add_eq_left, Nat.add_left_cancel_iff, Nat.add_right_cancel_iff, Nat.reduceAdd, Nat.add_zero, Nat.zero_add, Nat.add_assoc, Nat.reduceLeDiff, Nat.reduceBEq, List.length_cons, List.length_nil, List.drop_zero, List.drop_succ_cons, List.take_succ_cons, List.take_zero, List.take_nil, List.drop_nil, List.getElem?_cons_zero, List.getElem?_cons_succ, reduceCtorEq, Nat.succ_ne_self, Nat.one_ne_zero, Nat.le_refl, ne_eq, not_false_eq_true]
  refine x_range' _ _ _ _ _ (f := f) (first := first) (captured := captured) (by simp only [go_sem, ↓reduceIte, Nat.reduceEqDiff, Nat.reduceLT, Nat.reduceSub]) ?_
  intro lp hlp hY
  have hb0 : (M.push (.cells [.slice none 0 (.exact 0)] false)).next = M.next + 1 := rfl
  rw [hb0] at hY ⊢
  have hst : CollJ M lp [] ((M.push (.cells [.slice none 0 (.exact 0)] false)).push (lp .ready none)) := by
    refine ⟨fun c hc => ?_, by simp, ?_, .slice none 0 (.exact 0), ?_, .nil, fun _ => rfl⟩
    · rw [Mem.get_push_ne _ _ (by simp; omega), Mem.get_push_ne _ _ (by omega)]
    · rw [← hb0, Mem.get_push_same]
    · rw [Mem.get_push_ne _ _ (by simp), Mem.get_push_same]
  refine (hseq (M.next + 1) (CollJ M lp) (fun _ _ => False) _ (fun pre M' h => hG M' h.old (by have := h.next; omega)) (fun pre M' o h => ?_) (fun pre M' o o' h => ?_) (fun pre M' c b s k l h hcn hi => ?_) (fun pre M' c a b t h hcn hi => ?_) (fun pre x M' h hlen => ?_) hst).mono ?_
  · exact h.other (by simp) (fun c hc _ => Mem.get_push_ne _ _ (by omega)) (fun c hc => Mem.get_push_ne _ _ (by have := h.next; omega)) hlp
  · have hn : ∀ c, c ≠ M'.next → ((M'.push o).set M'.next o').get c = M'.get c := fun c hc => by rw [Mem.get_set_ne _ _ hc, Mem.get_push_ne _ _ hc]
    exact h.other (by simp) (fun c hc _ => hn c (by omega)) (fun c hc => hn c (by have := h.next; omega)) hlp
  · obtain ⟨b', s', k', l', hi⟩ := hi
    refine h.other (by simp) (fun c' _ hc' => Mem.get_set_ne _ _ (fun e => hc' b' s' k' l' (by rw [e]; exact hi))) (fun c' hc' => Mem.get_set_ne _ _ (by simp at hcn; omega)) hlp
  · obtain ⟨p1, p2, p3, hi⟩ := hi
    obtain ⟨a1, a2, a3, s1, a4, a5, a6⟩ := h
    have hc : M.next + 2 ≤ c := hcn
    refine ⟨fun c' hc' => (Mem.get_set_ne _ _ (by omega)).trans (a1 c' hc'), a2, (Mem.get_set_ne _ _ (by omega)).trans a3, s1, (Mem.get_set_ne _ _ (by omega)).trans a4, a5.keep (fun c' hc' => Mem.get_set_ne _ _ (fun e => ?_)) (Nat.le_refl _), a6⟩
    subst e
    have hh := (a5.blk_le hc').2.2
    rw [hi] at hh
    have hlen := a5.len
    simp only [Option.some.injEq, O.cells.injEq, and_true] at hh
    rw [← hh] at hlen
    simp at hlen
    omega
  · -- a round
    refine hY [.agg (stC x)] M' _ h.loop rfl ?_
    unfold X_slices_AppendSeq_Stamp_4 X_slices_AppendSeq_Stamp_5
    obtain ⟨s, hbox, hH, _⟩ := h.box
    have hnx := h.next
    have hw0 := write_full (M := M'.push (.cells [.int .i64 0, .int .i64 0] false)) (b := M'.next) (vs := stC x) (Mem.get_push_same _ _) rfl rfl
    simp -dsimp only [↓x_seq', ↓x_ops, ↓x_skip, ↓x_ret, ↓x_exit, ↓x_block', ↓x_cond', cond_true', cond_false', ↓i_nil, ↓i_plain, ↓i_guard, xs_val, xs_call, xs_yield, xg_true, xg_false, ↓n_normal, ↓n_ret, ↓n_exit, ↓b_normal, ↓b_ret, ↓b_exit, ↓xe_normal, ↓xe_ret, e_some, yieldOf, go_sem, ↓reduceIte, Nat.reduceEqDiff, Nat.reduceLT, Nat.reduceSub, X_slices_AppendSeq_Stamp_0, X_slices_AppendSeq_Stamp_1, X_slices_AppendSeq_Stamp_2, X_slices_AppendSeq_Stamp_3, X_slices_AppendSeq_Stamp_6, Int.lt_irrefl, true_and, and_true, false_and, and_false, and_self, same_two, same_sib, same_spot, vload, vptr, vof, V.cells, Mem.read, rdCells, Mem.get_push, Mem.next_push, Nat.left_eq_add, Nat.add_eq_left, Nat.add_left_cancel_iff, Nat.add_right_cancel_iff, Nat.reduceAdd, Nat.add_zero, Nat.zero_add, Nat.add_assoc, Nat.reduceLeDiff, Nat.reduceBEq, List.length_cons, List.length_nil, List.drop_zero, List.drop_succ_cons, List.take_succ_cons, List.take_zero, List.take_nil, List.drop_nil, List.getElem?_cons_zero, List.getElem?_cons_succ, reduceCtorEq, Nat.succ_ne_self, Nat.one_ne_zero, Nat.le_refl, ne_eq, not_false_eq_true, putAll', List.zip_cons_cons, List.zip_nil_right, List.foldl_cons, List.foldl_nil, vstore, hw0, stC_len]
    -- the memory with the round's own variable
    have k1 : ∀ c, c ≠ M'.next → ((M'.push (.cells [.int .i64 0, .int .i64 0] false)).set M'.next (.cells (stC x) false)).get c = M'.get c := fun c hc => by rw [Mem.get_set_ne _ _ hc, Mem.get_push_ne _ _ hc]
    have k2 : ((M'.push (.cells [.int .i64 0, .int .i64 0] false)).set M'.next (.cells (stC x) false)).get M'.next = some (.cells (stC x) false) := Mem.get_set_same _ _ _
    have k3 : ((M'.push (.cells [.int .i64 0, .int .i64 0] false)).set M'.next (.cells (stC x) false)).next = M'.next + 1 := rfl
    generalize (M'.push (.cells [.int .i64 0, .int .i64 0] false)).set M'.next (.cells (stC x) false) = M1 at *
    refine ⟨rfl, (k1 _ (by omega)).trans h.loop, ?_⟩
    have l1 : ∀ c, c ≠ M.next + 1 → (M1.set (M.next + 1) (lp .busy none)).get c = M1.get c := fun c hc => Mem.get_set_ne _ _ hc
    have l2 : (M1.set (M.next + 1) (lp .busy none)).get (M.next + 1) = some (lp .busy none) := Mem.get_set_same _ _ _
    have l3 : (M1.set (M.next + 1) (lp .busy none)).next = M'.next + 1 := k3
    generalize M1.set (M.next + 1) (lp .busy none) = M2 at *
    have hb2 : M2.get M.next = some (.cells [s] false) := by rw [l1 _ (by omega), k1 _ (by omega)]; exact hbox
    have hx2 : M2.get M'.next = some (.cells (stC x) false) := by rw [l1 _ (by omega)]; exact k2
    have hH2 : Hold (M.next + 2) M2 2 s pre.length (elSt.all pre) := hH.keep (fun c hc => by have := hH.blk_le hc; rw [l1 _ (by omega), k1 _ (by omega)]) (by omega)
    simp -dsimp only [↓x_seq', ↓x_ops, ↓x_skip, ↓x_ret, ↓x_exit, ↓x_block', ↓x_cond', cond_true', cond_false', ↓i_nil, ↓i_plain, ↓i_guard, xs_val, xs_call, xs_yield, xg_true, xg_false, ↓n_normal, ↓n_ret, ↓n_exit, ↓b_normal, ↓b_ret, ↓b_exit, ↓xe_normal, ↓xe_ret, e_some, yieldOf, go_sem, ↓reduceIte, Nat.reduceEqDiff, Nat.reduceLT, Nat.reduceSub, X_slices_AppendSeq_Stamp_0, X_slices_AppendSeq_Stamp_1, X_slices_AppendSeq_Stamp_2, X_slices_AppendSeq_Stamp_3, X_slices_AppendSeq_Stamp_6, Int.lt_irrefl, true_and, and_true, false_and, and_false, and_self, same_two, same_sib, same_spot, vload, vptr, vof, V.cells, Mem.read, rdCells, Mem.get_push, Mem.next_push, Nat.left_eq_add, Nat.add_eq_left, Nat.add_left_cancel_iff, Nat.add_right_cancel_iff, Nat.reduceAdd, Nat.add_zero, Nat.zero_add, Nat.add_assoc, Nat.reduceLeDiff, Nat.reduceBEq, List.length_cons, List.length_nil, List.drop_zero, List.drop_succ_cons, List.take_succ_cons, List.take_zero, List.take_nil, List.drop_nil, List.getElem?_cons_zero, List.getElem?_cons_succ, reduceCtorEq, Nat.succ_ne_self, Nat.one_ne_zero, Nat.le_refl, ne_eq, not_false_eq_true, hb2, hx2, stC, fillCells, repl, wrCells, List.append_nil]
    have hH3 : Hold (M.next + 2) (M2.push (.cells (stC x) false)) 2 s pre.length (elSt.all pre) := hH2.keep (fun c hc => Mem.get_push_ne _ _ (by have := hH2.blk_le hc; omega)) (by simp)
    obtain ⟨M4, hap, hH4, hn4, ho4⟩ := hH3.append (bytes := 16) (m := 1) (x := .slice (some (M2.next, 0)) 1 (.exact 1)) (new := stC x) (by simp; omega) rfl
      (by
        have := read_all (Mem.get_push_same M2 (.cells (stC x) false))
        simp only [srcCells, beq_dec, Nat.one_mul, Nat.reduceEqDiff, decide_false, cond_false]
        exact this) (by omega) rfl (by omega) rfl
    simp only [stC] at hap
    rw [hap]
    have hne4 : ∀ c, c < M'.next → s.blk ≠ some c → c ≠ M.next + 1 → M4.get c = M'.get c := fun c hc hs hl => by
      rw [ho4 c (by simp; omega) hs, Mem.get_push_ne _ _ (by omega), l1 _ hl, k1 _ (by omega)]
    have hsn : s.blk ≠ some M.next := fun e => by have := (hH.blk_le e).1; omega
    have hsl : s.blk ≠ some (M.next + 1) := fun e => by have := (hH.blk_le e).1; omega
    have hb4 : M4.get M.next = some (.cells [s] false) := by rw [hne4 _ (by omega) hsn (by omega)]; exact hbox
    simp only [Mem.next_push] at hap hH4 hn4 ho4
    have hw4 := write_one (v := .slice (some (M2.next + 1, 0)) (pre.length + 1) (.upto 2)) hb4 (show 0 < 1 by omega) rfl
    simp -dsimp only [↓x_seq', ↓x_ops, ↓x_skip, ↓x_ret, ↓x_exit, ↓x_block', ↓x_cond', cond_true', cond_false', ↓i_nil, ↓i_plain, ↓i_guard, xs_val, xs_call, xs_yield, xg_true, xg_false, ↓n_normal, ↓n_ret, ↓n_exit, ↓b_normal, ↓b_ret, ↓b_exit, ↓xe_normal, ↓xe_ret, e_some, yieldOf, go_sem, ↓reduceIte, Nat.reduceEqDiff, Nat.reduceLT, Nat.reduceSub, X_slices_AppendSeq_Stamp_0, X_slices_AppendSeq_Stamp_1, X_slices_AppendSeq_Stamp_2, X_slices_AppendSeq_Stamp_3, X_slices_AppendSeq_Stamp_6, Int.lt_irrefl, true_and, and_true, false_and, and_false, and_self, same_two, same_sib, same_spot, vload, vptr, vof, V.cells, Mem.read, rdCells, Mem.get_push, Mem.next_push, Nat.left_eq_add, Nat.add_eq_left, Nat.add_left_cancel_iff, Nat.add_right_cancel_iff, Nat.reduceAdd, Nat.add_zero, Nat.zero_add, Nat.add_assoc, Nat.reduceLeDiff, Nat.reduceBEq, List.length_cons, List.length_nil, List.drop_zero, List.drop_succ_cons, List.take_succ_cons, List.take_zero, List.take_nil, List.drop_nil, List.getElem?_cons_zero, List.getElem?_cons_succ, reduceCtorEq, Nat.succ_ne_self, Nat.one_ne_zero, Nat.le_refl, ne_eq, not_false_eq_true, vstore, hw4, List.set_cons_zero]
    have u := Upd.set M4 M.next (.cells [.slice (some (M2.next + 1, 0)) (pre.length + 1) (.upto 2)] false)
    generalize M4.set M.next (.cells [.slice (some (M2.next + 1, 0)) (pre.length + 1) (.upto 2)] false) = M5 at *
    have hl5 : M5.get (M.next + 1) = some (lp .busy none) := by
      rw [u.other _ (by omega), ho4 _ (by omega) hsl, Mem.get_push_ne _ _ (by omega)]; exact l2
    refine ⟨hl5, .inl ⟨rfl, ⟨fun c hc => ?_, ?_, Mem.get_set_same _ _ _, ?_⟩, by simp only [Mem.next_set]; rw [u.next, hn4]; omega, fun c hc hi => ?_, fun c hcl hc hi => ?_⟩⟩
    · rw [Mem.get_set_ne _ _ (by omega), u.other _ (by omega), hne4 c (by omega) (fun e => by have := (hH.blk_le e).1; omega) (by omega)]
      exact h.old c hc
    · simp only [Mem.next_set]; rw [u.next, hn4]; omega
    · refine ⟨.slice (some (M2.next + 1, 0)) (pre.length + 1) (.upto 2), ?_, ?_, fun h => by simp at h⟩
      · rw [Mem.get_set_ne _ _ (by omega)]; exact u.at_
      · have e1 : elSt.all (pre ++ [x]) = elSt.all pre ++ stC x := by simp [Elem.all, elSt]
        rw [e1, List.length_append, List.length_cons, List.length_nil]
        refine hH4.keep (fun c hc => ?_) (by simp only [Mem.next_set]; rw [u.next]; exact Nat.le_refl _)
        have := hH4.blk_le hc
        simp only [V.blk, Option.some.injEq] at hc
        rw [Mem.get_set_ne _ _ (by omega), u.other _ (by omega)]
    · obtain ⟨b', s', k', l', hi⟩ := hi
      have c1 : c ≠ M.next + 1 := fun e => by
        rw [e] at hi; rw [h.loop] at hi; exact hlp _ _ _ _ _ _ (Option.some.inj hi)
      have c2 : c ≠ M.next := fun e => by rw [e] at hi; rw [hbox] at hi; cases hi
      rw [Mem.get_set_ne _ _ c1, u.other _ c2]
      exact hne4 c hc (fun e => by rw [(hH.blk_le e).2.2] at hi; cases hi) c1
    · have hcl' : M.next + 2 ≤ c := hcl
      obtain ⟨p1, p2, p3, hi⟩ := hi
      rw [Mem.get_set_ne _ _ (by omega), u.other _ (by omega)]
      refine hne4 c hc (fun e => ?_) (by omega)
      have hh := (hH.blk_le e).2.2
      rw [hi] at hh
      have hlen := hH.len
      simp only [Option.some.injEq, O.cells.injEq, and_true] at hh
      rw [← hh] at hlen
      simp at hlen
      omega
  · -- all have come
    intro v M' h
    rcases h with ⟨xs, hS, hJ⟩ | ⟨pre, _, hS⟩
    · refine .inl ⟨hJ.loop, ?_⟩
      obtain ⟨s, hbox, hH, hnil⟩ := hJ.box
      have hnx := hJ.next
      have k1 : ∀ c, c ≠ M.next + 1 → (M'.set (M.next + 1) (lp .exhausted none)).get c = M'.get c := fun c hc => Mem.get_set_ne _ _ hc
      have k2 : (M'.set (M.next + 1) (lp .exhausted none)).next = M'.next := rfl
      generalize M'.set (M.next + 1) (lp .exhausted none) = M2 at *
      have hb2 : M2.get M.next = some (.cells [s] false) := (k1 _ (by omega)).trans hbox
      simp -dsimp only [↓x_seq', ↓x_ops, ↓x_skip, ↓x_ret, ↓x_exit, ↓x_block', ↓x_cond', cond_true', cond_false', ↓i_nil, ↓i_plain, ↓i_guard, xs_val, xs_call, xs_yield, xg_true, xg_false, ↓n_normal, ↓n_ret, ↓n_exit, ↓b_normal, ↓b_ret, ↓b_exit, ↓xe_normal, ↓xe_ret, e_some, yieldOf, go_sem, ↓reduceIte, Nat.reduceEqDiff, Nat.reduceLT, Nat.reduceSub, X_slices_AppendSeq_Stamp_0, X_slices_AppendSeq_Stamp_1, X_slices_AppendSeq_Stamp_2, X_slices_AppendSeq_Stamp_3, X_slices_AppendSeq_Stamp_6, Int.lt_irrefl, true_and, and_true, false_and, and_false, and_self, same_two, same_sib, same_spot, vload, vptr, vof, V.cells, Mem.read, rdCells, Mem.get_push, Mem.next_push, Nat.left_eq_add, Nat.add_eq_left, Nat.add_left_cancel_iff, Nat.add_right_cancel_iff, Nat.reduceAdd, Nat.add_zero, Nat.zero_add, Nat.add_assoc, Nat.reduceLeDiff, Nat.reduceBEq, List.length_cons, List.length_nil, List.drop_zero, List.drop_succ_cons, List.take_succ_cons, List.take_zero, List.take_nil, List.drop_nil, List.getElem?_cons_zero, List.getElem?_cons_succ, reduceCtorEq, Nat.succ_ne_self, Nat.one_ne_zero, Nat.le_refl, ne_eq, not_false_eq_true, hb2]
      refine ⟨xs, hS, fun c hc => (k1 c (by omega)).trans (hJ.old c hc), ?_, hnil⟩
      exact (hH.keep (fun c hc => k1 c (by have := (hH.blk_le hc).1; omega)) (by omega)).lower (by omega)
    · exact hS.elim

theorem Collect_runs {f : FuncId} {first captured : List V} {G : Mem → Prop} {S Sp : List St → Prop} {N : Nat} (hseq : SeqP f first captured (fun x => .agg (stC x)) G S Sp N) (hN : (N + 1) * 16 ≤ maxRoom) (M : Mem)
    (hG : ∀ M', (∀ c, c < M.next → M'.get c = M.get c) → M.next ≤ M'.next → G M') :
    XP F_slices_Collect_Stamp [.fn f first captured] M fun v M' => ∃ xs, S xs ∧ (∀ c, c < M.next → M'.get c = M.get c) ∧ Hold M.next M' 2 v xs.length (elSt.all xs) ∧ (xs = [] → v = .slice none 0 (.exact 0)) := by
  refine XRuns.walk mixed Tryz.func117 b_slices_Collect_Stamp n_slices_Collect_Stamp r_slices_Collect_Stamp (by rfl) ?_
  unfold X_slices_Collect_Stamp
  simp -dsimp only [↓x_seq', ↓x_ops, ↓x_skip, ↓x_ret, ↓x_exit, ↓x_block', ↓x_cond', cond_true', cond_false', ↓i_nil, ↓i_plain, ↓i_guard, xs_val, xs_call, xs_yield, xg_true, xg_false, ↓n_normal, ↓n_ret, ↓n_exit, ↓b_normal, ↓b_ret, ↓b_exit, ↓xe_normal, ↓xe_ret, e_some, yieldOf, go_sem, ↓reduceIte, Nat.reduceEqDiff, Nat.reduceLT, Nat.reduceSub, X_slices_Collect_Stamp_0, X_slices_Collect_Stamp_1, Int.lt_irrefl, true_and, and_true, false_and, and_false, and_self, same_two, same_sib, same_spot, vload, vptr, vof, V.cells, Mem.read, rdCells, Mem.get_push, Mem.next_push, Nat.left_eq_add, Nat.add_eq_left, Nat.add_left_cancel_iff, Nat.add_right_cancel_iff, Nat.reduceAdd, Nat.add_zero, Nat.zero_add, Nat.add_assoc, Nat.reduceLeDiff, Nat.reduceBEq, List.length_cons, List.length_nil, List.drop_zero, List.drop_succ_cons, List.take_succ_cons, List.take_zero, List.take_nil, List.drop_nil, List.getElem?_cons_zero, List.getElem?_cons_succ, reduceCtorEq, Nat.succ_ne_self, Nat.one_ne_zero, Nat.le_refl, ne_eq, not_false_eq_true]
  refine xcall_of (AppendSeq_runs hseq hN M hG) ?_
  intro v M' h
  simp -dsimp only [↓x_seq', ↓x_ops, ↓x_skip, ↓x_ret, ↓x_exit, ↓x_block', ↓x_cond', cond_true', cond_false', ↓i_nil, ↓i_plain, ↓i_guard, xs_val, xs_call, xs_yield, xg_true, xg_false, ↓n_normal, ↓n_ret, ↓n_exit, ↓b_normal, ↓b_ret, ↓b_exit, ↓xe_normal, ↓xe_ret, e_some, yieldOf, go_sem, ↓reduceIte, Nat.reduceEqDiff, Nat.reduceLT, Nat.reduceSub, X_slices_Collect_Stamp_0, X_slices_Collect_Stamp_1, Int.lt_irrefl, true_and, and_true, false_and, and_false, and_self, same_two, same_sib, same_spot, vload, vptr, vof, V.cells, Mem.read, rdCells, Mem.get_push, Mem.next_push, Nat.left_eq_add, Nat.add_eq_left, Nat.add_left_cancel_iff, Nat.add_right_cancel_iff, Nat.reduceAdd, Nat.add_zero, Nat.zero_add, Nat.add_assoc, Nat.reduceLeDiff, Nat.reduceBEq, List.length_cons, List.length_nil, List.drop_zero, List.drop_succ_cons, List.take_succ_cons, List.take_zero, List.take_nil, List.drop_nil, List.getElem?_cons_zero, List.getElem?_cons_succ, reduceCtorEq, Nat.succ_ne_self, Nat.one_ne_zero, Nat.le_refl, ne_eq, not_false_eq_true]
  exact h
end Go.Am.Tryz


/- A map's keys handed on, in whatever order; slices.SortedFunc of them as a part. -/
namespace Go.Am.Tryz
open Go Go.Am Go.Proofs Go.Sort Go.Shelf
set_option maxRecDepth 100000
set_option linter.unusedSimpArgs false
set_option linter.unusedVariables false

/-- Which entries have come: their places; those that have not. -/
structure Came (ents : List MapEntry) (ks : List St) (seen : Array Nat) (pre : List St) (idx rest : List Nat) : Prop where
  perm : (idx ++ rest).Perm (List.range ks.length)
  pre_ : pre = idx.map fun i => ks.getD i (0, 0)
  seen_ : seen.toList = idx.map fun i => (ents[i]?.map (·.born)).getD 0

theorem born_inj {ents : List MapEntry} {clock : Nat} (h : Born ents clock) {i j : Nat} {e e' : MapEntry} (hi : ents[i]? = some e) (hj : ents[j]? = some e') (he : e.born = e'.born) : i = j := by
  obtain ⟨hil, rfl⟩ := List.getElem?_eq_some_iff.mp hi
  obtain ⟨hjl, rfl⟩ := List.getElem?_eq_some_iff.mp hj
  have hp := h.1
  rw [List.pairwise_iff_getElem] at hp
  rcases Nat.lt_trichotomy i j with h1 | h1 | h1
  · have := hp i j (by simpa using hil) (by simpa using hjl) h1
    simp only [List.getElem_map] at this
    omega
  · exact h1
  · have := hp j i (by simpa using hjl) (by simpa using hil) h1
    simp only [List.getElem_map] at this
    omega

theorem Came.done {ents : List MapEntry} {clock : Nat} {ks : List St} {seen : Array Nat} {pre : List St} {idx rest : List Nat} (h : Came ents ks seen pre idx rest) (hb : Born ents clock) (hl : ents.length = ks.length) (hf : ents.filter (notSeen seen) = []) : pre.Perm ks := by
  have hr : rest = [] := by
    cases hrr : rest with
    | nil => rfl
    | cons j rs =>
      exfalso
      have hp := h.perm
      rw [hrr] at hp
      have hj : j < ents.length := by
        have : j ∈ List.range ks.length := hp.mem_iff.mp (by simp)
        rw [hl]; simpa using this
      have hnd : (idx ++ j :: rs).Nodup := hp.nodup_iff.mpr List.nodup_range
      have : ents[j] ∈ ents.filter (notSeen seen) := by
        rw [List.mem_filter]
        refine ⟨List.getElem_mem hj, ?_⟩
        unfold notSeen
        rw [Bool.not_eq_true', ← Bool.not_eq_true]
        intro hc
        rw [Array.contains_iff_mem, ← Array.mem_toList_iff, h.seen_, List.mem_map] at hc
        obtain ⟨i, hi, hie⟩ := hc
        have hil : i < ents.length := by
          have : i ∈ List.range ks.length := hp.mem_iff.mp (by simp [hi])
          rw [hl]; simpa using this
        rw [List.getElem?_eq_getElem hil] at hie
        simp only [Option.map_some, Option.getD_some] at hie
        have := born_inj hb (List.getElem?_eq_getElem hil) (List.getElem?_eq_getElem hj) hie
        subst this
        rw [List.nodup_append] at hnd
        exact hnd.2.2 _ hi _ (List.mem_cons_self ..) rfl
      rw [hf] at this
      cases this
  have hp := h.perm
  rw [hr, List.append_nil] at hp
  rw [h.pre_]
  have h2 := hp.map fun i => ks.getD i (0, 0)
  refine h2.trans (List.Perm.of_eq ?_)
  apply List.ext_getElem
  · simp
  · intro i h1 h2
    simp [List.getD_eq_getElem?_getD, List.getElem?_eq_getElem (show i < ks.length by simpa using h2)]

theorem Came.step {ents : List MapEntry} {ks : List St} {seen : Array Nat} {pre : List St} {idx rest : List Nat} (h : Came ents ks seen pre idx rest) (hl : ents.length = ks.length) {i : Nat} {e : MapEntry} (hi : ents[i]? = some e) (hn : notSeen seen e = true) :
    i ∈ rest ∧ Came ents ks (seen.push e.born) (pre ++ [ks.getD i (0, 0)]) (idx ++ [i]) (rest.erase i) := by
  obtain ⟨hil, hie⟩ := List.getElem?_eq_some_iff.mp hi
  have hr : i ∈ rest := by
    have hm : i ∈ idx ++ rest := h.perm.mem_iff.mpr (by simp; omega)
    rcases List.mem_append.mp hm with hm | hm
    · exfalso
      unfold notSeen at hn
      rw [Bool.not_eq_true', ← Bool.not_eq_true] at hn
      apply hn
      rw [Array.contains_iff_mem, ← Array.mem_toList_iff, h.seen_, List.mem_map]
      exact ⟨i, hm, by rw [hi]; rfl⟩
    · exact hm
  refine ⟨hr, ?_, by rw [h.pre_]; simp, by rw [Array.toList_push, h.seen_]; simp [hi]⟩
  refine List.Perm.trans ?_ h.perm
  rw [List.append_assoc]
  exact List.Perm.append_left idx (List.perm_cons_erase hr).symm

theorem Keys_loop (b bx bm it : Nat) (ro : Bool) (es : List (V × V)) (ents : List MapEntry) (clock : Nat) (ks : List St) (hks : ∀ (i : Nat) (kv : V × V), es[i]? = some kv → kv.1 = V.agg (stC (ks.getD i (0, 0)))) (hl : ents.length = ks.length) (hborn : Born ents clock) (J Jx : List St → Mem → Prop) (M0 : Mem)
    (hG : ∀ pre M, J pre M → M.get bx = some (.cells [.map (some bm)] ro) ∧ M.get bm = some (.rmap es ents clock)) (hps : ∀ pre M o o', J pre M → J pre ((M.push o).set M.next o')) (hit0 : M0.next ≤ it)
    (hset : ∀ pre M' c b s n l, J pre M' → M0.next ≤ c → isIter M' c → J pre (M'.set c (.mapIter b s n l)))
    (hY : ∀ pre x M', J pre M' → pre.length < ks.length → XYield Tryz.prog gl0 b [.agg (stC x)] M' fun v M'' => (v = .bool true ∧ J (pre ++ [x]) M'' ∧ M'.next ≤ M''.next ∧ ∀ c, c < M'.next → isIter M' c → M''.get c = M'.get c) ∨ (v = .bool false ∧ Jx (pre ++ [x]) M''))
    (Q : XQ) (hQ : ∀ fr M xs, xs.Perm ks → J xs M → Q (.exit 0) fr M) (hQx : ∀ pre fr M, Jx pre M → Q .ret fr M) :
    ∀ (f : Nat) (idx rest : List Nat) (seen : Array Nat) (pre : List St) (fr : Fr) (M : Mem), rest.length = f → Came ents ks seen pre idx rest → J pre M → it < M.next → M.get it = some (.mapIter (some bm) clock seen clock) → fr.rd 0 = .yld b → fr.rd 5 = .ptr (some (it, 0)) →
    roundsX (WX Tryz.prog gl0 14 X_maps_Keys_Stamp_Spot_c1_4 false) (f + 1) fr M Q := by
  intro f
  induction f with
  | zero =>
    intro idx rest seen pre fr M hf hC hJ hlt hit h0 h5
    rw [rounds_x_succ]
    refine xw_of ?_
    unfold X_maps_Keys_Stamp_Spot_c1_4
    simp -dsimp only [↓x_seq', ↓x_ops, ↓x_skip, ↓x_ret, ↓x_exit, ↓x_block', ↓x_cond', cond_true', cond_false', ↓i_nil, ↓i_plain, ↓i_guard, xs_val, xs_call, xs_yield, xg_true, xg_false, ↓n_normal, ↓n_ret, ↓n_exit, ↓b_normal, ↓b_ret, ↓b_exit, ↓xe_normal, ↓xe_ret, e_some, yieldOf, go_sem, ↓reduceIte, Nat.reduceEqDiff, Nat.reduceLT, Nat.reduceSub, X_maps_Keys_Stamp_Spot_c1_0, X_maps_Keys_Stamp_Spot_c1_1, X_maps_Keys_Stamp_Spot_c1_2, X_maps_Keys_Stamp_Spot_c1_3]
    refine i_next (it := it) (b := bm) (clock := clock) (seen := seen) (show fr.rd 5 = _ from h5) hit (hG _ _ hJ).2 ?_ ?_
    · intro hfil
      simp -dsimp only [↓x_seq', ↓x_ops, ↓x_skip, ↓x_ret, ↓x_exit, ↓x_block', ↓x_cond', cond_true', cond_false', ↓i_nil, ↓i_plain, ↓i_guard, xs_val, xs_call, xs_yield, xg_true, xg_false, ↓n_normal, ↓n_ret, ↓n_exit, ↓b_normal, ↓b_ret, ↓b_exit, ↓xe_normal, ↓xe_ret, e_some, yieldOf, go_sem, ↓reduceIte, Nat.reduceEqDiff, Nat.reduceLT, Nat.reduceSub, X_maps_Keys_Stamp_Spot_c1_0, X_maps_Keys_Stamp_Spot_c1_1, X_maps_Keys_Stamp_Spot_c1_2, X_maps_Keys_Stamp_Spot_c1_3, List.getElem?_cons_zero]
      exact hQ _ _ _ (hC.done hborn hl hfil) hJ
    · intro i e kv hi hn hkv
      have := (hC.step hl hi hn).1
      rw [List.eq_nil_of_length_eq_zero hf] at this
      cases this
  | succ f ih =>
    intro idx rest seen pre fr M hf hC hJ hlt hit h0 h5
    rw [rounds_x_succ]
    refine xw_of ?_
    unfold X_maps_Keys_Stamp_Spot_c1_4
    simp -dsimp only [↓x_seq', ↓x_ops, ↓x_skip, ↓x_ret, ↓x_exit, ↓x_block', ↓x_cond', cond_true', cond_false', ↓i_nil, ↓i_plain, ↓i_guard, xs_val, xs_call, xs_yield, xg_true, xg_false, ↓n_normal, ↓n_ret, ↓n_exit, ↓b_normal, ↓b_ret, ↓b_exit, ↓xe_normal, ↓xe_ret, e_some, yieldOf, go_sem, ↓reduceIte, Nat.reduceEqDiff, Nat.reduceLT, Nat.reduceSub, X_maps_Keys_Stamp_Spot_c1_0, X_maps_Keys_Stamp_Spot_c1_1, X_maps_Keys_Stamp_Spot_c1_2, X_maps_Keys_Stamp_Spot_c1_3]
    refine i_next (it := it) (b := bm) (clock := clock) (seen := seen) (show fr.rd 5 = _ from h5) hit (hG _ _ hJ).2 ?_ ?_
    · intro hfil
      simp -dsimp only [↓x_seq', ↓x_ops, ↓x_skip, ↓x_ret, ↓x_exit, ↓x_block', ↓x_cond', cond_true', cond_false', ↓i_nil, ↓i_plain, ↓i_guard, xs_val, xs_call, xs_yield, xg_true, xg_false, ↓n_normal, ↓n_ret, ↓n_exit, ↓b_normal, ↓b_ret, ↓b_exit, ↓xe_normal, ↓xe_ret, e_some, yieldOf, go_sem, ↓reduceIte, Nat.reduceEqDiff, Nat.reduceLT, Nat.reduceSub, X_maps_Keys_Stamp_Spot_c1_0, X_maps_Keys_Stamp_Spot_c1_1, X_maps_Keys_Stamp_Spot_c1_2, X_maps_Keys_Stamp_Spot_c1_3, List.getElem?_cons_zero]
      exact hQ _ _ _ (hC.done hborn hl hfil) hJ
    · intro i e kv hi hn hkv
      obtain ⟨hir, hC'⟩ := hC.step hl hi hn
      have hk1 := hks i kv hkv
      have hJ1 := hset pre M it (some bm) clock (seen.push e.born) clock hJ hit0 ⟨_, _, _, _, hit⟩
      have hit1 : (M.set it (.mapIter (some bm) clock (seen.push e.born) clock)).get it = some (.mapIter (some bm) clock (seen.push e.born) clock) := Mem.get_set_same _ _ _
      have hn1 : (M.set it (.mapIter (some bm) clock (seen.push e.born) clock)).next = M.next := rfl
      generalize M.set it (.mapIter (some bm) clock (seen.push e.born) clock) = M1 at *
      simp -dsimp only [↓x_seq', ↓x_ops, ↓x_skip, ↓x_ret, ↓x_exit, ↓x_block', ↓x_cond', cond_true', cond_false', ↓i_nil, ↓i_plain, ↓i_guard, xs_val, xs_call, xs_yield, xg_true, xg_false, ↓n_normal, ↓n_ret, ↓n_exit, ↓b_normal, ↓b_ret, ↓b_exit, ↓xe_normal, ↓xe_ret, e_some, yieldOf, go_sem, ↓reduceIte, Nat.reduceEqDiff, Nat.reduceLT, Nat.reduceSub, X_maps_Keys_Stamp_Spot_c1_0, X_maps_Keys_Stamp_Spot_c1_1, X_maps_Keys_Stamp_Spot_c1_2, X_maps_Keys_Stamp_Spot_c1_3, List.getElem?_cons_zero]
      refine i_entry (it := it) (b := bm) (since := clock) (clock := clock) (seen := seen.push e.born) (by simp only [go_sem, ↓reduceIte, Nat.reduceEqDiff, Nat.reduceLT, Nat.reduceSub, h5]) hit1 (hG _ _ hJ1).2 i e kv hi (by simp) hkv ?_
      rw [hk1]
      have hw0 := write_full (M := M1.push (.cells [.int .i64 0, .int .i64 0] false)) (b := M1.next) (vs := stC (ks.getD i (0, 0))) (Mem.get_push_same _ _) rfl rfl
      have hrd2 : rdCells (stC (ks.getD i (0, 0))) 0 2 = some (stC (ks.getD i (0, 0))) := rfl
      simp -dsimp only [↓x_seq', ↓x_ops, ↓x_skip, ↓x_ret, ↓x_exit, ↓x_block', ↓x_cond', cond_true', cond_false', ↓i_nil, ↓i_plain, ↓i_guard, xs_val, xs_call, xs_yield, xg_true, xg_false, ↓n_normal, ↓n_ret, ↓n_exit, ↓b_normal, ↓b_ret, ↓b_exit, ↓xe_normal, ↓xe_ret, e_some, yieldOf, go_sem, ↓reduceIte, Nat.reduceEqDiff, Nat.reduceLT, Nat.reduceSub, X_maps_Keys_Stamp_Spot_c1_0, X_maps_Keys_Stamp_Spot_c1_1, X_maps_Keys_Stamp_Spot_c1_2, X_maps_Keys_Stamp_Spot_c1_3, h0, List.getElem?_cons_zero, vstore, V.cells, stC_len, hw0, vload, Mem.read, Mem.get_set_same, hrd2, Nat.reduceEqDiff]
      have hJ2 := hps _ _ (.cells [.int .i64 0, .int .i64 0] false) (.cells (stC (ks.getD i (0, 0))) false) hJ1
      have hti : pre.length < ks.length := by
        have h1 := hC.perm.length_eq
        have h2 : rest.length = f + 1 := hf
        rw [hC.pre_, List.length_map]
        simp at h1
        omega
      refine xyield_of (hY _ (ks.getD i (0, 0)) _ hJ2 hti) ?_
      have hit2 : ((M1.push (.cells [.int .i64 0, .int .i64 0] false)).set M1.next (.cells (stC (ks.getD i (0, 0))) false)).get it = some (.mapIter (some bm) clock (seen.push e.born) clock) := by
        rw [Mem.get_set_ne _ _ (by omega), Mem.get_push_ne _ _ (by omega)]; exact hit1
      rintro v M2 (⟨rfl, hJ3, hn3, hk3⟩ | ⟨rfl, hJ3⟩)
      · simp -dsimp only [↓x_seq', ↓x_ops, ↓x_skip, ↓x_ret, ↓x_exit, ↓x_block', ↓x_cond', cond_true', cond_false', ↓i_nil, ↓i_plain, ↓i_guard, xs_val, xs_call, xs_yield, xg_true, xg_false, ↓n_normal, ↓n_ret, ↓n_exit, ↓b_normal, ↓b_ret, ↓b_exit, ↓xe_normal, ↓xe_ret, e_some, yieldOf, go_sem, ↓reduceIte, Nat.reduceEqDiff, Nat.reduceLT, Nat.reduceSub, X_maps_Keys_Stamp_Spot_c1_0, X_maps_Keys_Stamp_Spot_c1_1, X_maps_Keys_Stamp_Spot_c1_2, X_maps_Keys_Stamp_Spot_c1_3]
        have hnn : ((M1.push (.cells [.int .i64 0, .int .i64 0] false)).set M1.next (.cells (stC (ks.getD i (0, 0))) false)).next = M1.next + 1 := rfl
        rw [hnn] at hn3 hk3
        refine ih (idx ++ [i]) (rest.erase i) (seen.push e.born) _ _ M2 (by rw [List.length_erase_of_mem hir]; omega) hC' hJ3 (by omega) ((hk3 it (by omega) ⟨_, _, _, _, hit2⟩).trans hit2) ?_ ?_
        all_goals simp only [go_sem, ↓reduceIte, Nat.reduceEqDiff, Nat.reduceLT, Nat.reduceSub, h0, h5]
      · simp -dsimp only [↓x_seq', ↓x_ops, ↓x_skip, ↓x_ret, ↓x_exit, ↓x_block', ↓x_cond', cond_true', cond_false', ↓i_nil, ↓i_plain, ↓i_guard, xs_val, xs_call, xs_yield, xg_true, xg_false, ↓n_normal, ↓n_ret, ↓n_exit, ↓b_normal, ↓b_ret, ↓b_exit, ↓xe_normal, ↓xe_ret, e_some, yieldOf, go_sem, ↓reduceIte, Nat.reduceEqDiff, Nat.reduceLT, Nat.reduceSub, X_maps_Keys_Stamp_Spot_c1_0, X_maps_Keys_Stamp_Spot_c1_1, X_maps_Keys_Stamp_Spot_c1_2, X_maps_Keys_Stamp_Spot_c1_3]
        exact hQx _ _ _ hJ3
end Go.Am.Tryz


/- slices.SortedFunc of a map's keys, as a part. -/
namespace Go.Am.Tryz
open Go Go.Am Go.Proofs Go.Sort Go.Shelf
set_option maxRecDepth 100000
set_option linter.unusedSimpArgs false
set_option linter.unusedVariables false

theorem Keys_seq (bx bm : Nat) (ro : Bool) (es : List (V × V)) (ents : List MapEntry) (clock : Nat) (ks : List St) (hks : ∀ (i : Nat) (kv : V × V), es[i]? = some kv → kv.1 = V.agg (stC (ks.getD i (0, 0)))) (hl : ents.length = ks.length) (hborn : Born ents clock) :
    SeqX Tryz.prog gl0 F_maps_Keys_Stamp_Spot_c1 [] [.ptr (some (bx, 0))] (fun x => .agg (stC x)) (fun M => M.get bx = some (.cells [.map (some bm)] ro) ∧ M.get bm = some (.rmap es ents clock)) (fun ys => ys.Perm ks) (fun _ => True) ks.length := by
  intro b J Jx M hG hp hps hi hY hJ
  refine XRuns.walk mixed Tryz.func143 b_maps_Keys_Stamp_Spot_c1 n_maps_Keys_Stamp_Spot_c1 r_maps_Keys_Stamp_Spot_c1 (by rfl) ?_
  unfold X_maps_Keys_Stamp_Spot_c1
  obtain ⟨h1, h2⟩ := hG _ _ hJ
  simp -dsimp only [↓x_seq', ↓x_ops, ↓x_skip, ↓x_ret, ↓x_exit, ↓x_block', ↓x_cond', cond_true', cond_false', ↓i_nil, ↓i_plain, ↓i_guard, xs_val, xs_call, xs_yield, xg_true, xg_false, ↓n_normal, ↓n_ret, ↓n_exit, ↓b_normal, ↓b_ret, ↓b_exit, ↓xe_normal, ↓xe_ret, e_some, yieldOf, go_sem, ↓reduceIte, Nat.reduceEqDiff, Nat.reduceLT, Nat.reduceSub, X_maps_Keys_Stamp_Spot_c1_0, X_maps_Keys_Stamp_Spot_c1_1, X_maps_Keys_Stamp_Spot_c1_2, X_maps_Keys_Stamp_Spot_c1_3, Int.lt_irrefl, true_and, and_true, false_and, and_false, and_self, same_two, same_sib, same_spot, vload, vptr, vof, V.cells, Mem.read, rdCells, Mem.get_push, Mem.next_push, Nat.left_eq_add, Nat.add_eq_left, Nat.add_left_cancel_iff, Nat.add_right_cancel_iff, Nat.reduceAdd, Nat.add_zero, Nat.zero_add, Nat.add_assoc, Nat.reduceLeDiff, Nat.reduceBEq, List.length_cons, List.length_nil, List.drop_zero, List.drop_succ_cons, List.take_succ_cons, List.take_zero, List.take_nil, List.drop_nil, List.getElem?_cons_zero, List.getElem?_cons_succ, reduceCtorEq, Nat.succ_ne_self, Nat.one_ne_zero, Nat.le_refl, ne_eq, not_false_eq_true, List.singleton_append, h1]
  refine i_range (b := bm) (clock := clock) (by simp only [go_sem, ↓reduceIte, Nat.reduceEqDiff, Nat.reduceLT, Nat.reduceSub]) h2 ?_
  have hJ1 := hp [] M (.mapIter (some bm) clock #[] clock) hJ
  have hit : (M.push (.mapIter (some bm) clock #[] clock)).get M.next = some (.mapIter (some bm) clock #[] clock) := Mem.get_push_same _ _
  simp -dsimp only [↓x_seq', ↓x_ops, ↓x_skip, ↓x_ret, ↓x_exit, ↓x_block', ↓x_cond', cond_true', cond_false', ↓i_nil, ↓i_plain, ↓i_guard, xs_val, xs_call, xs_yield, xg_true, xg_false, ↓n_normal, ↓n_ret, ↓n_exit, ↓b_normal, ↓b_ret, ↓b_exit, ↓xe_normal, ↓xe_ret, e_some, yieldOf, go_sem, ↓reduceIte, Nat.reduceEqDiff, Nat.reduceLT, Nat.reduceSub]
  refine ⟨ks.length + 1, Keys_loop b bx bm M.next ro es ents clock ks hks hl hborn J Jx M hG hps (Nat.le_refl _) hi hY _ ?_ ?_ ks.length [] (List.range ks.length) #[] [] _ _ (by simp) ⟨by simp, rfl, rfl⟩ hJ1 (by simp) hit ?_ ?_⟩
  · intro fr M' xs hx h
    simp -dsimp only [↓x_seq', ↓x_ops, ↓x_skip, ↓x_ret, ↓x_exit, ↓x_block', ↓x_cond', cond_true', cond_false', ↓i_nil, ↓i_plain, ↓i_guard, xs_val, xs_call, xs_yield, xg_true, xg_false, ↓n_normal, ↓n_ret, ↓n_exit, ↓b_normal, ↓b_ret, ↓b_exit, ↓xe_normal, ↓xe_ret, e_some, yieldOf, go_sem, ↓reduceIte, Nat.reduceEqDiff, Nat.reduceLT, Nat.reduceSub]
    exact .inl ⟨xs, hx, h⟩
  · intro pre fr M' h
    simp -dsimp only [↓x_seq', ↓x_ops, ↓x_skip, ↓x_ret, ↓x_exit, ↓x_block', ↓x_cond', cond_true', cond_false', ↓i_nil, ↓i_plain, ↓i_guard, xs_val, xs_call, xs_yield, xg_true, xg_false, ↓n_normal, ↓n_ret, ↓n_exit, ↓b_normal, ↓b_ret, ↓b_exit, ↓xe_normal, ↓xe_ret, e_some, yieldOf, go_sem, ↓reduceIte, Nat.reduceEqDiff, Nat.reduceLT, Nat.reduceSub]
    exact .inr ⟨pre, trivial, h⟩
  all_goals simp only [go_sem, ↓reduceIte, Nat.reduceEqDiff, Nat.reduceLT, Nat.reduceSub]

theorem SortFunc_hold {lo : Nat} {M : Mem} {s : V} {xs : List St} (h : Hold lo M 2 s xs.length (elSt.all xs)) (hn : xs.length ≤ maxRoom) :
    Runs D1 F_slices_SortFunc_Stamp [s, .fn F_stamp_Compare [] []] M fun v M' => Hold lo M' 2 s xs.length (elSt.all (isort ltSt xs)) ∧ (∀ c, c < lo → M'.get c = M.get c) := by
  have hd := elSt.decs_all xs
  have hl := elSt.all_len (isort ltSt xs)
  rw [isort_len] at hl
  generalize hq : xs.length = n at *
  generalize hc : elSt.all xs = cs at *
  cases h with
  | nil =>
    have : xs = [] := List.eq_nil_of_length_eq_zero hq
    subst this
    exact Runs.prim rfl rfl ⟨.nil, fun _ _ => rfl⟩
  | row h1 h2 h3 h4 =>
    rename_i b
    refine Runs.prim (v := .tup []) (M' := M.set b (.cells (elSt.all (isort ltSt xs)) false)) rfl ?_ ⟨.row (Mem.get_set_same _ _ _) hl h3 (by simpa using h4), fun c hc => Mem.get_set_ne _ _ (by omega)⟩
    simp only [sortP, Nat.beq_refl, cond_true, ble_iff, decide_eq_true hn, h1, hd, Option.map_some]

theorem SortedFunc_runs {f : FuncId} {first captured : List V} {G : Mem → Prop} {S Sp : List St → Prop} {N : Nat} (hseq : SeqP f first captured (fun x => .agg (stC x)) G S Sp N) (hN : (N + 1) * 16 ≤ maxRoom) (hS : ∀ xs, S xs → xs.length ≤ maxRoom) (M : Mem)
    (hG : ∀ M', (∀ c, c < M.next → M'.get c = M.get c) → M.next ≤ M'.next → G M') :
    XP F_slices_SortedFunc_Stamp [.fn f first captured, .fn F_stamp_Compare [] []] M fun v M' => ∃ xs, S xs ∧ (∀ c, c < M.next → M'.get c = M.get c) ∧ Hold M.next M' 2 v xs.length (elSt.all (isort ltSt xs)) ∧ (xs = [] → v = .slice none 0 (.exact 0)) := by
  refine XRuns.walk mixed Tryz.func115 b_slices_SortedFunc_Stamp n_slices_SortedFunc_Stamp r_slices_SortedFunc_Stamp (by rfl) ?_
  unfold X_slices_SortedFunc_Stamp
  simp -dsimp only [↓x_seq', ↓x_ops, ↓x_skip, ↓x_ret, ↓x_exit, ↓x_block', ↓x_cond', cond_true', cond_false', ↓i_nil, ↓i_plain, ↓i_guard, xs_val, xs_call, xs_yield, xg_true, xg_false, ↓n_normal, ↓n_ret, ↓n_exit, ↓b_normal, ↓b_ret, ↓b_exit, ↓xe_normal, ↓xe_ret, e_some, yieldOf, go_sem, ↓reduceIte, Nat.reduceEqDiff, Nat.reduceLT, Nat.reduceSub, X_slices_SortedFunc_Stamp_0, X_slices_SortedFunc_Stamp_1, X_slices_SortedFunc_Stamp_2, X_slices_SortedFunc_Stamp_3, Int.lt_irrefl, true_and, and_true, false_and, and_false, and_self, same_two, same_sib, same_spot, vload, vptr, vof, V.cells, Mem.read, rdCells, Mem.get_push, Mem.next_push, Nat.left_eq_add, Nat.add_eq_left, Nat.add_left_cancel_iff, Nat.add_right_cancel_iff, Nat.reduceAdd, Nat.add_zero, Nat.zero_add, Nat.add_assoc, Nat.reduceLeDiff, Nat.reduceBEq, List.length_cons, List.length_nil, List.drop_zero, List.drop_succ_cons, List.take_succ_cons, List.take_zero, List.take_nil, List.drop_nil, List.getElem?_cons_zero, List.getElem?_cons_succ, reduceCtorEq, Nat.succ_ne_self, Nat.one_ne_zero, Nat.le_refl, ne_eq, not_false_eq_true]
  refine xcall_of (Collect_runs hseq hN M hG) ?_
  rintro v M1 ⟨xs, h1, h2, h3, h6⟩
  simp -dsimp only [↓x_seq', ↓x_ops, ↓x_skip, ↓x_ret, ↓x_exit, ↓x_block', ↓x_cond', cond_true', cond_false', ↓i_nil, ↓i_plain, ↓i_guard, xs_val, xs_call, xs_yield, xg_true, xg_false, ↓n_normal, ↓n_ret, ↓n_exit, ↓b_normal, ↓b_ret, ↓b_exit, ↓xe_normal, ↓xe_ret, e_some, yieldOf, go_sem, ↓reduceIte, Nat.reduceEqDiff, Nat.reduceLT, Nat.reduceSub, X_slices_SortedFunc_Stamp_0, X_slices_SortedFunc_Stamp_1, X_slices_SortedFunc_Stamp_2, X_slices_SortedFunc_Stamp_3, Int.lt_irrefl, true_and, and_true, false_and, and_false, and_self, same_two, same_sib, same_spot, vload, vptr, vof, V.cells, Mem.read, rdCells, Mem.get_push, Mem.next_push, Nat.left_eq_add, Nat.add_eq_left, Nat.add_left_cancel_iff, Nat.add_right_cancel_iff, Nat.reduceAdd, Nat.add_zero, Nat.zero_add, Nat.add_assoc, Nat.reduceLeDiff, Nat.reduceBEq, List.length_cons, List.length_nil, List.drop_zero, List.drop_succ_cons, List.take_succ_cons, List.take_zero, List.take_nil, List.drop_nil, List.getElem?_cons_zero, List.getElem?_cons_succ, reduceCtorEq, Nat.succ_ne_self, Nat.one_ne_zero, Nat.le_refl, ne_eq, not_false_eq_true]
  refine xcall_of (XRuns.of_runs dok1 (SortFunc_hold h3 (hS xs h1))) ?_
  rintro v2 M2 ⟨h4, h5⟩
  simp -dsimp only [↓x_seq', ↓x_ops, ↓x_skip, ↓x_ret, ↓x_exit, ↓x_block', ↓x_cond', cond_true', cond_false', ↓i_nil, ↓i_plain, ↓i_guard, xs_val, xs_call, xs_yield, xg_true, xg_false, ↓n_normal, ↓n_ret, ↓n_exit, ↓b_normal, ↓b_ret, ↓b_exit, ↓xe_normal, ↓xe_ret, e_some, yieldOf, go_sem, ↓reduceIte, Nat.reduceEqDiff, Nat.reduceLT, Nat.reduceSub, X_slices_SortedFunc_Stamp_0, X_slices_SortedFunc_Stamp_1, X_slices_SortedFunc_Stamp_2, X_slices_SortedFunc_Stamp_3, Int.lt_irrefl, true_and, and_true, false_and, and_false, and_self, same_two, same_sib, same_spot, vload, vptr, vof, V.cells, Mem.read, rdCells, Mem.get_push, Mem.next_push, Nat.left_eq_add, Nat.add_eq_left, Nat.add_left_cancel_iff, Nat.add_right_cancel_iff, Nat.reduceAdd, Nat.add_zero, Nat.zero_add, Nat.add_assoc, Nat.reduceLeDiff, Nat.reduceBEq, List.length_cons, List.length_nil, List.drop_zero, List.drop_succ_cons, List.take_succ_cons, List.take_zero, List.take_nil, List.drop_nil, List.getElem?_cons_zero, List.getElem?_cons_succ, reduceCtorEq, Nat.succ_ne_self, Nat.one_ne_zero, Nat.le_refl, ne_eq, not_false_eq_true]
  exact ⟨xs, h1, fun c hc => (h5 c hc).trans (h2 c hc), h4, h6⟩


theorem sorted_unique : ∀ {l l' : List St}, l.Pairwise (fun a b => ltSt b a = false) → l'.Pairwise (fun a b => ltSt b a = false) → l.Perm l' → l = l'
  | [], l', _, _, hp => hp.nil_eq
  | a :: l, [], _, _, hp => absurd hp.length_eq (by simp)
  | a :: l, b :: l', h, h', hp => by
    have hab : a = b := by
      have ha : a ∈ b :: l' := hp.mem_iff.mp (List.mem_cons_self ..)
      have hb : b ∈ a :: l := hp.mem_iff.mpr (List.mem_cons_self ..)
      rcases List.mem_cons.mp ha with e | ha
      · exact e
      rcases List.mem_cons.mp hb with e | hb
      · exact e.symm
      exact tot_St _ _ ((List.pairwise_cons.mp h').1 a ha) ((List.pairwise_cons.mp h).1 b hb)
    subst hab
    rw [sorted_unique (List.pairwise_cons.mp h).2 (List.pairwise_cons.mp h').2 (List.Perm.cons_inv hp)]
theorem isort_perm_eq {l l' : List St} (h : l.Perm l') : isort ltSt l = isort ltSt l' :=
  sorted_unique (isort_sorted swo_St l) (isort_sorted swo_St l') (((isort_perm ltSt l).trans h).trans (isort_perm ltSt l').symm)

/-- A map's keys, as stamps. -/
def keysOf : List (V × V) → Option (List St)
  | [] => some []
  | (.agg [.int .i64 a, .int .i64 b], _) :: r => (keysOf r).map ((a, b) :: ·)
  | _ :: _ => none
theorem keysOf_is : ∀ {es : List (V × V)} {ks : List St}, keysOf es = some ks → ks.length = es.length ∧ ∀ (i : Nat) (kv : V × V), es[i]? = some kv → kv.1 = V.agg (stC (ks.getD i (0, 0)))
  | [], ks, h => by
    cases h
    exact ⟨rfl, fun i kv h => by simp at h⟩
  | x :: r, ks, h => by
    unfold keysOf at h
    split at h
    · rename_i h'; cases h'
    · rename_i a b v r' he
      cases he
      simp only [Option.map_eq_some_iff] at h
      obtain ⟨ks', h1, rfl⟩ := h
      obtain ⟨h2, h3⟩ := keysOf_is h1
      refine ⟨by simp [h2], fun i kv hi => ?_⟩
      cases i with
      | zero => simp at hi; subst hi; rfl
      | succ i =>
        simp only [List.getElem?_cons_succ] at hi
        have := h3 i kv hi
        rw [this]
        simp [List.getD_eq_getElem?_getD]
    · cases h

/-- What a map's keys come to, sorted. -/
def pSortedK (args : List V) (M : Mem) : Option KeepR :=
  match args with
  | [.fn f1 [] [.ptr (some (bx, 0))], .fn f2 [] []] => cond (Nat.beq f1 F_maps_Keys_Stamp_Spot_c1) (cond (Nat.beq f2 F_stamp_Compare) (match M.get bx with
    | some (.cells [.map (some bm)] _) => (match M.get bm with
      | some (.map es) => (keysOf es).bind fun ks => cond (Nat.ble ((ks.length + 1) * 16) maxRoom) (some (match ks with
        | [] => .flat (.slice none 0 (.exact 0))
        | x :: xs => .row (xs.length + 1) 2 (elSt.all (isort ltSt (x :: xs))))) none
      | _ => none)
    | _ => none) none) none
  | _ => none
end Go.Am.Tryz


/- The keys sorted, as a part of the machine. -/
namespace Go.Am.Tryz
open Go Go.Am Go.Proofs Go.Sort Go.Shelf
set_option maxRecDepth 100000
set_option linter.unusedSimpArgs false
set_option linter.unusedVariables false

theorem pSortedK_ok : CallOK Tryz.prog gl0 fun f' args M => if f' = F_slices_SortedFunc_Stamp then (pSortedK args M).map fun r => r.res M else none := by
  refine callOK_keep ⟨_, Tryz.func115, (by kernel_rfl), (by kernel_rfl)⟩ ?_
  intro args M r h hwf
  unfold pSortedK at h
  split at h
  · rename_i f1 bx f2
    obtain ⟨e1, h1⟩ := cond_some h
    clear h
    obtain ⟨e2, h⟩ := cond_some h1
    clear h1
    obtain rfl : f1 = F_maps_Keys_Stamp_Spot_c1 := Nat.eq_of_beq_eq_true e1
    obtain rfl : f2 = F_stamp_Compare := Nat.eq_of_beq_eq_true e2
    split at h
    · rename_i bm ro hbx
      split at h
      · rename_i es hbm
        simp only [Option.bind_eq_some_iff] at h
        obtain ⟨ks, hks, h⟩ := h
        obtain ⟨hl, h⟩ := cond_some h
        rw [ble_iff, decide_eq_true_eq] at hl
        obtain ⟨hlen, hkey⟩ := keysOf_is hks
        have hne : bx ≠ bm := by rintro rfl; rw [hbx] at hbm; cases hbm
        refine ⟨[bm], fun E w us hR hA b hb => ?_, fun Mz hz => ?_⟩
        · simp only [List.mem_singleton] at hb
          subst hb
          refine ⟨⟨es, hbm⟩, ?_⟩
          cases hA with
          | cons h1 t =>
            cases h1 with
            | fn ha hb =>
              rename_i b'
              generalize hq : b'.toList = q at hb
              cases hb with
              | cons h2 t2 =>
                cases h2 with
                | ptr hE =>
                  obtain ⟨o, ho, hr⟩ := hR.at_ _ _ _ _ hE
                  rw [hbx] at ho
                  cases ho
                  obtain ⟨arr, elem, fz, hx, hCR, _⟩ := hr
                  obtain ⟨u, hu, hv⟩ := hCR 0 _ rfl
                  cases hv with
                  | map hE2 => exact ⟨_, hE2⟩
        · obtain ⟨es', ents, clock, hz1, hz2, hz3, hz4⟩ := hz.at_ bm (by simp)
          rw [hbm] at hz1
          cases hz1
          have hlt : ∀ c o, Mz.get c = some o → c < Mz.next := fun c o hc => by
            rcases Nat.lt_or_ge c Mz.next with h1 | h1
            · exact h1
            · by_cases hcb : c = bm
              · subst hcb
                rw [hwf c (by rw [← hz.next]; exact h1)] at hbm; cases hbm
              · rw [hz.other c (by simpa using hcb), hwf c (by rw [← hz.next]; exact h1)] at hc; cases hc
          have hbz : Mz.get bx = some (.cells [.map (some bm)] ro) := (hz.other bx (by simpa using hne)).trans hbx
          have hle : ks.length ≤ maxRoom := Nat.le_trans (by omega) hl
          refine (SortedFunc_runs (SeqP.of (Keys_seq bx bm ro es ents clock ks hkey (by omega) hz4)) hl (fun ys h => by rw [h.length_eq]; exact hle) Mz ?_).mono ?_
          · intro M' hk _
            exact ⟨(hk bx (hlt _ _ hbz)).trans hbz, (hk bm (hlt _ _ hz2)).trans hz2⟩
          · rintro v M' ⟨ys, hp, h1, h2, h6⟩
            rw [isort_perm_eq hp, hp.length_eq] at h2
            cases h
            refine ⟨fun c hc => h1 c (by rw [hz.next]; exact hc), ?_⟩
            cases hx : ks with
            | nil =>
              subst hx
              exact ⟨rfl, h6 (List.Perm.eq_nil hp)⟩
            | cons x l =>
              subst hx
              refine ⟨elSt.all_flat _, ?_⟩
              generalize hq : elSt.all (isort ltSt (x :: l)) = cs at h2
              generalize hn : (x :: l).length = n at h2
              cases h2 with
              | nil => simp at hn
              | row a b c d => exact ⟨_, by rw [← hz.next]; exact c, by rw [← hn]; rfl, a⟩
      · cases h
    · cases h
  · cases h

def D1t : Decls := D1.addM F_slices_SortedFunc_Stamp (fun args M => (pSortedK args M).map fun r => r.res M)
theorem dok1t : DOK Tryz.prog gl0 D1t := dok1.addM pSortedK_ok
end Go.Am.Tryz


/- Nodes' spots in a map; what stands above. -/
namespace Go.Am.Tryz
open Go Go.Am Go.Proofs Go.Sort Go.Shelf
set_option maxRecDepth 100000
set_option linter.unusedSimpArgs false
set_option linter.unusedVariables false

abbrev Spot := St × List UInt8
def spC (s : Spot) : List V := [.int .i64 s.1.1, .int .i64 s.1.2, .str s.2]
def sp0 : Spot := ((0, 0), [])
/-- A tree's map. -/
abbrev Tr := List (St × Spot)
def encM (l : Tr) : List (V × V) := l.map fun p => (.agg (stC p.1), .agg (spC p.2))
def getS : Tr → St → Option Spot
  | [], _ => none
  | p :: r, k => if k = p.1 then some p.2 else getS r k
def idxS : Tr → St → Option Nat
  | [], _ => none
  | p :: r, k => if k = p.1 then some 0 else (idxS r k).map (· + 1)

theorem st_same (a b : St) : vsame ⟨true, [.int .i64, .int .i64]⟩ (.agg (stC a)) (.agg (stC b)) = some (decide (a = b)) := by
  obtain ⟨a1, a2⟩ := a
  obtain ⟨b1, b2⟩ := b
  simp only [stC]
  rw [same_two]
  simp [Prod.ext_iff]

theorem mapIdx_is (k : St) : ∀ l : Tr, mapIdx ⟨true, [.int .i64, .int .i64]⟩ (.agg (stC k)) (encM l) = some (idxS l k)
  | [] => rfl
  | p :: r => by
    show (match vsame _ (.agg (stC k)) (.agg (stC p.1)) with | some true => _ | some false => _ | none => _) = _
    rw [st_same]
    unfold idxS
    by_cases h : k = p.1
    · simp only [h, decide_true, if_true]
    · simp only [h, decide_false, if_false]
      have := mapIdx_is k r
      unfold encM at this
      rw [this]
      rfl
theorem idx_get (k : St) : ∀ l : Tr, ((idxS l k).bind fun i => (encM l)[i]?.map (·.2)) = (getS l k).map fun s => .agg (spC s)
  | [] => rfl
  | p :: r => by
    unfold idxS getS
    by_cases h : k = p.1
    · simp only [h, if_true]; rfl
    · simp only [h, if_false]
      rw [← idx_get k r]
      cases idxS r k <;> rfl

/-- What a look tells. -/
def lookV (o : Option Spot) : V := match o with
  | some s => .tup [.agg (spC s), .bool true]
  | none => .tup [.agg (spC sp0), .bool false]
theorem look_is {M : Mem} {b : Nat} {l : Tr} (h : mapAt M b = some (encM l)) (k : St) : vlookup ⟨true, [.int .i64, .int .i64]⟩ (.agg [.int .i64 0, .int .i64 0, .str []]) true M (.map (some b)) (.agg (stC k)) = some (lookV (getS l k)) := by
  have hok : Sh.ok ⟨true, [.int .i64, .int .i64]⟩ (.agg (stC k)) = true := rfl
  simp only [vlookup, h, Option.bind_some, hok, cond_true, mapIdx_is, Option.map_some, idx_get]
  cases getS l k <;> rfl

def upL (l : Tr) : Nat → St → Option (List St)
  | 0, _ => none
  | f + 1, n => match getS l n with
    | none => some []
    | some s => (upL l f s.1).map (s.1 :: ·)

theorem x_dops {P : Program} {gl : Nat → Bool} {n : Nat} {fr : Fr} {M : Mem} {Q : XQ} {D : Decls} (hD : DOK P gl D) {l : List Item} {q : Tg Q} (h : W D n (.ops l) fr M (Q := Q) ⟨⟩) : xw P gl n (.dops l) false fr M q := by
  obtain ⟨k, e, fr', M', hx, hq⟩ := h
  show WX P gl n (.dops l) false fr M Q
  simp only [exec, Option.map_eq_some_iff] at hx
  obtain ⟨⟨f2, m2⟩, h1, h2⟩ := hx
  cases h2
  exact ⟨rfl, callN D k, _, _, callN_sound hD k, h1, hq⟩
end Go.Am.Tryz

