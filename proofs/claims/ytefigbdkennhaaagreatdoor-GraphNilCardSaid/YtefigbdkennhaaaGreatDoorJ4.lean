/- The machine and what is proved of its runs, part 4: what each part says stands at its head. -/
import Derived.Test.YtefigbdkennhaaaGreatDoorJ3
import Derived.Test.YtefigbdkennhaaaGreatDoorChecked
import Derived.KernelRfl
import Derived.Shelf.SlSortCmp.NoneTotal
set_option linter.unusedSimpArgs false
set_option linter.unusedVariables false
set_option linter.unusedSectionVars false
/- What the machine runs: the code of the functions, by name, written by a program of mine, each tied to the given program by the kernel. -/
namespace Go.Am.Tryz
open Go Go.Am Go.Proofs
abbrev Row := List Go.Am.Item
abbrev r (t : Nat) : Opd := .tmp t
abbrev i (d : Nat) (op : AOp) : Go.Am.Item := ⟨⟨some d, op, none⟩, []⟩
abbrev i0 (op : AOp) : Go.Am.Item := ⟨⟨none, op, none⟩, []⟩
abbrev g (d : Nat) (op : AOp) (t : Nat) (b : Bool) : Go.Am.Item := ⟨⟨some d, op, some (t, b)⟩, []⟩
abbrev a (d : Nat) (op : AOp) : AOper := ⟨some d, op, none⟩
abbrev F_law13_GraphNil : Nat := 6
abbrev F_law11_knows : Nat := 8
abbrev F_tree_New : Nat := 9
abbrev F_tree_Tree_Add : Nat := 10
abbrev F_law10_Own : Nat := 11
abbrev F_tree_Tree_Move : Nat := 13
abbrev F_order_Row : Nat := 16
abbrev F_law13_Light : Nat := 18
abbrev F_law13_knows : Nat := 19
abbrev F_graph_New : Nat := 20
abbrev F_graph_Graph_Insert : Nat := 21
abbrev F_law07_Own : Nat := 22
abbrev F_graph_Graph_Nodes : Nat := 23
abbrev F_graph_Graph_Above : Nat := 24
abbrev F_graph_Graph_Spot : Nat := 25
abbrev F_graph_Graph_Reaches : Nat := 26
abbrev F_graph_Graph_Ref : Nat := 27
abbrev F_graph_Graph_Has : Nat := 28
abbrev F_graph_Graph_Row : Nat := 29
abbrev F_graph_Graph_Clone : Nat := 30
abbrev F_law13_num : Nat := 32
abbrev F_graph_Graph_Count : Nat := 33
abbrev F_graph_Graph_Same : Nat := 34
abbrev F_graph_Graph_Done : Nat := 38
abbrev F_order_Sort : Nat := 40
abbrev F_order_Key : Nat := 41
abbrev F_law11_num : Nat := 42
abbrev F_order_Find : Nat := 43
abbrev F_tree_Tree_none : Nat := 44
abbrev F_op_Node : Nat := 45
abbrev F_tree_Spot_right : Nat := 46
abbrev F_tree_Tree_node : Nat := 47
abbrev F_tree_Tree_Has : Nat := 48
abbrev F_ref10_Tree_find : Nat := 49
abbrev F_ref07_Node : Nat := 50
abbrev F_ref10_Right : Nat := 51
abbrev F_ref10_Tree_Has : Nat := 52
abbrev F_tree_Tree_Within : Nat := 53
abbrev F_tree_Tree_Below : Nat := 55
abbrev F_tree_Tree_Spot : Nat := 56
abbrev F_law13_ref12Light : Nat := 58
abbrev F_graph_Graph_none : Nat := 59
abbrev F_op_Right : Nat := 60
abbrev F_graph_Graph_place : Nat := 61
abbrev F_slices_Insert_entry : Nat := 62
abbrev F_graph_entry_do : Nat := 63
abbrev F_tree_Tree_Nodes : Nat := 64
abbrev F_tree_Tree_Above : Nat := 65
abbrev F_graph_Graph_next : Nat := 66
abbrev F_slices_Clone_entry : Nat := 67
abbrev F_tree_Tree_Clone : Nat := 68
abbrev F_maps_Clone_Stamp : Nat := 69
abbrev F_ref02_Compare : Nat := 71
abbrev F_tree_Tree_Same : Nat := 72
abbrev F_maps_Equal_Stamp : Nat := 73
abbrev F_ref07_Trash : Nat := 74
abbrev F_ref10_Tree_Spot : Nat := 77
abbrev F_order_Sort_c1 : Nat := 82
abbrev F_order_Before : Nat := 83
abbrev F_slices_SortedFunc_Sib : Nat := 84
abbrev F_slices_Values_Sib : Nat := 85
abbrev F_order_gap : Nat := 86
abbrev F_order_Key_c1 : Nat := 87
abbrev F_poskey_Between : Nat := 88
abbrev F_slices_IndexFunc_Sib : Nat := 89
abbrev F_order_Find_c1 : Nat := 90
abbrev F_stamp_Right : Nat := 91
abbrev F_op_Place : Nat := 92
abbrev F_poskey_Right : Nat := 93
abbrev F_ref02_Right : Nat := 94
abbrev F_ref07_Place : Nat := 95
abbrev F_ref04_Right : Nat := 96
abbrev F_ref07_Root : Nat := 97
abbrev F_tree_Tree_up : Nat := 98
abbrev F_op_parts : Nat := 100
abbrev F_op_Right_c1 : Nat := 101
abbrev F_slices_ContainsFunc_Stamp : Nat := 102
abbrev F_op_Right_c2 : Nat := 103
abbrev F_value_Right8 : Nat := 104
abbrev F_slices_BinarySearchFunc_entry_Stamp : Nat := 105
abbrev F_graph_Graph_place_c1 : Nat := 106
abbrev F_stamp_Compare : Nat := 107
abbrev F_slices_overlaps_entry : Nat := 108
abbrev F_slices_rotateRight_entry : Nat := 109
abbrev F_graph_entry_do_c1 : Nat := 110
abbrev F_tree_Tree_Drop : Nat := 111
abbrev F_graph_entry_do_c2 : Nat := 112
abbrev F_graph_Graph_ring : Nat := 113
abbrev F_graph_Graph_link : Nat := 114
abbrev F_slices_SortedFunc_Stamp : Nat := 115
abbrev F_maps_Keys_Stamp_Spot : Nat := 116
abbrev F_slices_Collect_Stamp : Nat := 117
abbrev F_maps_Clone_Stamp_Spot : Nat := 118
abbrev F_maps_Equal_Stamp_Spot : Nat := 124
abbrev F_poskey_Compare : Nat := 129
abbrev F_slices_Collect_Sib : Nat := 130
abbrev F_slices_SortFunc_Sib : Nat := 131
abbrev F_slices_Values_Sib_c1 : Nat := 132
abbrev F_poskey_fine : Nat := 133
abbrev F_poskey_above : Nat := 134
abbrev F_poskey_greatest : Nat := 135
abbrev F_tree_Tree_up_c1 : Nat := 136
abbrev F_slices_IndexFunc_Stamp : Nat := 138
abbrev F_value_Right : Nat := 139
abbrev F_slices_rotateLeft_entry : Nat := 140
abbrev F_graph_Graph_link_c1 : Nat := 141
abbrev F_slices_SortFunc_Stamp : Nat := 142
abbrev F_maps_Keys_Stamp_Spot_c1 : Nat := 143
abbrev F_slices_AppendSeq_Stamp : Nat := 144
abbrev F_strings_Compare : Nat := 147
abbrev F_slices_AppendSeq_Sib : Nat := 148
abbrev F_poskey_fine_c1 : Nat := 151
abbrev F_poskey_digit : Nat := 152
abbrev F_value_good : Nat := 153
abbrev F_slices_Reverse_entry : Nat := 154
/-! diorama/dioramalaw11.OrderTrees -/
/-! diorama/dioramalaw13.GraphNoRing -/
/-! diorama/dioramalaw13.GraphPlays -/
/-! diorama/dioramalaw13.GraphNil -/
def A_law13_GraphNil_0 : Row := [i 1 (.box (r 0)), i 2 (.mv (.const (.bool false)))]
def A_law13_GraphNil_1 : Row := [i 11 (.load (some 14) (r 1)), i 12 (.buildSlice 1 [.int (.i64) 0, .int (.i64) 0, .int (.i64) 0, .int (.i64) 0, .int (.i64) 0, .int (.i64) 0,
  .int (.i64) 0, .str [], .slice none 0 (.exact 0), .int (.i64) 0, .int (.i64) 0, .int (.i64) 0, .str [], .bool false] [(0, 14, .tmp 11)]), i 13 (.call (.func
  F_law13_Light) [.tmp 12]), i 14 (.un (.not) (r 13))]
def A_law13_GraphNil_2 : Row := [i 15 (.call (.func F_law13_knows) []), i 2 (.mv (r 15))]
def A_law13_GraphNil_3 : Row := [i 3 (.mv (.const (.ptr none)))]
def A_law13_GraphNil_4 : Row := [i 4 (.mv (.const (.int (.i64) 0)))]
def A_law13_GraphNil_5 : Row := [i 16 (.mv (r 4)), i 17 (.bin (.lss) (r 16) (.const (.int (.i64) 2)))]
def A_law13_GraphNil_6 : Row := [i 21 (.mv (r 3)), i 22 (.fieldAddr 0 (r 1)), i 23 (.load (some 2) (r 22)), i 24 (.fieldAddr 2 (r 1)), i 25 (.load (some 12) (r 24)), ⟨a 26
  (.call (.func F_law07_Own) [.tmp 25]), [a 23 (.load (some 2) (r 22))]⟩, i 27 (.call (.func F_graph_Graph_Insert) [.tmp 21, .tmp 23, .tmp 26]), i 20 (.mv (r 27)), i 28
  (.extract (r 20) 0), i 29 (.extract (r 20) 1), i 5 (.mv (r 28)), i 6 (.mv (r 29))]
def A_law13_GraphNil_7 : Row := [i 31 (.mv (r 3)), i 32 (.fieldAddr 0 (r 1)), i 33 (.load (some 2) (r 32)), i 34 (.call (.func F_graph_Graph_Spot) [.tmp 31, .tmp 33]), i 30
  (.mv (r 34)), i 35 (.extract (r 30) 0), i 36 (.extract (r 30) 1), i 7 (.alloc [.int (.i64) 0, .int (.i64) 0, .str []]), i0 (.store 3 (r 7) (r 35)), i 8 (.mv (r 36))]
def A_law13_GraphNil_8 : Row := [i 38 (.mv (r 3)), i 39 (.fieldAddr 0 (r 1)), i 40 (.load (some 2) (r 39)), i 41 (.call (.func F_graph_Graph_Ref) [.tmp 38, .tmp 40]), i 37
  (.mv (r 41)), i 42 (.extract (r 37) 0), i 43 (.extract (r 37) 1), i 9 (.alloc [.int (.i64) 0, .int (.i64) 0]), i0 (.store 2 (r 9) (r 42)), i 10 (.mv (r 43))]
def A_law13_GraphNil_9 : Row := [i 44 (.mv (r 6)), i 45 (.call (.func F_law13_num) [.tmp 44]), i 46 (.bin (.neq) (r 45) (.const (.int (.i64) 1))), i 47 (.mv (r 46)), g 48 (.mv
  (r 8)) 47 false, i 49 (.pick (r 47) (.const (.bool true)) (r 48)), i 50 (.mv (r 49)), g 51 (.mv (r 10)) 50 false, i 52 (.pick (r 50) (.const (.bool true)) (r 51)), i 53
  (.mv (r 52)), g 54 (.mv (r 3)) 53 false, g 55 (.fieldAddr 0 (r 1)) 53 false, g 56 (.load (some 2) (r 55)) 53 false, g 57 (.call (.func F_graph_Graph_Done) [.tmp 54, .tmp
  56]) 53 false, i 58 (.pick (r 53) (.const (.bool true)) (r 57)), i 59 (.mv (r 58)), g 60 (.mv (r 3)) 59 false, g 61 (.fieldAddr 0 (r 1)) 59 false, g 62 (.load (some 2)
  (r 61)) 59 false, g 63 (.call (.func F_graph_Graph_Has) [.tmp 60, .tmp 62]) 59 false, i 64 (.pick (r 59) (.const (.bool true)) (r 63)), i 65 (.mv (r 64)), g 66 (.mv (r
  3)) 65 false, g 67 (.fieldAddr 0 (r 1)) 65 false, g 68 (.load (some 2) (r 67)) 65 false, g 69 (.fieldAddr 0 (r 1)) 65 false, g 70 (.load (some 2) (r 69)) 65 false, g 71
  (.call (.func F_graph_Graph_Reaches) [.tmp 66, .tmp 68, .tmp 70, .const (.bool true)]) 65 false, i 72 (.pick (r 65) (.const (.bool true)) (r 71)), i 73 (.mv (r 72)), g
  74 (.mv (r 3)) 73 false, g 76 (.mv (r 3)) 73 false, g 77 (.fieldAddr 0 (r 1)) 73 false, g 78 (.load (some 2) (r 77)) 73 false, g 82 (.mv (r 3)) 73 false, g 86 (.mv (r
  3)) 73 false, g 87 (.fieldAddr 0 (r 1)) 73 false, g 88 (.load (some 2) (r 87)) 73 false, ⟨⟨(some 75), .call (.func F_graph_Graph_Count) [.tmp 74], (some (73, false))⟩,
  [⟨(some 88), .load (some 2) (r 87), (some (73, false))⟩, ⟨(some 78), .load (some 2) (r 77), (some (73, false))⟩]⟩, ⟨⟨(some 79), .call (.func F_graph_Graph_Row) [.tmp 76,
  .tmp 78], (some (73, false))⟩, [⟨(some 88), .load (some 2) (r 87), (some (73, false))⟩]⟩, g 80 (.lenSlice (r 79)) 73 false, g 81 (.bin (.add) (r 75) (r 80)) 73 false,
  ⟨⟨(some 83), .call (.func F_graph_Graph_Nodes) [.tmp 82], (some (73, false))⟩, [⟨(some 88), .load (some 2) (r 87), (some (73, false))⟩]⟩, g 84 (.lenSlice (r 83)) 73
  false, g 85 (.bin (.add) (r 81) (r 84)) 73 false, g 89 (.call (.func F_graph_Graph_Above) [.tmp 86, .tmp 88]) 73 false, g 90 (.lenSlice (r 89)) 73 false, g 91 (.bin
  (.add) (r 85) (r 90)) 73 false, g 92 (.bin (.neq) (r 91) (.const (.int (.i64) 0))) 73 false, i 93 (.pick (r 73) (.const (.bool true)) (r 92)), i 94 (.mv (r 93)), g 95
  (.mv (r 3)) 94 false, g 96 (.mv (r 3)) 94 false, g 97 (.call (.func F_graph_Graph_Same) [.tmp 95, .tmp 96]) 94 false, i 98 (.pick (r 94) (.const (.bool true)) (r 97)), i
  99 (.mv (r 98)), g 100 (.mv (r 3)) 99 false, g 101 (.call (.func F_graph_New) []) 99 false, g 102 (.call (.func F_graph_Graph_Same) [.tmp 100, .tmp 101]) 99 false, i 103
  (.pick (r 99) (.const (.bool true)) (r 102)), i 104 (.mv (r 103)), g 105 (.mv (r 3)) 104 false, g 106 (.call (.func F_graph_Graph_Clone) [.tmp 105]) 104 false, g 107
  (.eqNil true (.ptr) (r 106) (.const (.ptr none))) 104 false, i 108 (.pick (r 104) (.const (.bool true)) (r 107))]
def A_law13_GraphNil_10 : Row := [i 2 (.mv (.const (.bool false)))]
def A_law13_GraphNil_11 : Row := [i 109 (.build [.slice none 0 (.exact 0), .ptr none, .map none] []), i 110 (.box (r 109)), i 3 (.mv (r 110))]
def A_law13_GraphNil_12 : Row := [i 18 (.mv (r 4)), i 19 (.bin (.add) (r 18) (.const (.int (.i64) 1))), i 4 (.mv (r 19))]
def A_law13_GraphNil_13 : ACode := (.seq (.seq (.ops A_law13_GraphNil_5) (.cond (r 17) .skip (.exit 0))) (.seq (.block 1 (.seq (.ops A_law13_GraphNil_6) (.seq (.ops
  A_law13_GraphNil_7) (.seq (.ops A_law13_GraphNil_8) (.seq (.seq (.ops A_law13_GraphNil_9) (.cond (r 108) (.seq (.ops A_law13_GraphNil_10) .ret) .skip)) (.ops
  A_law13_GraphNil_11)))))) (.ops A_law13_GraphNil_12)))
def A_law13_GraphNil_14 : Row := [i 111 (.call (.func F_law13_knows) []), i 2 (.mv (r 111))]
/-- diorama/dioramalaw13.GraphNil -/
def A_law13_GraphNil : AFunc :=
 ⟨112, [.tmp 2], (.seq (.ops A_law13_GraphNil_0) (.seq (.seq (.ops A_law13_GraphNil_1) (.cond (r 14) (.seq (.ops A_law13_GraphNil_2) .ret) .skip)) (.seq (.ops
  A_law13_GraphNil_3) (.seq (.seq (.ops A_law13_GraphNil_4) (.block 0 (.loop A_law13_GraphNil_13))) (.seq (.ops A_law13_GraphNil_14) .ret)))))⟩
/-! diorama/dioramalaw10.Long -/
/-! diorama/dioramalaw11.knows -/
def A_law11_knows_0 : Row := [i 0 (.mv (.const (.bool false)))]
def A_law11_knows_1 : Row := [i 6 (.build [.int (.i64) 0, .int (.i64) 0] [(0, 1, .const (.int (.i64) 2))]), i 7 (.build [.str [], .int (.i64) 0, .int (.i64) 0] [(0, 1, .const
  (.str [98])), (1, 2, .tmp 6)]), i 8 (.build [.int (.i64) 0, .int (.i64) 0] [(0, 1, .const (.int (.i64) 1))]), i 9 (.build [.str [], .int (.i64) 0, .int (.i64) 0] [(0, 1,
  .const (.str [98])), (1, 2, .tmp 8)]), i 10 (.build [.int (.i64) 0, .int (.i64) 0] [(0, 1, .const (.int (.i64) 3))]), i 11 (.build [.str [], .int (.i64) 0, .int (.i64)
  0] [(0, 1, .const (.str [97])), (1, 2, .tmp 10)]), i 12 (.buildSlice 3 [.str [], .int (.i64) 0, .int (.i64) 0, .str [], .int (.i64) 0, .int (.i64) 0, .str [], .int
  (.i64) 0, .int (.i64) 0] [(0, 3, .tmp 7), (3, 3, .tmp 9), (6, 3, .tmp 11)]), i 13 (.call (.func F_order_Sort) [.tmp 12]), i 1 (.mv (r 13))]
def A_law11_knows_2 : Row := [i 15 (.mv (r 1)), i 16 (.call (.func F_order_Key) [.tmp 15, .const (.int (.i64) 1)]), i 14 (.mv (r 16)), i 17 (.extract (r 14) 0), i 18 (.extract
  (r 14) 1), i 2 (.mv (r 17)), i 3 (.mv (r 18))]
def A_law11_knows_3 : Row := [i 20 (.mv (r 1)), i 21 (.call (.func F_order_Key) [.tmp 20, .const (.int (.i64) 2)]), i 19 (.mv (r 21)), i 22 (.extract (r 19) 0), i 23 (.extract
  (r 19) 1), i 4 (.mv (r 22)), i 5 (.mv (r 23))]
def A_law11_knows_4 : Row := [i 24 (.mv (r 3)), i 25 (.call (.func F_law11_num) [.tmp 24]), i 26 (.bin (.eql) (r 25) (.const (.int (.i64) 0))), i 27 (.mv (r 26)), g 28 (.mv (r
  5)) 27 true, g 29 (.call (.func F_law11_num) [.tmp 28]) 27 true, g 30 (.bin (.eql) (r 29) (.const (.int (.i64) 32))) 27 true, i 31 (.pick (r 27) (r 30) (.const (.bool
  false))), i 32 (.mv (r 31)), g 33 (.mv (r 1)) 32 true, g 34 (.lenSlice (r 33)) 32 true, g 35 (.bin (.eql) (r 34) (.const (.int (.i64) 3))) 32 true, i 36 (.pick (r 32) (r
  35) (.const (.bool false))), i 37 (.mv (r 36)), g 38 (.mv (r 1)) 37 true, g 39 (.indexAddr 3 (r 38) (.const (.int (.i64) 0))) 37 true, g 40 (.fieldAddr 0 (r 39)) 37
  true, g 41 (.load none (r 40)) 37 true, g 42 (.bin (.eql) (r 41) (.const (.str [97]))) 37 true, i 43 (.pick (r 37) (r 42) (.const (.bool false))), i 44 (.mv (r 43)), g
  45 (.mv (r 1)) 44 true, g 46 (.indexAddr 3 (r 45) (.const (.int (.i64) 1))) 44 true, g 47 (.fieldAddr 1 (r 46)) 44 true, g 48 (.fieldAddr 0 (r 47)) 44 true, g 49 (.load
  none (r 48)) 44 true, g 50 (.bin (.eql) (r 49) (.const (.int (.i64) 1))) 44 true, i 51 (.pick (r 44) (r 50) (.const (.bool false))), i 52 (.mv (r 51)), g 53 (.mv (r 2))
  52 true, g 54 (.bin (.eql) (r 53) (.const (.str [97, 128]))) 52 true, i 55 (.pick (r 52) (r 54) (.const (.bool false))), i 56 (.mv (r 55)), g 57 (.mv (r 1)) 56 true, g
  58 (.build [.int (.i64) 0, .int (.i64) 0] [(0, 1, .const (.int (.i64) 2))]) 56 true, g 59 (.call (.func F_order_Find) [.tmp 57, .tmp 58]) 56 true, g 60 (.bin (.eql) (r
  59) (.const (.int (.i64) 2))) 56 true, i 61 (.pick (r 56) (r 60) (.const (.bool false))), i 0 (.mv (r 61))]
/-- diorama/dioramalaw11.knows -/
def A_law11_knows : AFunc :=
 ⟨62, [.tmp 0], (.seq (.ops A_law11_knows_0) (.seq (.ops A_law11_knows_1) (.seq (.ops A_law11_knows_2) (.seq (.ops A_law11_knows_3) (.seq (.ops A_law11_knows_4) .ret)))))⟩
/-! diorama/tree.New -/
def A_tree_New_0 : Row := [i 0 (.mv (.const (.ptr none)))]
def A_tree_New_1 : Row := [i 1 (.makeMap), i 2 (.build [.map none] [(0, 1, .tmp 1)]), i 3 (.box (r 2)), i 0 (.mv (r 3))]
/-- diorama/tree.New -/
def A_tree_New : AFunc :=
 ⟨4, [.tmp 0], (.seq (.ops A_tree_New_0) (.seq (.ops A_tree_New_1) .ret))⟩
/-! (*diorama/tree.Tree).Add -/
def A_tree_Tree_Add_0 : Row := [i 4 (.box (r 1)), i 5 (.box (r 2)), i 6 (.mv (.const (.int (.i64) 0)))]
def A_tree_Tree_Add_1 : Row := [i 8 (.mv (r 0)), i 9 (.call (.func F_tree_Tree_none) [.tmp 8]), i 10 (.mv (r 9)), g 11 (.load (some 2) (r 4)) 10 false, g 12 (.call (.func
  F_op_Node) [.tmp 11]) 10 false, g 13 (.un (.not) (r 12)) 10 false, i 14 (.pick (r 10) (.const (.bool true)) (r 13)), i 15 (.mv (r 14)), g 16 (.load (some 3) (r 5)) 15
  false, g 17 (.call (.func F_tree_Spot_right) [.tmp 16]) 15 false, g 18 (.un (.not) (r 17)) 15 false, i 19 (.pick (r 15) (.const (.bool true)) (r 18)), i 7 (.mv (r 19))]
def A_tree_Tree_Add_2 : Row := [i 6 (.mv (.const (.int (.i64) 1)))]
def A_tree_Tree_Add_3 : Row := [i 21 (.mv (r 0)), i 22 (.load (some 2) (r 4)), i 23 (.call (.func F_tree_Tree_node) [.tmp 21, .tmp 22]), i 20 (.mv (r 23))]
def A_tree_Tree_Add_4 : Row := [i 6 (.mv (.const (.int (.i64) 4)))]
def A_tree_Tree_Add_5 : Row := [i 25 (.mv (r 0)), i 26 (.fieldAddr 0 (r 5)), i 27 (.load (some 2) (r 26)), i 28 (.call (.func F_tree_Tree_Has) [.tmp 25, .tmp 27]), i 29 (.un
  (.not) (r 28)), i 24 (.mv (r 29))]
def A_tree_Tree_Add_6 : Row := [i 6 (.mv (.const (.int (.i64) 3)))]
def A_tree_Tree_Add_7 : Row := [i 31 (.mv (r 0)), i 32 (.nilCheck (r 31)), i 33 (.fieldAddr 0 (r 32)), i 34 (.load none (r 33)), i 35 (.lenMap (r 34)), i 36 (.bin (.geq) (r
  35) (.const (.int (.i64) 65536))), i 30 (.mv (r 36))]
def A_tree_Tree_Add_8 : Row := [i 6 (.mv (.const (.int (.i64) 7)))]
def A_tree_Tree_Add_9 : Row := [i 37 (.mv (r 0)), i 38 (.nilCheck (r 37)), i 39 (.fieldAddr 0 (r 38)), i 40 (.load none (r 39)), i 41 (.load (some 2) (r 4)), i 42 (.load (some
  3) (r 5)), i0 (.mapUpdate ⟨true, [.int (.i64), .int (.i64)]⟩ (r 40) (r 41) (r 42))]
def A_tree_Tree_Add_10 : Row := [i 6 (.mv (.const (.int (.i64) 0)))]
/-- (*diorama/tree.Tree).Add -/
def A_tree_Tree_Add : AFunc :=
 ⟨43, [.tmp 6], (.seq (.ops A_tree_Tree_Add_0) (.seq (.block 0 (.seq (.ops A_tree_Tree_Add_1) (.cond (r 7) (.seq (.ops A_tree_Tree_Add_2) .ret) (.seq (.ops
  A_tree_Tree_Add_3) (.cond (r 20) (.seq (.ops A_tree_Tree_Add_4) .ret) (.seq (.ops A_tree_Tree_Add_5) (.cond (r 24) (.seq (.ops A_tree_Tree_Add_6) .ret) (.seq (.ops
  A_tree_Tree_Add_7) (.cond (r 30) (.seq (.ops A_tree_Tree_Add_8) .ret) .skip))))))))) (.seq (.ops A_tree_Tree_Add_9) (.seq (.ops A_tree_Tree_Add_10) .ret))))⟩
/-! diorama/dioramalaw10.Own -/
def A_law10_Own_0 : Row := [i 1 (.box (r 0)), i 2 (.alloc [.int (.i64) 0, .int (.i64) 0, .str []])]
def A_law10_Own_1 : Row := [i 3 (.fieldAddr 0 (r 1)), i 4 (.load (some 2) (r 3)), i 5 (.fieldAddr 2 (r 1)), i 6 (.load none (r 5)), i 7 (.build [.int (.i64) 0, .int (.i64) 0,
  .str []] [(0, 2, .tmp 4), (2, 1, .tmp 6)]), i0 (.store 3 (r 2) (r 7))]
/-- diorama/dioramalaw10.Own -/
def A_law10_Own : AFunc :=
 ⟨8, [.cell 2 (some 3)], (.seq (.ops A_law10_Own_0) (.seq (.ops A_law10_Own_1) .ret))⟩
/-! (*diorama/dioramaref10.Tree).Add -/
/-! (*diorama/tree.Tree).Move -/
def A_tree_Tree_Move_0 : Row := [i 4 (.box (r 1)), i 5 (.box (r 2)), i 6 (.alloc [.int (.i64) 0, .int (.i64) 0, .str []]), i 7 (.mv (.const (.int (.i64) 0)))]
def A_tree_Tree_Move_1 : Row := [i 9 (.mv (r 0)), i 10 (.call (.func F_tree_Tree_none) [.tmp 9]), i 11 (.mv (r 10)), g 12 (.load (some 2) (r 4)) 11 false, g 13 (.call (.func
  F_op_Node) [.tmp 12]) 11 false, g 14 (.un (.not) (r 13)) 11 false, i 15 (.pick (r 11) (.const (.bool true)) (r 14)), i 16 (.mv (r 15)), g 17 (.load (some 3) (r 5)) 16
  false, g 18 (.call (.func F_tree_Spot_right) [.tmp 17]) 16 false, g 19 (.un (.not) (r 18)) 16 false, i 20 (.pick (r 16) (.const (.bool true)) (r 19)), i 8 (.mv (r 20))]
def A_tree_Tree_Move_2 : Row := [i 21 (.load (some 3) (r 6)), i0 (.store 3 (r 6) (r 21)), i 7 (.mv (.const (.int (.i64) 1)))]
def A_tree_Tree_Move_3 : Row := [i 23 (.mv (r 0)), i 24 (.load (some 2) (r 4)), i 25 (.call (.func F_tree_Tree_node) [.tmp 23, .tmp 24]), i 26 (.un (.not) (r 25)), i 27 (.mv
  (r 26)), g 28 (.mv (r 0)) 27 false, g 29 (.fieldAddr 0 (r 5)) 27 false, g 30 (.load (some 2) (r 29)) 27 false, g 31 (.call (.func F_tree_Tree_Has) [.tmp 28, .tmp 30]) 27
  false, g 32 (.un (.not) (r 31)) 27 false, i 33 (.pick (r 27) (.const (.bool true)) (r 32)), i 22 (.mv (r 33))]
def A_tree_Tree_Move_4 : Row := [i 34 (.load (some 3) (r 6)), i0 (.store 3 (r 6) (r 34)), i 7 (.mv (.const (.int (.i64) 3)))]
def A_tree_Tree_Move_5 : Row := [i 36 (.mv (r 0)), i 37 (.load (some 2) (r 4)), i 38 (.fieldAddr 0 (r 5)), i 39 (.load (some 2) (r 38)), i 40 (.call (.func F_tree_Tree_Within)
  [.tmp 36, .tmp 37, .tmp 39]), i 35 (.mv (r 40))]
def A_tree_Tree_Move_6 : Row := [i 41 (.load (some 3) (r 6)), i0 (.store 3 (r 6) (r 41)), i 7 (.mv (.const (.int (.i64) 41)))]
def A_tree_Tree_Move_7 : Row := [i 42 (.mv (r 0)), i 43 (.nilCheck (r 42)), i 44 (.fieldAddr 0 (r 43)), i 45 (.load none (r 44)), i 46 (.load (some 2) (r 4)), i 47 (.lookup
  ⟨true, [.int (.i64), .int (.i64)]⟩ (.agg [.int (.i64) 0, .int (.i64) 0, .str []]) false (r 45) (r 46)), i0 (.store 3 (r 6) (r 47))]
def A_tree_Tree_Move_8 : Row := [i 48 (.mv (r 0)), i 49 (.nilCheck (r 48)), i 50 (.fieldAddr 0 (r 49)), i 51 (.load none (r 50)), i 52 (.load (some 2) (r 4)), i 53 (.load
  (some 3) (r 5)), i0 (.mapUpdate ⟨true, [.int (.i64), .int (.i64)]⟩ (r 51) (r 52) (r 53))]
def A_tree_Tree_Move_9 : Row := [i 54 (.load (some 3) (r 6)), i0 (.store 3 (r 6) (r 54)), i 7 (.mv (.const (.int (.i64) 0)))]
/-- (*diorama/tree.Tree).Move -/
def A_tree_Tree_Move : AFunc :=
 ⟨55, [.cell 6 (some 3), .tmp 7], (.seq (.ops A_tree_Tree_Move_0) (.seq (.block 0 (.seq (.ops A_tree_Tree_Move_1) (.cond (r 8) (.seq (.ops A_tree_Tree_Move_2) .ret) (.seq
  (.ops A_tree_Tree_Move_3) (.cond (r 22) (.seq (.ops A_tree_Tree_Move_4) .ret) (.seq (.ops A_tree_Tree_Move_5) (.cond (r 35) (.seq (.ops A_tree_Tree_Move_6) .ret)
  .skip))))))) (.seq (.ops A_tree_Tree_Move_7) (.seq (.ops A_tree_Tree_Move_8) (.seq (.ops A_tree_Tree_Move_9) .ret)))))⟩
/-! (*diorama/dioramaref10.Tree).Move -/
/-! diorama/dioramalaw11.Same -/
/-! diorama/order.Row -/
def A_order_Row_0 : Row := [i 3 (.box (r 1)), i 4 (.mv (.const (.slice none 0 (.exact 0))))]
def A_order_Row_1 : Row := [i 5 (.mv (.const (.slice none 0 (.exact 0))))]
def A_order_Row_2 : Row := [i 10 (.mv (r 0)), i 11 (.load (some 2) (r 3)), i 12 (.call (.func F_tree_Tree_Below) [.tmp 10, .tmp 11]), i 13 (.lenSlice (r 12)), i 14 (.mv
  (.const (.int (.i64) 0)))]
def A_order_Row_3 : Row := [i 15 (.bin (.lss) (r 14) (r 13))]
def A_order_Row_4 : Row := [i 16 (.indexAddr 2 (r 12) (r 14)), i 17 (.load (some 2) (r 16)), i 7 (.alloc [.int (.i64) 0, .int (.i64) 0]), i0 (.store 2 (r 7) (r 17))]
def A_order_Row_5 : Row := [i 19 (.mv (r 0)), i 20 (.load (some 2) (r 7)), i 21 (.call (.func F_tree_Tree_Spot) [.tmp 19, .tmp 20]), i 18 (.mv (r 21)), i 22 (.extract (r 18)
  0), i 23 (.extract (r 18) 1), i 8 (.alloc [.int (.i64) 0, .int (.i64) 0, .str []]), i0 (.store 3 (r 8) (r 22)), i 9 (.mv (r 23))]
def A_order_Row_6 : Row := [i 24 (.mv (r 5)), i 25 (.fieldAddr 2 (r 8)), i 26 (.load none (r 25)), i 27 (.load (some 2) (r 7)), i 28 (.build [.str [], .int (.i64) 0, .int
  (.i64) 0] [(0, 1, .tmp 26), (1, 2, .tmp 27)]), i 29 (.buildSlice 1 [.str [], .int (.i64) 0, .int (.i64) 0] [(0, 3, .tmp 28)]), i 30 (.append 3 32 (r 24) (r 29)), i 5
  (.mv (r 30))]
def A_order_Row_7 : Row := [i 31 (.bin (.add) (r 14) (.const (.int (.i64) 1))), i 14 (.mv (r 31))]
def A_order_Row_8 : ACode := (.seq (.ops A_order_Row_3) (.seq (.cond (r 15) .skip (.exit 0)) (.seq (.block 1 (.seq (.ops A_order_Row_4) (.seq (.ops A_order_Row_5) (.ops
  A_order_Row_6)))) (.ops A_order_Row_7))))
def A_order_Row_9 : Row := [i 32 (.mv (r 5)), i 33 (.call (.func F_order_Sort) [.tmp 32]), i 4 (.mv (r 33))]
/-- diorama/order.Row -/
def A_order_Row : AFunc :=
 ⟨34, [.tmp 4], (.seq (.ops A_order_Row_0) (.seq (.ops A_order_Row_1) (.seq (.seq (.ops A_order_Row_2) (.block 0 (.loop A_order_Row_8))) (.seq (.ops A_order_Row_9)
  .ret))))⟩
/-! diorama/dioramaref11.Row -/
/-! diorama/dioramalaw13.Light -/
def A_law13_Light_0 : Row := [i 2 (.mv (.const (.bool false)))]
def A_law13_Light_1 : Row := [i 3 (.mv (r 0)), i 4 (.call (.func F_law13_ref12Light) [.tmp 3]), i 5 (.mv (r 4)), g 6 (.mv (r 0)) 5 true, g 7 (.lenSlice (r 6)) 5 true, g 8
  (.bin (.leq) (r 7) (.const (.int (.i64) 40))) 5 true, i 9 (.pick (r 5) (r 8) (.const (.bool false))), i 2 (.mv (r 9))]
/-- diorama/dioramalaw13.Light -/
def A_law13_Light : AFunc :=
 ⟨10, [.tmp 2], (.seq (.ops A_law13_Light_0) (.seq (.ops A_law13_Light_1) .ret))⟩
/-! diorama/dioramalaw13.knows -/
def A_law13_knows_0 : Row := [i 0 (.mv (.const (.bool false)))]
def A_law13_knows_1 : Row := [i 15 (.call (.func F_graph_New) []), i 1 (.mv (r 15))]
def A_law13_knows_2 : Row := [i 16 (.build [.int (.i64) 0, .int (.i64) 0] [(0, 1, .const (.int (.i64) 1))]), i 2 (.alloc [.int (.i64) 0, .int (.i64) 0]), i0 (.store 2 (r 2) (r
  16))]
def A_law13_knows_3 : Row := [i 17 (.build [.int (.i64) 0, .int (.i64) 0] [(0, 1, .const (.int (.i64) 2))]), i 3 (.alloc [.int (.i64) 0, .int (.i64) 0]), i0 (.store 2 (r 3) (r
  17))]
def A_law13_knows_4 : Row := [i 19 (.mv (r 1)), i 20 (.load (some 2) (r 2)), i 21 (.build [.int (.i64) 0, .int (.i64) 0, .int (.i64) 0, .int (.i64) 0, .int (.i64) 0, .str [],
  .slice none 0 (.exact 0), .int (.i64) 0, .int (.i64) 0, .int (.i64) 0, .str [], .bool false] [(0, 1, .const (.int (.i64) 1)), (5, 1, .const (.str [97]))]), i 22 (.call
  (.func F_graph_Graph_Insert) [.tmp 19, .tmp 20, .tmp 21]), i 18 (.mv (r 22)), i 23 (.extract (r 18) 0), i 24 (.extract (r 18) 1), i 4 (.mv (r 23)), i 5 (.mv (r 24))]
def A_law13_knows_5 : Row := [i 26 (.mv (r 1)), i 27 (.load (some 2) (r 3)), i 28 (.build [.int (.i64) 0, .int (.i64) 0, .int (.i64) 0, .int (.i64) 0, .int (.i64) 0, .str [],
  .slice none 0 (.exact 0), .int (.i64) 0, .int (.i64) 0, .int (.i64) 0, .str [], .bool false] [(0, 1, .const (.int (.i64) 1)), (5, 1, .const (.str [98]))]), i 29 (.call
  (.func F_graph_Graph_Insert) [.tmp 26, .tmp 27, .tmp 28]), i 25 (.mv (r 29)), i 30 (.extract (r 25) 0), i 31 (.extract (r 25) 1), i 6 (.mv (r 30)), i 7 (.mv (r 31))]
def A_law13_knows_6 : Row := [i 33 (.mv (r 1)), i 34 (.build [.int (.i64) 0, .int (.i64) 0] [(0, 1, .const (.int (.i64) 9))]), i 35 (.load (some 2) (r 2)), i 36 (.load (some
  2) (r 3)), i 37 (.build [.int (.i64) 0, .int (.i64) 0, .int (.i64) 0, .int (.i64) 0, .int (.i64) 0, .str [], .slice none 0 (.exact 0), .int (.i64) 0, .int (.i64) 0, .int
  (.i64) 0, .str [], .bool false] [(0, 1, .const (.int (.i64) 2)), (1, 2, .tmp 35), (3, 2, .tmp 36), (5, 1, .const (.str [99]))]), i 38 (.call (.func F_graph_Graph_Insert)
  [.tmp 33, .tmp 34, .tmp 37]), i 32 (.mv (r 38)), i 39 (.extract (r 32) 0), i 40 (.extract (r 32) 1), i 8 (.mv (r 39)), i 9 (.mv (r 40))]
def A_law13_knows_7 : Row := [i 41 (.mv (r 1)), i 42 (.build [.int (.i64) 0, .int (.i64) 0] [(0, 1, .const (.int (.i64) 9))]), i 43 (.call (.func F_graph_Graph_Done) [.tmp 41,
  .tmp 42]), i 10 (.mv (r 43))]
def A_law13_knows_8 : Row := [i 45 (.mv (r 1)), i 46 (.build [.int (.i64) 0, .int (.i64) 0] [(0, 1, .const (.int (.i64) 5))]), i 47 (.load (some 2) (r 3)), i 48 (.load (some
  2) (r 2)), i 49 (.build [.int (.i64) 0, .int (.i64) 0, .int (.i64) 0, .int (.i64) 0, .int (.i64) 0, .str [], .slice none 0 (.exact 0), .int (.i64) 0, .int (.i64) 0, .int
  (.i64) 0, .str [], .bool false] [(0, 1, .const (.int (.i64) 2)), (1, 2, .tmp 47), (3, 2, .tmp 48), (5, 1, .const (.str [99]))]), i 50 (.call (.func F_graph_Graph_Insert)
  [.tmp 45, .tmp 46, .tmp 49]), i 44 (.mv (r 50)), i 51 (.extract (r 44) 0), i 52 (.extract (r 44) 1), i 11 (.mv (r 51)), i 12 (.mv (r 52))]
def A_law13_knows_9 : Row := [i 54 (.mv (r 1)), i 55 (.load (some 2) (r 2)), i 56 (.call (.func F_graph_Graph_Spot) [.tmp 54, .tmp 55]), i 53 (.mv (r 56)), i 57 (.extract (r
  53) 0), i 58 (.extract (r 53) 1), i 13 (.alloc [.int (.i64) 0, .int (.i64) 0, .str []]), i0 (.store 3 (r 13) (r 57)), i 14 (.mv (r 58))]
def A_law13_knows_10 : Row := [i 59 (.mv (r 5)), i 60 (.call (.func F_law13_num) [.tmp 59]), i 61 (.mv (r 7)), i 62 (.call (.func F_law13_num) [.tmp 61]), i 63 (.bin (.add) (r
  60) (r 62)), i 64 (.mv (r 9)), i 65 (.call (.func F_law13_num) [.tmp 64]), i 66 (.bin (.add) (r 63) (r 65)), i 67 (.mv (r 12)), i 68 (.call (.func F_law13_num) [.tmp
  67]), i 69 (.bin (.add) (r 66) (r 68)), i 70 (.bin (.eql) (r 69) (.const (.int (.i64) 0))), i 71 (.mv (r 70)), g 72 (.mv (r 11)) 71 true, g 73 (.bin (.eql) (r 72)
  (.const (.int (.i64) 1))) 71 true, i 74 (.pick (r 71) (r 73) (.const (.bool false))), i 75 (.mv (r 74)), g 76 (.mv (r 10)) 75 true, i 77 (.pick (r 75) (r 76) (.const
  (.bool false))), i 78 (.mv (r 77)), g 79 (.mv (r 1)) 78 true, g 80 (.build [.int (.i64) 0, .int (.i64) 0] [(0, 1, .const (.int (.i64) 9))]) 78 true, g 81 (.call (.func
  F_graph_Graph_Done) [.tmp 79, .tmp 80]) 78 true, g 82 (.un (.not) (r 81)) 78 true, i 83 (.pick (r 78) (r 82) (.const (.bool false))), i 84 (.mv (r 83)), g 85 (.mv (r
  14)) 84 true, i 86 (.pick (r 84) (r 85) (.const (.bool false))), i 87 (.mv (r 86)), g 88 (.fieldAddr 0 (r 13)) 87 true, g 89 (.load (some 2) (r 88)) 87 true, g 90
  (.build [.int (.i64) 0, .int (.i64) 0] []) 87 true, g 91 (.eq false ⟨true, [.int (.i64), .int (.i64)]⟩ (r 89) (r 90)) 87 true, i 92 (.pick (r 87) (r 91) (.const (.bool
  false))), i 93 (.mv (r 92)), g 94 (.mv (r 1)) 93 true, g 95 (.load (some 2) (r 3)) 93 true, g 96 (.load (some 2) (r 2)) 93 true, g 97 (.call (.func
  F_graph_Graph_Reaches) [.tmp 94, .tmp 95, .tmp 96, .const (.bool true)]) 93 true, i 98 (.pick (r 93) (r 97) (.const (.bool false))), i 99 (.mv (r 98)), g 100 (.mv (r 1))
  99 true, g 101 (.call (.func F_graph_Graph_Count) [.tmp 100]) 99 true, g 102 (.bin (.eql) (r 101) (.const (.int (.i64) 4))) 99 true, i 103 (.pick (r 99) (r 102) (.const
  (.bool false))), i 0 (.mv (r 103))]
/-- diorama/dioramalaw13.knows -/
def A_law13_knows : AFunc :=
 ⟨104, [.tmp 0], (.seq (.ops A_law13_knows_0) (.seq (.ops A_law13_knows_1) (.seq (.ops A_law13_knows_2) (.seq (.ops A_law13_knows_3) (.seq (.ops A_law13_knows_4) (.seq
  (.ops A_law13_knows_5) (.seq (.ops A_law13_knows_6) (.seq (.ops A_law13_knows_7) (.seq (.ops A_law13_knows_8) (.seq (.ops A_law13_knows_9) (.seq (.ops A_law13_knows_10)
  .ret)))))))))))⟩
/-! diorama/graph.New -/
def A_graph_New_0 : Row := [i 0 (.mv (.const (.ptr none)))]
def A_graph_New_1 : Row := [i 1 (.call (.func F_tree_New) []), i 2 (.makeMap), i 3 (.build [.slice none 0 (.exact 0), .ptr none, .map none] [(1, 1, .tmp 1), (2, 1, .tmp 2)]),
  i 4 (.box (r 3)), i 0 (.mv (r 4))]
/-- diorama/graph.New -/
def A_graph_New : AFunc :=
 ⟨5, [.tmp 0], (.seq (.ops A_graph_New_0) (.seq (.ops A_graph_New_1) .ret))⟩
/-! (*diorama/graph.Graph).Insert -/
def A_graph_Graph_Insert_0 : Row := [i 4 (.box (r 1)), i 5 (.box (r 2)), i 6 (.mv (.const (.int (.i64) 0))), i 7 (.mv (.const (.int (.i64) 0)))]
def A_graph_Graph_Insert_1 : Row := [i 13 (.mv (r 0)), i 14 (.call (.func F_graph_Graph_none) [.tmp 13]), i 15 (.mv (r 14)), g 16 (.load (some 2) (r 4)) 15 false, g 17 (.call
  (.func F_op_Node) [.tmp 16]) 15 false, g 18 (.un (.not) (r 17)) 15 false, i 19 (.pick (r 15) (.const (.bool true)) (r 18)), i 20 (.mv (r 19)), g 21 (.load (some 12) (r
  5)) 20 false, g 22 (.call (.func F_op_Right) [.tmp 21]) 20 false, g 23 (.un (.not) (r 22)) 20 false, i 24 (.pick (r 20) (.const (.bool true)) (r 23))]
def A_graph_Graph_Insert_2 : Row := [i 6 (.mv (.const (.int (.i64) 0))), i 7 (.mv (.const (.int (.i64) 1)))]
def A_graph_Graph_Insert_3 : Row := [i 26 (.mv (r 0)), i 27 (.load (some 2) (r 4)), i 28 (.call (.func F_graph_Graph_place) [.tmp 26, .tmp 27]), i 25 (.mv (r 28)), i 29
  (.extract (r 25) 0), i 30 (.extract (r 25) 1), i 8 (.mv (r 29)), i 9 (.mv (r 30))]
def A_graph_Graph_Insert_4 : Row := [i 32 (.fieldAddr 0 (r 5)), i 33 (.load none (r 32)), i 34 (.bin (.neq) (r 33) (.const (.int (.i64) 1))), i 35 (.mv (r 34)), g 36
  (.fieldAddr 0 (r 5)) 35 true, g 37 (.load none (r 36)) 35 true, g 38 (.bin (.neq) (r 37) (.const (.int (.i64) 2))) 35 true, i 39 (.pick (r 35) (r 38) (.const (.bool
  false))), i 40 (.mv (r 39)), g 41 (.fieldAddr 0 (r 5)) 40 true, g 42 (.load none (r 41)) 40 true, g 43 (.bin (.neq) (r 42) (.const (.int (.i64) 5))) 40 true, i 44 (.pick
  (r 40) (r 43) (.const (.bool false))), i 31 (.mv (r 44))]
def A_graph_Graph_Insert_5 : Row := [i 6 (.mv (.const (.int (.i64) 0))), i 7 (.mv (.const (.int (.i64) 42)))]
def A_graph_Graph_Insert_6 : Row := [i 46 (.mv (r 9)), i 45 (.mv (r 46))]
def A_graph_Graph_Insert_7 : Row := [i 6 (.mv (.const (.int (.i64) 0))), i 7 (.mv (.const (.int (.i64) 4)))]
def A_graph_Graph_Insert_8 : Row := [i 48 (.mv (r 0)), i 49 (.nilCheck (r 48)), i 50 (.fieldAddr 0 (r 49)), i 51 (.load none (r 50)), i 52 (.lenSlice (r 51)), i 53 (.bin
  (.geq) (r 52) (.const (.int (.i64) 65536))), i 47 (.mv (r 53))]
def A_graph_Graph_Insert_9 : Row := [i 6 (.mv (.const (.int (.i64) 0))), i 7 (.mv (.const (.int (.i64) 7)))]
def A_graph_Graph_Insert_10 : Row := [i 54 (.mv (r 0)), i 55 (.nilCheck (r 54)), i 56 (.fieldAddr 0 (r 55)), i 57 (.load none (r 56)), i 58 (.lenSlice (r 57)), i 59 (.bin
  (.sub) (r 58) (.const (.int (.i64) 1))), i 10 (.mv (r 59))]
def A_graph_Graph_Insert_11 : Row := [i 60 (.mv (r 10)), i 61 (.mv (r 8)), i 62 (.bin (.geq) (r 60) (r 61))]
def A_graph_Graph_Insert_12 : Row := [i 65 (.mv (r 0)), i 66 (.nilCheck (r 65)), i 67 (.fieldAddr 0 (r 66)), i 68 (.load none (r 67)), i 69 (.mv (r 10)), i 70 (.indexAddr 16
  (r 68) (r 69)), i 71 (.fieldAddr 15 (r 70)), i 72 (.load none (r 71)), i 11 (.mv (r 72))]
def A_graph_Graph_Insert_13 : Row := [i 73 (.mv (r 11)), i 74 (.eqNil true (.fn) (r 73) (.const (.nilFn)))]
def A_graph_Graph_Insert_14 : Row := [i 75 (.mv (r 11)), i 76 (.mv (r 0)), i 77 (.nilCheck (r 76)), i 78 (.fieldAddr 1 (r 77)), i 79 (.load none (r 78)), i 80 (.mv (r 0)), i
  81 (.nilCheck (r 80)), i 82 (.fieldAddr 2 (r 81)), i 83 (.load none (r 82)), i 84 (.call (r 75) [.tmp 79, .tmp 83])]
def A_graph_Graph_Insert_15 : Row := [i 63 (.mv (r 10)), i 64 (.bin (.sub) (r 63) (.const (.int (.i64) 1))), i 10 (.mv (r 64))]
def A_graph_Graph_Insert_16 : ACode := (.seq (.seq (.ops A_graph_Graph_Insert_11) (.cond (r 62) .skip (.exit 1))) (.seq (.block 2 (.seq (.ops A_graph_Graph_Insert_12) (.seq
  (.ops A_graph_Graph_Insert_13) (.cond (r 74) (.ops A_graph_Graph_Insert_14) .skip)))) (.ops A_graph_Graph_Insert_15)))
def A_graph_Graph_Insert_17 : Row := [i 85 (.mv (r 0)), i 86 (.mv (r 0)), i 87 (.nilCheck (r 86)), i 88 (.fieldAddr 0 (r 87)), i 89 (.load none (r 88)), i 90 (.mv (r 8)), i 91
  (.load (some 2) (r 4)), i 92 (.load (some 12) (r 5)), i 93 (.build [.int (.i64) 0, .int (.i64) 0, .int (.i64) 0, .int (.i64) 0, .int (.i64) 0, .int (.i64) 0, .int (.i64)
  0, .str [], .slice none 0 (.exact 0), .int (.i64) 0, .int (.i64) 0, .int (.i64) 0, .str [], .bool false, .bool false, .nilFn] [(0, 2, .tmp 91), (2, 12, .tmp 92)]), i 94
  (.buildSlice 1 [.int (.i64) 0, .int (.i64) 0, .int (.i64) 0, .int (.i64) 0, .int (.i64) 0, .int (.i64) 0, .int (.i64) 0, .str [], .slice none 0 (.exact 0), .int (.i64)
  0, .int (.i64) 0, .int (.i64) 0, .str [], .bool false, .bool false, .nilFn] [(0, 16, .tmp 93)]), i 95 (.call (.func F_slices_Insert_entry) [.tmp 89, .tmp 90, .tmp 94]),
  i 96 (.nilCheck (r 85)), i 97 (.fieldAddr 0 (r 96)), i0 (.store 1 (r 97) (r 95))]
def A_graph_Graph_Insert_18 : Row := [i 98 (.mv (r 8)), i 12 (.mv (r 98))]
def A_graph_Graph_Insert_19 : Row := [i 99 (.mv (r 12)), i 100 (.mv (r 0)), i 101 (.nilCheck (r 100)), i 102 (.fieldAddr 0 (r 101)), i 103 (.load none (r 102)), i 104
  (.lenSlice (r 103)), i 105 (.bin (.lss) (r 99) (r 104))]
def A_graph_Graph_Insert_20 : Row := [i 108 (.mv (r 0)), i 109 (.nilCheck (r 108)), i 110 (.fieldAddr 0 (r 109)), i 111 (.load none (r 110)), i 112 (.mv (r 12)), i 113
  (.indexAddr 16 (r 111) (r 112)), i 114 (.mv (r 0)), i 115 (.call (.func F_graph_entry_do) [.tmp 113, .tmp 114])]
def A_graph_Graph_Insert_21 : Row := [i 106 (.mv (r 12)), i 107 (.bin (.add) (r 106) (.const (.int (.i64) 1))), i 12 (.mv (r 107))]
def A_graph_Graph_Insert_22 : ACode := (.seq (.seq (.ops A_graph_Graph_Insert_19) (.cond (r 105) .skip (.exit 3))) (.seq (.block 4 (.ops A_graph_Graph_Insert_20)) (.ops
  A_graph_Graph_Insert_21)))
def A_graph_Graph_Insert_23 : Row := [i 116 (.mv (r 0)), i 117 (.nilCheck (r 116)), i 118 (.fieldAddr 0 (r 117)), i 119 (.load none (r 118)), i 120 (.lenSlice (r 119)), i 121
  (.mv (r 8)), i 122 (.bin (.sub) (r 120) (r 121)), i 123 (.bin (.sub) (r 122) (.const (.int (.i64) 1))), i 6 (.mv (r 123)), i 7 (.mv (.const (.int (.i64) 0)))]
/-- (*diorama/graph.Graph).Insert -/
def A_graph_Graph_Insert : AFunc :=
 ⟨124, [.tmp 6, .tmp 7], (.seq (.ops A_graph_Graph_Insert_0) (.seq (.seq (.ops A_graph_Graph_Insert_1) (.cond (r 24) (.seq (.ops A_graph_Graph_Insert_2) .ret) .skip)) (.seq
  (.ops A_graph_Graph_Insert_3) (.seq (.block 0 (.seq (.ops A_graph_Graph_Insert_4) (.cond (r 31) (.seq (.ops A_graph_Graph_Insert_5) .ret) (.seq (.ops
  A_graph_Graph_Insert_6) (.cond (r 45) (.seq (.ops A_graph_Graph_Insert_7) .ret) (.seq (.ops A_graph_Graph_Insert_8) (.cond (r 47) (.seq (.ops A_graph_Graph_Insert_9)
  .ret) .skip))))))) (.seq (.seq (.ops A_graph_Graph_Insert_10) (.block 1 (.loop A_graph_Graph_Insert_16))) (.seq (.ops A_graph_Graph_Insert_17) (.seq (.seq (.ops
  A_graph_Graph_Insert_18) (.block 3 (.loop A_graph_Graph_Insert_22))) (.seq (.ops A_graph_Graph_Insert_23) .ret))))))))⟩
/-! diorama/dioramalaw07.Own -/
def A_law07_Own_0 : Row := [i 1 (.box (r 0)), i 2 (.alloc [.int (.i64) 0, .int (.i64) 0, .int (.i64) 0, .int (.i64) 0, .int (.i64) 0, .str [], .slice none 0 (.exact 0), .int
  (.i64) 0, .int (.i64) 0, .int (.i64) 0, .str [], .bool false])]
def A_law07_Own_1 : Row := [i 3 (.fieldAddr 0 (r 1)), i 4 (.load none (r 3)), i 5 (.fieldAddr 1 (r 1)), i 6 (.load (some 2) (r 5)), i 7 (.fieldAddr 3 (r 1)), i 8 (.load (some
  2) (r 7)), i 9 (.fieldAddr 5 (r 1)), i 10 (.load none (r 9)), i 11 (.buildSlice 0 [] []), i 12 (.fieldAddr 6 (r 1)), i 13 (.load none (r 12)), i 15 (.fieldAddr 7 (r 1)),
  i 16 (.load none (r 15)), i 17 (.fieldAddr 8 (r 1)), i 18 (.load (some 3) (r 17)), i 19 (.fieldAddr 11 (r 1)), i 20 (.load none (r 19)), ⟨a 14 (.append 2 16 (r 11) (r
  13)), [a 20 (.load none (r 19)), a 18 (.load (some 3) (r 17)), a 16 (.load none (r 15)), a 10 (.load none (r 9)), a 8 (.load (some 2) (r 7)), a 6 (.load (some 2) (r 5)),
  a 4 (.load none (r 3))]⟩, i 21 (.build [.int (.i64) 0, .int (.i64) 0, .int (.i64) 0, .int (.i64) 0, .int (.i64) 0, .str [], .slice none 0 (.exact 0), .int (.i64) 0, .int
  (.i64) 0, .int (.i64) 0, .str [], .bool false] [(0, 1, .tmp 4), (1, 2, .tmp 6), (3, 2, .tmp 8), (5, 1, .tmp 10), (6, 1, .tmp 14), (7, 1, .tmp 16), (8, 3, .tmp 18), (11,
  1, .tmp 20)]), i0 (.store 12 (r 2) (r 21))]
/-- diorama/dioramalaw07.Own -/
def A_law07_Own : AFunc :=
 ⟨22, [.cell 2 (some 12)], (.seq (.ops A_law07_Own_0) (.seq (.ops A_law07_Own_1) .ret))⟩
/-! (*diorama/graph.Graph).Nodes -/
def A_graph_Graph_Nodes_0 : Row := [i 2 (.mv (.const (.slice none 0 (.exact 0))))]
def A_graph_Graph_Nodes_1 : Row := [i 3 (.mv (r 0)), i 4 (.call (.func F_graph_Graph_none) [.tmp 3])]
def A_graph_Graph_Nodes_2 : Row := [i 2 (.mv (.const (.slice none 0 (.exact 0))))]
def A_graph_Graph_Nodes_3 : Row := [i 5 (.mv (r 0)), i 6 (.nilCheck (r 5)), i 7 (.fieldAddr 1 (r 6)), i 8 (.load none (r 7)), i 9 (.call (.func F_tree_Tree_Nodes) [.tmp 8]), i
  2 (.mv (r 9))]
/-- (*diorama/graph.Graph).Nodes -/
def A_graph_Graph_Nodes : AFunc :=
 ⟨10, [.tmp 2], (.seq (.ops A_graph_Graph_Nodes_0) (.seq (.seq (.ops A_graph_Graph_Nodes_1) (.cond (r 4) (.seq (.ops A_graph_Graph_Nodes_2) .ret) .skip)) (.seq (.ops
  A_graph_Graph_Nodes_3) .ret)))⟩
/-! (*diorama/graph.Graph).Above -/
def A_graph_Graph_Above_0 : Row := [i 3 (.box (r 1)), i 4 (.mv (.const (.slice none 0 (.exact 0))))]
def A_graph_Graph_Above_1 : Row := [i 5 (.mv (r 0)), i 6 (.call (.func F_graph_Graph_none) [.tmp 5])]
def A_graph_Graph_Above_2 : Row := [i 4 (.mv (.const (.slice none 0 (.exact 0))))]
def A_graph_Graph_Above_3 : Row := [i 7 (.mv (r 0)), i 8 (.nilCheck (r 7)), i 9 (.fieldAddr 1 (r 8)), i 10 (.load none (r 9)), i 11 (.load (some 2) (r 3)), i 12 (.call (.func
  F_tree_Tree_Above) [.tmp 10, .tmp 11]), i 4 (.mv (r 12))]
/-- (*diorama/graph.Graph).Above -/
def A_graph_Graph_Above : AFunc :=
 ⟨13, [.tmp 4], (.seq (.ops A_graph_Graph_Above_0) (.seq (.seq (.ops A_graph_Graph_Above_1) (.cond (r 6) (.seq (.ops A_graph_Graph_Above_2) .ret) .skip)) (.seq (.ops
  A_graph_Graph_Above_3) .ret)))⟩
/-! (*diorama/graph.Graph).Spot -/
def A_graph_Graph_Spot_0 : Row := [i 3 (.box (r 1)), i 4 (.alloc [.int (.i64) 0, .int (.i64) 0, .str []]), i 5 (.mv (.const (.bool false)))]
def A_graph_Graph_Spot_1 : Row := [i 6 (.mv (r 0)), i 7 (.call (.func F_graph_Graph_none) [.tmp 6])]
def A_graph_Graph_Spot_2 : Row := [i 8 (.build [.int (.i64) 0, .int (.i64) 0, .str []] []), i0 (.store 3 (r 4) (r 8)), i 5 (.mv (.const (.bool false)))]
def A_graph_Graph_Spot_3 : Row := [i 9 (.mv (r 0)), i 10 (.nilCheck (r 9)), i 11 (.fieldAddr 1 (r 10)), i 12 (.load none (r 11)), i 13 (.load (some 2) (r 3)), i 14 (.call
  (.func F_tree_Tree_Spot) [.tmp 12, .tmp 13]), i 15 (.extract (r 14) 0), i 16 (.extract (r 14) 1), i0 (.store 3 (r 4) (r 15)), i 5 (.mv (r 16))]
/-- (*diorama/graph.Graph).Spot -/
def A_graph_Graph_Spot : AFunc :=
 ⟨17, [.cell 4 (some 3), .tmp 5], (.seq (.ops A_graph_Graph_Spot_0) (.seq (.seq (.ops A_graph_Graph_Spot_1) (.cond (r 7) (.seq (.ops A_graph_Graph_Spot_2) .ret) .skip))
  (.seq (.ops A_graph_Graph_Spot_3) .ret)))⟩
/-! (*diorama/graph.Graph).Reaches -/
def A_graph_Graph_Reaches_0 : Row := [i 5 (.box (r 1)), i 6 (.box (r 2)), i 8 (.mv (.const (.bool false)))]
def A_graph_Graph_Reaches_1 : Row := [i 13 (.mv (r 0)), i 14 (.call (.func F_graph_Graph_none) [.tmp 13]), i 15 (.mv (r 14)), g 16 (.mv (r 0)) 15 false, g 17 (.load (some 2)
  (r 5)) 15 false, g 18 (.call (.func F_graph_Graph_Has) [.tmp 16, .tmp 17]) 15 false, g 19 (.un (.not) (r 18)) 15 false, i 20 (.pick (r 15) (.const (.bool true)) (r 19)),
  i 21 (.mv (r 20)), g 22 (.mv (r 0)) 21 false, g 23 (.load (some 2) (r 6)) 21 false, g 24 (.call (.func F_graph_Graph_Has) [.tmp 22, .tmp 23]) 21 false, g 25 (.un (.not)
  (r 24)) 21 false, i 26 (.pick (r 21) (.const (.bool true)) (r 25))]
def A_graph_Graph_Reaches_2 : Row := [i 8 (.mv (.const (.bool false)))]
def A_graph_Graph_Reaches_3 : Row := [i 27 (.load (some 2) (r 5)), i 28 (.buildSlice 1 [.int (.i64) 0, .int (.i64) 0] [(0, 2, .tmp 27)]), i 29 (.makeMap), i 9 (.mv (r 28)), i
  10 (.mv (r 29))]
def A_graph_Graph_Reaches_4 : Row := [i 30 (.mv (r 9)), i 31 (.lenSlice (r 30)), i 32 (.bin (.gtr) (r 31) (.const (.int (.i64) 0)))]
def A_graph_Graph_Reaches_5 : Row := [i 33 (.mv (r 9)), i 34 (.lenSlice (r 33)), i 35 (.bin (.sub) (r 34) (.const (.int (.i64) 1))), i 11 (.mv (r 35))]
def A_graph_Graph_Reaches_6 : Row := [i 36 (.mv (r 9)), i 37 (.mv (r 11)), i 38 (.indexAddr 2 (r 36) (r 37)), i 39 (.load (some 2) (r 38)), i 12 (.alloc [.int (.i64) 0, .int
  (.i64) 0]), i0 (.store 2 (r 12) (r 39))]
def A_graph_Graph_Reaches_7 : Row := [i 40 (.mv (r 9)), i 41 (.mv (r 11)), i 42 (.slice 2 (r 40) none (some (r 41)) none), i 9 (.mv (r 42))]
def A_graph_Graph_Reaches_8 : Row := [i 44 (.load (some 2) (r 12)), i 45 (.load (some 2) (r 6)), i 46 (.eq false ⟨true, [.int (.i64), .int (.i64)]⟩ (r 44) (r 45)), i 43 (.mv
  (r 46))]
def A_graph_Graph_Reaches_9 : Row := [i 8 (.mv (.const (.bool true)))]
def A_graph_Graph_Reaches_10 : Row := [i 48 (.mv (r 10)), i 49 (.load (some 2) (r 12)), i 50 (.lookup ⟨true, [.int (.i64), .int (.i64)]⟩ (.bool false) false (r 48) (r 49)), i
  47 (.mv (r 50))]
def A_graph_Graph_Reaches_11 : Row := [i 51 (.mv (r 10)), i 52 (.load (some 2) (r 12)), i0 (.mapUpdate ⟨true, [.int (.i64), .int (.i64)]⟩ (r 51) (r 52) (.const (.bool true)))]
def A_graph_Graph_Reaches_12 : Row := [i 53 (.mv (r 9)), i 54 (.mv (r 0)), i 55 (.load (some 2) (r 12)), i 56 (.mv (r 3)), i 57 (.call (.func F_graph_Graph_next) [.tmp 54,
  .tmp 55, .tmp 56]), i 58 (.append 2 16 (r 53) (r 57)), i 9 (.mv (r 58))]
def A_graph_Graph_Reaches_13 : ACode := (.seq (.seq (.ops A_graph_Graph_Reaches_4) (.cond (r 32) .skip (.exit 0))) (.block 1 (.seq (.ops A_graph_Graph_Reaches_5) (.seq (.ops
  A_graph_Graph_Reaches_6) (.seq (.ops A_graph_Graph_Reaches_7) (.seq (.block 2 (.seq (.ops A_graph_Graph_Reaches_8) (.cond (r 43) (.seq (.ops A_graph_Graph_Reaches_9)
  .ret) (.seq (.ops A_graph_Graph_Reaches_10) (.cond (r 47) (.exit 1) .skip))))) (.seq (.ops A_graph_Graph_Reaches_11) (.ops A_graph_Graph_Reaches_12))))))))
def A_graph_Graph_Reaches_14 : Row := [i 8 (.mv (.const (.bool false)))]
/-- (*diorama/graph.Graph).Reaches -/
def A_graph_Graph_Reaches : AFunc :=
 ⟨59, [.tmp 8], (.seq (.ops A_graph_Graph_Reaches_0) (.scope (.seq (.seq (.ops A_graph_Graph_Reaches_1) (.cond (r 26) (.seq (.ops A_graph_Graph_Reaches_2) .ret) .skip))
  (.seq (.ops A_graph_Graph_Reaches_3) (.seq .skip (.seq (.block 0 (.loop A_graph_Graph_Reaches_13)) (.seq (.ops A_graph_Graph_Reaches_14) .ret)))))))⟩
/-! (*diorama/graph.Graph).Ref -/
def A_graph_Graph_Ref_0 : Row := [i 3 (.box (r 1)), i 4 (.alloc [.int (.i64) 0, .int (.i64) 0]), i 5 (.mv (.const (.bool false)))]
def A_graph_Graph_Ref_1 : Row := [i 8 (.mv (r 0)), i 9 (.call (.func F_graph_Graph_none) [.tmp 8])]
def A_graph_Graph_Ref_2 : Row := [i 10 (.build [.int (.i64) 0, .int (.i64) 0] []), i0 (.store 2 (r 4) (r 10)), i 5 (.mv (.const (.bool false)))]
def A_graph_Graph_Ref_3 : Row := [i 12 (.mv (r 0)), i 13 (.nilCheck (r 12)), i 14 (.fieldAddr 2 (r 13)), i 15 (.load none (r 14)), i 16 (.load (some 2) (r 3)), i 17 (.lookup
  ⟨true, [.int (.i64), .int (.i64)]⟩ (.agg [.int (.i64) 0, .int (.i64) 0]) true (r 15) (r 16)), i 11 (.mv (r 17)), i 18 (.extract (r 11) 0), i 19 (.extract (r 11) 1), i 6
  (.alloc [.int (.i64) 0, .int (.i64) 0]), i0 (.store 2 (r 6) (r 18)), i 7 (.mv (r 19))]
def A_graph_Graph_Ref_4 : Row := [i 20 (.load (some 2) (r 6)), i 21 (.mv (r 7)), i0 (.store 2 (r 4) (r 20)), i 5 (.mv (r 21))]
/-- (*diorama/graph.Graph).Ref -/
def A_graph_Graph_Ref : AFunc :=
 ⟨22, [.cell 4 (some 2), .tmp 5], (.seq (.ops A_graph_Graph_Ref_0) (.seq (.seq (.ops A_graph_Graph_Ref_1) (.cond (r 9) (.seq (.ops A_graph_Graph_Ref_2) .ret) .skip)) (.seq
  (.ops A_graph_Graph_Ref_3) (.seq (.ops A_graph_Graph_Ref_4) .ret))))⟩
/-! (*diorama/graph.Graph).Has -/
def A_graph_Graph_Has_0 : Row := [i 3 (.box (r 1)), i 4 (.mv (.const (.bool false)))]
def A_graph_Graph_Has_1 : Row := [i 5 (.mv (r 0)), i 6 (.call (.func F_graph_Graph_none) [.tmp 5]), i 7 (.un (.not) (r 6)), i 8 (.mv (r 7)), g 9 (.mv (r 0)) 8 true, g 10
  (.nilCheck (r 9)) 8 true, g 11 (.fieldAddr 1 (r 10)) 8 true, g 12 (.load none (r 11)) 8 true, g 13 (.load (some 2) (r 3)) 8 true, g 14 (.call (.func F_tree_Tree_Has)
  [.tmp 12, .tmp 13]) 8 true, i 15 (.pick (r 8) (r 14) (.const (.bool false))), i 4 (.mv (r 15))]
/-- (*diorama/graph.Graph).Has -/
def A_graph_Graph_Has : AFunc :=
 ⟨16, [.tmp 4], (.seq (.ops A_graph_Graph_Has_0) (.seq (.ops A_graph_Graph_Has_1) .ret))⟩
/-! (*diorama/graph.Graph).Row -/
def A_graph_Graph_Row_0 : Row := [i 3 (.box (r 1)), i 4 (.mv (.const (.slice none 0 (.exact 0))))]
def A_graph_Graph_Row_1 : Row := [i 5 (.mv (r 0)), i 6 (.call (.func F_graph_Graph_none) [.tmp 5])]
def A_graph_Graph_Row_2 : Row := [i 4 (.mv (.const (.slice none 0 (.exact 0))))]
def A_graph_Graph_Row_3 : Row := [i 7 (.mv (r 0)), i 8 (.nilCheck (r 7)), i 9 (.fieldAddr 1 (r 8)), i 10 (.load none (r 9)), i 11 (.load (some 2) (r 3)), i 12 (.call (.func
  F_order_Row) [.tmp 10, .tmp 11]), i 4 (.mv (r 12))]
/-- (*diorama/graph.Graph).Row -/
def A_graph_Graph_Row : AFunc :=
 ⟨13, [.tmp 4], (.seq (.ops A_graph_Graph_Row_0) (.seq (.seq (.ops A_graph_Graph_Row_1) (.cond (r 6) (.seq (.ops A_graph_Graph_Row_2) .ret) .skip)) (.seq (.ops
  A_graph_Graph_Row_3) .ret)))⟩
/-! (*diorama/graph.Graph).Clone -/
def A_graph_Graph_Clone_0 : Row := [i 2 (.mv (.const (.ptr none)))]
def A_graph_Graph_Clone_1 : Row := [i 3 (.mv (r 0)), i 4 (.call (.func F_graph_Graph_none) [.tmp 3])]
def A_graph_Graph_Clone_2 : Row := [i 2 (.mv (.const (.ptr none)))]
def A_graph_Graph_Clone_3 : Row := [i 5 (.mv (r 0)), i 6 (.nilCheck (r 5)), i 7 (.fieldAddr 0 (r 6)), i 8 (.load none (r 7)), i 10 (.mv (r 0)), i 11 (.nilCheck (r 10)), i 12
  (.fieldAddr 1 (r 11)), i 13 (.load none (r 12)), i 15 (.mv (r 0)), i 16 (.nilCheck (r 15)), i 17 (.fieldAddr 2 (r 16)), i 18 (.load none (r 17)), ⟨a 9 (.call (.func
  F_slices_Clone_entry) [.tmp 8]), [a 18 (.load none (r 17)), a 13 (.load none (r 12))]⟩, ⟨a 14 (.call (.func F_tree_Tree_Clone) [.tmp 13]), [a 18 (.load none (r 17))]⟩, i
  19 (.call (.func F_maps_Clone_Stamp) [.tmp 18]), i 20 (.build [.slice none 0 (.exact 0), .ptr none, .map none] [(0, 1, .tmp 9), (1, 1, .tmp 14), (2, 1, .tmp 19)]), i 21
  (.box (r 20)), i 2 (.mv (r 21))]
/-- (*diorama/graph.Graph).Clone -/
def A_graph_Graph_Clone : AFunc :=
 ⟨22, [.tmp 2], (.seq (.ops A_graph_Graph_Clone_0) (.seq (.seq (.ops A_graph_Graph_Clone_1) (.cond (r 4) (.seq (.ops A_graph_Graph_Clone_2) .ret) .skip)) (.seq (.ops
  A_graph_Graph_Clone_3) .ret)))⟩
/-! (*diorama/dioramaref13.Graph).Insert -/
/-! diorama/dioramalaw13.num -/
def A_law13_num_0 : Row := [i 2 (.mv (.const (.int (.i64) 0)))]
def A_law13_num_1 : Row := [i 3 (.mv (r 0)), i 2 (.mv (r 3))]
/-- diorama/dioramalaw13.num -/
def A_law13_num : AFunc :=
 ⟨4, [.tmp 2], (.seq (.ops A_law13_num_0) (.seq (.ops A_law13_num_1) .ret))⟩
/-! (*diorama/graph.Graph).Count -/
def A_graph_Graph_Count_0 : Row := [i 2 (.mv (.const (.int (.i64) 0)))]
def A_graph_Graph_Count_1 : Row := [i 3 (.mv (r 0)), i 4 (.call (.func F_graph_Graph_none) [.tmp 3])]
def A_graph_Graph_Count_2 : Row := [i 2 (.mv (.const (.int (.i64) 0)))]
def A_graph_Graph_Count_3 : Row := [i 5 (.mv (r 0)), i 6 (.nilCheck (r 5)), i 7 (.fieldAddr 0 (r 6)), i 8 (.load none (r 7)), i 9 (.lenSlice (r 8)), i 2 (.mv (r 9))]
/-- (*diorama/graph.Graph).Count -/
def A_graph_Graph_Count : AFunc :=
 ⟨10, [.tmp 2], (.seq (.ops A_graph_Graph_Count_0) (.seq (.seq (.ops A_graph_Graph_Count_1) (.cond (r 4) (.seq (.ops A_graph_Graph_Count_2) .ret) .skip)) (.seq (.ops
  A_graph_Graph_Count_3) .ret)))⟩
/-! (*diorama/graph.Graph).Same -/
def A_graph_Graph_Same_0 : Row := [i 4 (.mv (.const (.bool false)))]
def A_graph_Graph_Same_1 : Row := [i 5 (.mv (r 0)), i 6 (.call (.func F_graph_Graph_none) [.tmp 5]), i 7 (.un (.not) (r 6)), i 8 (.mv (r 7)), g 9 (.mv (r 1)) 8 true, g 10
  (.call (.func F_graph_Graph_none) [.tmp 9]) 8 true, g 11 (.un (.not) (r 10)) 8 true, i 12 (.pick (r 8) (r 11) (.const (.bool false))), i 13 (.mv (r 12)), g 14 (.mv (r
  0)) 13 true, g 15 (.nilCheck (r 14)) 13 true, g 16 (.fieldAddr 1 (r 15)) 13 true, g 17 (.load none (r 16)) 13 true, g 18 (.mv (r 1)) 13 true, g 19 (.nilCheck (r 18)) 13
  true, g 20 (.fieldAddr 1 (r 19)) 13 true, g 21 (.load none (r 20)) 13 true, g 22 (.call (.func F_tree_Tree_Same) [.tmp 17, .tmp 21]) 13 true, i 23 (.pick (r 13) (r 22)
  (.const (.bool false))), i 24 (.mv (r 23)), g 25 (.mv (r 0)) 24 true, g 26 (.nilCheck (r 25)) 24 true, g 27 (.fieldAddr 2 (r 26)) 24 true, g 28 (.load none (r 27)) 24
  true, g 29 (.mv (r 1)) 24 true, g 30 (.nilCheck (r 29)) 24 true, g 31 (.fieldAddr 2 (r 30)) 24 true, g 32 (.load none (r 31)) 24 true, g 33 (.call (.func
  F_maps_Equal_Stamp) [.tmp 28, .tmp 32]) 24 true, i 34 (.pick (r 24) (r 33) (.const (.bool false))), i 4 (.mv (r 34))]
/-- (*diorama/graph.Graph).Same -/
def A_graph_Graph_Same : AFunc :=
 ⟨35, [.tmp 4], (.seq (.ops A_graph_Graph_Same_0) (.seq (.ops A_graph_Graph_Same_1) .ret))⟩
/-! (*diorama/dioramaref13.Graph).State -/
/-! diorama/dioramalaw05.Same -/
/-! diorama/dioramalaw13.same -/
/-! (*diorama/graph.Graph).Done -/
def A_graph_Graph_Done_0 : Row := [i 3 (.box (r 1)), i 4 (.mv (.const (.bool false)))]
def A_graph_Graph_Done_1 : Row := [i 7 (.mv (r 0)), i 8 (.call (.func F_graph_Graph_none) [.tmp 7])]
def A_graph_Graph_Done_2 : Row := [i 4 (.mv (.const (.bool false)))]
def A_graph_Graph_Done_3 : Row := [i 10 (.mv (r 0)), i 11 (.load (some 2) (r 3)), i 12 (.call (.func F_graph_Graph_place) [.tmp 10, .tmp 11]), i 9 (.mv (r 12)), i 13 (.extract
  (r 9) 0), i 14 (.extract (r 9) 1), i 5 (.mv (r 13)), i 6 (.mv (r 14))]
def A_graph_Graph_Done_4 : Row := [i 15 (.mv (r 6)), i 16 (.mv (r 15)), g 17 (.mv (r 0)) 16 true, g 18 (.nilCheck (r 17)) 16 true, g 19 (.fieldAddr 0 (r 18)) 16 true, g 20
  (.load none (r 19)) 16 true, g 21 (.mv (r 5)) 16 true, g 22 (.indexAddr 16 (r 20) (r 21)) 16 true, g 23 (.fieldAddr 14 (r 22)) 16 true, g 24 (.load none (r 23)) 16 true,
  i 25 (.pick (r 16) (r 24) (.const (.bool false))), i 4 (.mv (r 25))]
/-- (*diorama/graph.Graph).Done -/
def A_graph_Graph_Done : AFunc :=
 ⟨26, [.tmp 4], (.seq (.ops A_graph_Graph_Done_0) (.seq (.seq (.ops A_graph_Graph_Done_1) (.cond (r 8) (.seq (.ops A_graph_Graph_Done_2) .ret) .skip)) (.seq (.ops
  A_graph_Graph_Done_3) (.seq (.ops A_graph_Graph_Done_4) .ret))))⟩
/-! diorama/dioramaref13.Same -/
/-! diorama/order.Sort -/
def A_order_Sort_0 : Row := [i 2 (.mv (.const (.slice none 0 (.exact 0))))]
def A_order_Sort_1 : Row := [i 3 (.mv (.func F_order_Sort_c1))]
def A_order_Sort_2 : Row := [i 4 (.mv (r 0)), i 5 (.call (.func F_slices_Values_Sib) [.tmp 4]), i 6 (.mv (r 3)), i 7 (.call (.func F_slices_SortedFunc_Sib) [.tmp 5, .tmp 6]),
  i 2 (.mv (r 7))]
/-- diorama/order.Sort -/
def A_order_Sort : AFunc :=
 ⟨8, [.tmp 2], (.seq (.ops A_order_Sort_0) (.seq (.ops A_order_Sort_1) (.seq (.ops A_order_Sort_2) .ret)))⟩
/-! diorama/order.Key -/
def A_order_Key_0 : Row := [i 4 (.alloc [.str []]), i 5 (.mv (.const (.int (.i64) 0)))]
def A_order_Key_1 : Row := [i 6 (.mv (r 0)), i 7 (.mv (r 1)), i 8 (.makeFunc F_order_Key_c1 [] [.tmp 4]), i 9 (.call (.func F_order_gap) [.tmp 6, .tmp 7, .tmp 8]), i 5 (.mv (r
  9))]
def A_order_Key_2 : Row := [i 10 (.load none (r 4)), i 11 (.mv (r 5)), i0 (.store 1 (r 4) (r 10)), i 5 (.mv (r 11))]
/-- diorama/order.Key -/
def A_order_Key : AFunc :=
 ⟨12, [.cell 4 none, .tmp 5], (.seq (.ops A_order_Key_0) (.seq (.ops A_order_Key_1) (.seq (.ops A_order_Key_2) .ret)))⟩
/-! diorama/dioramalaw11.num -/
def A_law11_num_0 : Row := [i 2 (.mv (.const (.int (.i64) 0)))]
def A_law11_num_1 : Row := [i 3 (.mv (r 0)), i 2 (.mv (r 3))]
/-- diorama/dioramalaw11.num -/
def A_law11_num : AFunc :=
 ⟨4, [.tmp 2], (.seq (.ops A_law11_num_0) (.seq (.ops A_law11_num_1) .ret))⟩
/-! diorama/order.Find -/
def A_order_Find_0 : Row := [i 3 (.box (r 1)), i 4 (.mv (.const (.int (.i64) 0)))]
def A_order_Find_1 : Row := [i 5 (.mv (r 0)), i 6 (.makeFunc F_order_Find_c1 [] [.tmp 3]), i 7 (.call (.func F_slices_IndexFunc_Sib) [.tmp 5, .tmp 6]), i 4 (.mv (r 7))]
/-- diorama/order.Find -/
def A_order_Find : AFunc :=
 ⟨8, [.tmp 4], (.seq (.ops A_order_Find_0) (.seq (.ops A_order_Find_1) .ret))⟩
/-! (*diorama/tree.Tree).none -/
def A_tree_Tree_none_0 : Row := [i 2 (.mv (.const (.bool false)))]
def A_tree_Tree_none_1 : Row := [i 3 (.mv (r 0)), i 4 (.eqNil false (.ptr) (r 3) (.const (.ptr none))), i 5 (.mv (r 4)), g 6 (.mv (r 0)) 5 false, g 7 (.nilCheck (r 6)) 5
  false, g 8 (.fieldAddr 0 (r 7)) 5 false, g 9 (.load none (r 8)) 5 false, g 10 (.eqNil false (.map) (r 9) (.const (.map none))) 5 false, i 11 (.pick (r 5) (.const (.bool
  true)) (r 10)), i 2 (.mv (r 11))]
/-- (*diorama/tree.Tree).none -/
def A_tree_Tree_none : AFunc :=
 ⟨12, [.tmp 2], (.seq (.ops A_tree_Tree_none_0) (.seq (.ops A_tree_Tree_none_1) .ret))⟩
/-! diorama/op.Node -/
def A_op_Node_0 : Row := [i 1 (.box (r 0)), i 2 (.mv (.const (.bool false)))]
def A_op_Node_1 : Row := [i 3 (.load (some 2) (r 1)), i 4 (.call (.func F_stamp_Right) [.tmp 3]), i 5 (.mv (r 4)), g 6 (.fieldAddr 0 (r 1)) 5 true, g 7 (.load none (r 6)) 5
  true, g 8 (.bin (.gtr) (r 7) (.const (.int (.i64) 0))) 5 true, i 9 (.pick (r 5) (r 8) (.const (.bool false))), i 2 (.mv (r 9))]
/-- diorama/op.Node -/
def A_op_Node : AFunc :=
 ⟨10, [.tmp 2], (.seq (.ops A_op_Node_0) (.seq (.ops A_op_Node_1) .ret))⟩
/-! (diorama/tree.Spot).right -/
def A_tree_Spot_right_0 : Row := [i 1 (.box (r 0)), i 2 (.mv (.const (.bool false)))]
def A_tree_Spot_right_1 : Row := [i 3 (.fieldAddr 0 (r 1)), i 4 (.load (some 2) (r 3)), i 5 (.call (.func F_op_Place) [.tmp 4]), i 6 (.mv (r 5)), g 7 (.fieldAddr 2 (r 1)) 6
  true, g 8 (.load none (r 7)) 6 true, g 9 (.call (.func F_poskey_Right) [.tmp 8]) 6 true, i 10 (.pick (r 6) (r 9) (.const (.bool false))), i 2 (.mv (r 10))]
/-- (diorama/tree.Spot).right -/
def A_tree_Spot_right : AFunc :=
 ⟨11, [.tmp 2], (.seq (.ops A_tree_Spot_right_0) (.seq (.ops A_tree_Spot_right_1) .ret))⟩
/-! (*diorama/tree.Tree).node -/
def A_tree_Tree_node_0 : Row := [i 3 (.box (r 1)), i 4 (.mv (.const (.bool false)))]
def A_tree_Tree_node_1 : Row := [i 8 (.mv (r 0)), i 9 (.nilCheck (r 8)), i 10 (.fieldAddr 0 (r 9)), i 11 (.load none (r 10)), i 12 (.load (some 2) (r 3)), i 13 (.lookup ⟨true,
  [.int (.i64), .int (.i64)]⟩ (.agg [.int (.i64) 0, .int (.i64) 0, .str []]) true (r 11) (r 12)), i 7 (.mv (r 13)), i 14 (.extract (r 7) 0), i 15 (.extract (r 7) 1), i 5
  (.alloc [.int (.i64) 0, .int (.i64) 0, .str []]), i0 (.store 3 (r 5) (r 14)), i 6 (.mv (r 15))]
def A_tree_Tree_node_2 : Row := [i 16 (.mv (r 6)), i 4 (.mv (r 16))]
/-- (*diorama/tree.Tree).node -/
def A_tree_Tree_node : AFunc :=
 ⟨17, [.tmp 4], (.seq (.ops A_tree_Tree_node_0) (.seq (.ops A_tree_Tree_node_1) (.seq (.ops A_tree_Tree_node_2) .ret)))⟩
/-! (*diorama/tree.Tree).Has -/
def A_tree_Tree_Has_0 : Row := [i 3 (.box (r 1)), i 4 (.mv (.const (.bool false)))]
def A_tree_Tree_Has_1 : Row := [i 7 (.mv (r 0)), i 8 (.call (.func F_tree_Tree_none) [.tmp 7])]
def A_tree_Tree_Has_2 : Row := [i 4 (.mv (.const (.bool false)))]
def A_tree_Tree_Has_3 : Row := [i 10 (.mv (r 0)), i 11 (.nilCheck (r 10)), i 12 (.fieldAddr 0 (r 11)), i 13 (.load none (r 12)), i 14 (.load (some 2) (r 3)), i 15 (.lookup
  ⟨true, [.int (.i64), .int (.i64)]⟩ (.agg [.int (.i64) 0, .int (.i64) 0, .str []]) true (r 13) (r 14)), i 9 (.mv (r 15)), i 16 (.extract (r 9) 0), i 17 (.extract (r 9)
  1), i 5 (.alloc [.int (.i64) 0, .int (.i64) 0, .str []]), i0 (.store 3 (r 5) (r 16)), i 6 (.mv (r 17))]
def A_tree_Tree_Has_4 : Row := [i 18 (.mv (r 6)), i 19 (.mv (r 18)), g 20 (.load (some 2) (r 3)) 19 false, g 21 (.call (.func F_op_Place) [.tmp 20]) 19 false, g 22 (.mv (r
  21)) 19 false, g 23 (.load (some 2) (r 3)) 22 true, g 24 (.call (.func F_op_Node) [.tmp 23]) 22 true, g 25 (.un (.not) (r 24)) 22 true, g 26 (.pick (r 22) (r 25) (.const
  (.bool false))) 19 false, i 27 (.pick (r 19) (.const (.bool true)) (r 26)), i 4 (.mv (r 27))]
/-- (*diorama/tree.Tree).Has -/
def A_tree_Tree_Has : AFunc :=
 ⟨28, [.tmp 4], (.seq (.ops A_tree_Tree_Has_0) (.seq (.seq (.ops A_tree_Tree_Has_1) (.cond (r 8) (.seq (.ops A_tree_Tree_Has_2) .ret) .skip)) (.seq (.ops A_tree_Tree_Has_3)
  (.seq (.ops A_tree_Tree_Has_4) .ret))))⟩
/-! (*diorama/dioramaref10.Tree).find -/
def A_ref10_Tree_find_0 : Row := [i 3 (.box (r 1)), i 4 (.mv (.const (.int (.i64) 0))), i 5 (.mv (.const (.bool false)))]
def A_ref10_Tree_find_1 : Row := [i 6 (.mv (.const (.int (.i64) 0)))]
def A_ref10_Tree_find_2 : Row := [i 7 (.mv (r 6)), i 8 (.mv (r 0)), i 9 (.nilCheck (r 8)), i 10 (.fieldAddr 0 (r 9)), i 11 (.load none (r 10)), i 12 (.lenSlice (r 11)), i 13
  (.bin (.lss) (r 7) (r 12))]
def A_ref10_Tree_find_3 : Row := [i 16 (.mv (r 0)), i 17 (.nilCheck (r 16)), i 18 (.fieldAddr 0 (r 17)), i 19 (.load none (r 18)), i 20 (.mv (r 6)), i 21 (.indexAddr 5 (r 19)
  (r 20)), i 22 (.fieldAddr 0 (r 21)), i 23 (.load (some 2) (r 22)), i 24 (.load (some 2) (r 3)), i 25 (.call (.func F_ref02_Compare) [.tmp 23, .tmp 24]), i 26 (.bin
  (.geq) (r 25) (.const (.int (.i64) 0)))]
def A_ref10_Tree_find_4 : Row := [i 27 (.mv (r 6)), i 28 (.mv (r 0)), i 29 (.nilCheck (r 28)), i 30 (.fieldAddr 0 (r 29)), i 31 (.load none (r 30)), i 32 (.mv (r 6)), i 33
  (.indexAddr 5 (r 31) (r 32)), i 34 (.fieldAddr 0 (r 33)), i 35 (.load (some 2) (r 34)), i 36 (.load (some 2) (r 3)), i 37 (.eq false ⟨true, [.int (.i64), .int (.i64)]⟩
  (r 35) (r 36)), i 4 (.mv (r 27)), i 5 (.mv (r 37))]
def A_ref10_Tree_find_5 : Row := [i 14 (.mv (r 6)), i 15 (.bin (.add) (r 14) (.const (.int (.i64) 1))), i 6 (.mv (r 15))]
def A_ref10_Tree_find_6 : ACode := (.seq (.seq (.ops A_ref10_Tree_find_2) (.cond (r 13) .skip (.exit 0))) (.seq (.block 1 (.seq (.ops A_ref10_Tree_find_3) (.cond (r 26) (.seq
  (.ops A_ref10_Tree_find_4) .ret) .skip))) (.ops A_ref10_Tree_find_5)))
def A_ref10_Tree_find_7 : Row := [i 38 (.mv (r 0)), i 39 (.nilCheck (r 38)), i 40 (.fieldAddr 0 (r 39)), i 41 (.load none (r 40)), i 42 (.lenSlice (r 41)), i 4 (.mv (r 42)), i
  5 (.mv (.const (.bool false)))]
/-- (*diorama/dioramaref10.Tree).find -/
def A_ref10_Tree_find : AFunc :=
 ⟨43, [.tmp 4, .tmp 5], (.seq (.ops A_ref10_Tree_find_0) (.seq (.seq (.ops A_ref10_Tree_find_1) (.block 0 (.loop A_ref10_Tree_find_6))) (.seq (.ops A_ref10_Tree_find_7)
  .ret)))⟩
/-! diorama/dioramaref07.Node -/
def A_ref07_Node_0 : Row := [i 1 (.box (r 0)), i 2 (.mv (.const (.bool false)))]
def A_ref07_Node_1 : Row := [i 3 (.load (some 2) (r 1)), i 4 (.call (.func F_ref02_Right) [.tmp 3]), i 5 (.mv (r 4)), g 6 (.fieldAddr 0 (r 1)) 5 true, g 7 (.load none (r 6)) 5
  true, g 8 (.bin (.geq) (r 7) (.const (.int (.i64) 1))) 5 true, i 9 (.pick (r 5) (r 8) (.const (.bool false))), i 2 (.mv (r 9))]
/-- diorama/dioramaref07.Node -/
def A_ref07_Node : AFunc :=
 ⟨10, [.tmp 2], (.seq (.ops A_ref07_Node_0) (.seq (.ops A_ref07_Node_1) .ret))⟩
/-! diorama/dioramaref10.Right -/
def A_ref10_Right_0 : Row := [i 1 (.box (r 0)), i 2 (.mv (.const (.bool false)))]
def A_ref10_Right_1 : Row := [i 3 (.fieldAddr 0 (r 1)), i 4 (.load (some 2) (r 3)), i 5 (.call (.func F_ref07_Place) [.tmp 4]), i 6 (.mv (r 5)), g 7 (.fieldAddr 2 (r 1)) 6
  true, g 8 (.load none (r 7)) 6 true, g 9 (.call (.func F_ref04_Right) [.tmp 8]) 6 true, i 10 (.pick (r 6) (r 9) (.const (.bool false))), i 2 (.mv (r 10))]
/-- diorama/dioramaref10.Right -/
def A_ref10_Right : AFunc :=
 ⟨11, [.tmp 2], (.seq (.ops A_ref10_Right_0) (.seq (.ops A_ref10_Right_1) .ret))⟩
/-! (*diorama/dioramaref10.Tree).Has -/
def A_ref10_Tree_Has_0 : Row := [i 3 (.box (r 1)), i 4 (.mv (.const (.bool false)))]
def A_ref10_Tree_Has_1 : Row := [i 8 (.mv (r 0)), i 9 (.load (some 2) (r 3)), i 10 (.call (.func F_ref10_Tree_find) [.tmp 8, .tmp 9]), i 7 (.mv (r 10)), i 11 (.extract (r 7)
  0), i 12 (.extract (r 7) 1), i 5 (.mv (r 11)), i 6 (.mv (r 12))]
def A_ref10_Tree_Has_2 : Row := [i 13 (.mv (r 6)), i 14 (.mv (r 13)), g 15 (.load (some 2) (r 3)) 14 false, ⟨⟨(some 16), .call (.func F_ref07_Root) [], (some (14, false))⟩,
  [⟨(some 15), .load (some 2) (r 3), (some (14, false))⟩]⟩, g 17 (.eq false ⟨true, [.int (.i64), .int (.i64)]⟩ (r 15) (r 16)) 14 false, i 18 (.pick (r 14) (.const (.bool
  true)) (r 17)), i 19 (.mv (r 18)), g 20 (.load (some 2) (r 3)) 19 false, ⟨⟨(some 21), .call (.func F_ref07_Trash) [], (some (19, false))⟩, [⟨(some 20), .load (some 2) (r
  3), (some (19, false))⟩]⟩, g 22 (.eq false ⟨true, [.int (.i64), .int (.i64)]⟩ (r 20) (r 21)) 19 false, i 23 (.pick (r 19) (.const (.bool true)) (r 22)), i 4 (.mv (r
  23))]
/-- (*diorama/dioramaref10.Tree).Has -/
def A_ref10_Tree_Has : AFunc :=
 ⟨24, [.tmp 4], (.seq (.ops A_ref10_Tree_Has_0) (.seq (.ops A_ref10_Tree_Has_1) (.seq (.ops A_ref10_Tree_Has_2) .ret)))⟩
/-! (*diorama/dioramaref10.Tree).Within -/
/-! (*diorama/tree.Tree).Below -/
def A_tree_Tree_Below_0 : Row := [i 3 (.box (r 1)), i 4 (.mv (.const (.slice none 0 (.exact 0))))]
def A_tree_Tree_Below_1 : Row := [i 5 (.mv (.const (.slice none 0 (.exact 0))))]
def A_tree_Tree_Below_2 : Row := [i 8 (.mv (r 0)), i 9 (.call (.func F_tree_Tree_Nodes) [.tmp 8]), i 10 (.lenSlice (r 9)), i 11 (.mv (.const (.int (.i64) 0)))]
def A_tree_Tree_Below_3 : Row := [i 12 (.bin (.lss) (r 11) (r 10))]
def A_tree_Tree_Below_4 : Row := [i 13 (.indexAddr 2 (r 9) (r 11)), i 14 (.load (some 2) (r 13)), i 7 (.alloc [.int (.i64) 0, .int (.i64) 0]), i0 (.store 2 (r 7) (r 14))]
def A_tree_Tree_Below_5 : Row := [i 15 (.mv (r 0)), i 16 (.nilCheck (r 15)), i 17 (.fieldAddr 0 (r 16)), i 18 (.load none (r 17)), i 19 (.load (some 2) (r 7)), i 20 (.lookup
  ⟨true, [.int (.i64), .int (.i64)]⟩ (.agg [.int (.i64) 0, .int (.i64) 0, .str []]) false (r 18) (r 19)), i 21 (.field 0 (some 2) (r 20)), i 22 (.load (some 2) (r 3)), i
  23 (.eq false ⟨true, [.int (.i64), .int (.i64)]⟩ (r 21) (r 22))]
def A_tree_Tree_Below_6 : Row := [i 24 (.mv (r 5)), i 25 (.load (some 2) (r 7)), i 26 (.buildSlice 1 [.int (.i64) 0, .int (.i64) 0] [(0, 2, .tmp 25)]), i 27 (.append 2 16 (r
  24) (r 26)), i 5 (.mv (r 27))]
def A_tree_Tree_Below_7 : Row := [i 28 (.bin (.add) (r 11) (.const (.int (.i64) 1))), i 11 (.mv (r 28))]
def A_tree_Tree_Below_8 : ACode := (.seq (.ops A_tree_Tree_Below_3) (.seq (.cond (r 12) .skip (.exit 0)) (.seq (.block 1 (.seq (.ops A_tree_Tree_Below_4) (.seq (.ops
  A_tree_Tree_Below_5) (.cond (r 23) (.ops A_tree_Tree_Below_6) .skip)))) (.ops A_tree_Tree_Below_7))))
def A_tree_Tree_Below_9 : Row := [i 29 (.mv (r 5)), i 4 (.mv (r 29))]
/-- (*diorama/tree.Tree).Below -/
def A_tree_Tree_Below : AFunc :=
 ⟨30, [.tmp 4], (.seq (.ops A_tree_Tree_Below_0) (.seq (.ops A_tree_Tree_Below_1) (.seq (.seq (.ops A_tree_Tree_Below_2) (.block 0 (.loop A_tree_Tree_Below_8))) (.seq (.ops
  A_tree_Tree_Below_9) .ret))))⟩
/-! (*diorama/tree.Tree).Spot -/
def A_tree_Tree_Spot_0 : Row := [i 3 (.box (r 1)), i 4 (.alloc [.int (.i64) 0, .int (.i64) 0, .str []]), i 5 (.mv (.const (.bool false)))]
def A_tree_Tree_Spot_1 : Row := [i 8 (.mv (r 0)), i 9 (.call (.func F_tree_Tree_none) [.tmp 8])]
def A_tree_Tree_Spot_2 : Row := [i 10 (.build [.int (.i64) 0, .int (.i64) 0, .str []] []), i0 (.store 3 (r 4) (r 10)), i 5 (.mv (.const (.bool false)))]
def A_tree_Tree_Spot_3 : Row := [i 12 (.mv (r 0)), i 13 (.nilCheck (r 12)), i 14 (.fieldAddr 0 (r 13)), i 15 (.load none (r 14)), i 16 (.load (some 2) (r 3)), i 17 (.lookup
  ⟨true, [.int (.i64), .int (.i64)]⟩ (.agg [.int (.i64) 0, .int (.i64) 0, .str []]) true (r 15) (r 16)), i 11 (.mv (r 17)), i 18 (.extract (r 11) 0), i 19 (.extract (r 11)
  1), i 6 (.alloc [.int (.i64) 0, .int (.i64) 0, .str []]), i0 (.store 3 (r 6) (r 18)), i 7 (.mv (r 19))]
def A_tree_Tree_Spot_4 : Row := [i 20 (.load (some 3) (r 6)), i 21 (.mv (r 7)), i0 (.store 3 (r 4) (r 20)), i 5 (.mv (r 21))]
/-- (*diorama/tree.Tree).Spot -/
def A_tree_Tree_Spot : AFunc :=
 ⟨22, [.cell 4 (some 3), .tmp 5], (.seq (.ops A_tree_Tree_Spot_0) (.seq (.seq (.ops A_tree_Tree_Spot_1) (.cond (r 9) (.seq (.ops A_tree_Tree_Spot_2) .ret) .skip)) (.seq
  (.ops A_tree_Tree_Spot_3) (.seq (.ops A_tree_Tree_Spot_4) .ret))))⟩
/-! diorama/dioramaref11.Sort -/
/-! diorama/dioramalaw13.ref12Light -/
def A_law13_ref12Light_0 : Row := [i 2 (.mv (.const (.bool false)))]
def A_law13_ref12Light_1 : Row := [i 3 (.mv (.const (.int (.i64) 0)))]
def A_law13_ref12Light_2 : Row := [i 4 (.mv (r 3)), i 5 (.mv (r 0)), i 6 (.lenSlice (r 5)), i 7 (.bin (.lss) (r 4) (r 6)), i 8 (.mv (r 7)), g 9 (.mv (r 3)) 8 true, g 10 (.bin
  (.lss) (r 9) (.const (.int (.i64) 50))) 8 true, i 11 (.pick (r 8) (r 10) (.const (.bool false)))]
def A_law13_ref12Light_3 : Row := [i 14 (.mv (r 0)), i 15 (.mv (r 3)), i 16 (.indexAddr 14 (r 14) (r 15)), i 17 (.fieldAddr 2 (r 16)), i 18 (.fieldAddr 6 (r 17)), i 19 (.load
  none (r 18)), i 20 (.lenSlice (r 19)), i 21 (.bin (.gtr) (r 20) (.const (.int (.i64) 20))), i 22 (.mv (r 21)), g 23 (.mv (r 0)) 22 false, g 24 (.mv (r 3)) 22 false, g 25
  (.indexAddr 14 (r 23) (r 24)) 22 false, g 26 (.fieldAddr 2 (r 25)) 22 false, g 27 (.fieldAddr 5 (r 26)) 22 false, g 28 (.load none (r 27)) 22 false, g 29 (.lenStr (r
  28)) 22 false, g 30 (.bin (.gtr) (r 29) (.const (.int (.i64) 100))) 22 false, i 31 (.pick (r 22) (.const (.bool true)) (r 30)), i 32 (.mv (r 31)), g 33 (.mv (r 0)) 32
  false, g 34 (.mv (r 3)) 32 false, g 35 (.indexAddr 14 (r 33) (r 34)) 32 false, g 36 (.fieldAddr 2 (r 35)) 32 false, g 37 (.fieldAddr 8 (r 36)) 32 false, g 38 (.fieldAddr
  2 (r 37)) 32 false, g 39 (.load none (r 38)) 32 false, g 40 (.lenStr (r 39)) 32 false, g 41 (.bin (.gtr) (r 40) (.const (.int (.i64) 200))) 32 false, i 42 (.pick (r 32)
  (.const (.bool true)) (r 41))]
def A_law13_ref12Light_4 : Row := [i 2 (.mv (.const (.bool false)))]
def A_law13_ref12Light_5 : Row := [i 12 (.mv (r 3)), i 13 (.bin (.add) (r 12) (.const (.int (.i64) 1))), i 3 (.mv (r 13))]
def A_law13_ref12Light_6 : ACode := (.seq (.seq (.ops A_law13_ref12Light_2) (.cond (r 11) .skip (.exit 0))) (.seq (.block 1 (.seq (.ops A_law13_ref12Light_3) (.cond (r 42)
  (.seq (.ops A_law13_ref12Light_4) .ret) .skip))) (.ops A_law13_ref12Light_5)))
def A_law13_ref12Light_7 : Row := [i 2 (.mv (.const (.bool true)))]
/-- diorama/dioramalaw13.ref12Light -/
def A_law13_ref12Light : AFunc :=
 ⟨43, [.tmp 2], (.seq (.ops A_law13_ref12Light_0) (.seq (.seq (.ops A_law13_ref12Light_1) (.block 0 (.loop A_law13_ref12Light_6))) (.seq (.ops A_law13_ref12Light_7)
  .ret)))⟩
/-! (*diorama/graph.Graph).none -/
def A_graph_Graph_none_0 : Row := [i 2 (.mv (.const (.bool false)))]
def A_graph_Graph_none_1 : Row := [i 3 (.mv (r 0)), i 4 (.eqNil false (.ptr) (r 3) (.const (.ptr none))), i 5 (.mv (r 4)), g 6 (.mv (r 0)) 5 false, g 7 (.nilCheck (r 6)) 5
  false, g 8 (.fieldAddr 1 (r 7)) 5 false, g 9 (.load none (r 8)) 5 false, g 10 (.eqNil false (.ptr) (r 9) (.const (.ptr none))) 5 false, i 11 (.pick (r 5) (.const (.bool
  true)) (r 10)), i 2 (.mv (r 11))]
/-- (*diorama/graph.Graph).none -/
def A_graph_Graph_none : AFunc :=
 ⟨12, [.tmp 2], (.seq (.ops A_graph_Graph_none_0) (.seq (.ops A_graph_Graph_none_1) .ret))⟩
/-! diorama/op.Right -/
def A_op_Right_0 : Row := [i 1 (.box (r 0)), i 2 (.mv (.const (.bool false)))]
def A_op_Right_1 : Row := [i 13 (.fieldAddr 0 (r 1)), i 14 (.load none (r 13)), i 15 (.call (.func F_op_parts) [.tmp 14]), i 12 (.mv (r 15)), i 16 (.extract (r 12) 0), i 17
  (.extract (r 12) 1), i 18 (.extract (r 12) 2), i 19 (.extract (r 12) 3), i 20 (.extract (r 12) 4), i 21 (.extract (r 12) 5), i 3 (.mv (r 16)), i 4 (.mv (r 17)), i 5 (.mv
  (r 18)), i 6 (.mv (r 19)), i 7 (.mv (r 20)), i 8 (.mv (r 21))]
def A_op_Right_2 : Row := [i 9 (.mv (.func F_op_Right_c1))]
def A_op_Right_3 : Row := [i 22 (.fieldAddr 3 (r 1)), i 23 (.load (some 2) (r 22)), i 24 (.call (.func F_op_Place) [.tmp 23]), i 10 (.mv (r 24))]
def A_op_Right_4 : Row := [i 25 (.fieldAddr 0 (r 1)), i 26 (.load none (r 25)), i 27 (.bin (.eql) (r 26) (.const (.int (.i64) 5)))]
def A_op_Right_5 : Row := [i 28 (.fieldAddr 3 (r 1)), i 29 (.load (some 2) (r 28)), i 30 (.call (.func F_op_Node) [.tmp 29]), i 31 (.mv (r 30)), g 32 (.fieldAddr 3 (r 1)) 31
  false, g 33 (.load (some 2) (r 32)) 31 false, g 34 (.load (some 2) (.const (.ptr (some (0, 0))))) 31 false, g 35 (.eq false ⟨true, [.int (.i64), .int (.i64)]⟩ (r 33) (r
  34)) 31 false, i 36 (.pick (r 31) (.const (.bool true)) (r 35)), i 10 (.mv (r 36))]
def A_op_Right_6 : Row := [i 37 (.fieldAddr 6 (r 1)), i 38 (.load none (r 37)), i 39 (.lenSlice (r 38)), i 40 (.bin (.gtr) (r 39) (.const (.int (.i64) 0))), i 41 (.mv (r 40)),
  g 42 (.fieldAddr 6 (r 1)) 41 true, g 43 (.load none (r 42)) 41 true, g 44 (.lenSlice (r 43)) 41 true, g 45 (.bin (.leq) (r 44) (.const (.int (.i64) 8))) 41 true, i 46
  (.pick (r 41) (r 45) (.const (.bool false))), i 47 (.mv (r 46)), g 48 (.fieldAddr 6 (r 1)) 47 true, g 49 (.load none (r 48)) 47 true, g 50 (.call (.func
  F_slices_ContainsFunc_Stamp) [.tmp 49, .func F_op_Right_c2]) 47 true, g 51 (.un (.not) (r 50)) 47 true, i 52 (.pick (r 47) (r 51) (.const (.bool false))), i 11 (.mv (r
  52))]
def A_op_Right_7 : Row := [i 53 (.mv (r 3)), i 54 (.mv (r 53)), g 55 (.mv (r 4)) 54 false, i 56 (.pick (r 54) (.const (.bool true)) (r 55)), i 57 (.mv (r 56)), g 58 (.mv (r
  9)) 57 true, g 59 (.mv (r 3)) 57 true, g 60 (.fieldAddr 1 (r 1)) 57 true, g 61 (.load (some 2) (r 60)) 57 true, g 62 (.build [.int (.i64) 0, .int (.i64) 0] []) 57 true,
  g 63 (.eq false ⟨true, [.int (.i64), .int (.i64)]⟩ (r 61) (r 62)) 57 true, g 64 (.fieldAddr 1 (r 1)) 57 true, g 65 (.load (some 2) (r 64)) 57 true, ⟨⟨(some 66), .call
  (.func F_op_Node) [.tmp 65], (some (57, true))⟩, [⟨(some 61), .load (some 2) (r 60), (some (57, true))⟩]⟩, g 67 (.call (r 58) [.tmp 59, .tmp 63, .tmp 66]) 57 true, i 68
  (.pick (r 57) (r 67) (.const (.bool false))), i 69 (.mv (r 68)), g 70 (.mv (r 9)) 69 true, g 71 (.mv (r 4)) 69 true, g 72 (.fieldAddr 3 (r 1)) 69 true, g 73 (.load (some
  2) (r 72)) 69 true, g 74 (.build [.int (.i64) 0, .int (.i64) 0] []) 69 true, g 75 (.eq false ⟨true, [.int (.i64), .int (.i64)]⟩ (r 73) (r 74)) 69 true, g 76 (.mv (r 10))
  69 true, g 77 (.call (r 70) [.tmp 71, .tmp 75, .tmp 76]) 69 true, i 78 (.pick (r 69) (r 77) (.const (.bool false))), i 79 (.mv (r 78)), g 80 (.mv (r 9)) 79 true, g 81
  (.mv (r 5)) 79 true, g 82 (.fieldAddr 5 (r 1)) 79 true, g 83 (.load none (r 82)) 79 true, g 84 (.bin (.eql) (r 83) (.const (.str []))) 79 true, g 85 (.fieldAddr 5 (r 1))
  79 true, g 86 (.load none (r 85)) 79 true, ⟨⟨(some 87), .call (.func F_poskey_Right) [.tmp 86], (some (79, true))⟩, [⟨(some 83), .load none (r 82), (some (79, true))⟩]⟩,
  g 88 (.call (r 80) [.tmp 81, .tmp 84, .tmp 87]) 79 true, i 89 (.pick (r 79) (r 88) (.const (.bool false))), i 90 (.mv (r 89)), g 91 (.mv (r 9)) 90 true, g 92 (.mv (r 6))
  90 true, g 93 (.fieldAddr 6 (r 1)) 90 true, g 94 (.load none (r 93)) 90 true, g 95 (.lenSlice (r 94)) 90 true, g 96 (.bin (.eql) (r 95) (.const (.int (.i64) 0))) 90
  true, g 97 (.mv (r 11)) 90 true, g 98 (.call (r 91) [.tmp 92, .tmp 96, .tmp 97]) 90 true, i 99 (.pick (r 90) (r 98) (.const (.bool false))), i 100 (.mv (r 99)), g 101
  (.mv (r 9)) 100 true, g 102 (.mv (r 7)) 100 true, g 103 (.fieldAddr 7 (r 1)) 100 true, g 104 (.load none (r 103)) 100 true, g 105 (.bin (.eql) (r 104) (.const (.int
  (.i64) 0))) 100 true, g 106 (.mv (r 105)) 100 true, g 107 (.fieldAddr 8 (r 1)) 106 true, g 108 (.load (some 3) (r 107)) 106 true, g 109 (.build [.int (.i64) 0, .int
  (.i64) 0, .str []] []) 106 true, g 110 (.eq false ⟨true, [.int (.i64), .int (.i64), .str]⟩ (r 108) (r 109)) 106 true, g 111 (.pick (r 106) (r 110) (.const (.bool
  false))) 100 true, g 112 (.fieldAddr 7 (r 1)) 100 true, g 113 (.load none (r 112)) 100 true, g 114 (.fieldAddr 8 (r 1)) 100 true, g 115 (.load (some 3) (r 114)) 100
  true, ⟨⟨(some 116), .call (.func F_value_Right8) [.tmp 113, .tmp 115], (some (100, true))⟩, [⟨(some 108), .load (some 3) (r 107), (some (106, true))⟩]⟩, g 117 (.call (r
  101) [.tmp 102, .tmp 111, .tmp 116]) 100 true, i 118 (.pick (r 100) (r 117) (.const (.bool false))), i 119 (.mv (r 118)), g 120 (.mv (r 8)) 119 true, g 121 (.mv (r 120))
  119 true, g 122 (.fieldAddr 11 (r 1)) 121 false, g 123 (.load none (r 122)) 121 false, g 124 (.un (.not) (r 123)) 121 false, g 125 (.pick (r 121) (.const (.bool true))
  (r 124)) 119 true, i 126 (.pick (r 119) (r 125) (.const (.bool false))), i 2 (.mv (r 126))]
/-- diorama/op.Right -/
def A_op_Right : AFunc :=
 ⟨127, [.tmp 2], (.seq (.ops A_op_Right_0) (.seq (.ops A_op_Right_1) (.seq (.ops A_op_Right_2) (.seq (.ops A_op_Right_3) (.seq (.seq (.ops A_op_Right_4) (.cond (r 27) (.ops
  A_op_Right_5) .skip)) (.seq (.ops A_op_Right_6) (.seq (.ops A_op_Right_7) .ret)))))))⟩
/-! (*diorama/graph.Graph).place -/
def A_graph_Graph_place_0 : Row := [i 3 (.box (r 1)), i 4 (.mv (.const (.int (.i64) 0))), i 5 (.mv (.const (.bool false)))]
def A_graph_Graph_place_1 : Row := [i 6 (.mv (r 0)), i 7 (.nilCheck (r 6)), i 8 (.fieldAddr 0 (r 7)), i 9 (.load none (r 8)), i 10 (.load (some 2) (r 3)), i 11 (.call (.func
  F_slices_BinarySearchFunc_entry_Stamp) [.tmp 9, .tmp 10, .func F_graph_Graph_place_c1]), i 12 (.extract (r 11) 0), i 13 (.extract (r 11) 1), i 4 (.mv (r 12)), i 5 (.mv
  (r 13))]
/-- (*diorama/graph.Graph).place -/
def A_graph_Graph_place : AFunc :=
 ⟨14, [.tmp 4, .tmp 5], (.seq (.ops A_graph_Graph_place_0) (.seq (.ops A_graph_Graph_place_1) .ret))⟩
/-! (*diorama/graph.entry).do -/
def A_graph_entry_do_0 : Row := [i 16 (.mv (r 0)), i 17 (.mv (r 0)), i 18 (.nilCheck (r 16)), i 19 (.fieldAddr 14 (r 18)), i0 (.store 1 (r 19) (.const (.bool false))), i 20
  (.nilCheck (r 17)), i 21 (.fieldAddr 15 (r 20)), i0 (.store 1 (r 21) (.const (.nilFn)))]
def A_graph_entry_do_1 : Row := [i 22 (.mv (r 0)), i 23 (.nilCheck (r 22)), i 24 (.fieldAddr 2 (r 23)), i 25 (.load (some 12) (r 24)), i 4 (.alloc [.int (.i64) 0, .int (.i64)
  0, .int (.i64) 0, .int (.i64) 0, .int (.i64) 0, .str [], .slice none 0 (.exact 0), .int (.i64) 0, .int (.i64) 0, .int (.i64) 0, .str [], .bool false]), i0 (.store 12 (r
  4) (r 25))]
def A_graph_entry_do_2 : Row := [i 26 (.fieldAddr 0 (r 4)), i 27 (.load none (r 26))]
def A_graph_entry_do_3 : Row := [i 29 (.bin (.eql) (r 27) (.const (.int (.i64) 1))), i 28 (.mv (r 29))]
def A_graph_entry_do_4 : Row := [i 30 (.fieldAddr 3 (r 4)), i 31 (.load (some 2) (r 30)), i 32 (.fieldAddr 5 (r 4)), i 33 (.load none (r 32)), i 34 (.build [.int (.i64) 0,
  .int (.i64) 0, .str []] [(0, 2, .tmp 31), (2, 1, .tmp 33)]), i 5 (.alloc [.int (.i64) 0, .int (.i64) 0, .str []]), i0 (.store 3 (r 5) (r 34))]
def A_graph_entry_do_5 : Row := [i 35 (.mv (r 1)), i 36 (.fieldAddr 3 (r 4)), i 37 (.load (some 2) (r 36)), i 38 (.call (.func F_graph_Graph_Has) [.tmp 35, .tmp 37]), i 39
  (.un (.not) (r 38))]
def A_graph_entry_do_6 : Row := [i 40 (.build [.int (.i64) 0, .int (.i64) 0] [(1, 1, .const (.int (.i64) 1))]), i 41 (.fieldAddr 0 (r 5)), i0 (.store 2 (r 41) (r 40))]
def A_graph_entry_do_7 : Row := [i 42 (.mv (r 0)), i 43 (.nilCheck (r 42)), i 44 (.fieldAddr 0 (r 43)), i 45 (.load (some 2) (r 44)), i 6 (.alloc [.int (.i64) 0, .int (.i64)
  0]), i0 (.store 2 (r 6) (r 45))]
def A_graph_entry_do_8 : Row := [i 46 (.mv (r 1)), i 47 (.nilCheck (r 46)), i 48 (.fieldAddr 1 (r 47)), i 49 (.load none (r 48)), i 50 (.load (some 2) (r 6)), i 51 (.load
  (some 3) (r 5)), i 52 (.call (.func F_tree_Tree_Add) [.tmp 49, .tmp 50, .tmp 51])]
def A_graph_entry_do_9 : Row := [i 53 (.mv (r 0)), i 54 (.mv (r 0)), i 55 (.makeFunc F_graph_entry_do_c1 [] [.tmp 6]), i 56 (.nilCheck (r 53)), i 57 (.fieldAddr 14 (r 56)), i0
  (.store 1 (r 57) (.const (.bool true))), i 58 (.nilCheck (r 54)), i 59 (.fieldAddr 15 (r 58)), i0 (.store 1 (r 59) (r 55))]
def A_graph_entry_do_10 : Row := [i 61 (.bin (.eql) (r 27) (.const (.int (.i64) 2))), i 60 (.mv (r 61))]
def A_graph_entry_do_11 : Row := [i 63 (.mv (r 1)), i 64 (.nilCheck (r 63)), i 65 (.fieldAddr 1 (r 64)), i 66 (.load none (r 65)), i 67 (.fieldAddr 1 (r 4)), i 68 (.load (some
  2) (r 67)), i 69 (.fieldAddr 3 (r 4)), i 70 (.load (some 2) (r 69)), i 71 (.fieldAddr 5 (r 4)), i 72 (.load none (r 71)), i 73 (.build [.int (.i64) 0, .int (.i64) 0,
  .str []] [(0, 2, .tmp 70), (2, 1, .tmp 72)]), i 7 (.alloc [.int (.i64) 0, .int (.i64) 0, .str []]), ⟨a 74 (.call (.func F_tree_Tree_Move) [.tmp 66, .tmp 68, .tmp 73]),
  [a 7 (.alloc [.int (.i64) 0, .int (.i64) 0, .str []])]⟩, i 62 (.mv (r 74)), i 75 (.extract (r 62) 0), i 76 (.extract (r 62) 1), i0 (.store 3 (r 7) (r 75)), i 8 (.mv (r
  76))]
def A_graph_entry_do_12 : Row := [i 77 (.mv (r 8)), i 78 (.bin (.neq) (r 77) (.const (.int (.i64) 0)))]
def A_graph_entry_do_13 : Row := [i 79 (.makeFunc F_graph_entry_do_c2 [] [.tmp 4, .tmp 7]), i 9 (.mv (r 79))]
def A_graph_entry_do_14 : Row := [i 80 (.mv (r 1)), i 81 (.fieldAddr 1 (r 4)), i 82 (.load (some 2) (r 81)), i 83 (.call (.func F_graph_Graph_ring) [.tmp 80, .tmp 82])]
def A_graph_entry_do_15 : Row := [i 84 (.mv (r 9)), i 85 (.mv (r 1)), i 86 (.nilCheck (r 85)), i 87 (.fieldAddr 1 (r 86)), i 88 (.load none (r 87)), i 89 (.call (r 84) [.tmp
  88, .const (.map none)])]
def A_graph_entry_do_16 : Row := [i 90 (.mv (r 0)), i 91 (.mv (r 0)), i 92 (.mv (r 9)), i 93 (.nilCheck (r 90)), i 94 (.fieldAddr 14 (r 93)), i0 (.store 1 (r 94) (.const
  (.bool true))), i 95 (.nilCheck (r 91)), i 96 (.fieldAddr 15 (r 95)), i0 (.store 1 (r 96) (r 92))]
def A_graph_entry_do_17 : Row := [i 98 (.bin (.eql) (r 27) (.const (.int (.i64) 5))), i 97 (.mv (r 98))]
def A_graph_entry_do_18 : Row := [i 100 (.mv (r 1)), i 101 (.nilCheck (r 100)), i 102 (.fieldAddr 1 (r 101)), i 103 (.load none (r 102)), i 104 (.fieldAddr 1 (r 4)), i 105
  (.load (some 2) (r 104)), i 10 (.alloc [.int (.i64) 0, .int (.i64) 0, .str []]), ⟨a 106 (.call (.func F_tree_Tree_Spot) [.tmp 103, .tmp 105]), [a 10 (.alloc [.int (.i64)
  0, .int (.i64) 0, .str []])]⟩, i 99 (.mv (r 106)), i 107 (.extract (r 99) 0), i 108 (.extract (r 99) 1), i0 (.store 3 (r 10) (r 107)), i 11 (.mv (r 108))]
def A_graph_entry_do_19 : Row := [i 110 (.mv (r 1)), i 111 (.nilCheck (r 110)), i 112 (.fieldAddr 1 (r 111)), i 113 (.load none (r 112)), i 114 (.fieldAddr 3 (r 4)), i 115
  (.load (some 2) (r 114)), i 12 (.alloc [.int (.i64) 0, .int (.i64) 0, .str []]), ⟨a 116 (.call (.func F_tree_Tree_Spot) [.tmp 113, .tmp 115]), [a 12 (.alloc [.int (.i64)
  0, .int (.i64) 0, .str []])]⟩, i 109 (.mv (r 116)), i 117 (.extract (r 109) 0), i 118 (.extract (r 109) 1), i0 (.store 3 (r 12) (r 117)), i 13 (.mv (r 118))]
def A_graph_entry_do_20 : Row := [i 119 (.fieldAddr 3 (r 4)), i 120 (.load (some 2) (r 119)), i 121 (.build [.int (.i64) 0, .int (.i64) 0] []), i 122 (.eq false ⟨true, [.int
  (.i64), .int (.i64)]⟩ (r 120) (r 121)), i 14 (.mv (r 122))]
def A_graph_entry_do_21 : Row := [i 123 (.mv (r 11)), i 124 (.un (.not) (r 123)), i 125 (.mv (r 124)), g 126 (.mv (r 14)) 125 false, g 127 (.un (.not) (r 126)) 125 false, g
  128 (.mv (r 127)) 125 false, g 129 (.mv (r 13)) 128 true, g 130 (.un (.not) (r 129)) 128 true, g 131 (.pick (r 128) (r 130) (.const (.bool false))) 125 false, i 132
  (.pick (r 125) (.const (.bool true)) (r 131))]
def A_graph_entry_do_22 : Row := [i 133 (.mv (r 1)), i 134 (.fieldAddr 1 (r 4)), i 135 (.load (some 2) (r 134)), i 136 (.fieldAddr 3 (r 4)), i 137 (.load (some 2) (r 136)), i
  138 (.mv (r 14)), i 139 (.un (.not) (r 138)), i 140 (.call (.func F_graph_Graph_link) [.tmp 133, .tmp 135, .tmp 137, .tmp 139]), i 15 (.mv (r 140))]
def A_graph_entry_do_23 : Row := [i 141 (.mv (r 1)), i 142 (.fieldAddr 1 (r 4)), i 143 (.load (some 2) (r 142)), i 144 (.call (.func F_graph_Graph_ring) [.tmp 141, .tmp 143])]
def A_graph_entry_do_24 : Row := [i 145 (.mv (r 15)), i 146 (.mv (r 1)), i 147 (.nilCheck (r 146)), i 148 (.fieldAddr 1 (r 147)), i 149 (.load none (r 148)), i 150 (.mv (r
  1)), i 151 (.nilCheck (r 150)), i 152 (.fieldAddr 2 (r 151)), i 153 (.load none (r 152)), i 154 (.call (r 145) [.tmp 149, .tmp 153])]
def A_graph_entry_do_25 : Row := [i 155 (.mv (r 0)), i 156 (.mv (r 0)), i 157 (.mv (r 15)), i 158 (.nilCheck (r 155)), i 159 (.fieldAddr 14 (r 158)), i0 (.store 1 (r 159)
  (.const (.bool true))), i 160 (.nilCheck (r 156)), i 161 (.fieldAddr 15 (r 160)), i0 (.store 1 (r 161) (r 157))]
/-- (*diorama/graph.entry).do -/
def A_graph_entry_do : AFunc :=
 ⟨162, [], (.seq (.ops A_graph_entry_do_0) (.seq (.ops A_graph_entry_do_1) (.seq (.ops A_graph_entry_do_2) (.block 0 (.seq (.ops A_graph_entry_do_3) (.cond (r 28) (.seq
  (.ops A_graph_entry_do_4) (.seq (.seq (.ops A_graph_entry_do_5) (.cond (r 39) (.ops A_graph_entry_do_6) .skip)) (.seq (.ops A_graph_entry_do_7) (.seq (.ops
  A_graph_entry_do_8) (.ops A_graph_entry_do_9))))) (.seq (.ops A_graph_entry_do_10) (.cond (r 60) (.seq (.ops A_graph_entry_do_11) (.seq (.seq (.ops A_graph_entry_do_12)
  (.cond (r 78) .ret .skip)) (.seq (.ops A_graph_entry_do_13) (.seq (.seq (.ops A_graph_entry_do_14) (.cond (r 83) (.seq (.ops A_graph_entry_do_15) .ret) .skip)) (.ops
  A_graph_entry_do_16))))) (.seq (.ops A_graph_entry_do_17) (.cond (r 97) (.seq (.ops A_graph_entry_do_18) (.seq (.ops A_graph_entry_do_19) (.seq (.ops
  A_graph_entry_do_20) (.seq (.seq (.ops A_graph_entry_do_21) (.cond (r 132) .ret .skip)) (.seq (.ops A_graph_entry_do_22) (.seq (.seq (.ops A_graph_entry_do_23) (.cond (r
  144) (.seq (.ops A_graph_entry_do_24) .ret) .skip)) (.ops A_graph_entry_do_25))))))) .skip))))))))))⟩
/-! (*diorama/tree.Tree).Nodes -/
def A_tree_Tree_Nodes_0 : Row := [i 2 (.mv (.const (.slice none 0 (.exact 0))))]
def A_tree_Tree_Nodes_1 : Row := [i 3 (.mv (r 0)), i 4 (.call (.func F_tree_Tree_none) [.tmp 3])]
def A_tree_Tree_Nodes_2 : Row := [i 2 (.mv (.const (.slice none 0 (.exact 0))))]
def A_tree_Tree_Nodes_3 : Row := [i 5 (.mv (r 0)), i 6 (.nilCheck (r 5)), i 7 (.fieldAddr 0 (r 6)), i 8 (.load none (r 7)), i 9 (.call (.func F_maps_Keys_Stamp_Spot) [.tmp
  8]), i 10 (.call (.func F_slices_SortedFunc_Stamp) [.tmp 9, .func F_stamp_Compare]), i 2 (.mv (r 10))]
/-- (*diorama/tree.Tree).Nodes -/
def A_tree_Tree_Nodes : AFunc :=
 ⟨11, [.tmp 2], (.seq (.ops A_tree_Tree_Nodes_0) (.seq (.seq (.ops A_tree_Tree_Nodes_1) (.cond (r 4) (.seq (.ops A_tree_Tree_Nodes_2) .ret) .skip)) (.seq (.ops
  A_tree_Tree_Nodes_3) .ret)))⟩
/-! (*diorama/graph.Graph).next -/
def A_graph_Graph_next_0 : Row := [i 4 (.box (r 1)), i 6 (.mv (.const (.slice none 0 (.exact 0))))]
def A_graph_Graph_next_1 : Row := [i 12 (.mv (r 0)), i 13 (.nilCheck (r 12)), i 14 (.fieldAddr 1 (r 13)), i 15 (.load none (r 14)), i 16 (.load (some 2) (r 4)), i 7 (.alloc
  [.int (.i64) 0, .int (.i64) 0, .str []]), ⟨a 17 (.call (.func F_tree_Tree_Spot) [.tmp 15, .tmp 16]), [a 7 (.alloc [.int (.i64) 0, .int (.i64) 0, .str []])]⟩, i 11 (.mv
  (r 17)), i 18 (.extract (r 11) 0), i 19 (.extract (r 11) 1), i0 (.store 3 (r 7) (r 18)), i 8 (.mv (r 19))]
def A_graph_Graph_next_2 : Row := [i 20 (.mv (r 2)), i 21 (.mv (r 20)), g 22 (.mv (r 8)) 21 true, i 23 (.pick (r 21) (r 22) (.const (.bool false)))]
def A_graph_Graph_next_3 : Row := [i 24 (.mv (r 6)), i 25 (.fieldAddr 0 (r 7)), i 26 (.load (some 2) (r 25)), i 27 (.buildSlice 1 [.int (.i64) 0, .int (.i64) 0] [(0, 2, .tmp
  26)]), i 28 (.append 2 16 (r 24) (r 27)), i 6 (.mv (r 28))]
def A_graph_Graph_next_4 : Row := [i 29 (.mv (r 2)), i 30 (.un (.not) (r 29))]
def A_graph_Graph_next_5 : Row := [i 31 (.mv (r 0)), i 32 (.nilCheck (r 31)), i 33 (.fieldAddr 1 (r 32)), i 34 (.load none (r 33)), i 35 (.load (some 2) (r 4)), i 36 (.call
  (.func F_tree_Tree_Below) [.tmp 34, .tmp 35]), i 6 (.mv (r 36))]
def A_graph_Graph_next_6 : Row := [i 38 (.mv (r 0)), i 39 (.nilCheck (r 38)), i 40 (.fieldAddr 2 (r 39)), i 41 (.load none (r 40)), i 42 (.load (some 2) (r 4)), i 43 (.lookup
  ⟨true, [.int (.i64), .int (.i64)]⟩ (.agg [.int (.i64) 0, .int (.i64) 0]) true (r 41) (r 42)), i 37 (.mv (r 43)), i 44 (.extract (r 37) 0), i 45 (.extract (r 37) 1), i 9
  (.alloc [.int (.i64) 0, .int (.i64) 0]), i0 (.store 2 (r 9) (r 44)), i 10 (.mv (r 45))]
def A_graph_Graph_next_7 : Row := [i 46 (.mv (r 10))]
def A_graph_Graph_next_8 : Row := [i 47 (.mv (r 6)), i 48 (.load (some 2) (r 9)), i 49 (.buildSlice 1 [.int (.i64) 0, .int (.i64) 0] [(0, 2, .tmp 48)]), i 50 (.append 2 16 (r
  47) (r 49)), i 6 (.mv (r 50))]
def A_graph_Graph_next_9 : Row := [i 51 (.mv (r 6)), i 6 (.mv (r 51))]
/-- (*diorama/graph.Graph).next -/
def A_graph_Graph_next : AFunc :=
 ⟨52, [.tmp 6], (.seq (.ops A_graph_Graph_next_0) (.seq (.seq (.ops A_graph_Graph_next_1) (.seq (.ops A_graph_Graph_next_2) (.cond (r 23) (.ops A_graph_Graph_next_3) (.seq
  (.ops A_graph_Graph_next_4) (.cond (r 30) (.ops A_graph_Graph_next_5) .skip))))) (.seq (.seq (.ops A_graph_Graph_next_6) (.seq (.ops A_graph_Graph_next_7) (.cond (r 46)
  (.ops A_graph_Graph_next_8) .skip))) (.seq (.ops A_graph_Graph_next_9) .ret))))⟩
/-! slices.Clone[[]diorama/graph.entry,diorama/graph.entry] -/
def A_slices_Clone_entry_0 : Row := [i 2 (.mv (.const (.slice none 0 (.exact 0))))]
def A_slices_Clone_entry_1 : Row := [i 3 (.mv (r 0)), i 4 (.eqNil false (.slice) (r 3) (.const (.slice none 0 (.exact 0))))]
def A_slices_Clone_entry_2 : Row := [i 2 (.mv (.const (.slice none 0 (.exact 0))))]
def A_slices_Clone_entry_3 : Row := [i 5 (.buildSlice 0 [] []), i 6 (.mv (r 0)), i 7 (.append 16 160 (r 5) (r 6)), i 2 (.mv (r 7))]
/-- slices.Clone[[]diorama/graph.entry,diorama/graph.entry] -/
def A_slices_Clone_entry : AFunc :=
 ⟨8, [.tmp 2], (.seq (.ops A_slices_Clone_entry_0) (.seq (.seq (.ops A_slices_Clone_entry_1) (.cond (r 4) (.seq (.ops A_slices_Clone_entry_2) .ret) .skip)) (.seq (.ops
  A_slices_Clone_entry_3) .ret)))⟩
/-! (*diorama/tree.Tree).Clone -/
def A_tree_Tree_Clone_0 : Row := [i 2 (.mv (.const (.ptr none)))]
def A_tree_Tree_Clone_1 : Row := [i 3 (.mv (r 0)), i 4 (.call (.func F_tree_Tree_none) [.tmp 3])]
def A_tree_Tree_Clone_2 : Row := [i 2 (.mv (.const (.ptr none)))]
def A_tree_Tree_Clone_3 : Row := [i 5 (.mv (r 0)), i 6 (.nilCheck (r 5)), i 7 (.fieldAddr 0 (r 6)), i 8 (.load none (r 7)), i 9 (.call (.func F_maps_Clone_Stamp_Spot) [.tmp
  8]), i 10 (.build [.map none] [(0, 1, .tmp 9)]), i 11 (.box (r 10)), i 2 (.mv (r 11))]
/-- (*diorama/tree.Tree).Clone -/
def A_tree_Tree_Clone : AFunc :=
 ⟨12, [.tmp 2], (.seq (.ops A_tree_Tree_Clone_0) (.seq (.seq (.ops A_tree_Tree_Clone_1) (.cond (r 4) (.seq (.ops A_tree_Tree_Clone_2) .ret) .skip)) (.seq (.ops
  A_tree_Tree_Clone_3) .ret)))⟩
/-! diorama/dioramaref07.Right -/
/-! diorama/dioramaref02.Compare -/
def A_ref02_Compare_0 : Row := [i 2 (.box (r 0)), i 3 (.box (r 1)), i 4 (.mv (.const (.int (.i64) 0)))]
def A_ref02_Compare_1 : Row := [i 7 (.fieldAddr 0 (r 2)), i 8 (.load none (r 7)), i 5 (.mv (r 8))]
def A_ref02_Compare_2 : Row := [i 9 (.fieldAddr 0 (r 3)), i 10 (.load none (r 9)), i 6 (.mv (r 10))]
def A_ref02_Compare_3 : Row := [i 11 (.mv (r 5)), i 12 (.mv (r 6)), i 13 (.bin (.eql) (r 11) (r 12))]
def A_ref02_Compare_4 : Row := [i 14 (.fieldAddr 1 (r 2)), i 15 (.load none (r 14)), i 5 (.mv (r 15))]
def A_ref02_Compare_5 : Row := [i 16 (.fieldAddr 1 (r 3)), i 17 (.load none (r 16)), i 6 (.mv (r 17))]
def A_ref02_Compare_6 : Row := [i 18 (.mv (r 5)), i 19 (.mv (r 6)), i 20 (.bin (.lss) (r 18) (r 19))]
def A_ref02_Compare_7 : Row := [i 4 (.mv (.const (.int (.i64) (-1))))]
def A_ref02_Compare_8 : Row := [i 21 (.mv (r 5)), i 22 (.mv (r 6)), i 23 (.bin (.gtr) (r 21) (r 22))]
def A_ref02_Compare_9 : Row := [i 4 (.mv (.const (.int (.i64) 1)))]
def A_ref02_Compare_10 : Row := [i 4 (.mv (.const (.int (.i64) 0)))]
/-- diorama/dioramaref02.Compare -/
def A_ref02_Compare : AFunc :=
 ⟨24, [.tmp 4], (.seq (.ops A_ref02_Compare_0) (.seq (.ops A_ref02_Compare_1) (.seq (.ops A_ref02_Compare_2) (.seq (.seq (.ops A_ref02_Compare_3) (.cond (r 13) (.seq (.ops
  A_ref02_Compare_4) (.ops A_ref02_Compare_5)) .skip)) (.seq (.seq (.ops A_ref02_Compare_6) (.cond (r 20) (.seq (.ops A_ref02_Compare_7) .ret) .skip)) (.seq (.seq (.ops
  A_ref02_Compare_8) (.cond (r 23) (.seq (.ops A_ref02_Compare_9) .ret) .skip)) (.seq (.ops A_ref02_Compare_10) .ret)))))))⟩
/-! (*diorama/tree.Tree).Same -/
def A_tree_Tree_Same_0 : Row := [i 4 (.mv (.const (.bool false)))]
def A_tree_Tree_Same_1 : Row := [i 5 (.mv (r 0)), i 6 (.call (.func F_tree_Tree_none) [.tmp 5]), i 7 (.un (.not) (r 6)), i 8 (.mv (r 7)), g 9 (.mv (r 1)) 8 true, g 10 (.call
  (.func F_tree_Tree_none) [.tmp 9]) 8 true, g 11 (.un (.not) (r 10)) 8 true, i 12 (.pick (r 8) (r 11) (.const (.bool false))), i 13 (.mv (r 12)), g 14 (.mv (r 0)) 13
  true, g 15 (.nilCheck (r 14)) 13 true, g 16 (.fieldAddr 0 (r 15)) 13 true, g 17 (.load none (r 16)) 13 true, g 18 (.mv (r 1)) 13 true, g 19 (.nilCheck (r 18)) 13 true, g
  20 (.fieldAddr 0 (r 19)) 13 true, g 21 (.load none (r 20)) 13 true, g 22 (.call (.func F_maps_Equal_Stamp_Spot) [.tmp 17, .tmp 21]) 13 true, i 23 (.pick (r 13) (r 22)
  (.const (.bool false))), i 4 (.mv (r 23))]
/-- (*diorama/tree.Tree).Same -/
def A_tree_Tree_Same : AFunc :=
 ⟨24, [.tmp 4], (.seq (.ops A_tree_Tree_Same_0) (.seq (.ops A_tree_Tree_Same_1) .ret))⟩
/-! diorama/dioramaref07.Trash -/
def A_ref07_Trash_0 : Row := [i 0 (.alloc [.int (.i64) 0, .int (.i64) 0])]
def A_ref07_Trash_1 : Row := [i 1 (.build [.int (.i64) 0, .int (.i64) 0] [(1, 1, .const (.int (.i64) 1))]), i0 (.store 2 (r 0) (r 1))]
/-- diorama/dioramaref07.Trash -/
def A_ref07_Trash : AFunc :=
 ⟨2, [.cell 0 (some 2)], (.seq (.ops A_ref07_Trash_0) (.seq (.ops A_ref07_Trash_1) .ret))⟩
/-! (*diorama/dioramaref13.State).move -/
/-! (*diorama/dioramaref13.State).point -/
/-! (*diorama/dioramaref10.Tree).Spot -/
def A_ref10_Tree_Spot_0 : Row := [i 3 (.box (r 1)), i 4 (.alloc [.int (.i64) 0, .int (.i64) 0, .str []]), i 5 (.mv (.const (.bool false)))]
def A_ref10_Tree_Spot_1 : Row := [i 9 (.mv (r 0)), i 10 (.load (some 2) (r 3)), i 11 (.call (.func F_ref10_Tree_find) [.tmp 9, .tmp 10]), i 8 (.mv (r 11)), i 12 (.extract (r
  8) 0), i 13 (.extract (r 8) 1), i 6 (.mv (r 12)), i 7 (.mv (r 13))]
def A_ref10_Tree_Spot_2 : Row := [i 14 (.mv (r 7)), i 15 (.un (.not) (r 14))]
def A_ref10_Tree_Spot_3 : Row := [i 16 (.build [.int (.i64) 0, .int (.i64) 0, .str []] []), i0 (.store 3 (r 4) (r 16)), i 5 (.mv (.const (.bool false)))]
def A_ref10_Tree_Spot_4 : Row := [i 17 (.mv (r 0)), i 18 (.nilCheck (r 17)), i 19 (.fieldAddr 0 (r 18)), i 20 (.load none (r 19)), i 21 (.mv (r 6)), i 22 (.indexAddr 5 (r 20)
  (r 21)), i 23 (.fieldAddr 2 (r 22)), i 24 (.load (some 3) (r 23)), i0 (.store 3 (r 4) (r 24)), i 5 (.mv (.const (.bool true)))]
/-- (*diorama/dioramaref10.Tree).Spot -/
def A_ref10_Tree_Spot : AFunc :=
 ⟨25, [.cell 4 (some 3), .tmp 5], (.seq (.ops A_ref10_Tree_Spot_0) (.seq (.ops A_ref10_Tree_Spot_1) (.seq (.seq (.ops A_ref10_Tree_Spot_2) (.cond (r 15) (.seq (.ops
  A_ref10_Tree_Spot_3) .ret) .skip)) (.seq (.ops A_ref10_Tree_Spot_4) .ret))))⟩
/-! (*diorama/dioramaref13.State).Ref -/
/-! (*diorama/dioramaref10.Tree).Above -/
/-! (*diorama/dioramaref13.State).Reaches -/
/-! diorama/dioramaref10.Same -/
/-! diorama/order.Sort$1 -/
def A_order_Sort_c1_0 : Row := [i 2 (.box (r 0)), i 3 (.box (r 1)), i 4 (.mv (.const (.int (.i64) 0)))]
def A_order_Sort_c1_1 : Row := [i 6 (.load (some 3) (r 2)), i 7 (.load (some 3) (r 3)), i 8 (.eq false ⟨true, [.str, .int (.i64), .int (.i64)]⟩ (r 6) (r 7)), i 5 (.mv (r 8))]
def A_order_Sort_c1_2 : Row := [i 4 (.mv (.const (.int (.i64) 0)))]
def A_order_Sort_c1_3 : Row := [i 10 (.load (some 3) (r 2)), i 11 (.load (some 3) (r 3)), i 12 (.call (.func F_order_Before) [.tmp 10, .tmp 11]), i 9 (.mv (r 12))]
def A_order_Sort_c1_4 : Row := [i 4 (.mv (.const (.int (.i64) (-1))))]
def A_order_Sort_c1_5 : Row := [i 4 (.mv (.const (.int (.i64) 1)))]
/-- diorama/order.Sort$1 -/
def A_order_Sort_c1 : AFunc :=
 ⟨13, [.tmp 4], (.seq (.ops A_order_Sort_c1_0) (.seq (.block 0 (.seq (.ops A_order_Sort_c1_1) (.cond (r 5) (.seq (.ops A_order_Sort_c1_2) .ret) (.seq (.ops
  A_order_Sort_c1_3) (.cond (r 9) (.seq (.ops A_order_Sort_c1_4) .ret) .skip))))) (.seq (.ops A_order_Sort_c1_5) .ret)))⟩
/-! diorama/order.Before -/
def A_order_Before_0 : Row := [i 2 (.box (r 0)), i 3 (.box (r 1)), i 4 (.mv (.const (.bool false)))]
def A_order_Before_1 : Row := [i 5 (.fieldAddr 0 (r 2)), i 6 (.load none (r 5)), i 7 (.fieldAddr 0 (r 3)), i 8 (.load none (r 7)), i 9 (.bin (.eql) (r 6) (r 8))]
def A_order_Before_2 : Row := [i 10 (.load (some 3) (r 2)), i 11 (.load (some 3) (r 3)), i 12 (.eq true ⟨true, [.str, .int (.i64), .int (.i64)]⟩ (r 10) (r 11)), i 13 (.mv (r
  12)), g 14 (.fieldAddr 1 (r 2)) 13 true, g 15 (.load (some 2) (r 14)) 13 true, g 16 (.fieldAddr 1 (r 3)) 13 true, g 17 (.load (some 2) (r 16)) 13 true, g 18 (.call
  (.func F_stamp_Compare) [.tmp 15, .tmp 17]) 13 true, g 19 (.bin (.lss) (r 18) (.const (.int (.i64) 0))) 13 true, i 20 (.pick (r 13) (r 19) (.const (.bool false))), i 4
  (.mv (r 20))]
def A_order_Before_3 : Row := [i 21 (.fieldAddr 0 (r 2)), i 22 (.load none (r 21)), i 23 (.fieldAddr 0 (r 3)), i 24 (.load none (r 23)), i 25 (.call (.func F_poskey_Compare)
  [.tmp 22, .tmp 24]), i 26 (.bin (.lss) (r 25) (.const (.int (.i64) 0))), i 4 (.mv (r 26))]
/-- diorama/order.Before -/
def A_order_Before : AFunc :=
 ⟨27, [.tmp 4], (.seq (.ops A_order_Before_0) (.seq (.seq (.ops A_order_Before_1) (.cond (r 9) (.seq (.ops A_order_Before_2) .ret) .skip)) (.seq (.ops A_order_Before_3)
  .ret)))⟩
/-! slices.Values[[]diorama/order.Sib,diorama/order.Sib] -/
def A_slices_Values_Sib_0 : Row := [i 1 (.box (r 0)), i 2 (.mv (.const (.nilFn)))]
def A_slices_Values_Sib_1 : Row := [i 3 (.makeFunc F_slices_Values_Sib_c1 [] [.tmp 1]), i 2 (.mv (r 3))]
/-- slices.Values[[]diorama/order.Sib,diorama/order.Sib] -/
def A_slices_Values_Sib : AFunc :=
 ⟨4, [.tmp 2], (.seq (.ops A_slices_Values_Sib_0) (.seq (.ops A_slices_Values_Sib_1) .ret))⟩
/-! diorama/order.gap -/
def A_order_gap_0 : Row := [i 6 (.mv (.const (.int (.i64) 0)))]
def A_order_gap_1 : Row := [i 10 (.mv (r 0)), i 11 (.lenSlice (r 10)), i 12 (.mv (.const (.int (.i64) 0)))]
def A_order_gap_2 : Row := [i 13 (.bin (.lss) (r 12) (r 11))]
def A_order_gap_3 : Row := [i 14 (.mv (r 12)), i 7 (.mv (r 14))]
def A_order_gap_4 : Row := [i 15 (.mv (r 7)), i 16 (.bin (.gtr) (r 15) (.const (.int (.i64) 0))), i 17 (.mv (r 16)), g 18 (.mv (r 0)) 17 true, g 19 (.mv (r 7)) 17 true, g 20
  (.bin (.sub) (r 19) (.const (.int (.i64) 1))) 17 true, g 21 (.indexAddr 3 (r 18) (r 20)) 17 true, g 22 (.load (some 3) (r 21)) 17 true, g 23 (.mv (r 0)) 17 true, g 24
  (.mv (r 7)) 17 true, g 25 (.indexAddr 3 (r 23) (r 24)) 17 true, g 26 (.load (some 3) (r 25)) 17 true, g 27 (.call (.func F_order_Before) [.tmp 22, .tmp 26]) 17 true, g
  28 (.un (.not) (r 27)) 17 true, i 29 (.pick (r 17) (r 28) (.const (.bool false)))]
def A_order_gap_5 : Row := [i 6 (.mv (.const (.int (.i64) 1)))]
def A_order_gap_6 : Row := [i 30 (.bin (.add) (r 12) (.const (.int (.i64) 1))), i 12 (.mv (r 30))]
def A_order_gap_7 : ACode := (.seq (.ops A_order_gap_2) (.seq (.cond (r 13) .skip (.exit 0)) (.seq (.block 1 (.seq (.ops A_order_gap_3) (.seq (.ops A_order_gap_4) (.cond (r
  29) (.seq (.ops A_order_gap_5) .ret) .skip)))) (.ops A_order_gap_6))))
def A_order_gap_8 : Row := [i 31 (.mv (r 1)), i 32 (.bin (.lss) (r 31) (.const (.int (.i64) 0))), i 33 (.mv (r 32)), g 34 (.mv (r 1)) 33 false, g 35 (.mv (r 0)) 33 false, g 36
  (.lenSlice (r 35)) 33 false, g 37 (.bin (.gtr) (r 34) (r 36)) 33 false, i 38 (.pick (r 33) (.const (.bool true)) (r 37))]
def A_order_gap_9 : Row := [i 6 (.mv (.const (.int (.i64) 1)))]
def A_order_gap_10 : Row := [i 8 (.mv (.const (.str []))), i 9 (.mv (.const (.str [])))]
def A_order_gap_11 : Row := [i 39 (.mv (r 1)), i 40 (.bin (.gtr) (r 39) (.const (.int (.i64) 0)))]
def A_order_gap_12 : Row := [i 41 (.mv (r 0)), i 42 (.mv (r 1)), i 43 (.bin (.sub) (r 42) (.const (.int (.i64) 1))), i 44 (.indexAddr 3 (r 41) (r 43)), i 45 (.fieldAddr 0 (r
  44)), i 46 (.load none (r 45)), i 8 (.mv (r 46))]
def A_order_gap_13 : Row := [i 47 (.mv (r 1)), i 48 (.mv (r 0)), i 49 (.lenSlice (r 48)), i 50 (.bin (.lss) (r 47) (r 49))]
def A_order_gap_14 : Row := [i 51 (.mv (r 0)), i 52 (.mv (r 1)), i 53 (.indexAddr 3 (r 51) (r 52)), i 54 (.fieldAddr 0 (r 53)), i 55 (.load none (r 54)), i 9 (.mv (r 55))]
def A_order_gap_15 : Row := [i 56 (.mv (r 1)), i 57 (.bin (.gtr) (r 56) (.const (.int (.i64) 0))), i 58 (.mv (r 57)), g 59 (.mv (r 1)) 58 true, g 60 (.mv (r 0)) 58 true, g 61
  (.lenSlice (r 60)) 58 true, g 62 (.bin (.lss) (r 59) (r 61)) 58 true, i 63 (.pick (r 58) (r 62) (.const (.bool false))), i 64 (.mv (r 63)), g 65 (.mv (r 8)) 64 true, g
  66 (.mv (r 9)) 64 true, g 67 (.bin (.eql) (r 65) (r 66)) 64 true, i 68 (.pick (r 64) (r 67) (.const (.bool false)))]
def A_order_gap_16 : Row := [i 6 (.mv (.const (.int (.i64) 32)))]
def A_order_gap_17 : Row := [i 69 (.mv (r 2)), i 70 (.mv (r 8)), i 71 (.mv (r 9)), i 72 (.call (r 69) [.tmp 70, .tmp 71]), i 6 (.mv (r 72))]
/-- diorama/order.gap -/
def A_order_gap : AFunc :=
 ⟨73, [.tmp 6], (.seq (.ops A_order_gap_0) (.seq (.seq (.ops A_order_gap_1) (.block 0 (.loop A_order_gap_7))) (.seq (.seq (.ops A_order_gap_8) (.cond (r 38) (.seq (.ops
  A_order_gap_9) .ret) .skip)) (.seq (.ops A_order_gap_10) (.seq (.seq (.ops A_order_gap_11) (.cond (r 40) (.ops A_order_gap_12) .skip)) (.seq (.seq (.ops A_order_gap_13)
  (.cond (r 50) (.ops A_order_gap_14) .skip)) (.seq (.seq (.ops A_order_gap_15) (.cond (r 68) (.seq (.ops A_order_gap_16) .ret) .skip)) (.seq (.ops A_order_gap_17)
  .ret))))))))⟩
/-! diorama/order.Key$1 -/
def A_order_Key_c1_0 : Row := [i 5 (.mv (.const (.int (.i64) 0)))]
def A_order_Key_c1_1 : Row := [i 7 (.mv (r 0)), i 8 (.mv (r 1)), i 9 (.call (.func F_poskey_Between) [.tmp 7, .tmp 8]), i 6 (.mv (r 9)), i 10 (.extract (r 6) 0), i 11
  (.extract (r 6) 1), i0 (.store 1 (r 2) (r 10)), i 5 (.mv (r 11))]
def A_order_Key_c1_2 : Row := [i 12 (.mv (r 5)), i 5 (.mv (r 12))]
/-- diorama/order.Key$1 -/
def A_order_Key_c1 : AFunc :=
 ⟨13, [.tmp 5], (.seq (.ops A_order_Key_c1_0) (.seq (.ops A_order_Key_c1_1) (.seq (.ops A_order_Key_c1_2) .ret)))⟩
/-! diorama/poskey.Between -/
def A_poskey_Between_0 : Row := [i 4 (.mv (.const (.str []))), i 5 (.mv (.const (.int (.i64) 0)))]
def A_poskey_Between_1 : Row := [i 11 (.mv (r 0)), i 12 (.mv (r 1)), i 13 (.call (.func F_poskey_fine) [.tmp 11, .tmp 12]), i 14 (.un (.not) (r 13))]
def A_poskey_Between_2 : Row := [i 4 (.mv (.const (.str []))), i 5 (.mv (.const (.int (.i64) 1)))]
def A_poskey_Between_3 : Row := [i 6 (.mv (.const (.int (.i64) 1)))]
def A_poskey_Between_4 : Row := [i 15 (.mv (r 6)), i 16 (.bin (.leq) (r 15) (.const (.int (.i64) 24)))]
def A_poskey_Between_5 : Row := [i 20 (.mv (r 0)), i 21 (.mv (r 6)), i 22 (.call (.func F_poskey_above) [.tmp 20, .tmp 21]), i 19 (.mv (r 22)), i 23 (.extract (r 19) 0), i 24
  (.extract (r 19) 1), i 7 (.mv (r 23)), i 8 (.mv (r 24))]
def A_poskey_Between_6 : Row := [i 25 (.mv (r 8)), i 26 (.un (.not) (r 25))]
def A_poskey_Between_7 : Row := [i 27 (.mv (r 7)), i 28 (.mv (r 6)), i 29 (.bin (.sub) (r 28) (.const (.int (.i64) 1))), i 30 (.indexAddr 1 (r 27) (r 29)), i 31 (.load none (r
  30)), i 32 (.convInt (.i64) (r 31)), i 33 (.max [.tmp 32, .const (.int (.i64) 1)]), i 34 (.mv (r 7)), i 35 (.mv (r 1)), ⟨a 36 (.call (.func F_poskey_greatest) [.tmp 34,
  .tmp 35]), [a 31 (.load none (r 30))]⟩, i 9 (.mv (r 33)), i 10 (.mv (r 36))]
def A_poskey_Between_8 : Row := [i 37 (.mv (r 10)), i 38 (.mv (r 9)), i 39 (.bin (.lss) (r 37) (r 38))]
def A_poskey_Between_9 : Row := [i 40 (.mv (r 7)), i 41 (.mv (r 6)), i 42 (.bin (.sub) (r 41) (.const (.int (.i64) 1))), i 43 (.mv (r 9)), i 44 (.mv (r 10)), i 45 (.bin (.add)
  (r 43) (r 44)), i 46 (.bin (.quo) (r 45) (.const (.int (.i64) 2))), i 47 (.convInt (.u8) (r 46)), i 48 (.indexAddr 1 (r 40) (r 42)), i0 (.store 1 (r 48) (r 47))]
def A_poskey_Between_10 : Row := [i 49 (.mv (r 7)), i 50 (.bytesStr (r 49)), i 4 (.mv (r 50)), i 5 (.mv (.const (.int (.i64) 0)))]
def A_poskey_Between_11 : Row := [i 17 (.mv (r 6)), i 18 (.bin (.add) (r 17) (.const (.int (.i64) 1))), i 6 (.mv (r 18))]
def A_poskey_Between_12 : ACode := (.seq (.seq (.ops A_poskey_Between_4) (.cond (r 16) .skip (.exit 0))) (.seq (.block 1 (.seq (.ops A_poskey_Between_5) (.seq (.seq (.ops
  A_poskey_Between_6) (.cond (r 26) (.exit 1) .skip)) (.seq (.ops A_poskey_Between_7) (.seq (.seq (.ops A_poskey_Between_8) (.cond (r 39) (.exit 1) .skip)) (.seq (.ops
  A_poskey_Between_9) (.seq (.ops A_poskey_Between_10) .ret))))))) (.ops A_poskey_Between_11)))
def A_poskey_Between_13 : Row := [i 4 (.mv (.const (.str []))), i 5 (.mv (.const (.int (.i64) 32)))]
/-- diorama/poskey.Between -/
def A_poskey_Between : AFunc :=
 ⟨51, [.tmp 4, .tmp 5], (.seq (.ops A_poskey_Between_0) (.scope (.seq (.seq (.ops A_poskey_Between_1) (.cond (r 14) (.seq (.ops A_poskey_Between_2) .ret) .skip)) (.seq
  .skip (.seq (.seq (.ops A_poskey_Between_3) (.block 0 (.loop A_poskey_Between_12))) (.seq (.ops A_poskey_Between_13) .ret))))))⟩
/-! slices.IndexFunc[[]diorama/order.Sib,diorama/order.Sib] -/
def A_slices_IndexFunc_Sib_0 : Row := [i 4 (.mv (.const (.int (.i64) 0)))]
def A_slices_IndexFunc_Sib_1 : Row := [i 6 (.mv (r 0)), i 7 (.lenSlice (r 6)), i 8 (.mv (.const (.int (.i64) 0)))]
def A_slices_IndexFunc_Sib_2 : Row := [i 9 (.bin (.lss) (r 8) (r 7))]
def A_slices_IndexFunc_Sib_3 : Row := [i 10 (.mv (r 8)), i 5 (.mv (r 10))]
def A_slices_IndexFunc_Sib_4 : Row := [i 11 (.mv (r 1)), i 12 (.mv (r 0)), i 13 (.mv (r 5)), i 14 (.indexAddr 3 (r 12) (r 13)), i 15 (.load (some 3) (r 14)), i 16 (.call (r
  11) [.tmp 15])]
def A_slices_IndexFunc_Sib_5 : Row := [i 17 (.mv (r 5)), i 4 (.mv (r 17))]
def A_slices_IndexFunc_Sib_6 : Row := [i 18 (.bin (.add) (r 8) (.const (.int (.i64) 1))), i 8 (.mv (r 18))]
def A_slices_IndexFunc_Sib_7 : ACode := (.seq (.ops A_slices_IndexFunc_Sib_2) (.seq (.cond (r 9) .skip (.exit 0)) (.seq (.block 1 (.seq (.ops A_slices_IndexFunc_Sib_3) (.seq
  (.ops A_slices_IndexFunc_Sib_4) (.cond (r 16) (.seq (.ops A_slices_IndexFunc_Sib_5) .ret) .skip)))) (.ops A_slices_IndexFunc_Sib_6))))
def A_slices_IndexFunc_Sib_8 : Row := [i 4 (.mv (.const (.int (.i64) (-1))))]
/-- slices.IndexFunc[[]diorama/order.Sib,diorama/order.Sib] -/
def A_slices_IndexFunc_Sib : AFunc :=
 ⟨19, [.tmp 4], (.seq (.ops A_slices_IndexFunc_Sib_0) (.seq (.seq (.ops A_slices_IndexFunc_Sib_1) (.block 0 (.loop A_slices_IndexFunc_Sib_7))) (.seq (.ops
  A_slices_IndexFunc_Sib_8) .ret)))⟩
/-! diorama/order.Find$1 -/
def A_order_Find_c1_0 : Row := [i 2 (.box (r 0)), i 3 (.mv (.const (.bool false)))]
def A_order_Find_c1_1 : Row := [i 4 (.fieldAddr 1 (r 2)), i 5 (.load (some 2) (r 4)), i 6 (.load (some 2) (r 1)), i 7 (.eq false ⟨true, [.int (.i64), .int (.i64)]⟩ (r 5) (r
  6)), i 3 (.mv (r 7))]
/-- diorama/order.Find$1 -/
def A_order_Find_c1 : AFunc :=
 ⟨8, [.tmp 3], (.seq (.ops A_order_Find_c1_0) (.seq (.ops A_order_Find_c1_1) .ret))⟩
/-! diorama/stamp.Right -/
def A_stamp_Right_0 : Row := [i 1 (.box (r 0)), i 2 (.mv (.const (.bool false)))]
def A_stamp_Right_1 : Row := [i 3 (.fieldAddr 0 (r 1)), i 4 (.load none (r 3)), i 5 (.bin (.geq) (r 4) (.const (.int (.i64) 0))), i 6 (.mv (r 5)), g 7 (.fieldAddr 0 (r 1)) 6
  true, g 8 (.load none (r 7)) 6 true, g 9 (.bin (.leq) (r 8) (.const (.int (.i64) 1099511627776))) 6 true, i 10 (.pick (r 6) (r 9) (.const (.bool false))), i 11 (.mv (r
  10)), g 12 (.fieldAddr 1 (r 1)) 11 true, g 13 (.load none (r 12)) 11 true, g 14 (.bin (.geq) (r 13) (.const (.int (.i64) 0))) 11 true, i 15 (.pick (r 11) (r 14) (.const
  (.bool false))), i 16 (.mv (r 15)), g 17 (.fieldAddr 1 (r 1)) 16 true, g 18 (.load none (r 17)) 16 true, g 19 (.bin (.lss) (r 18) (.const (.int (.i64) 16))) 16 true, i
  20 (.pick (r 16) (r 19) (.const (.bool false))), i 2 (.mv (r 20))]
/-- diorama/stamp.Right -/
def A_stamp_Right : AFunc :=
 ⟨21, [.tmp 2], (.seq (.ops A_stamp_Right_0) (.seq (.ops A_stamp_Right_1) .ret))⟩
/-! diorama/op.Place -/
def A_op_Place_0 : Row := [i 1 (.box (r 0)), i 2 (.mv (.const (.bool false)))]
def A_op_Place_1 : Row := [i 3 (.load (some 2) (r 1)), i 4 (.call (.func F_op_Node) [.tmp 3]), i 5 (.mv (r 4)), g 6 (.load (some 2) (r 1)) 5 false, g 7 (.load (some 2) (.const
  (.ptr (some (0, 0))))) 5 false, g 8 (.eq false ⟨true, [.int (.i64), .int (.i64)]⟩ (r 6) (r 7)) 5 false, i 9 (.pick (r 5) (.const (.bool true)) (r 8)), i 10 (.mv (r 9)),
  g 11 (.load (some 2) (r 1)) 10 false, g 12 (.load (some 2) (.const (.ptr (some (1, 0))))) 10 false, g 13 (.eq false ⟨true, [.int (.i64), .int (.i64)]⟩ (r 11) (r 12)) 10
  false, i 14 (.pick (r 10) (.const (.bool true)) (r 13)), i 2 (.mv (r 14))]
/-- diorama/op.Place -/
def A_op_Place : AFunc :=
 ⟨15, [.tmp 2], (.seq (.ops A_op_Place_0) (.seq (.ops A_op_Place_1) .ret))⟩
/-! diorama/poskey.Right -/
def A_poskey_Right_0 : Row := [i 2 (.mv (.const (.bool false)))]
def A_poskey_Right_1 : Row := [i 3 (.mv (r 0)), i 4 (.bin (.neq) (r 3) (.const (.str []))), i 5 (.mv (r 4)), g 6 (.mv (r 0)) 5 true, g 7 (.lenStr (r 6)) 5 true, g 8 (.bin
  (.leq) (r 7) (.const (.int (.i64) 24))) 5 true, i 9 (.pick (r 5) (r 8) (.const (.bool false))), i 10 (.mv (r 9)), g 11 (.mv (r 0)) 10 true, g 12 (.mv (r 0)) 10 true, g
  13 (.lenStr (r 12)) 10 true, g 14 (.bin (.sub) (r 13) (.const (.int (.i64) 1))) 10 true, g 15 (.indexStr (r 11) (r 14)) 10 true, g 16 (.bin (.neq) (r 15) (.const (.int
  (.u8) 0))) 10 true, i 17 (.pick (r 10) (r 16) (.const (.bool false))), i 2 (.mv (r 17))]
/-- diorama/poskey.Right -/
def A_poskey_Right : AFunc :=
 ⟨18, [.tmp 2], (.seq (.ops A_poskey_Right_0) (.seq (.ops A_poskey_Right_1) .ret))⟩
/-! diorama/dioramaref02.Right -/
def A_ref02_Right_0 : Row := [i 1 (.box (r 0)), i 2 (.mv (.const (.bool false)))]
def A_ref02_Right_1 : Row := [i 3 (.fieldAddr 0 (r 1)), i 4 (.load none (r 3)), i 5 (.bin (.geq) (r 4) (.const (.int (.i64) 0))), i 6 (.mv (r 5)), g 7 (.fieldAddr 0 (r 1)) 6
  true, g 8 (.load none (r 7)) 6 true, g 9 (.bin (.leq) (r 8) (.const (.int (.i64) 1099511627776))) 6 true, i 10 (.pick (r 6) (r 9) (.const (.bool false))), i 11 (.mv (r
  10)), g 12 (.fieldAddr 1 (r 1)) 11 true, g 13 (.load none (r 12)) 11 true, g 14 (.bin (.geq) (r 13) (.const (.int (.i64) 0))) 11 true, i 15 (.pick (r 11) (r 14) (.const
  (.bool false))), i 16 (.mv (r 15)), g 17 (.fieldAddr 1 (r 1)) 16 true, g 18 (.load none (r 17)) 16 true, g 19 (.bin (.lss) (r 18) (.const (.int (.i64) 16))) 16 true, i
  20 (.pick (r 16) (r 19) (.const (.bool false))), i 2 (.mv (r 20))]
/-- diorama/dioramaref02.Right -/
def A_ref02_Right : AFunc :=
 ⟨21, [.tmp 2], (.seq (.ops A_ref02_Right_0) (.seq (.ops A_ref02_Right_1) .ret))⟩
/-! diorama/dioramaref07.Place -/
def A_ref07_Place_0 : Row := [i 1 (.box (r 0)), i 2 (.mv (.const (.bool false)))]
def A_ref07_Place_1 : Row := [i 3 (.load (some 2) (r 1)), i 4 (.call (.func F_ref07_Node) [.tmp 3]), i 5 (.mv (r 4)), g 6 (.load (some 2) (r 1)) 5 false, ⟨⟨(some 7), .call
  (.func F_ref07_Root) [], (some (5, false))⟩, [⟨(some 6), .load (some 2) (r 1), (some (5, false))⟩]⟩, g 8 (.eq false ⟨true, [.int (.i64), .int (.i64)]⟩ (r 6) (r 7)) 5
  false, i 9 (.pick (r 5) (.const (.bool true)) (r 8)), i 10 (.mv (r 9)), g 11 (.load (some 2) (r 1)) 10 false, ⟨⟨(some 12), .call (.func F_ref07_Trash) [], (some (10,
  false))⟩, [⟨(some 11), .load (some 2) (r 1), (some (10, false))⟩]⟩, g 13 (.eq false ⟨true, [.int (.i64), .int (.i64)]⟩ (r 11) (r 12)) 10 false, i 14 (.pick (r 10)
  (.const (.bool true)) (r 13)), i 2 (.mv (r 14))]
/-- diorama/dioramaref07.Place -/
def A_ref07_Place : AFunc :=
 ⟨15, [.tmp 2], (.seq (.ops A_ref07_Place_0) (.seq (.ops A_ref07_Place_1) .ret))⟩
/-! diorama/dioramaref04.Right -/
def A_ref04_Right_0 : Row := [i 2 (.mv (.const (.bool false)))]
def A_ref04_Right_1 : Row := [i 3 (.mv (r 0)), i 4 (.lenStr (r 3)), i 5 (.bin (.geq) (r 4) (.const (.int (.i64) 1))), i 6 (.mv (r 5)), g 7 (.mv (r 0)) 6 true, g 8 (.lenStr (r
  7)) 6 true, g 9 (.bin (.leq) (r 8) (.const (.int (.i64) 24))) 6 true, i 10 (.pick (r 6) (r 9) (.const (.bool false))), i 11 (.mv (r 10)), g 12 (.mv (r 0)) 11 true, g 13
  (.mv (r 0)) 11 true, g 14 (.lenStr (r 13)) 11 true, g 15 (.bin (.sub) (r 14) (.const (.int (.i64) 1))) 11 true, g 16 (.indexStr (r 12) (r 15)) 11 true, g 17 (.bin (.neq)
  (r 16) (.const (.int (.u8) 0))) 11 true, i 18 (.pick (r 11) (r 17) (.const (.bool false))), i 2 (.mv (r 18))]
/-- diorama/dioramaref04.Right -/
def A_ref04_Right : AFunc :=
 ⟨19, [.tmp 2], (.seq (.ops A_ref04_Right_0) (.seq (.ops A_ref04_Right_1) .ret))⟩
/-! diorama/dioramaref07.Root -/
def A_ref07_Root_0 : Row := [i 0 (.alloc [.int (.i64) 0, .int (.i64) 0])]
def A_ref07_Root_1 : Row := [i 1 (.build [.int (.i64) 0, .int (.i64) 0] []), i0 (.store 2 (r 0) (r 1))]
/-- diorama/dioramaref07.Root -/
def A_ref07_Root : AFunc :=
 ⟨2, [.cell 0 (some 2)], (.seq (.ops A_ref07_Root_0) (.seq (.ops A_ref07_Root_1) .ret))⟩
/-! (*diorama/tree.Tree).up -/
def A_tree_Tree_up_0 : Row := [i 2 (.box (r 0)), i 3 (.box (r 1)), i 4 (.mv (.const (.nilFn)))]
def A_tree_Tree_up_1 : Row := [i 5 (.makeFunc F_tree_Tree_up_c1 [] [.tmp 2, .tmp 3]), i 4 (.mv (r 5))]
/-- (*diorama/tree.Tree).up -/
def A_tree_Tree_up : AFunc :=
 ⟨6, [.tmp 4], (.seq (.ops A_tree_Tree_up_0) (.seq (.ops A_tree_Tree_up_1) .ret))⟩
/-! diorama/dioramaref11.Before -/
/-! diorama/op.parts -/
def A_op_parts_0 : Row := [i 2 (.mv (.const (.bool false))), i 3 (.mv (.const (.bool false))), i 4 (.mv (.const (.bool false))), i 5 (.mv (.const (.bool false))), i 6 (.mv
  (.const (.bool false))), i 7 (.mv (.const (.bool false)))]
def A_op_parts_1 : Row := [i 8 (.mv (r 0))]
def A_op_parts_2 : Row := [i 10 (.bin (.eql) (r 8) (.const (.int (.i64) 2))), i 9 (.mv (r 10))]
def A_op_parts_3 : Row := [i 12 (.bin (.eql) (r 8) (.const (.int (.i64) 1))), i 11 (.mv (r 12))]
def A_op_parts_4 : Row := [i 14 (.bin (.eql) (r 8) (.const (.int (.i64) 6))), i 13 (.mv (r 14))]
def A_op_parts_5 : Row := [i 16 (.bin (.eql) (r 8) (.const (.int (.i64) 3))), i 15 (.mv (r 16))]
def A_op_parts_6 : Row := [i 18 (.bin (.eql) (r 8) (.const (.int (.i64) 4))), i 17 (.mv (r 18))]
def A_op_parts_7 : Row := [i 20 (.bin (.eql) (r 8) (.const (.int (.i64) 5))), i 19 (.mv (r 20))]
def A_op_parts_8 : Row := [i 2 (.mv (.const (.bool true)))]
def A_op_parts_9 : Row := [i 3 (.mv (.const (.bool true))), i 4 (.mv (.const (.bool true)))]
def A_op_parts_10 : Row := [i 5 (.mv (.const (.bool true)))]
def A_op_parts_11 : Row := [i 2 (.mv (.const (.bool true))), i 6 (.mv (.const (.bool true)))]
def A_op_parts_12 : Row := [i 2 (.mv (.const (.bool true))), i 7 (.mv (.const (.bool true)))]
def A_op_parts_13 : Row := [i 2 (.mv (.const (.bool true))), i 3 (.mv (.const (.bool true)))]
def A_op_parts_14 : Row := [i 21 (.mv (r 2)), i 22 (.mv (r 3)), i 23 (.mv (r 4)), i 24 (.mv (r 5)), i 25 (.mv (r 6)), i 26 (.mv (r 7)), i 2 (.mv (r 21)), i 3 (.mv (r 22)), i 4
  (.mv (r 23)), i 5 (.mv (r 24)), i 6 (.mv (r 25)), i 7 (.mv (r 26))]
/-- diorama/op.parts -/
def A_op_parts : AFunc :=
 ⟨27, [.tmp 2, .tmp 3, .tmp 4, .tmp 5, .tmp 6, .tmp 7], (.seq (.ops A_op_parts_0) (.seq (.seq (.ops A_op_parts_1) (.block 0 (.seq (.block 6 (.seq (.block 5 (.seq (.block 4
  (.seq (.block 3 (.seq (.block 2 (.seq (.block 1 (.seq (.seq (.seq (.ops A_op_parts_2) (.cond (r 9) (.exit 1) .skip)) (.seq (.seq (.ops A_op_parts_3) (.cond (r 11) (.exit
  2) .skip)) (.seq (.seq (.ops A_op_parts_4) (.cond (r 13) (.exit 3) .skip)) (.seq (.seq (.ops A_op_parts_5) (.cond (r 15) (.exit 4) .skip)) (.seq (.seq (.ops
  A_op_parts_6) (.cond (r 17) (.exit 5) .skip)) (.seq (.ops A_op_parts_7) (.cond (r 19) (.exit 6) .skip))))))) (.exit 0))) (.ops A_op_parts_8))) (.seq (.ops A_op_parts_9)
  (.exit 0)))) (.ops A_op_parts_10))) (.seq (.ops A_op_parts_11) (.exit 0)))) (.seq (.ops A_op_parts_12) (.exit 0)))) (.seq (.ops A_op_parts_13) (.exit 0))))) (.seq (.ops
  A_op_parts_14) .ret)))⟩
/-! diorama/op.Right$1 -/
def A_op_Right_c1_0 : Row := [i 6 (.mv (.const (.bool false)))]
def A_op_Right_c1_1 : Row := [i 7 (.mv (r 0)), i 8 (.mv (r 7)), g 9 (.mv (r 2)) 8 true, i 10 (.pick (r 8) (r 9) (.const (.bool false))), i 11 (.mv (r 10)), g 12 (.mv (r 0)) 11
  false, g 13 (.un (.not) (r 12)) 11 false, g 14 (.mv (r 13)) 11 false, g 15 (.mv (r 1)) 14 true, g 16 (.pick (r 14) (r 15) (.const (.bool false))) 11 false, i 17 (.pick
  (r 11) (.const (.bool true)) (r 16)), i 6 (.mv (r 17))]
/-- diorama/op.Right$1 -/
def A_op_Right_c1 : AFunc :=
 ⟨18, [.tmp 6], (.seq (.ops A_op_Right_c1_0) (.seq (.ops A_op_Right_c1_1) .ret))⟩
/-! slices.ContainsFunc[[]diorama/api.Stamp,diorama/api.Stamp] -/
def A_slices_ContainsFunc_Stamp_0 : Row := [i 4 (.mv (.const (.bool false)))]
def A_slices_ContainsFunc_Stamp_1 : Row := [i 5 (.mv (r 0)), i 6 (.mv (r 1)), i 7 (.call (.func F_slices_IndexFunc_Stamp) [.tmp 5, .tmp 6]), i 8 (.bin (.geq) (r 7) (.const
  (.int (.i64) 0))), i 4 (.mv (r 8))]
/-- slices.ContainsFunc[[]diorama/api.Stamp,diorama/api.Stamp] -/
def A_slices_ContainsFunc_Stamp : AFunc :=
 ⟨9, [.tmp 4], (.seq (.ops A_slices_ContainsFunc_Stamp_0) (.seq (.ops A_slices_ContainsFunc_Stamp_1) .ret))⟩
/-! diorama/op.Right$2 -/
def A_op_Right_c2_0 : Row := [i 1 (.box (r 0)), i 2 (.mv (.const (.bool false)))]
def A_op_Right_c2_1 : Row := [i 3 (.load (some 2) (r 1)), i 4 (.call (.func F_op_Node) [.tmp 3]), i 5 (.un (.not) (r 4)), i 2 (.mv (r 5))]
/-- diorama/op.Right$2 -/
def A_op_Right_c2 : AFunc :=
 ⟨6, [.tmp 2], (.seq (.ops A_op_Right_c2_0) (.seq (.ops A_op_Right_c2_1) .ret))⟩
/-! diorama/value.Right8 -/
def A_value_Right8_0 : Row := [i 3 (.box (r 1)), i 4 (.mv (.const (.bool false)))]
def A_value_Right8_1 : Row := [i 5 (.mv (.const (.int (.i64) 0)))]
def A_value_Right8_2 : Row := [i 6 (.mv (r 0))]
def A_value_Right8_3 : Row := [i 8 (.bin (.eql) (r 6) (.const (.int (.i64) 1))), i 7 (.mv (r 8))]
def A_value_Right8_4 : Row := [i 9 (.bin (.eql) (r 6) (.const (.int (.i64) 2))), i 7 (.mv (r 9))]
def A_value_Right8_5 : Row := [i 5 (.mv (.const (.int (.i64) 4)))]
def A_value_Right8_6 : Row := [i 11 (.bin (.eql) (r 6) (.const (.int (.i64) 3))), i 10 (.mv (r 11))]
def A_value_Right8_7 : Row := [i 5 (.mv (.const (.int (.i64) 3)))]
def A_value_Right8_8 : Row := [i 13 (.bin (.eql) (r 6) (.const (.int (.i64) 4))), i 12 (.mv (r 13))]
def A_value_Right8_9 : Row := [i 14 (.bin (.eql) (r 6) (.const (.int (.i64) 5))), i 12 (.mv (r 14))]
def A_value_Right8_10 : Row := [i 15 (.bin (.eql) (r 6) (.const (.int (.i64) 6))), i 12 (.mv (r 15))]
def A_value_Right8_11 : Row := [i 16 (.bin (.eql) (r 6) (.const (.int (.i64) 7))), i 12 (.mv (r 16))]
def A_value_Right8_12 : Row := [i 5 (.mv (.const (.int (.i64) 2)))]
def A_value_Right8_13 : Row := [i 18 (.bin (.eql) (r 6) (.const (.int (.i64) 8))), i 17 (.mv (r 18))]
def A_value_Right8_14 : Row := [i 5 (.mv (.const (.int (.i64) 1)))]
def A_value_Right8_15 : Row := [i 4 (.mv (.const (.bool false)))]
def A_value_Right8_16 : Row := [i 19 (.load (some 3) (r 3)), i 20 (.call (.func F_value_Right) [.tmp 19]), i 21 (.mv (r 20)), g 22 (.fieldAddr 0 (r 3)) 21 true, g 23 (.load
  none (r 22)) 21 true, g 24 (.bin (.eql) (r 23) (.const (.int (.i64) 0))) 21 true, g 25 (.mv (r 24)) 21 true, g 26 (.fieldAddr 0 (r 3)) 25 false, g 27 (.load none (r 26))
  25 false, g 28 (.mv (r 5)) 25 false, g 29 (.bin (.eql) (r 27) (r 28)) 25 false, g 30 (.pick (r 25) (.const (.bool true)) (r 29)) 21 true, i 31 (.pick (r 21) (r 30)
  (.const (.bool false))), i 4 (.mv (r 31))]
/-- diorama/value.Right8 -/
def A_value_Right8 : AFunc :=
 ⟨32, [.tmp 4], (.seq (.ops A_value_Right8_0) (.seq (.ops A_value_Right8_1) (.seq (.seq (.ops A_value_Right8_2) (.block 0 (.seq (.seq (.ops A_value_Right8_3) (.cond (r 7)
  .skip (.ops A_value_Right8_4))) (.cond (r 7) (.ops A_value_Right8_5) (.seq (.ops A_value_Right8_6) (.cond (r 10) (.ops A_value_Right8_7) (.seq (.seq (.ops
  A_value_Right8_8) (.cond (r 12) .skip (.seq (.ops A_value_Right8_9) (.cond (r 12) .skip (.seq (.ops A_value_Right8_10) (.cond (r 12) .skip (.ops A_value_Right8_11)))))))
  (.cond (r 12) (.ops A_value_Right8_12) (.seq (.ops A_value_Right8_13) (.cond (r 17) (.ops A_value_Right8_14) (.seq (.ops A_value_Right8_15) .ret))))))))))) (.seq (.ops
  A_value_Right8_16) .ret))))⟩
/-! slices.BinarySearchFunc[[]diorama/graph.entry,diorama/graph.entry,diorama/api.Stamp] -/
def A_slices_BinarySearchFunc_entry_Stamp_0 : Row := [i 4 (.box (r 1)), i 6 (.mv (.const (.int (.i64) 0))), i 7 (.mv (.const (.bool false)))]
def A_slices_BinarySearchFunc_entry_Stamp_1 : Row := [i 12 (.mv (r 0)), i 13 (.lenSlice (r 12)), i 8 (.mv (r 13))]
def A_slices_BinarySearchFunc_entry_Stamp_2 : Row := [i 14 (.mv (r 8)), i 9 (.mv (.const (.int (.i64) 0))), i 10 (.mv (r 14))]
def A_slices_BinarySearchFunc_entry_Stamp_3 : Row := [i 15 (.mv (r 9)), i 16 (.mv (r 10)), i 17 (.bin (.lss) (r 15) (r 16))]
def A_slices_BinarySearchFunc_entry_Stamp_4 : Row := [i 18 (.mv (r 9)), i 19 (.mv (r 10)), i 20 (.bin (.add) (r 18) (r 19)), i 21 (.convInt (.u64) (r 20)), i 22 (.bin (.shr)
  (r 21) (.const (.int (.u64) 1))), i 23 (.convInt (.i64) (r 22)), i 11 (.mv (r 23))]
def A_slices_BinarySearchFunc_entry_Stamp_5 : Row := [i 24 (.mv (r 2)), i 25 (.mv (r 0)), i 26 (.mv (r 11)), i 27 (.indexAddr 16 (r 25) (r 26)), i 28 (.load (some 16) (r 27)),
  i 29 (.load (some 2) (r 4)), i 30 (.call (r 24) [.tmp 28, .tmp 29]), i 31 (.bin (.lss) (r 30) (.const (.int (.i64) 0)))]
def A_slices_BinarySearchFunc_entry_Stamp_6 : Row := [i 32 (.mv (r 11)), i 33 (.bin (.add) (r 32) (.const (.int (.i64) 1))), i 9 (.mv (r 33))]
def A_slices_BinarySearchFunc_entry_Stamp_7 : Row := [i 34 (.mv (r 11)), i 10 (.mv (r 34))]
def A_slices_BinarySearchFunc_entry_Stamp_8 : ACode := (.seq (.seq (.ops A_slices_BinarySearchFunc_entry_Stamp_3) (.cond (r 17) .skip (.exit 0))) (.block 1 (.seq (.ops
  A_slices_BinarySearchFunc_entry_Stamp_4) (.seq (.ops A_slices_BinarySearchFunc_entry_Stamp_5) (.cond (r 31) (.ops A_slices_BinarySearchFunc_entry_Stamp_6) (.ops
  A_slices_BinarySearchFunc_entry_Stamp_7))))))
def A_slices_BinarySearchFunc_entry_Stamp_9 : Row := [i 35 (.mv (r 9)), i 36 (.mv (r 9)), i 37 (.mv (r 8)), i 38 (.bin (.lss) (r 36) (r 37)), i 39 (.mv (r 38)), g 40 (.mv (r
  2)) 39 true, g 41 (.mv (r 0)) 39 true, g 42 (.mv (r 9)) 39 true, g 43 (.indexAddr 16 (r 41) (r 42)) 39 true, g 44 (.load (some 16) (r 43)) 39 true, g 45 (.load (some 2)
  (r 4)) 39 true, g 46 (.call (r 40) [.tmp 44, .tmp 45]) 39 true, g 47 (.bin (.eql) (r 46) (.const (.int (.i64) 0))) 39 true, i 48 (.pick (r 39) (r 47) (.const (.bool
  false))), i 6 (.mv (r 35)), i 7 (.mv (r 48))]
/-- slices.BinarySearchFunc[[]diorama/graph.entry,diorama/graph.entry,diorama/api.Stamp] -/
def A_slices_BinarySearchFunc_entry_Stamp : AFunc :=
 ⟨49, [.tmp 6, .tmp 7], (.seq (.ops A_slices_BinarySearchFunc_entry_Stamp_0) (.seq (.ops A_slices_BinarySearchFunc_entry_Stamp_1) (.seq (.ops
  A_slices_BinarySearchFunc_entry_Stamp_2) (.seq (.block 0 (.loop A_slices_BinarySearchFunc_entry_Stamp_8)) (.seq (.ops A_slices_BinarySearchFunc_entry_Stamp_9) .ret)))))⟩
/-! (*diorama/graph.Graph).place$1 -/
def A_graph_Graph_place_c1_0 : Row := [i 2 (.box (r 0)), i 3 (.box (r 1)), i 4 (.mv (.const (.int (.i64) 0)))]
def A_graph_Graph_place_c1_1 : Row := [i 5 (.fieldAddr 0 (r 2)), i 6 (.load (some 2) (r 5)), i 7 (.load (some 2) (r 3)), i 8 (.call (.func F_stamp_Compare) [.tmp 6, .tmp 7]),
  i 4 (.mv (r 8))]
/-- (*diorama/graph.Graph).place$1 -/
def A_graph_Graph_place_c1 : AFunc :=
 ⟨9, [.tmp 4], (.seq (.ops A_graph_Graph_place_c1_0) (.seq (.ops A_graph_Graph_place_c1_1) .ret))⟩
/-! diorama/stamp.Compare -/
def A_stamp_Compare_0 : Row := [i 2 (.box (r 0)), i 3 (.box (r 1)), i 4 (.mv (.const (.int (.i64) 0)))]
def A_stamp_Compare_1 : Row := [i 6 (.load (some 2) (r 2)), i 7 (.load (some 2) (r 3)), i 8 (.eq false ⟨true, [.int (.i64), .int (.i64)]⟩ (r 6) (r 7)), i 5 (.mv (r 8))]
def A_stamp_Compare_2 : Row := [i 4 (.mv (.const (.int (.i64) 0)))]
def A_stamp_Compare_3 : Row := [i 10 (.fieldAddr 0 (r 2)), i 11 (.load none (r 10)), i 12 (.fieldAddr 0 (r 3)), i 13 (.load none (r 12)), i 14 (.bin (.lss) (r 11) (r 13)), i
  15 (.mv (r 14)), g 16 (.fieldAddr 0 (r 2)) 15 false, g 17 (.load none (r 16)) 15 false, g 18 (.fieldAddr 0 (r 3)) 15 false, g 19 (.load none (r 18)) 15 false, g 20 (.bin
  (.eql) (r 17) (r 19)) 15 false, g 21 (.mv (r 20)) 15 false, g 22 (.fieldAddr 1 (r 2)) 21 true, g 23 (.load none (r 22)) 21 true, g 24 (.fieldAddr 1 (r 3)) 21 true, g 25
  (.load none (r 24)) 21 true, g 26 (.bin (.lss) (r 23) (r 25)) 21 true, g 27 (.pick (r 21) (r 26) (.const (.bool false))) 15 false, i 28 (.pick (r 15) (.const (.bool
  true)) (r 27)), i 9 (.mv (r 28))]
def A_stamp_Compare_4 : Row := [i 4 (.mv (.const (.int (.i64) (-1))))]
def A_stamp_Compare_5 : Row := [i 4 (.mv (.const (.int (.i64) 1)))]
/-- diorama/stamp.Compare -/
def A_stamp_Compare : AFunc :=
 ⟨29, [.tmp 4], (.seq (.ops A_stamp_Compare_0) (.seq (.block 0 (.seq (.ops A_stamp_Compare_1) (.cond (r 5) (.seq (.ops A_stamp_Compare_2) .ret) (.seq (.ops
  A_stamp_Compare_3) (.cond (r 9) (.seq (.ops A_stamp_Compare_4) .ret) .skip))))) (.seq (.ops A_stamp_Compare_5) .ret)))⟩
/-! slices.rotateRight[diorama/graph.entry] -/
def A_slices_rotateRight_entry_0 : Row := [i 4 (.mv (r 0)), i 5 (.mv (r 0)), i 6 (.lenSlice (r 5)), i 7 (.mv (r 1)), i 8 (.bin (.sub) (r 6) (r 7)), i 9 (.call (.func
  F_slices_rotateLeft_entry) [.tmp 4, .tmp 8])]
/-- slices.rotateRight[diorama/graph.entry] -/
def A_slices_rotateRight_entry : AFunc :=
 ⟨10, [], (.ops A_slices_rotateRight_entry_0)⟩
/-! (*diorama/graph.entry).do$1 -/
def A_graph_entry_do_c1_0 : Row := [i 5 (.mv (r 0)), i 6 (.load (some 2) (r 2)), i 7 (.call (.func F_tree_Tree_Drop) [.tmp 5, .tmp 6])]
/-- (*diorama/graph.entry).do$1 -/
def A_graph_entry_do_c1 : AFunc :=
 ⟨8, [], (.ops A_graph_entry_do_c1_0)⟩
/-! (*diorama/tree.Tree).Drop -/
def A_tree_Tree_Drop_0 : Row := [i 3 (.box (r 1)), i 4 (.alloc [.int (.i64) 0, .int (.i64) 0, .str []]), i 5 (.mv (.const (.int (.i64) 0)))]
def A_tree_Tree_Drop_1 : Row := [i 7 (.mv (r 0)), i 8 (.call (.func F_tree_Tree_none) [.tmp 7]), i 6 (.mv (r 8))]
def A_tree_Tree_Drop_2 : Row := [i 9 (.load (some 3) (r 4)), i0 (.store 3 (r 4) (r 9)), i 5 (.mv (.const (.int (.i64) 1)))]
def A_tree_Tree_Drop_3 : Row := [i 11 (.mv (r 0)), i 12 (.load (some 2) (r 3)), i 13 (.call (.func F_tree_Tree_node) [.tmp 11, .tmp 12]), i 14 (.un (.not) (r 13)), i 10 (.mv
  (r 14))]
def A_tree_Tree_Drop_4 : Row := [i 15 (.load (some 3) (r 4)), i0 (.store 3 (r 4) (r 15)), i 5 (.mv (.const (.int (.i64) 3)))]
def A_tree_Tree_Drop_5 : Row := [i 17 (.mv (r 0)), i 18 (.load (some 2) (r 3)), i 19 (.call (.func F_tree_Tree_Below) [.tmp 17, .tmp 18]), i 20 (.lenSlice (r 19)), i 21 (.bin
  (.gtr) (r 20) (.const (.int (.i64) 0))), i 16 (.mv (r 21))]
def A_tree_Tree_Drop_6 : Row := [i 22 (.load (some 3) (r 4)), i0 (.store 3 (r 4) (r 22)), i 5 (.mv (.const (.int (.i64) 4)))]
def A_tree_Tree_Drop_7 : Row := [i 23 (.mv (r 0)), i 24 (.nilCheck (r 23)), i 25 (.fieldAddr 0 (r 24)), i 26 (.load none (r 25)), i 27 (.load (some 2) (r 3)), i 28 (.lookup
  ⟨true, [.int (.i64), .int (.i64)]⟩ (.agg [.int (.i64) 0, .int (.i64) 0, .str []]) false (r 26) (r 27)), i0 (.store 3 (r 4) (r 28))]
def A_tree_Tree_Drop_8 : Row := [i 29 (.mv (r 0)), i 30 (.nilCheck (r 29)), i 31 (.fieldAddr 0 (r 30)), i 32 (.load none (r 31)), i 33 (.load (some 2) (r 3)), i0 (.delete
  ⟨true, [.int (.i64), .int (.i64)]⟩ (r 32) (r 33))]
def A_tree_Tree_Drop_9 : Row := [i 34 (.load (some 3) (r 4)), i0 (.store 3 (r 4) (r 34)), i 5 (.mv (.const (.int (.i64) 0)))]
/-- (*diorama/tree.Tree).Drop -/
def A_tree_Tree_Drop : AFunc :=
 ⟨35, [.cell 4 (some 3), .tmp 5], (.seq (.ops A_tree_Tree_Drop_0) (.seq (.block 0 (.seq (.ops A_tree_Tree_Drop_1) (.cond (r 6) (.seq (.ops A_tree_Tree_Drop_2) .ret) (.seq
  (.ops A_tree_Tree_Drop_3) (.cond (r 10) (.seq (.ops A_tree_Tree_Drop_4) .ret) (.seq (.ops A_tree_Tree_Drop_5) (.cond (r 16) (.seq (.ops A_tree_Tree_Drop_6) .ret)
  .skip))))))) (.seq (.ops A_tree_Tree_Drop_7) (.seq (.ops A_tree_Tree_Drop_8) (.seq (.ops A_tree_Tree_Drop_9) .ret)))))⟩
/-! (*diorama/graph.entry).do$2 -/
def A_graph_entry_do_c2_0 : Row := [i 6 (.mv (r 0)), i 7 (.fieldAddr 1 (r 2)), i 8 (.load (some 2) (r 7)), i 9 (.load (some 3) (r 3)), i 10 (.call (.func F_tree_Tree_Move)
  [.tmp 6, .tmp 8, .tmp 9])]
/-- (*diorama/graph.entry).do$2 -/
def A_graph_entry_do_c2 : AFunc :=
 ⟨11, [], (.ops A_graph_entry_do_c2_0)⟩
/-! (*diorama/graph.Graph).ring -/
def A_graph_Graph_ring_0 : Row := [i 3 (.box (r 1)), i 4 (.mv (.const (.bool false)))]
def A_graph_Graph_ring_1 : Row := [i 9 (.buildSlice 2 [.bool false, .bool false] [(0, 1, .const (.bool true)), (1, 1, .const (.bool false))]), i 10 (.lenSlice (r 9)), i 11
  (.mv (.const (.int (.i64) 0)))]
def A_graph_Graph_ring_2 : Row := [i 12 (.bin (.lss) (r 11) (r 10))]
def A_graph_Graph_ring_3 : Row := [i 13 (.indexAddr 1 (r 9) (r 11)), i 14 (.load none (r 13)), i 6 (.mv (r 14))]
def A_graph_Graph_ring_4 : Row := [i 15 (.mv (r 0)), i 16 (.load (some 2) (r 3)), i 17 (.mv (r 6)), i 18 (.call (.func F_graph_Graph_next) [.tmp 15, .tmp 16, .tmp 17]), i 19
  (.lenSlice (r 18)), i 20 (.mv (.const (.int (.i64) 0)))]
def A_graph_Graph_ring_5 : Row := [i 21 (.bin (.lss) (r 20) (r 19))]
def A_graph_Graph_ring_6 : Row := [i 22 (.indexAddr 2 (r 18) (r 20)), i 23 (.load (some 2) (r 22)), i 8 (.alloc [.int (.i64) 0, .int (.i64) 0]), i0 (.store 2 (r 8) (r 23))]
def A_graph_Graph_ring_7 : Row := [i 24 (.mv (r 0)), i 25 (.load (some 2) (r 8)), i 26 (.load (some 2) (r 3)), i 27 (.mv (r 6)), i 28 (.call (.func F_graph_Graph_Reaches)
  [.tmp 24, .tmp 25, .tmp 26, .tmp 27])]
def A_graph_Graph_ring_8 : Row := [i 4 (.mv (.const (.bool true)))]
def A_graph_Graph_ring_9 : Row := [i 29 (.bin (.add) (r 20) (.const (.int (.i64) 1))), i 20 (.mv (r 29))]
def A_graph_Graph_ring_10 : ACode := (.seq (.ops A_graph_Graph_ring_5) (.seq (.cond (r 21) .skip (.exit 2)) (.seq (.block 3 (.seq (.ops A_graph_Graph_ring_6) (.seq (.ops
  A_graph_Graph_ring_7) (.cond (r 28) (.seq (.ops A_graph_Graph_ring_8) .ret) .skip)))) (.ops A_graph_Graph_ring_9))))
def A_graph_Graph_ring_11 : Row := [i 30 (.bin (.add) (r 11) (.const (.int (.i64) 1))), i 11 (.mv (r 30))]
def A_graph_Graph_ring_12 : ACode := (.seq (.ops A_graph_Graph_ring_2) (.seq (.cond (r 12) .skip (.exit 0)) (.seq (.block 1 (.seq (.ops A_graph_Graph_ring_3) (.seq (.ops
  A_graph_Graph_ring_4) (.block 2 (.loop A_graph_Graph_ring_10))))) (.ops A_graph_Graph_ring_11))))
def A_graph_Graph_ring_13 : Row := [i 4 (.mv (.const (.bool false)))]
/-- (*diorama/graph.Graph).ring -/
def A_graph_Graph_ring : AFunc :=
 ⟨31, [.tmp 4], (.seq (.ops A_graph_Graph_ring_0) (.seq (.seq (.ops A_graph_Graph_ring_1) (.block 0 (.loop A_graph_Graph_ring_12))) (.seq (.ops A_graph_Graph_ring_13)
  .ret)))⟩
/-! (*diorama/graph.Graph).link -/
def A_graph_Graph_link_0 : Row := [i 5 (.box (r 1)), i 6 (.box (r 2)), i 8 (.mv (.const (.nilFn)))]
def A_graph_Graph_link_1 : Row := [i 12 (.mv (r 0)), i 13 (.nilCheck (r 12)), i 14 (.fieldAddr 2 (r 13)), i 15 (.load none (r 14)), i 16 (.load (some 2) (r 5)), i 17 (.lookup
  ⟨true, [.int (.i64), .int (.i64)]⟩ (.agg [.int (.i64) 0, .int (.i64) 0]) true (r 15) (r 16)), i 11 (.mv (r 17)), i 18 (.extract (r 11) 0), i 19 (.extract (r 11) 1), i 9
  (.alloc [.int (.i64) 0, .int (.i64) 0]), i 10 (.alloc [.bool false]), i0 (.store 2 (r 9) (r 18)), i0 (.store 1 (r 10) (r 19))]
def A_graph_Graph_link_2 : Row := [i 20 (.mv (r 0)), i 21 (.nilCheck (r 20)), i 22 (.fieldAddr 2 (r 21)), i 23 (.load none (r 22)), i 24 (.load (some 2) (r 5)), i0 (.delete
  ⟨true, [.int (.i64), .int (.i64)]⟩ (r 23) (r 24))]
def A_graph_Graph_link_3 : Row := [i 25 (.mv (r 3))]
def A_graph_Graph_link_4 : Row := [i 26 (.mv (r 0)), i 27 (.nilCheck (r 26)), i 28 (.fieldAddr 2 (r 27)), i 29 (.load none (r 28)), i 30 (.load (some 2) (r 5)), i 31 (.load
  (some 2) (r 6)), i0 (.mapUpdate ⟨true, [.int (.i64), .int (.i64)]⟩ (r 29) (r 30) (r 31))]
def A_graph_Graph_link_5 : Row := [i 32 (.makeFunc F_graph_Graph_link_c1 [] [.tmp 5, .tmp 10, .tmp 9]), i 8 (.mv (r 32))]
/-- (*diorama/graph.Graph).link -/
def A_graph_Graph_link : AFunc :=
 ⟨33, [.tmp 8], (.seq (.ops A_graph_Graph_link_0) (.seq (.ops A_graph_Graph_link_1) (.seq (.seq (.ops A_graph_Graph_link_2) (.seq (.ops A_graph_Graph_link_3) (.cond (r 25)
  (.ops A_graph_Graph_link_4) .skip))) (.seq (.ops A_graph_Graph_link_5) .ret))))⟩
/-! maps.Keys[map[diorama/api.Stamp]diorama/tree.Spot,diorama/api.Stamp,diorama/tree.Spot] -/
def A_maps_Keys_Stamp_Spot_0 : Row := [i 1 (.box (r 0)), i 2 (.mv (.const (.nilFn)))]
def A_maps_Keys_Stamp_Spot_1 : Row := [i 3 (.makeFunc F_maps_Keys_Stamp_Spot_c1 [] [.tmp 1]), i 2 (.mv (r 3))]
/-- maps.Keys[map[diorama/api.Stamp]diorama/tree.Spot,diorama/api.Stamp,diorama/tree.Spot] -/
def A_maps_Keys_Stamp_Spot : AFunc :=
 ⟨4, [.tmp 2], (.seq (.ops A_maps_Keys_Stamp_Spot_0) (.seq (.ops A_maps_Keys_Stamp_Spot_1) .ret))⟩
/-! diorama/dioramaref07.Same -/
/-! diorama/dioramaref07.named -/
/-! diorama/dioramaref03.Right8 -/
/-! diorama/dioramaref07.path -/
/-! (*diorama/dioramaref10.Tree).Clone -/
/-! diorama/dioramaref13.without -/
/-! (*diorama/dioramaref13.State).next -/
/-! diorama/dioramaref13.met -/
/-! diorama/poskey.Compare -/
def A_poskey_Compare_0 : Row := [i 4 (.mv (.const (.int (.i64) 0)))]
def A_poskey_Compare_1 : Row := [i 5 (.mv (r 0)), i 6 (.mv (r 1)), i 7 (.call (.func F_strings_Compare) [.tmp 5, .tmp 6]), i 4 (.mv (r 7))]
/-- diorama/poskey.Compare -/
def A_poskey_Compare : AFunc :=
 ⟨8, [.tmp 4], (.seq (.ops A_poskey_Compare_0) (.seq (.ops A_poskey_Compare_1) .ret))⟩
/-! diorama/poskey.fine -/
def A_poskey_fine_0 : Row := [i 4 (.mv (.const (.bool false)))]
def A_poskey_fine_1 : Row := [i 5 (.mv (.func F_poskey_fine_c1))]
def A_poskey_fine_2 : Row := [i 6 (.mv (r 5)), i 7 (.mv (r 0)), i 8 (.call (r 6) [.tmp 7]), i 9 (.mv (r 8)), g 10 (.mv (r 5)) 9 true, g 11 (.mv (r 1)) 9 true, g 12 (.call (r
  10) [.tmp 11]) 9 true, i 13 (.pick (r 9) (r 12) (.const (.bool false))), i 14 (.mv (r 13)), g 15 (.mv (r 0)) 14 true, g 16 (.bin (.eql) (r 15) (.const (.str []))) 14
  true, g 17 (.mv (r 16)) 14 true, g 18 (.mv (r 1)) 17 false, g 19 (.bin (.eql) (r 18) (.const (.str []))) 17 false, g 20 (.pick (r 17) (.const (.bool true)) (r 19)) 14
  true, g 21 (.mv (r 20)) 14 true, g 22 (.mv (r 0)) 21 false, g 23 (.mv (r 1)) 21 false, g 24 (.bin (.lss) (r 22) (r 23)) 21 false, g 25 (.pick (r 21) (.const (.bool
  true)) (r 24)) 14 true, i 26 (.pick (r 14) (r 25) (.const (.bool false))), i 4 (.mv (r 26))]
/-- diorama/poskey.fine -/
def A_poskey_fine : AFunc :=
 ⟨27, [.tmp 4], (.seq (.ops A_poskey_fine_0) (.seq (.ops A_poskey_fine_1) (.seq (.ops A_poskey_fine_2) .ret)))⟩
/-! diorama/poskey.above -/
def A_poskey_above_0 : Row := [i 4 (.mv (.const (.slice none 0 (.exact 0)))), i 5 (.mv (.const (.bool false)))]
def A_poskey_above_1 : Row := [i 8 (.mv (r 1)), i 9 (.makeSlice 1 1 [.int (.u8) 0] (r 8) (r 8)), i 6 (.mv (r 9))]
def A_poskey_above_2 : Row := [i 10 (.mv (r 6)), i 11 (.mv (r 0)), i 12 (.copy 1 (r 10) (r 11))]
def A_poskey_above_3 : Row := [i 13 (.mv (r 1)), i 14 (.bin (.sub) (r 13) (.const (.int (.i64) 1))), i 7 (.mv (r 14))]
def A_poskey_above_4 : Row := [i 15 (.mv (r 7)), i 16 (.bin (.geq) (r 15) (.const (.int (.i64) 0)))]
def A_poskey_above_5 : Row := [i 19 (.mv (r 6)), i 20 (.mv (r 7)), i 21 (.indexAddr 1 (r 19) (r 20)), i 22 (.load none (r 21)), i 23 (.bin (.add) (r 22) (.const (.int (.u8)
  1))), i 24 (.indexAddr 1 (r 19) (r 20)), i0 (.store 1 (r 24) (r 23))]
def A_poskey_above_6 : Row := [i 25 (.mv (r 6)), i 26 (.mv (r 7)), i 27 (.indexAddr 1 (r 25) (r 26)), i 28 (.load none (r 27)), i 29 (.bin (.neq) (r 28) (.const (.int (.u8)
  0)))]
def A_poskey_above_7 : Row := [i 30 (.mv (r 6)), i 4 (.mv (r 30)), i 5 (.mv (.const (.bool true)))]
def A_poskey_above_8 : Row := [i 17 (.mv (r 7)), i 18 (.bin (.sub) (r 17) (.const (.int (.i64) 1))), i 7 (.mv (r 18))]
def A_poskey_above_9 : ACode := (.seq (.seq (.ops A_poskey_above_4) (.cond (r 16) .skip (.exit 0))) (.seq (.block 1 (.seq (.ops A_poskey_above_5) (.seq (.ops A_poskey_above_6)
  (.cond (r 29) (.seq (.ops A_poskey_above_7) .ret) .skip)))) (.ops A_poskey_above_8)))
def A_poskey_above_10 : Row := [i 4 (.mv (.const (.slice none 0 (.exact 0)))), i 5 (.mv (.const (.bool false)))]
/-- diorama/poskey.above -/
def A_poskey_above : AFunc :=
 ⟨31, [.tmp 4, .tmp 5], (.seq (.ops A_poskey_above_0) (.seq (.ops A_poskey_above_1) (.seq (.ops A_poskey_above_2) (.seq (.seq (.ops A_poskey_above_3) (.block 0 (.loop
  A_poskey_above_9))) (.seq (.ops A_poskey_above_10) .ret)))))⟩
/-! diorama/poskey.greatest -/
def A_poskey_greatest_0 : Row := [i 4 (.mv (.const (.int (.i64) 0)))]
def A_poskey_greatest_1 : Row := [i 9 (.mv (r 0)), i 10 (.lenSlice (r 9)), i 11 (.bin (.sub) (r 10) (.const (.int (.i64) 1))), i 5 (.mv (r 11))]
def A_poskey_greatest_2 : Row := [i 12 (.mv (r 0)), i 13 (.mv (r 5)), i 14 (.slice 1 (r 12) none (some (r 13)) none), i 15 (.lenSlice (r 14)), i 16 (.mv (.const (.int (.i64)
  0)))]
def A_poskey_greatest_3 : Row := [i 17 (.bin (.lss) (r 16) (r 15))]
def A_poskey_greatest_4 : Row := [i 18 (.mv (r 16)), i 19 (.indexAddr 1 (r 14) (r 16)), i 20 (.load none (r 19)), i 6 (.mv (r 18)), i 7 (.mv (r 20))]
def A_poskey_greatest_5 : Row := [i 21 (.mv (r 1)), i 22 (.mv (r 6)), i 23 (.call (.func F_poskey_digit) [.tmp 21, .tmp 22]), i 8 (.mv (r 23))]
def A_poskey_greatest_6 : Row := [i 25 (.mv (r 1)), i 26 (.bin (.eql) (r 25) (.const (.str []))), i 27 (.mv (r 26)), g 28 (.mv (r 7)) 27 false, g 29 (.convInt (.i64) (r 28))
  27 false, g 30 (.mv (r 8)) 27 false, g 31 (.bin (.lss) (r 29) (r 30)) 27 false, i 32 (.pick (r 27) (.const (.bool true)) (r 31)), i 24 (.mv (r 32))]
def A_poskey_greatest_7 : Row := [i 4 (.mv (.const (.int (.i64) 255)))]
def A_poskey_greatest_8 : Row := [i 34 (.mv (r 7)), i 35 (.convInt (.i64) (r 34)), i 36 (.mv (r 8)), i 37 (.bin (.gtr) (r 35) (r 36)), i 33 (.mv (r 37))]
def A_poskey_greatest_9 : Row := [i 4 (.mv (.const (.int (.i64) (-1))))]
def A_poskey_greatest_10 : Row := [i 38 (.bin (.add) (r 16) (.const (.int (.i64) 1))), i 16 (.mv (r 38))]
def A_poskey_greatest_11 : ACode := (.seq (.ops A_poskey_greatest_3) (.seq (.cond (r 17) .skip (.exit 0)) (.seq (.block 1 (.seq (.ops A_poskey_greatest_4) (.seq (.ops
  A_poskey_greatest_5) (.block 2 (.seq (.ops A_poskey_greatest_6) (.cond (r 24) (.seq (.ops A_poskey_greatest_7) .ret) (.seq (.ops A_poskey_greatest_8) (.cond (r 33) (.seq
  (.ops A_poskey_greatest_9) .ret) .skip)))))))) (.ops A_poskey_greatest_10))))
def A_poskey_greatest_12 : Row := [i 40 (.mv (r 1)), i 41 (.bin (.eql) (r 40) (.const (.str []))), i 39 (.mv (r 41))]
def A_poskey_greatest_13 : Row := [i 4 (.mv (.const (.int (.i64) 255)))]
def A_poskey_greatest_14 : Row := [i 43 (.mv (r 1)), i 44 (.lenStr (r 43)), i 45 (.mv (r 5)), i 46 (.bin (.add) (r 45) (.const (.int (.i64) 1))), i 47 (.bin (.gtr) (r 44) (r
  46)), i 42 (.mv (r 47))]
def A_poskey_greatest_15 : Row := [i 48 (.mv (r 1)), i 49 (.mv (r 5)), i 50 (.call (.func F_poskey_digit) [.tmp 48, .tmp 49]), i 4 (.mv (r 50))]
def A_poskey_greatest_16 : Row := [i 51 (.mv (r 1)), i 52 (.mv (r 5)), i 53 (.call (.func F_poskey_digit) [.tmp 51, .tmp 52]), i 54 (.bin (.sub) (r 53) (.const (.int (.i64)
  1))), i 4 (.mv (r 54))]
/-- diorama/poskey.greatest -/
def A_poskey_greatest : AFunc :=
 ⟨55, [.tmp 4], (.seq (.ops A_poskey_greatest_0) (.seq (.ops A_poskey_greatest_1) (.seq (.seq (.ops A_poskey_greatest_2) (.block 0 (.loop A_poskey_greatest_11))) (.seq
  (.block 3 (.seq (.ops A_poskey_greatest_12) (.cond (r 39) (.seq (.ops A_poskey_greatest_13) .ret) (.seq (.ops A_poskey_greatest_14) (.cond (r 42) (.seq (.ops
  A_poskey_greatest_15) .ret) .skip))))) (.seq (.ops A_poskey_greatest_16) .ret)))))⟩
/-! diorama/dioramaref04.Compare -/
/-! slices.IndexFunc[[]diorama/api.Stamp,diorama/api.Stamp] -/
def A_slices_IndexFunc_Stamp_0 : Row := [i 4 (.mv (.const (.int (.i64) 0)))]
def A_slices_IndexFunc_Stamp_1 : Row := [i 6 (.mv (r 0)), i 7 (.lenSlice (r 6)), i 8 (.mv (.const (.int (.i64) 0)))]
def A_slices_IndexFunc_Stamp_2 : Row := [i 9 (.bin (.lss) (r 8) (r 7))]
def A_slices_IndexFunc_Stamp_3 : Row := [i 10 (.mv (r 8)), i 5 (.mv (r 10))]
def A_slices_IndexFunc_Stamp_4 : Row := [i 11 (.mv (r 1)), i 12 (.mv (r 0)), i 13 (.mv (r 5)), i 14 (.indexAddr 2 (r 12) (r 13)), i 15 (.load (some 2) (r 14)), i 16 (.call (r
  11) [.tmp 15])]
def A_slices_IndexFunc_Stamp_5 : Row := [i 17 (.mv (r 5)), i 4 (.mv (r 17))]
def A_slices_IndexFunc_Stamp_6 : Row := [i 18 (.bin (.add) (r 8) (.const (.int (.i64) 1))), i 8 (.mv (r 18))]
def A_slices_IndexFunc_Stamp_7 : ACode := (.seq (.ops A_slices_IndexFunc_Stamp_2) (.seq (.cond (r 9) .skip (.exit 0)) (.seq (.block 1 (.seq (.ops A_slices_IndexFunc_Stamp_3)
  (.seq (.ops A_slices_IndexFunc_Stamp_4) (.cond (r 16) (.seq (.ops A_slices_IndexFunc_Stamp_5) .ret) .skip)))) (.ops A_slices_IndexFunc_Stamp_6))))
def A_slices_IndexFunc_Stamp_8 : Row := [i 4 (.mv (.const (.int (.i64) (-1))))]
/-- slices.IndexFunc[[]diorama/api.Stamp,diorama/api.Stamp] -/
def A_slices_IndexFunc_Stamp : AFunc :=
 ⟨19, [.tmp 4], (.seq (.ops A_slices_IndexFunc_Stamp_0) (.seq (.seq (.ops A_slices_IndexFunc_Stamp_1) (.block 0 (.loop A_slices_IndexFunc_Stamp_7))) (.seq (.ops
  A_slices_IndexFunc_Stamp_8) .ret)))⟩
/-! diorama/value.Right -/
def A_value_Right_0 : Row := [i 1 (.box (r 0)), i 2 (.mv (.const (.bool false)))]
def A_value_Right_1 : Row := [i 3 (.fieldAddr 0 (r 1)), i 4 (.load none (r 3))]
def A_value_Right_2 : Row := [i 6 (.bin (.eql) (r 4) (.const (.int (.i64) 0))), i 5 (.mv (r 6))]
def A_value_Right_3 : Row := [i 7 (.load (some 3) (r 1)), i 8 (.build [.int (.i64) 0, .int (.i64) 0, .str []] []), i 9 (.eq false ⟨true, [.int (.i64), .int (.i64), .str]⟩ (r
  7) (r 8)), i 2 (.mv (r 9))]
def A_value_Right_4 : Row := [i 11 (.bin (.eql) (r 4) (.const (.int (.i64) 1))), i 10 (.mv (r 11))]
def A_value_Right_5 : Row := [i 12 (.bin (.eql) (r 4) (.const (.int (.i64) 2))), i 10 (.mv (r 12))]
def A_value_Right_6 : Row := [i 13 (.fieldAddr 1 (r 1)), i 14 (.load none (r 13)), i 15 (.bin (.geq) (r 14) (.const (.int (.i64) (-1099511627776)))), i 16 (.mv (r 15)), g 17
  (.fieldAddr 1 (r 1)) 16 true, g 18 (.load none (r 17)) 16 true, g 19 (.bin (.leq) (r 18) (.const (.int (.i64) 1099511627776))) 16 true, i 20 (.pick (r 16) (r 19) (.const
  (.bool false))), i 21 (.mv (r 20)), g 22 (.fieldAddr 2 (r 1)) 21 true, g 23 (.load none (r 22)) 21 true, g 24 (.bin (.eql) (r 23) (.const (.str []))) 21 true, i 25
  (.pick (r 21) (r 24) (.const (.bool false))), i 2 (.mv (r 25))]
def A_value_Right_7 : Row := [i 27 (.bin (.eql) (r 4) (.const (.int (.i64) 3))), i 26 (.mv (r 27))]
def A_value_Right_8 : Row := [i 28 (.fieldAddr 1 (r 1)), i 29 (.load none (r 28)), i 30 (.bin (.eql) (r 29) (.const (.int (.i64) 0))), i 31 (.mv (r 30)), g 32 (.fieldAddr 2 (r
  1)) 31 true, g 33 (.load none (r 32)) 31 true, g 34 (.call (.func F_value_good) [.tmp 33]) 31 true, i 35 (.pick (r 31) (r 34) (.const (.bool false))), i 2 (.mv (r 35))]
def A_value_Right_9 : Row := [i 37 (.bin (.eql) (r 4) (.const (.int (.i64) 4))), i 36 (.mv (r 37))]
def A_value_Right_10 : Row := [i 38 (.fieldAddr 1 (r 1)), i 39 (.load none (r 38)), i 40 (.bin (.shr) (r 39) (.const (.int (.u64) 1))), i 41 (.bin (.eql) (r 40) (.const (.int
  (.i64) 0))), i 42 (.mv (r 41)), g 43 (.fieldAddr 2 (r 1)) 42 true, g 44 (.load none (r 43)) 42 true, g 45 (.bin (.eql) (r 44) (.const (.str []))) 42 true, i 46 (.pick (r
  42) (r 45) (.const (.bool false))), i 2 (.mv (r 46))]
def A_value_Right_11 : Row := [i 2 (.mv (.const (.bool false)))]
/-- diorama/value.Right -/
def A_value_Right : AFunc :=
 ⟨47, [.tmp 2], (.seq (.ops A_value_Right_0) (.seq (.seq (.ops A_value_Right_1) (.block 0 (.seq (.ops A_value_Right_2) (.cond (r 5) (.seq (.ops A_value_Right_3) .ret) (.seq
  (.seq (.ops A_value_Right_4) (.cond (r 10) .skip (.ops A_value_Right_5))) (.cond (r 10) (.seq (.ops A_value_Right_6) .ret) (.seq (.ops A_value_Right_7) (.cond (r 26)
  (.seq (.ops A_value_Right_8) .ret) (.seq (.ops A_value_Right_9) (.cond (r 36) (.seq (.ops A_value_Right_10) .ret) .skip)))))))))) (.seq (.ops A_value_Right_11) .ret)))⟩
/-! slices.rotateLeft[diorama/graph.entry] -/
def A_slices_rotateLeft_entry_0 : Row := [i 4 (.mv (r 0)), i 5 (.mv (r 1)), i 6 (.slice 16 (r 4) none (some (r 5)) none), i 7 (.call (.func F_slices_Reverse_entry) [.tmp 6])]
def A_slices_rotateLeft_entry_1 : Row := [i 8 (.mv (r 0)), i 9 (.mv (r 1)), i 10 (.slice 16 (r 8) (some (r 9)) none none), i 11 (.call (.func F_slices_Reverse_entry) [.tmp
  10])]
def A_slices_rotateLeft_entry_2 : Row := [i 12 (.mv (r 0)), i 13 (.call (.func F_slices_Reverse_entry) [.tmp 12])]
/-- slices.rotateLeft[diorama/graph.entry] -/
def A_slices_rotateLeft_entry : AFunc :=
 ⟨14, [], (.seq (.ops A_slices_rotateLeft_entry_0) (.seq (.ops A_slices_rotateLeft_entry_1) (.ops A_slices_rotateLeft_entry_2)))⟩
/-! (*diorama/graph.Graph).link$1 -/
def A_graph_Graph_link_c1_0 : Row := [i 7 (.mv (r 1)), i 8 (.load (some 2) (r 2)), i0 (.delete ⟨true, [.int (.i64), .int (.i64)]⟩ (r 7) (r 8))]
def A_graph_Graph_link_c1_1 : Row := [i 9 (.load none (r 3))]
def A_graph_Graph_link_c1_2 : Row := [i 10 (.mv (r 1)), i 11 (.load (some 2) (r 2)), i 12 (.load (some 2) (r 4)), i0 (.mapUpdate ⟨true, [.int (.i64), .int (.i64)]⟩ (r 10) (r
  11) (r 12))]
/-- (*diorama/graph.Graph).link$1 -/
def A_graph_Graph_link_c1 : AFunc :=
 ⟨13, [], (.seq (.ops A_graph_Graph_link_c1_0) (.seq (.ops A_graph_Graph_link_c1_1) (.cond (r 9) (.ops A_graph_Graph_link_c1_2) .skip)))⟩
/-! diorama/dioramaref03.Right -/
/-! (*diorama/dioramaref10.Tree).Below -/
/-! diorama/poskey.fine$1 -/
def A_poskey_fine_c1_0 : Row := [i 2 (.mv (.const (.bool false)))]
def A_poskey_fine_c1_1 : Row := [i 3 (.mv (r 0)), i 4 (.bin (.eql) (r 3) (.const (.str []))), i 5 (.mv (r 4)), g 6 (.mv (r 0)) 5 false, g 7 (.call (.func F_poskey_Right) [.tmp
  6]) 5 false, i 8 (.pick (r 5) (.const (.bool true)) (r 7)), i 2 (.mv (r 8))]
/-- diorama/poskey.fine$1 -/
def A_poskey_fine_c1 : AFunc :=
 ⟨9, [.tmp 2], (.seq (.ops A_poskey_fine_c1_0) (.seq (.ops A_poskey_fine_c1_1) .ret))⟩
/-! diorama/poskey.digit -/
def A_poskey_digit_0 : Row := [i 4 (.mv (.const (.int (.i64) 0)))]
def A_poskey_digit_1 : Row := [i 5 (.mv (r 1)), i 6 (.mv (r 0)), i 7 (.lenStr (r 6)), i 8 (.bin (.lss) (r 5) (r 7))]
def A_poskey_digit_2 : Row := [i 9 (.mv (r 0)), i 10 (.mv (r 1)), i 11 (.indexStr (r 9) (r 10)), i 12 (.convInt (.i64) (r 11)), i 4 (.mv (r 12))]
def A_poskey_digit_3 : Row := [i 4 (.mv (.const (.int (.i64) 0)))]
/-- diorama/poskey.digit -/
def A_poskey_digit : AFunc :=
 ⟨13, [.tmp 4], (.seq (.ops A_poskey_digit_0) (.seq (.seq (.ops A_poskey_digit_1) (.cond (r 8) (.seq (.ops A_poskey_digit_2) .ret) .skip)) (.seq (.ops A_poskey_digit_3)
  .ret)))⟩
/-! diorama/value.good -/
def A_value_good_0 : Row := [i 2 (.mv (.const (.bool false)))]
def A_value_good_1 : Row := [i 5 (.mv (r 0)), i 6 (.strBytes (r 5)), i 7 (.lenSlice (r 6)), i 8 (.mv (.const (.int (.i64) 0)))]
def A_value_good_2 : Row := [i 9 (.bin (.lss) (r 8) (r 7))]
def A_value_good_3 : Row := [i 10 (.indexAddr 1 (r 6) (r 8)), i 11 (.load none (r 10)), i 4 (.mv (r 11))]
def A_value_good_4 : Row := [i 12 (.mv (r 4)), i 13 (.bin (.lss) (r 12) (.const (.int (.u8) 32))), i 14 (.mv (r 13)), g 15 (.mv (r 4)) 14 false, g 16 (.bin (.gtr) (r 15)
  (.const (.int (.u8) 126))) 14 false, i 17 (.pick (r 14) (.const (.bool true)) (r 16))]
def A_value_good_5 : Row := [i 2 (.mv (.const (.bool false)))]
def A_value_good_6 : Row := [i 18 (.bin (.add) (r 8) (.const (.int (.i64) 1))), i 8 (.mv (r 18))]
def A_value_good_7 : ACode := (.seq (.ops A_value_good_2) (.seq (.cond (r 9) .skip (.exit 0)) (.seq (.block 1 (.seq (.ops A_value_good_3) (.seq (.ops A_value_good_4) (.cond (r
  17) (.seq (.ops A_value_good_5) .ret) .skip)))) (.ops A_value_good_6))))
def A_value_good_8 : Row := [i 19 (.mv (r 0)), i 20 (.lenStr (r 19)), i 21 (.bin (.leq) (r 20) (.const (.int (.i64) 64))), i 2 (.mv (r 21))]
/-- diorama/value.good -/
def A_value_good : AFunc :=
 ⟨22, [.tmp 2], (.seq (.ops A_value_good_0) (.seq (.seq (.ops A_value_good_1) (.block 0 (.loop A_value_good_7))) (.seq (.ops A_value_good_8) .ret)))⟩
/-! slices.Reverse[[]diorama/graph.entry,diorama/graph.entry] -/
def A_slices_Reverse_entry_0 : Row := [i 4 (.mv (r 0)), i 5 (.lenSlice (r 4)), i 6 (.bin (.sub) (r 5) (.const (.int (.i64) 1))), i 2 (.mv (.const (.int (.i64) 0))), i 3 (.mv
  (r 6))]
def A_slices_Reverse_entry_1 : Row := [i 7 (.mv (r 2)), i 8 (.mv (r 3)), i 9 (.bin (.lss) (r 7) (r 8))]
def A_slices_Reverse_entry_2 : Row := [i 14 (.mv (r 0)), i 15 (.mv (r 2)), i 16 (.mv (r 0)), i 17 (.mv (r 3)), i 18 (.mv (r 0)), i 19 (.mv (r 3)), i 20 (.indexAddr 16 (r 18)
  (r 19)), i 21 (.load (some 16) (r 20)), i 22 (.mv (r 0)), i 23 (.mv (r 2)), i 24 (.indexAddr 16 (r 22) (r 23)), i 25 (.load (some 16) (r 24)), i 26 (.indexAddr 16 (r 14)
  (r 15)), i0 (.store 16 (r 26) (r 21)), i 27 (.indexAddr 16 (r 16) (r 17)), i0 (.store 16 (r 27) (r 25))]
def A_slices_Reverse_entry_3 : Row := [i 10 (.mv (r 2)), i 11 (.bin (.add) (r 10) (.const (.int (.i64) 1))), i 12 (.mv (r 3)), i 13 (.bin (.sub) (r 12) (.const (.int (.i64)
  1))), i 2 (.mv (r 11)), i 3 (.mv (r 13))]
def A_slices_Reverse_entry_4 : ACode := (.seq (.seq (.ops A_slices_Reverse_entry_1) (.cond (r 9) .skip (.exit 0))) (.seq (.block 1 (.ops A_slices_Reverse_entry_2)) (.ops
  A_slices_Reverse_entry_3)))
/-- slices.Reverse[[]diorama/graph.entry,diorama/graph.entry] -/
def A_slices_Reverse_entry : AFunc :=
 ⟨28, [], (.seq (.ops A_slices_Reverse_entry_0) (.block 0 (.loop A_slices_Reverse_entry_4)))⟩
/-! diorama/dioramaref03.good -/
/-! (*diorama/tree.Tree).Within -/
def X_tree_Tree_Within_0 : List XItem := [⟨(some 4), .a (.box (r 1)), none⟩, ⟨(some 5), .a (.box (r 2)), none⟩, ⟨(some 6), .a (.alloc [.bool false]), none⟩]
def X_tree_Tree_Within_1 : List XItem := [⟨(some 8), .a (.mv (r 0)), none⟩, ⟨(some 9), .a (.call (.func F_tree_Tree_none) [.tmp 8]), none⟩, ⟨(some 10), .a (.mv (r 9)), none⟩,
  ⟨(some 11), .a (.mv (r 0)), (some (10, false))⟩, ⟨(some 12), .a (.load (some 2) (r 5)), (some (10, false))⟩, ⟨(some 13), .a (.call (.func F_tree_Tree_node) [.tmp 11,
  .tmp 12]), (some (10, false))⟩, ⟨(some 14), .a (.un (.not) (r 13)), (some (10, false))⟩, ⟨(some 15), .a (.pick (r 10) (.const (.bool true)) (r 14)), none⟩]
def X_tree_Tree_Within_2 : List XItem := [⟨none, .a (.store 1 (r 6) (.const (.bool false))), none⟩]
def X_tree_Tree_Within_3 : List XItem := [⟨(some 16), .a (.mv (r 0)), none⟩, ⟨(some 17), .a (.load (some 2) (r 5)), none⟩, ⟨(some 18), .a (.call (.func F_tree_Tree_up) [.tmp
  16, .tmp 17]), none⟩]
def X_tree_Tree_Within_4 : List XItem := [⟨(some 7), .a (.alloc [.int (.i64) 0, .int (.i64) 0]), none⟩, ⟨none, .a (.store 2 (r 7) (r 19)), none⟩]
def X_tree_Tree_Within_5 : List XItem := [⟨(some 20), .a (.load (some 2) (r 7)), none⟩, ⟨(some 21), .a (.load (some 2) (r 4)), none⟩, ⟨(some 22), .a (.eq false ⟨true, [.int
  (.i64), .int (.i64)]⟩ (r 20) (r 21)), none⟩]
def X_tree_Tree_Within_6 : List XItem := [⟨none, .a (.store 1 (r 6) (.const (.bool true))), none⟩]
def X_tree_Tree_Within_7 : XCode := (.ops X_tree_Tree_Within_4)
def X_tree_Tree_Within_8 : XCode := (.block 1 (.seq (.ops X_tree_Tree_Within_5) (.cond (r 22) (.seq (.ops X_tree_Tree_Within_6) .ret) .skip)))
def X_tree_Tree_Within_9 : List XItem := [⟨(some 23), .a (.load (some 2) (r 4)), none⟩, ⟨(some 24), .a (.load (some 2) (r 5)), none⟩, ⟨(some 25), .a (.eq false ⟨true, [.int
  (.i64), .int (.i64)]⟩ (r 23) (r 24)), none⟩, ⟨none, .a (.store 1 (r 6) (r 25)), none⟩]
/-- (*diorama/tree.Tree).Within -/
def X_tree_Tree_Within : XCode :=
 (.seq (.ops X_tree_Tree_Within_0) (.seq (.seq (.ops X_tree_Tree_Within_1) (.cond (r 15) (.seq (.ops X_tree_Tree_Within_2) .ret) .skip)) (.seq (.seq (.ops
  X_tree_Tree_Within_3) (.block 0 (.range (r 18) [19] X_tree_Tree_Within_7 X_tree_Tree_Within_8))) (.seq (.ops X_tree_Tree_Within_9) .ret))))
/-! slices.Insert[[]diorama/graph.entry,diorama/graph.entry] -/
def X_slices_Insert_entry_0 : List XItem := [⟨(some 6), .a (.mv (.const (.slice none 0 (.exact 0)))), none⟩]
def X_slices_Insert_entry_1 : List XItem := [⟨(some 10), .a (.mv (r 0)), none⟩, ⟨(some 11), .a (.mv (r 1)), none⟩, ⟨(some 12), .a (.slice 16 (r 10) (some (r 11)) none none),
  none⟩]
def X_slices_Insert_entry_2 : List XItem := [⟨(some 13), .a (.mv (r 2)), none⟩, ⟨(some 14), .a (.lenSlice (r 13)), none⟩, ⟨(some 7), .a (.mv (r 14)), none⟩]
def X_slices_Insert_entry_3 : List XItem := [⟨(some 15), .a (.mv (r 7)), none⟩, ⟨(some 16), .a (.bin (.eql) (r 15) (.const (.int (.i64) 0))), none⟩]
def X_slices_Insert_entry_4 : List XItem := [⟨(some 17), .a (.mv (r 0)), none⟩, ⟨(some 6), .a (.mv (r 17)), none⟩]
def X_slices_Insert_entry_5 : List XItem := [⟨(some 18), .a (.mv (r 0)), none⟩, ⟨(some 19), .a (.lenSlice (r 18)), none⟩, ⟨(some 8), .a (.mv (r 19)), none⟩]
def X_slices_Insert_entry_6 : List XItem := [⟨(some 20), .a (.mv (r 1)), none⟩, ⟨(some 21), .a (.mv (r 8)), none⟩, ⟨(some 22), .a (.bin (.eql) (r 20) (r 21)), none⟩]
def X_slices_Insert_entry_7 : List XItem := [⟨(some 23), .a (.mv (r 0)), none⟩, ⟨(some 24), .a (.mv (r 2)), none⟩, ⟨(some 25), .a (.append 16 160 (r 23) (r 24)), none⟩, ⟨(some
  6), .a (.mv (r 25)), none⟩]
def X_slices_Insert_entry_8 : List XItem := [⟨(some 26), .a (.mv (r 8)), none⟩, ⟨(some 27), .a (.mv (r 7)), none⟩, ⟨(some 28), .a (.bin (.add) (r 26) (r 27)), none⟩, ⟨(some
  29), .a (.mv (r 0)), none⟩, ⟨(some 30), .a (.capSl (r 29)), none⟩, ⟨(some 31), .a (.bin (.gtr) (r 28) (r 30)), none⟩]
def X_slices_Insert_entry_9 : List XItem := [⟨(some 32), .a (.mv (r 0)), none⟩, ⟨(some 33), .a (.mv (r 1)), none⟩, ⟨(some 34), .a (.slice 16 (r 32) none (some (r 33)) none),
  none⟩, ⟨(some 35), .a (.mv (r 8)), none⟩, ⟨(some 36), .a (.mv (r 7)), none⟩, ⟨(some 37), .a (.bin (.add) (r 35) (r 36)), none⟩, ⟨(some 38), .a (.mv (r 1)), none⟩, ⟨(some
  39), .a (.bin (.sub) (r 37) (r 38)), none⟩, ⟨(some 40), .a (.appendZ 16 160 [.int (.i64) 0, .int (.i64) 0, .int (.i64) 0, .int (.i64) 0, .int (.i64) 0, .int (.i64) 0,
  .int (.i64) 0, .str [], .slice none 0 (.exact 0), .int (.i64) 0, .int (.i64) 0, .int (.i64) 0, .str [], .bool false, .bool false, .nilFn] (r 34) (r 39)), none⟩, ⟨(some
  9), .a (.mv (r 40)), none⟩]
def X_slices_Insert_entry_10 : List XItem := [⟨(some 41), .a (.mv (r 9)), none⟩, ⟨(some 42), .a (.mv (r 1)), none⟩, ⟨(some 43), .a (.slice 16 (r 41) (some (r 42)) none none),
  none⟩, ⟨(some 44), .a (.mv (r 2)), none⟩, ⟨(some 45), .a (.copy 16 (r 43) (r 44)), none⟩]
def X_slices_Insert_entry_11 : Row := [i 46 (.mv (r 9)), i 47 (.mv (r 1)), i 48 (.mv (r 7)), i 49 (.bin (.add) (r 47) (r 48)), i 50 (.slice 16 (r 46) (some (r 49)) none none),
  i 51 (.mv (r 0)), i 52 (.mv (r 1)), i 53 (.slice 16 (r 51) (some (r 52)) none none), i 54 (.copy 16 (r 50) (r 53))]
def X_slices_Insert_entry_12 : List XItem := [⟨(some 55), .a (.mv (r 9)), none⟩, ⟨(some 6), .a (.mv (r 55)), none⟩]
def X_slices_Insert_entry_13 : List XItem := [⟨(some 56), .a (.mv (r 0)), none⟩, ⟨(some 57), .a (.mv (r 8)), none⟩, ⟨(some 58), .a (.mv (r 7)), none⟩, ⟨(some 59), .a (.bin
  (.add) (r 57) (r 58)), none⟩, ⟨(some 60), .a (.slice 16 (r 56) none (some (r 59)) none), none⟩, ⟨(some 0), .a (.mv (r 60)), none⟩]
def X_slices_Insert_entry_14 : List XItem := [⟨(some 61), .a (.mv (r 2)), none⟩, ⟨(some 62), .a (.mv (r 0)), none⟩, ⟨(some 63), .a (.mv (r 1)), none⟩, ⟨(some 64), .a (.mv (r
  7)), none⟩, ⟨(some 65), .a (.bin (.add) (r 63) (r 64)), none⟩, ⟨(some 66), .a (.slice 16 (r 62) (some (r 65)) none none), none⟩, ⟨(some 67), .a (.call (.func
  F_slices_overlaps_entry) [.tmp 61, .tmp 66]), none⟩, ⟨(some 68), .a (.un (.not) (r 67)), none⟩]
def X_slices_Insert_entry_15 : Row := [i 69 (.mv (r 0)), i 70 (.mv (r 1)), i 71 (.mv (r 7)), i 72 (.bin (.add) (r 70) (r 71)), i 73 (.slice 16 (r 69) (some (r 72)) none none),
  i 74 (.mv (r 0)), i 75 (.mv (r 1)), i 76 (.slice 16 (r 74) (some (r 75)) none none), i 77 (.copy 16 (r 73) (r 76))]
def X_slices_Insert_entry_16 : List XItem := [⟨(some 78), .a (.mv (r 0)), none⟩, ⟨(some 79), .a (.mv (r 1)), none⟩, ⟨(some 80), .a (.slice 16 (r 78) (some (r 79)) none none),
  none⟩, ⟨(some 81), .a (.mv (r 2)), none⟩, ⟨(some 82), .a (.copy 16 (r 80) (r 81)), none⟩]
def X_slices_Insert_entry_17 : List XItem := [⟨(some 83), .a (.mv (r 0)), none⟩, ⟨(some 6), .a (.mv (r 83)), none⟩]
def X_slices_Insert_entry_18 : List XItem := [⟨(some 84), .a (.mv (r 0)), none⟩, ⟨(some 85), .a (.mv (r 8)), none⟩, ⟨(some 86), .a (.slice 16 (r 84) (some (r 85)) none none),
  none⟩, ⟨(some 87), .a (.mv (r 2)), none⟩, ⟨(some 88), .a (.copy 16 (r 86) (r 87)), none⟩]
def X_slices_Insert_entry_19 : List XItem := [⟨(some 89), .a (.mv (r 0)), none⟩, ⟨(some 90), .a (.mv (r 1)), none⟩, ⟨(some 91), .a (.slice 16 (r 89) (some (r 90)) none none),
  none⟩, ⟨(some 92), .a (.mv (r 7)), none⟩, ⟨(some 93), .a (.call (.func F_slices_rotateRight_entry) [.tmp 91, .tmp 92]), none⟩]
def X_slices_Insert_entry_20 : List XItem := [⟨(some 94), .a (.mv (r 0)), none⟩, ⟨(some 6), .a (.mv (r 94)), none⟩]
/-- slices.Insert[[]diorama/graph.entry,diorama/graph.entry] -/
def X_slices_Insert_entry : XCode :=
 (.seq (.ops X_slices_Insert_entry_0) (.seq (.ops X_slices_Insert_entry_1) (.seq (.ops X_slices_Insert_entry_2) (.seq (.seq (.ops X_slices_Insert_entry_3) (.cond (r 16)
  (.seq (.ops X_slices_Insert_entry_4) .ret) .skip)) (.seq (.ops X_slices_Insert_entry_5) (.seq (.seq (.ops X_slices_Insert_entry_6) (.cond (r 22) (.seq (.ops
  X_slices_Insert_entry_7) .ret) .skip)) (.seq (.seq (.ops X_slices_Insert_entry_8) (.cond (r 31) (.seq (.ops X_slices_Insert_entry_9) (.seq (.ops
  X_slices_Insert_entry_10) (.seq (.dops X_slices_Insert_entry_11) (.seq (.ops X_slices_Insert_entry_12) .ret)))) .skip)) (.seq (.ops X_slices_Insert_entry_13) (.seq (.seq
  (.ops X_slices_Insert_entry_14) (.cond (r 68) (.seq (.dops X_slices_Insert_entry_15) (.seq (.ops X_slices_Insert_entry_16) (.seq (.ops X_slices_Insert_entry_17) .ret)))
  .skip)) (.seq (.ops X_slices_Insert_entry_18) (.seq (.ops X_slices_Insert_entry_19) (.seq (.ops X_slices_Insert_entry_20) .ret))))))))))))
/-! (*diorama/tree.Tree).Above -/
def X_tree_Tree_Above_0 : List XItem := [⟨(some 3), .a (.box (r 1)), none⟩, ⟨(some 4), .a (.mv (.const (.slice none 0 (.exact 0)))), none⟩]
def X_tree_Tree_Above_1 : List XItem := [⟨(some 5), .a (.mv (r 0)), none⟩, ⟨(some 6), .a (.call (.func F_tree_Tree_none) [.tmp 5]), none⟩]
def X_tree_Tree_Above_2 : List XItem := [⟨(some 4), .a (.mv (.const (.slice none 0 (.exact 0)))), none⟩]
def X_tree_Tree_Above_3 : List XItem := [⟨(some 7), .a (.mv (r 0)), none⟩, ⟨(some 8), .a (.load (some 2) (r 3)), none⟩, ⟨(some 9), .a (.call (.func F_tree_Tree_up) [.tmp 7,
  .tmp 8]), none⟩, ⟨(some 10), .a (.call (.func F_slices_Collect_Stamp) [.tmp 9]), none⟩, ⟨(some 4), .a (.mv (r 10)), none⟩]
/-- (*diorama/tree.Tree).Above -/
def X_tree_Tree_Above : XCode :=
 (.seq (.ops X_tree_Tree_Above_0) (.seq (.seq (.ops X_tree_Tree_Above_1) (.cond (r 6) (.seq (.ops X_tree_Tree_Above_2) .ret) .skip)) (.seq (.ops X_tree_Tree_Above_3)
  .ret)))
/-! maps.Equal[map[diorama/api.Stamp]diorama/api.Stamp,map[diorama/api.Stamp]diorama/api.Stamp,diorama/api.Stamp,diorama/api.Stamp] -/
def X_maps_Equal_Stamp_0 : List XItem := [⟨(some 4), .a (.mv (.const (.bool false))), none⟩]
def X_maps_Equal_Stamp_1 : List XItem := [⟨(some 9), .a (.mv (r 0)), none⟩, ⟨(some 10), .a (.lenMap (r 9)), none⟩, ⟨(some 11), .a (.mv (r 1)), none⟩, ⟨(some 12), .a (.lenMap
  (r 11)), none⟩, ⟨(some 13), .a (.bin (.neq) (r 10) (r 12)), none⟩]
def X_maps_Equal_Stamp_2 : List XItem := [⟨(some 4), .a (.mv (.const (.bool false))), none⟩]
def X_maps_Equal_Stamp_3 : List XItem := [⟨(some 14), .a (.mv (r 0)), none⟩, ⟨(some 15), .rangeMap (r 14), none⟩]
def X_maps_Equal_Stamp_4 : List XItem := [⟨(some 16), .nextMap (r 15), none⟩, ⟨(some 17), .a (.extract (r 16) 0), none⟩]
def X_maps_Equal_Stamp_5 : List XItem := [⟨(some 18), .entryMap (r 15), none⟩, ⟨(some 19), .a (.extract (r 18) 0), none⟩, ⟨(some 20), .a (.extract (r 18) 1), none⟩, ⟨(some 5),
  .a (.alloc [.int (.i64) 0, .int (.i64) 0]), none⟩, ⟨(some 6), .a (.alloc [.int (.i64) 0, .int (.i64) 0]), none⟩, ⟨none, .a (.store 2 (r 5) (r 19)), none⟩, ⟨none, .a
  (.store 2 (r 6) (r 20)), none⟩]
def X_maps_Equal_Stamp_6 : List XItem := [⟨(some 22), .a (.mv (r 1)), none⟩, ⟨(some 23), .a (.load (some 2) (r 5)), none⟩, ⟨(some 24), .a (.lookup ⟨true, [.int (.i64), .int
  (.i64)]⟩ (.agg [.int (.i64) 0, .int (.i64) 0]) true (r 22) (r 23)), none⟩, ⟨(some 21), .a (.mv (r 24)), none⟩, ⟨(some 25), .a (.extract (r 21) 0), none⟩, ⟨(some 26), .a
  (.extract (r 21) 1), none⟩, ⟨(some 7), .a (.alloc [.int (.i64) 0, .int (.i64) 0]), none⟩, ⟨none, .a (.store 2 (r 7) (r 25)), none⟩, ⟨(some 8), .a (.mv (r 26)), none⟩]
def X_maps_Equal_Stamp_7 : List XItem := [⟨(some 27), .a (.mv (r 8)), none⟩, ⟨(some 28), .a (.un (.not) (r 27)), none⟩, ⟨(some 29), .a (.mv (r 28)), none⟩, ⟨(some 30), .a
  (.load (some 2) (r 6)), (some (29, false))⟩, ⟨(some 31), .a (.load (some 2) (r 7)), (some (29, false))⟩, ⟨(some 32), .a (.eq true ⟨true, [.int (.i64), .int (.i64)]⟩ (r
  30) (r 31)), (some (29, false))⟩, ⟨(some 33), .a (.pick (r 29) (.const (.bool true)) (r 32)), none⟩]
def X_maps_Equal_Stamp_8 : List XItem := [⟨(some 4), .a (.mv (.const (.bool false))), none⟩]
def X_maps_Equal_Stamp_9 : XCode := (.seq (.ops X_maps_Equal_Stamp_4) (.seq (.cond (r 17) .skip (.exit 0)) (.block 1 (.seq (.ops X_maps_Equal_Stamp_5) (.seq (.ops
  X_maps_Equal_Stamp_6) (.seq (.ops X_maps_Equal_Stamp_7) (.cond (r 33) (.seq (.ops X_maps_Equal_Stamp_8) .ret) .skip)))))))
def X_maps_Equal_Stamp_10 : List XItem := [⟨(some 4), .a (.mv (.const (.bool true))), none⟩]
/-- maps.Equal[map[diorama/api.Stamp]diorama/api.Stamp,map[diorama/api.Stamp]diorama/api.Stamp,diorama/api.Stamp,diorama/api.Stamp] -/
def X_maps_Equal_Stamp : XCode :=
 (.seq (.ops X_maps_Equal_Stamp_0) (.seq (.seq (.ops X_maps_Equal_Stamp_1) (.cond (r 13) (.seq (.ops X_maps_Equal_Stamp_2) .ret) .skip)) (.seq (.seq (.ops
  X_maps_Equal_Stamp_3) (.block 0 (.loop X_maps_Equal_Stamp_9))) (.seq (.ops X_maps_Equal_Stamp_10) .ret))))
/-! slices.SortedFunc[diorama/order.Sib] -/
def X_slices_SortedFunc_Sib_0 : List XItem := [⟨(some 4), .a (.mv (.const (.slice none 0 (.exact 0)))), none⟩]
def X_slices_SortedFunc_Sib_1 : List XItem := [⟨(some 6), .a (.mv (r 0)), none⟩, ⟨(some 7), .a (.call (.func F_slices_Collect_Sib) [.tmp 6]), none⟩, ⟨(some 5), .a (.mv (r 7)),
  none⟩]
def X_slices_SortedFunc_Sib_2 : List XItem := [⟨(some 8), .a (.mv (r 5)), none⟩, ⟨(some 9), .a (.mv (r 1)), none⟩, ⟨(some 10), .a (.call (.func F_slices_SortFunc_Sib) [.tmp 8,
  .tmp 9]), none⟩]
def X_slices_SortedFunc_Sib_3 : List XItem := [⟨(some 11), .a (.mv (r 5)), none⟩, ⟨(some 4), .a (.mv (r 11)), none⟩]
/-- slices.SortedFunc[diorama/order.Sib] -/
def X_slices_SortedFunc_Sib : XCode :=
 (.seq (.ops X_slices_SortedFunc_Sib_0) (.seq (.ops X_slices_SortedFunc_Sib_1) (.seq (.ops X_slices_SortedFunc_Sib_2) (.seq (.ops X_slices_SortedFunc_Sib_3) .ret))))
/-! slices.SortedFunc[diorama/api.Stamp] -/
def X_slices_SortedFunc_Stamp_0 : List XItem := [⟨(some 4), .a (.mv (.const (.slice none 0 (.exact 0)))), none⟩]
def X_slices_SortedFunc_Stamp_1 : List XItem := [⟨(some 6), .a (.mv (r 0)), none⟩, ⟨(some 7), .a (.call (.func F_slices_Collect_Stamp) [.tmp 6]), none⟩, ⟨(some 5), .a (.mv (r
  7)), none⟩]
def X_slices_SortedFunc_Stamp_2 : List XItem := [⟨(some 8), .a (.mv (r 5)), none⟩, ⟨(some 9), .a (.mv (r 1)), none⟩, ⟨(some 10), .a (.call (.func F_slices_SortFunc_Stamp)
  [.tmp 8, .tmp 9]), none⟩]
def X_slices_SortedFunc_Stamp_3 : List XItem := [⟨(some 11), .a (.mv (r 5)), none⟩, ⟨(some 4), .a (.mv (r 11)), none⟩]
/-- slices.SortedFunc[diorama/api.Stamp] -/
def X_slices_SortedFunc_Stamp : XCode :=
 (.seq (.ops X_slices_SortedFunc_Stamp_0) (.seq (.ops X_slices_SortedFunc_Stamp_1) (.seq (.ops X_slices_SortedFunc_Stamp_2) (.seq (.ops X_slices_SortedFunc_Stamp_3)
  .ret))))
/-! slices.Collect[diorama/api.Stamp] -/
def X_slices_Collect_Stamp_0 : List XItem := [⟨(some 2), .a (.mv (.const (.slice none 0 (.exact 0)))), none⟩]
def X_slices_Collect_Stamp_1 : List XItem := [⟨(some 3), .a (.mv (r 0)), none⟩, ⟨(some 4), .a (.call (.func F_slices_AppendSeq_Stamp) [.const (.slice none 0 (.exact 0)), .tmp
  3]), none⟩, ⟨(some 2), .a (.mv (r 4)), none⟩]
/-- slices.Collect[diorama/api.Stamp] -/
def X_slices_Collect_Stamp : XCode :=
 (.seq (.ops X_slices_Collect_Stamp_0) (.seq (.ops X_slices_Collect_Stamp_1) .ret))
/-! maps.Equal[map[diorama/api.Stamp]diorama/tree.Spot,map[diorama/api.Stamp]diorama/tree.Spot,diorama/api.Stamp,diorama/tree.Spot] -/
def X_maps_Equal_Stamp_Spot_0 : List XItem := [⟨(some 4), .a (.mv (.const (.bool false))), none⟩]
def X_maps_Equal_Stamp_Spot_1 : List XItem := [⟨(some 9), .a (.mv (r 0)), none⟩, ⟨(some 10), .a (.lenMap (r 9)), none⟩, ⟨(some 11), .a (.mv (r 1)), none⟩, ⟨(some 12), .a
  (.lenMap (r 11)), none⟩, ⟨(some 13), .a (.bin (.neq) (r 10) (r 12)), none⟩]
def X_maps_Equal_Stamp_Spot_2 : List XItem := [⟨(some 4), .a (.mv (.const (.bool false))), none⟩]
def X_maps_Equal_Stamp_Spot_3 : List XItem := [⟨(some 14), .a (.mv (r 0)), none⟩, ⟨(some 15), .rangeMap (r 14), none⟩]
def X_maps_Equal_Stamp_Spot_4 : List XItem := [⟨(some 16), .nextMap (r 15), none⟩, ⟨(some 17), .a (.extract (r 16) 0), none⟩]
def X_maps_Equal_Stamp_Spot_5 : List XItem := [⟨(some 18), .entryMap (r 15), none⟩, ⟨(some 19), .a (.extract (r 18) 0), none⟩, ⟨(some 20), .a (.extract (r 18) 1), none⟩,
  ⟨(some 5), .a (.alloc [.int (.i64) 0, .int (.i64) 0]), none⟩, ⟨(some 6), .a (.alloc [.int (.i64) 0, .int (.i64) 0, .str []]), none⟩, ⟨none, .a (.store 2 (r 5) (r 19)),
  none⟩, ⟨none, .a (.store 3 (r 6) (r 20)), none⟩]
def X_maps_Equal_Stamp_Spot_6 : List XItem := [⟨(some 22), .a (.mv (r 1)), none⟩, ⟨(some 23), .a (.load (some 2) (r 5)), none⟩, ⟨(some 24), .a (.lookup ⟨true, [.int (.i64),
  .int (.i64)]⟩ (.agg [.int (.i64) 0, .int (.i64) 0, .str []]) true (r 22) (r 23)), none⟩, ⟨(some 21), .a (.mv (r 24)), none⟩, ⟨(some 25), .a (.extract (r 21) 0), none⟩,
  ⟨(some 26), .a (.extract (r 21) 1), none⟩, ⟨(some 7), .a (.alloc [.int (.i64) 0, .int (.i64) 0, .str []]), none⟩, ⟨none, .a (.store 3 (r 7) (r 25)), none⟩, ⟨(some 8), .a
  (.mv (r 26)), none⟩]
def X_maps_Equal_Stamp_Spot_7 : List XItem := [⟨(some 27), .a (.mv (r 8)), none⟩, ⟨(some 28), .a (.un (.not) (r 27)), none⟩, ⟨(some 29), .a (.mv (r 28)), none⟩, ⟨(some 30), .a
  (.load (some 3) (r 6)), (some (29, false))⟩, ⟨(some 31), .a (.load (some 3) (r 7)), (some (29, false))⟩, ⟨(some 32), .a (.eq true ⟨true, [.int (.i64), .int (.i64),
  .str]⟩ (r 30) (r 31)), (some (29, false))⟩, ⟨(some 33), .a (.pick (r 29) (.const (.bool true)) (r 32)), none⟩]
def X_maps_Equal_Stamp_Spot_8 : List XItem := [⟨(some 4), .a (.mv (.const (.bool false))), none⟩]
def X_maps_Equal_Stamp_Spot_9 : XCode := (.seq (.ops X_maps_Equal_Stamp_Spot_4) (.seq (.cond (r 17) .skip (.exit 0)) (.block 1 (.seq (.ops X_maps_Equal_Stamp_Spot_5) (.seq
  (.ops X_maps_Equal_Stamp_Spot_6) (.seq (.ops X_maps_Equal_Stamp_Spot_7) (.cond (r 33) (.seq (.ops X_maps_Equal_Stamp_Spot_8) .ret) .skip)))))))
def X_maps_Equal_Stamp_Spot_10 : List XItem := [⟨(some 4), .a (.mv (.const (.bool true))), none⟩]
/-- maps.Equal[map[diorama/api.Stamp]diorama/tree.Spot,map[diorama/api.Stamp]diorama/tree.Spot,diorama/api.Stamp,diorama/tree.Spot] -/
def X_maps_Equal_Stamp_Spot : XCode :=
 (.seq (.ops X_maps_Equal_Stamp_Spot_0) (.seq (.seq (.ops X_maps_Equal_Stamp_Spot_1) (.cond (r 13) (.seq (.ops X_maps_Equal_Stamp_Spot_2) .ret) .skip)) (.seq (.seq (.ops
  X_maps_Equal_Stamp_Spot_3) (.block 0 (.loop X_maps_Equal_Stamp_Spot_9))) (.seq (.ops X_maps_Equal_Stamp_Spot_10) .ret))))
/-! slices.Collect[diorama/order.Sib] -/
def X_slices_Collect_Sib_0 : List XItem := [⟨(some 2), .a (.mv (.const (.slice none 0 (.exact 0)))), none⟩]
def X_slices_Collect_Sib_1 : List XItem := [⟨(some 3), .a (.mv (r 0)), none⟩, ⟨(some 4), .a (.call (.func F_slices_AppendSeq_Sib) [.const (.slice none 0 (.exact 0)), .tmp 3]),
  none⟩, ⟨(some 2), .a (.mv (r 4)), none⟩]
/-- slices.Collect[diorama/order.Sib] -/
def X_slices_Collect_Sib : XCode :=
 (.seq (.ops X_slices_Collect_Sib_0) (.seq (.ops X_slices_Collect_Sib_1) .ret))
/-! slices.Values[[]diorama/order.Sib,diorama/order.Sib]$1 -/
def X_slices_Values_Sib_c1_0 : List XItem := [⟨(some 5), .a (.load none (r 1)), none⟩, ⟨(some 6), .a (.lenSlice (r 5)), none⟩, ⟨(some 7), .a (.mv (.const (.int (.i64) 0))),
  none⟩]
def X_slices_Values_Sib_c1_1 : List XItem := [⟨(some 8), .a (.bin (.lss) (r 7) (r 6)), none⟩]
def X_slices_Values_Sib_c1_2 : List XItem := [⟨(some 9), .a (.indexAddr 3 (r 5) (r 7)), none⟩, ⟨(some 10), .a (.load (some 3) (r 9)), none⟩, ⟨(some 4), .a (.alloc [.str [],
  .int (.i64) 0, .int (.i64) 0]), none⟩, ⟨none, .a (.store 3 (r 4) (r 10)), none⟩]
def X_slices_Values_Sib_c1_3 : List XItem := [⟨(some 11), .a (.mv (r 0)), none⟩, ⟨(some 12), .a (.load (some 3) (r 4)), none⟩, ⟨(some 13), .a (.call (r 11) [.tmp 12]), none⟩,
  ⟨(some 14), .a (.un (.not) (r 13)), none⟩]
def X_slices_Values_Sib_c1_4 : List XItem := [⟨(some 15), .a (.bin (.add) (r 7) (.const (.int (.i64) 1))), none⟩, ⟨(some 7), .a (.mv (r 15)), none⟩]
def X_slices_Values_Sib_c1_5 : XCode := (.seq (.ops X_slices_Values_Sib_c1_1) (.seq (.cond (r 8) .skip (.exit 0)) (.seq (.block 1 (.seq (.ops X_slices_Values_Sib_c1_2) (.seq
  (.ops X_slices_Values_Sib_c1_3) (.cond (r 14) .ret .skip)))) (.ops X_slices_Values_Sib_c1_4))))
/-- slices.Values[[]diorama/order.Sib,diorama/order.Sib]$1 -/
def X_slices_Values_Sib_c1 : XCode :=
 (.seq (.ops X_slices_Values_Sib_c1_0) (.block 0 (.loop X_slices_Values_Sib_c1_5)))
/-! (*diorama/tree.Tree).up$1 -/
def X_tree_Tree_up_c1_0 : Row := [i 7 (.load none (r 1)), i 8 (.nilCheck (r 7)), i 9 (.fieldAddr 0 (r 8)), i 10 (.load none (r 9)), i 11 (.load (some 2) (r 2)), i 12 (.lookup
  ⟨true, [.int (.i64), .int (.i64)]⟩ (.agg [.int (.i64) 0, .int (.i64) 0, .str []]) true (r 10) (r 11)), i 6 (.mv (r 12)), i 13 (.extract (r 6) 0), i 14 (.extract (r 6)
  1), i 4 (.alloc [.int (.i64) 0, .int (.i64) 0, .str []]), i0 (.store 3 (r 4) (r 13)), i 5 (.mv (r 14))]
def X_tree_Tree_up_c1_1 : List XItem := [⟨(some 15), .a (.mv (r 5)), none⟩]
def X_tree_Tree_up_c1_2 : List XItem := [⟨(some 26), .a (.mv (r 0)), none⟩, ⟨(some 27), .a (.fieldAddr 0 (r 4)), none⟩, ⟨(some 28), .a (.load (some 2) (r 27)), none⟩, ⟨(some
  29), .a (.call (r 26) [.tmp 28]), none⟩, ⟨(some 30), .a (.un (.not) (r 29)), none⟩]
def X_tree_Tree_up_c1_3 : List XItem := [⟨(some 31), .a (.load (some 3) (r 4)), none⟩]
def X_tree_Tree_up_c1_4 : List XItem := [⟨(some 4), .a (.alloc [.int (.i64) 0, .int (.i64) 0, .str []]), none⟩, ⟨none, .a (.store 3 (r 4) (r 31)), none⟩]
def X_tree_Tree_up_c1_5 : Row := [i 17 (.load none (r 1)), i 18 (.nilCheck (r 17)), i 19 (.fieldAddr 0 (r 18)), i 20 (.load none (r 19)), i 21 (.fieldAddr 0 (r 4)), i 22
  (.load (some 2) (r 21)), i 23 (.lookup ⟨true, [.int (.i64), .int (.i64)]⟩ (.agg [.int (.i64) 0, .int (.i64) 0, .str []]) true (r 20) (r 22)), i 16 (.mv (r 23)), i 24
  (.extract (r 16) 0), i 25 (.extract (r 16) 1), i0 (.store 3 (r 4) (r 24)), i 5 (.mv (r 25))]
def X_tree_Tree_up_c1_6 : XCode := (.seq (.seq (.ops X_tree_Tree_up_c1_1) (.cond (r 15) .skip (.exit 0))) (.seq (.block 1 (.seq (.ops X_tree_Tree_up_c1_2) (.cond (r 30) .ret
  .skip))) (.seq (.seq (.ops X_tree_Tree_up_c1_3) (.ops X_tree_Tree_up_c1_4)) (.dops X_tree_Tree_up_c1_5))))
/-- (*diorama/tree.Tree).up$1 -/
def X_tree_Tree_up_c1 : XCode :=
 (.seq (.dops X_tree_Tree_up_c1_0) (.block 0 (.loop X_tree_Tree_up_c1_6)))
/-! maps.Keys[map[diorama/api.Stamp]diorama/tree.Spot,diorama/api.Stamp,diorama/tree.Spot]$1 -/
def X_maps_Keys_Stamp_Spot_c1_0 : List XItem := [⟨(some 4), .a (.load none (r 1)), none⟩, ⟨(some 5), .rangeMap (r 4), none⟩]
def X_maps_Keys_Stamp_Spot_c1_1 : List XItem := [⟨(some 6), .nextMap (r 5), none⟩, ⟨(some 7), .a (.extract (r 6) 0), none⟩]
def X_maps_Keys_Stamp_Spot_c1_2 : List XItem := [⟨(some 8), .entryMap (r 5), none⟩, ⟨(some 9), .a (.extract (r 8) 0), none⟩, ⟨(some 3), .a (.alloc [.int (.i64) 0, .int (.i64)
  0]), none⟩, ⟨none, .a (.store 2 (r 3) (r 9)), none⟩]
def X_maps_Keys_Stamp_Spot_c1_3 : List XItem := [⟨(some 10), .a (.mv (r 0)), none⟩, ⟨(some 11), .a (.load (some 2) (r 3)), none⟩, ⟨(some 12), .a (.call (r 10) [.tmp 11]),
  none⟩, ⟨(some 13), .a (.un (.not) (r 12)), none⟩]
def X_maps_Keys_Stamp_Spot_c1_4 : XCode := (.seq (.ops X_maps_Keys_Stamp_Spot_c1_1) (.seq (.cond (r 7) .skip (.exit 0)) (.block 1 (.seq (.ops X_maps_Keys_Stamp_Spot_c1_2)
  (.seq (.ops X_maps_Keys_Stamp_Spot_c1_3) (.cond (r 13) .ret .skip))))))
/-- maps.Keys[map[diorama/api.Stamp]diorama/tree.Spot,diorama/api.Stamp,diorama/tree.Spot]$1 -/
def X_maps_Keys_Stamp_Spot_c1 : XCode :=
 (.seq (.ops X_maps_Keys_Stamp_Spot_c1_0) (.block 0 (.loop X_maps_Keys_Stamp_Spot_c1_4)))
/-! slices.AppendSeq[[]diorama/api.Stamp,diorama/api.Stamp] -/
def X_slices_AppendSeq_Stamp_0 : List XItem := [⟨(some 2), .a (.box (r 0)), none⟩, ⟨(some 4), .a (.mv (.const (.slice none 0 (.exact 0)))), none⟩]
def X_slices_AppendSeq_Stamp_1 : List XItem := [⟨(some 6), .a (.mv (r 1)), none⟩]
def X_slices_AppendSeq_Stamp_2 : List XItem := [⟨(some 5), .a (.alloc [.int (.i64) 0, .int (.i64) 0]), none⟩, ⟨none, .a (.store 2 (r 5) (r 7)), none⟩]
def X_slices_AppendSeq_Stamp_3 : List XItem := [⟨(some 8), .a (.load none (r 2)), none⟩, ⟨(some 9), .a (.load (some 2) (r 5)), none⟩, ⟨(some 10), .a (.buildSlice 1 [.int
  (.i64) 0, .int (.i64) 0] [(0, 2, .tmp 9)]), none⟩, ⟨(some 11), .a (.append 2 16 (r 8) (r 10)), none⟩, ⟨none, .a (.store 1 (r 2) (r 11)), none⟩]
def X_slices_AppendSeq_Stamp_4 : XCode := (.ops X_slices_AppendSeq_Stamp_2)
def X_slices_AppendSeq_Stamp_5 : XCode := (.block 1 (.ops X_slices_AppendSeq_Stamp_3))
def X_slices_AppendSeq_Stamp_6 : List XItem := [⟨(some 12), .a (.load none (r 2)), none⟩, ⟨(some 4), .a (.mv (r 12)), none⟩]
/-- slices.AppendSeq[[]diorama/api.Stamp,diorama/api.Stamp] -/
def X_slices_AppendSeq_Stamp : XCode :=
 (.seq (.ops X_slices_AppendSeq_Stamp_0) (.seq (.seq (.ops X_slices_AppendSeq_Stamp_1) (.block 0 (.range (r 6) [7] X_slices_AppendSeq_Stamp_4 X_slices_AppendSeq_Stamp_5)))
  (.seq (.ops X_slices_AppendSeq_Stamp_6) .ret)))
/-! slices.AppendSeq[[]diorama/order.Sib,diorama/order.Sib] -/
def X_slices_AppendSeq_Sib_0 : List XItem := [⟨(some 2), .a (.box (r 0)), none⟩, ⟨(some 4), .a (.mv (.const (.slice none 0 (.exact 0)))), none⟩]
def X_slices_AppendSeq_Sib_1 : List XItem := [⟨(some 6), .a (.mv (r 1)), none⟩]
def X_slices_AppendSeq_Sib_2 : List XItem := [⟨(some 5), .a (.alloc [.str [], .int (.i64) 0, .int (.i64) 0]), none⟩, ⟨none, .a (.store 3 (r 5) (r 7)), none⟩]
def X_slices_AppendSeq_Sib_3 : List XItem := [⟨(some 8), .a (.load none (r 2)), none⟩, ⟨(some 9), .a (.load (some 3) (r 5)), none⟩, ⟨(some 10), .a (.buildSlice 1 [.str [],
  .int (.i64) 0, .int (.i64) 0] [(0, 3, .tmp 9)]), none⟩, ⟨(some 11), .a (.append 3 32 (r 8) (r 10)), none⟩, ⟨none, .a (.store 1 (r 2) (r 11)), none⟩]
def X_slices_AppendSeq_Sib_4 : XCode := (.ops X_slices_AppendSeq_Sib_2)
def X_slices_AppendSeq_Sib_5 : XCode := (.block 1 (.ops X_slices_AppendSeq_Sib_3))
def X_slices_AppendSeq_Sib_6 : List XItem := [⟨(some 12), .a (.load none (r 2)), none⟩, ⟨(some 4), .a (.mv (r 12)), none⟩]
/-- slices.AppendSeq[[]diorama/order.Sib,diorama/order.Sib] -/
def X_slices_AppendSeq_Sib : XCode :=
 (.seq (.ops X_slices_AppendSeq_Sib_0) (.seq (.seq (.ops X_slices_AppendSeq_Sib_1) (.block 0 (.range (r 6) [7] X_slices_AppendSeq_Sib_4 X_slices_AppendSeq_Sib_5))) (.seq
  (.ops X_slices_AppendSeq_Sib_6) .ret)))
def gl0 : Nat → Bool := fun g => Nat.ble (g + 1) 2
set_option maxRecDepth 100000
theorem c_law13_GraphNil : cFunc Tryz.prog gl0 Tryz.f6 = some A_law13_GraphNil := by kernel_rfl
theorem c_law11_knows : cFunc Tryz.prog gl0 Tryz.f8 = some A_law11_knows := by kernel_rfl
theorem c_tree_New : cFunc Tryz.prog gl0 Tryz.f9 = some A_tree_New := by kernel_rfl
theorem c_tree_Tree_Add : cFunc Tryz.prog gl0 Tryz.f10 = some A_tree_Tree_Add := by kernel_rfl
theorem c_law10_Own : cFunc Tryz.prog gl0 Tryz.f11 = some A_law10_Own := by kernel_rfl
theorem c_tree_Tree_Move : cFunc Tryz.prog gl0 Tryz.f13 = some A_tree_Tree_Move := by kernel_rfl
theorem c_order_Row : cFunc Tryz.prog gl0 Tryz.f16 = some A_order_Row := by kernel_rfl
theorem c_law13_Light : cFunc Tryz.prog gl0 Tryz.f18 = some A_law13_Light := by kernel_rfl
theorem c_law13_knows : cFunc Tryz.prog gl0 Tryz.f19 = some A_law13_knows := by kernel_rfl
theorem c_graph_New : cFunc Tryz.prog gl0 Tryz.f20 = some A_graph_New := by kernel_rfl
theorem c_graph_Graph_Insert : cFunc Tryz.prog gl0 Tryz.f21 = some A_graph_Graph_Insert := by kernel_rfl
theorem c_law07_Own : cFunc Tryz.prog gl0 Tryz.f22 = some A_law07_Own := by kernel_rfl
theorem c_graph_Graph_Nodes : cFunc Tryz.prog gl0 Tryz.f23 = some A_graph_Graph_Nodes := by kernel_rfl
theorem c_graph_Graph_Above : cFunc Tryz.prog gl0 Tryz.f24 = some A_graph_Graph_Above := by kernel_rfl
theorem c_graph_Graph_Spot : cFunc Tryz.prog gl0 Tryz.f25 = some A_graph_Graph_Spot := by kernel_rfl
theorem c_graph_Graph_Reaches : cFunc Tryz.prog gl0 Tryz.f26 = some A_graph_Graph_Reaches := by kernel_rfl
theorem c_graph_Graph_Ref : cFunc Tryz.prog gl0 Tryz.f27 = some A_graph_Graph_Ref := by kernel_rfl
theorem c_graph_Graph_Has : cFunc Tryz.prog gl0 Tryz.f28 = some A_graph_Graph_Has := by kernel_rfl
theorem c_graph_Graph_Row : cFunc Tryz.prog gl0 Tryz.f29 = some A_graph_Graph_Row := by kernel_rfl
theorem c_graph_Graph_Clone : cFunc Tryz.prog gl0 Tryz.f30 = some A_graph_Graph_Clone := by kernel_rfl
theorem c_law13_num : cFunc Tryz.prog gl0 Tryz.f32 = some A_law13_num := by kernel_rfl
theorem c_graph_Graph_Count : cFunc Tryz.prog gl0 Tryz.f33 = some A_graph_Graph_Count := by kernel_rfl
theorem c_graph_Graph_Same : cFunc Tryz.prog gl0 Tryz.f34 = some A_graph_Graph_Same := by kernel_rfl
theorem c_graph_Graph_Done : cFunc Tryz.prog gl0 Tryz.f38 = some A_graph_Graph_Done := by kernel_rfl
theorem c_order_Sort : cFunc Tryz.prog gl0 Tryz.f40 = some A_order_Sort := by kernel_rfl
theorem c_order_Key : cFunc Tryz.prog gl0 Tryz.f41 = some A_order_Key := by kernel_rfl
theorem c_law11_num : cFunc Tryz.prog gl0 Tryz.f42 = some A_law11_num := by kernel_rfl
theorem c_order_Find : cFunc Tryz.prog gl0 Tryz.f43 = some A_order_Find := by kernel_rfl
theorem c_tree_Tree_none : cFunc Tryz.prog gl0 Tryz.f44 = some A_tree_Tree_none := by kernel_rfl
theorem c_op_Node : cFunc Tryz.prog gl0 Tryz.f45 = some A_op_Node := by kernel_rfl
theorem c_tree_Spot_right : cFunc Tryz.prog gl0 Tryz.f46 = some A_tree_Spot_right := by kernel_rfl
theorem c_tree_Tree_node : cFunc Tryz.prog gl0 Tryz.f47 = some A_tree_Tree_node := by kernel_rfl
theorem c_tree_Tree_Has : cFunc Tryz.prog gl0 Tryz.f48 = some A_tree_Tree_Has := by kernel_rfl
theorem c_ref10_Tree_find : cFunc Tryz.prog gl0 Tryz.f49 = some A_ref10_Tree_find := by kernel_rfl
theorem c_ref07_Node : cFunc Tryz.prog gl0 Tryz.f50 = some A_ref07_Node := by kernel_rfl
theorem c_ref10_Right : cFunc Tryz.prog gl0 Tryz.f51 = some A_ref10_Right := by kernel_rfl
theorem c_ref10_Tree_Has : cFunc Tryz.prog gl0 Tryz.f52 = some A_ref10_Tree_Has := by kernel_rfl
theorem c_tree_Tree_Below : cFunc Tryz.prog gl0 Tryz.f55 = some A_tree_Tree_Below := by kernel_rfl
theorem c_tree_Tree_Spot : cFunc Tryz.prog gl0 Tryz.f56 = some A_tree_Tree_Spot := by kernel_rfl
theorem c_law13_ref12Light : cFunc Tryz.prog gl0 Tryz.f58 = some A_law13_ref12Light := by kernel_rfl
theorem c_graph_Graph_none : cFunc Tryz.prog gl0 Tryz.f59 = some A_graph_Graph_none := by kernel_rfl
theorem c_op_Right : cFunc Tryz.prog gl0 Tryz.f60 = some A_op_Right := by kernel_rfl
theorem c_graph_Graph_place : cFunc Tryz.prog gl0 Tryz.f61 = some A_graph_Graph_place := by kernel_rfl
theorem c_graph_entry_do : cFunc Tryz.prog gl0 Tryz.f63 = some A_graph_entry_do := by kernel_rfl
theorem c_tree_Tree_Nodes : cFunc Tryz.prog gl0 Tryz.f64 = some A_tree_Tree_Nodes := by kernel_rfl
theorem c_graph_Graph_next : cFunc Tryz.prog gl0 Tryz.f66 = some A_graph_Graph_next := by kernel_rfl
theorem c_slices_Clone_entry : cFunc Tryz.prog gl0 Tryz.f67 = some A_slices_Clone_entry := by kernel_rfl
theorem c_tree_Tree_Clone : cFunc Tryz.prog gl0 Tryz.f68 = some A_tree_Tree_Clone := by kernel_rfl
theorem c_ref02_Compare : cFunc Tryz.prog gl0 Tryz.f71 = some A_ref02_Compare := by kernel_rfl
theorem c_tree_Tree_Same : cFunc Tryz.prog gl0 Tryz.f72 = some A_tree_Tree_Same := by kernel_rfl
theorem c_ref07_Trash : cFunc Tryz.prog gl0 Tryz.f74 = some A_ref07_Trash := by kernel_rfl
theorem c_ref10_Tree_Spot : cFunc Tryz.prog gl0 Tryz.f77 = some A_ref10_Tree_Spot := by kernel_rfl
theorem c_order_Sort_c1 : cFunc Tryz.prog gl0 Tryz.f82 = some A_order_Sort_c1 := by kernel_rfl
theorem c_order_Before : cFunc Tryz.prog gl0 Tryz.f83 = some A_order_Before := by kernel_rfl
theorem c_slices_Values_Sib : cFunc Tryz.prog gl0 Tryz.f85 = some A_slices_Values_Sib := by kernel_rfl
theorem c_order_gap : cFunc Tryz.prog gl0 Tryz.f86 = some A_order_gap := by kernel_rfl
theorem c_order_Key_c1 : cFunc Tryz.prog gl0 Tryz.f87 = some A_order_Key_c1 := by kernel_rfl
theorem c_poskey_Between : cFunc Tryz.prog gl0 Tryz.f88 = some A_poskey_Between := by kernel_rfl
theorem c_slices_IndexFunc_Sib : cFunc Tryz.prog gl0 Tryz.f89 = some A_slices_IndexFunc_Sib := by kernel_rfl
theorem c_order_Find_c1 : cFunc Tryz.prog gl0 Tryz.f90 = some A_order_Find_c1 := by kernel_rfl
theorem c_stamp_Right : cFunc Tryz.prog gl0 Tryz.f91 = some A_stamp_Right := by kernel_rfl
theorem c_op_Place : cFunc Tryz.prog gl0 Tryz.f92 = some A_op_Place := by kernel_rfl
theorem c_poskey_Right : cFunc Tryz.prog gl0 Tryz.f93 = some A_poskey_Right := by kernel_rfl
theorem c_ref02_Right : cFunc Tryz.prog gl0 Tryz.f94 = some A_ref02_Right := by kernel_rfl
theorem c_ref07_Place : cFunc Tryz.prog gl0 Tryz.f95 = some A_ref07_Place := by kernel_rfl
theorem c_ref04_Right : cFunc Tryz.prog gl0 Tryz.f96 = some A_ref04_Right := by kernel_rfl
theorem c_ref07_Root : cFunc Tryz.prog gl0 Tryz.f97 = some A_ref07_Root := by kernel_rfl
theorem c_tree_Tree_up : cFunc Tryz.prog gl0 Tryz.f98 = some A_tree_Tree_up := by kernel_rfl
theorem c_op_parts : cFunc Tryz.prog gl0 Tryz.f100 = some A_op_parts := by kernel_rfl
theorem c_op_Right_c1 : cFunc Tryz.prog gl0 Tryz.f101 = some A_op_Right_c1 := by kernel_rfl
theorem c_slices_ContainsFunc_Stamp : cFunc Tryz.prog gl0 Tryz.f102 = some A_slices_ContainsFunc_Stamp := by kernel_rfl
theorem c_op_Right_c2 : cFunc Tryz.prog gl0 Tryz.f103 = some A_op_Right_c2 := by kernel_rfl
theorem c_value_Right8 : cFunc Tryz.prog gl0 Tryz.f104 = some A_value_Right8 := by kernel_rfl
theorem c_slices_BinarySearchFunc_entry_Stamp : cFunc Tryz.prog gl0 Tryz.f105 = some A_slices_BinarySearchFunc_entry_Stamp := by kernel_rfl
theorem c_graph_Graph_place_c1 : cFunc Tryz.prog gl0 Tryz.f106 = some A_graph_Graph_place_c1 := by kernel_rfl
theorem c_stamp_Compare : cFunc Tryz.prog gl0 Tryz.f107 = some A_stamp_Compare := by kernel_rfl
theorem c_slices_rotateRight_entry : cFunc Tryz.prog gl0 Tryz.f109 = some A_slices_rotateRight_entry := by kernel_rfl
theorem c_graph_entry_do_c1 : cFunc Tryz.prog gl0 Tryz.f110 = some A_graph_entry_do_c1 := by kernel_rfl
theorem c_tree_Tree_Drop : cFunc Tryz.prog gl0 Tryz.f111 = some A_tree_Tree_Drop := by kernel_rfl
theorem c_graph_entry_do_c2 : cFunc Tryz.prog gl0 Tryz.f112 = some A_graph_entry_do_c2 := by kernel_rfl
theorem c_graph_Graph_ring : cFunc Tryz.prog gl0 Tryz.f113 = some A_graph_Graph_ring := by kernel_rfl
theorem c_graph_Graph_link : cFunc Tryz.prog gl0 Tryz.f114 = some A_graph_Graph_link := by kernel_rfl
theorem c_maps_Keys_Stamp_Spot : cFunc Tryz.prog gl0 Tryz.f116 = some A_maps_Keys_Stamp_Spot := by kernel_rfl
theorem c_poskey_Compare : cFunc Tryz.prog gl0 Tryz.f129 = some A_poskey_Compare := by kernel_rfl
theorem c_poskey_fine : cFunc Tryz.prog gl0 Tryz.f133 = some A_poskey_fine := by kernel_rfl
theorem c_poskey_above : cFunc Tryz.prog gl0 Tryz.f134 = some A_poskey_above := by kernel_rfl
theorem c_poskey_greatest : cFunc Tryz.prog gl0 Tryz.f135 = some A_poskey_greatest := by kernel_rfl
theorem c_slices_IndexFunc_Stamp : cFunc Tryz.prog gl0 Tryz.f138 = some A_slices_IndexFunc_Stamp := by kernel_rfl
theorem c_value_Right : cFunc Tryz.prog gl0 Tryz.f139 = some A_value_Right := by kernel_rfl
theorem c_slices_rotateLeft_entry : cFunc Tryz.prog gl0 Tryz.f140 = some A_slices_rotateLeft_entry := by kernel_rfl
theorem c_graph_Graph_link_c1 : cFunc Tryz.prog gl0 Tryz.f141 = some A_graph_Graph_link_c1 := by kernel_rfl
theorem c_poskey_fine_c1 : cFunc Tryz.prog gl0 Tryz.f151 = some A_poskey_fine_c1 := by kernel_rfl
theorem c_poskey_digit : cFunc Tryz.prog gl0 Tryz.f152 = some A_poskey_digit := by kernel_rfl
theorem c_value_good : cFunc Tryz.prog gl0 Tryz.f153 = some A_value_good := by kernel_rfl
theorem c_slices_Reverse_entry : cFunc Tryz.prog gl0 Tryz.f154 = some A_slices_Reverse_entry := by kernel_rfl
theorem b_tree_Tree_Within : ∃ c, Tryz.f53.body = some c ∧ cX Tryz.prog gl0 c = X_tree_Tree_Within := ⟨_, rfl, by kernel_rfl⟩
theorem r_tree_Tree_Within : cRes Tryz.prog Tryz.f53.results.toList = some [.cell 6 none] := by kernel_rfl
theorem n_tree_Tree_Within : Tryz.f53.ntmps = 26 ∧ (Tryz.f53.name == "runtime.NumGoroutine") = false := ⟨by kernel_rfl, by kernel_rfl⟩
theorem b_slices_Insert_entry : ∃ c, Tryz.f62.body = some c ∧ cX Tryz.prog gl0 c = X_slices_Insert_entry := ⟨_, rfl, by kernel_rfl⟩
theorem r_slices_Insert_entry : cRes Tryz.prog Tryz.f62.results.toList = some [.tmp 6] := by kernel_rfl
theorem n_slices_Insert_entry : Tryz.f62.ntmps = 95 ∧ (Tryz.f62.name == "runtime.NumGoroutine") = false := ⟨by kernel_rfl, by kernel_rfl⟩
theorem b_tree_Tree_Above : ∃ c, Tryz.f65.body = some c ∧ cX Tryz.prog gl0 c = X_tree_Tree_Above := ⟨_, rfl, by kernel_rfl⟩
theorem r_tree_Tree_Above : cRes Tryz.prog Tryz.f65.results.toList = some [.tmp 4] := by kernel_rfl
theorem n_tree_Tree_Above : Tryz.f65.ntmps = 11 ∧ (Tryz.f65.name == "runtime.NumGoroutine") = false := ⟨by kernel_rfl, by kernel_rfl⟩
theorem b_maps_Equal_Stamp : ∃ c, Tryz.f73.body = some c ∧ cX Tryz.prog gl0 c = X_maps_Equal_Stamp := ⟨_, rfl, by kernel_rfl⟩
theorem r_maps_Equal_Stamp : cRes Tryz.prog Tryz.f73.results.toList = some [.tmp 4] := by kernel_rfl
theorem n_maps_Equal_Stamp : Tryz.f73.ntmps = 34 ∧ (Tryz.f73.name == "runtime.NumGoroutine") = false := ⟨by kernel_rfl, by kernel_rfl⟩
theorem b_slices_SortedFunc_Sib : ∃ c, Tryz.f84.body = some c ∧ cX Tryz.prog gl0 c = X_slices_SortedFunc_Sib := ⟨_, rfl, by kernel_rfl⟩
theorem r_slices_SortedFunc_Sib : cRes Tryz.prog Tryz.f84.results.toList = some [.tmp 4] := by kernel_rfl
theorem n_slices_SortedFunc_Sib : Tryz.f84.ntmps = 12 ∧ (Tryz.f84.name == "runtime.NumGoroutine") = false := ⟨by kernel_rfl, by kernel_rfl⟩
theorem b_slices_SortedFunc_Stamp : ∃ c, Tryz.f115.body = some c ∧ cX Tryz.prog gl0 c = X_slices_SortedFunc_Stamp := ⟨_, rfl, by kernel_rfl⟩
theorem r_slices_SortedFunc_Stamp : cRes Tryz.prog Tryz.f115.results.toList = some [.tmp 4] := by kernel_rfl
theorem n_slices_SortedFunc_Stamp : Tryz.f115.ntmps = 12 ∧ (Tryz.f115.name == "runtime.NumGoroutine") = false := ⟨by kernel_rfl, by kernel_rfl⟩
theorem b_slices_Collect_Stamp : ∃ c, Tryz.f117.body = some c ∧ cX Tryz.prog gl0 c = X_slices_Collect_Stamp := ⟨_, rfl, by kernel_rfl⟩
theorem r_slices_Collect_Stamp : cRes Tryz.prog Tryz.f117.results.toList = some [.tmp 2] := by kernel_rfl
theorem n_slices_Collect_Stamp : Tryz.f117.ntmps = 5 ∧ (Tryz.f117.name == "runtime.NumGoroutine") = false := ⟨by kernel_rfl, by kernel_rfl⟩
theorem b_maps_Equal_Stamp_Spot : ∃ c, Tryz.f124.body = some c ∧ cX Tryz.prog gl0 c = X_maps_Equal_Stamp_Spot := ⟨_, rfl, by kernel_rfl⟩
theorem r_maps_Equal_Stamp_Spot : cRes Tryz.prog Tryz.f124.results.toList = some [.tmp 4] := by kernel_rfl
theorem n_maps_Equal_Stamp_Spot : Tryz.f124.ntmps = 34 ∧ (Tryz.f124.name == "runtime.NumGoroutine") = false := ⟨by kernel_rfl, by kernel_rfl⟩
theorem b_slices_Collect_Sib : ∃ c, Tryz.f130.body = some c ∧ cX Tryz.prog gl0 c = X_slices_Collect_Sib := ⟨_, rfl, by kernel_rfl⟩
theorem r_slices_Collect_Sib : cRes Tryz.prog Tryz.f130.results.toList = some [.tmp 2] := by kernel_rfl
theorem n_slices_Collect_Sib : Tryz.f130.ntmps = 5 ∧ (Tryz.f130.name == "runtime.NumGoroutine") = false := ⟨by kernel_rfl, by kernel_rfl⟩
theorem b_slices_Values_Sib_c1 : ∃ c, Tryz.f132.body = some c ∧ cX Tryz.prog gl0 c = X_slices_Values_Sib_c1 := ⟨_, rfl, by kernel_rfl⟩
theorem r_slices_Values_Sib_c1 : cRes Tryz.prog Tryz.f132.results.toList = some [] := by kernel_rfl
theorem n_slices_Values_Sib_c1 : Tryz.f132.ntmps = 16 ∧ (Tryz.f132.name == "runtime.NumGoroutine") = false := ⟨by kernel_rfl, by kernel_rfl⟩
theorem b_tree_Tree_up_c1 : ∃ c, Tryz.f136.body = some c ∧ cX Tryz.prog gl0 c = X_tree_Tree_up_c1 := ⟨_, rfl, by kernel_rfl⟩
theorem r_tree_Tree_up_c1 : cRes Tryz.prog Tryz.f136.results.toList = some [] := by kernel_rfl
theorem n_tree_Tree_up_c1 : Tryz.f136.ntmps = 32 ∧ (Tryz.f136.name == "runtime.NumGoroutine") = false := ⟨by kernel_rfl, by kernel_rfl⟩
theorem b_maps_Keys_Stamp_Spot_c1 : ∃ c, Tryz.f143.body = some c ∧ cX Tryz.prog gl0 c = X_maps_Keys_Stamp_Spot_c1 := ⟨_, rfl, by kernel_rfl⟩
theorem r_maps_Keys_Stamp_Spot_c1 : cRes Tryz.prog Tryz.f143.results.toList = some [] := by kernel_rfl
theorem n_maps_Keys_Stamp_Spot_c1 : Tryz.f143.ntmps = 14 ∧ (Tryz.f143.name == "runtime.NumGoroutine") = false := ⟨by kernel_rfl, by kernel_rfl⟩
theorem b_slices_AppendSeq_Stamp : ∃ c, Tryz.f144.body = some c ∧ cX Tryz.prog gl0 c = X_slices_AppendSeq_Stamp := ⟨_, rfl, by kernel_rfl⟩
theorem r_slices_AppendSeq_Stamp : cRes Tryz.prog Tryz.f144.results.toList = some [.tmp 4] := by kernel_rfl
theorem n_slices_AppendSeq_Stamp : Tryz.f144.ntmps = 13 ∧ (Tryz.f144.name == "runtime.NumGoroutine") = false := ⟨by kernel_rfl, by kernel_rfl⟩
theorem b_slices_AppendSeq_Sib : ∃ c, Tryz.f148.body = some c ∧ cX Tryz.prog gl0 c = X_slices_AppendSeq_Sib := ⟨_, rfl, by kernel_rfl⟩
theorem r_slices_AppendSeq_Sib : cRes Tryz.prog Tryz.f148.results.toList = some [.tmp 4] := by kernel_rfl
theorem n_slices_AppendSeq_Sib : Tryz.f148.ntmps = 13 ∧ (Tryz.f148.name == "runtime.NumGoroutine") = false := ⟨by kernel_rfl, by kernel_rfl⟩
theorem mixed : Tryz.prog.follows .mixedOrders = true := by kernel_rfl
def codes0 : List (Nat × AFunc) := [(F_law13_GraphNil, A_law13_GraphNil), (F_tree_New, A_tree_New), (F_tree_Tree_Add, A_tree_Tree_Add), (F_law10_Own, A_law10_Own), (F_tree_Tree_Move, A_tree_Tree_Move), (F_order_Row, A_order_Row), (F_law13_Light, A_law13_Light), (F_graph_New, A_graph_New), (F_graph_Graph_Insert, A_graph_Graph_Insert), (F_law07_Own, A_law07_Own), (F_graph_Graph_Nodes, A_graph_Graph_Nodes), (F_graph_Graph_Above, A_graph_Graph_Above), (F_graph_Graph_Spot, A_graph_Graph_Spot), (F_graph_Graph_Reaches, A_graph_Graph_Reaches), (F_graph_Graph_Ref, A_graph_Graph_Ref), (F_graph_Graph_Has, A_graph_Graph_Has), (F_graph_Graph_Row, A_graph_Graph_Row), (F_graph_Graph_Clone, A_graph_Graph_Clone), (F_law13_num, A_law13_num), (F_graph_Graph_Count, A_graph_Graph_Count), (F_graph_Graph_Same, A_graph_Graph_Same), (F_graph_Graph_Done, A_graph_Graph_Done), (F_order_Sort, A_order_Sort), (F_order_Key, A_order_Key), (F_law11_num, A_law11_num)]
theorem codes0_ok : ∀ x ∈ codes0, ∃ fn, Tryz.prog.funcs[x.1]? = some fn ∧ (fn.name == "runtime.NumGoroutine") = false ∧ cFunc Tryz.prog gl0 fn = some x.2 := by
  unfold codes0
  simp only [List.forall_mem_cons]
  exact ⟨⟨_, Tryz.func6, (by kernel_rfl), c_law13_GraphNil⟩, ⟨_, Tryz.func9, (by kernel_rfl), c_tree_New⟩, ⟨_, Tryz.func10, (by kernel_rfl), c_tree_Tree_Add⟩, ⟨_, Tryz.func11, (by kernel_rfl), c_law10_Own⟩, ⟨_, Tryz.func13, (by kernel_rfl), c_tree_Tree_Move⟩, ⟨_, Tryz.func16, (by kernel_rfl), c_order_Row⟩, ⟨_, Tryz.func18, (by kernel_rfl), c_law13_Light⟩, ⟨_, Tryz.func20, (by kernel_rfl), c_graph_New⟩, ⟨_, Tryz.func21, (by kernel_rfl), c_graph_Graph_Insert⟩, ⟨_, Tryz.func22, (by kernel_rfl), c_law07_Own⟩, ⟨_, Tryz.func23, (by kernel_rfl), c_graph_Graph_Nodes⟩, ⟨_, Tryz.func24, (by kernel_rfl), c_graph_Graph_Above⟩, ⟨_, Tryz.func25, (by kernel_rfl), c_graph_Graph_Spot⟩, ⟨_, Tryz.func26, (by kernel_rfl), c_graph_Graph_Reaches⟩, ⟨_, Tryz.func27, (by kernel_rfl), c_graph_Graph_Ref⟩, ⟨_, Tryz.func28, (by kernel_rfl), c_graph_Graph_Has⟩, ⟨_, Tryz.func29, (by kernel_rfl), c_graph_Graph_Row⟩, ⟨_, Tryz.func30, (by kernel_rfl), c_graph_Graph_Clone⟩, ⟨_, Tryz.func32, (by kernel_rfl), c_law13_num⟩, ⟨_, Tryz.func33, (by kernel_rfl), c_graph_Graph_Count⟩, ⟨_, Tryz.func34, (by kernel_rfl), c_graph_Graph_Same⟩, ⟨_, Tryz.func38, (by kernel_rfl), c_graph_Graph_Done⟩, ⟨_, Tryz.func40, (by kernel_rfl), c_order_Sort⟩, ⟨_, Tryz.func41, (by kernel_rfl), c_order_Key⟩, ⟨_, Tryz.func42, (by kernel_rfl), c_law11_num⟩, fun _ h => (by cases h)⟩
def codes1 : List (Nat × AFunc) := [(F_order_Find, A_order_Find), (F_tree_Tree_none, A_tree_Tree_none), (F_op_Node, A_op_Node), (F_tree_Spot_right, A_tree_Spot_right), (F_tree_Tree_node, A_tree_Tree_node), (F_tree_Tree_Has, A_tree_Tree_Has), (F_ref10_Tree_find, A_ref10_Tree_find), (F_ref07_Node, A_ref07_Node), (F_ref10_Right, A_ref10_Right), (F_ref10_Tree_Has, A_ref10_Tree_Has), (F_tree_Tree_Below, A_tree_Tree_Below), (F_tree_Tree_Spot, A_tree_Tree_Spot), (F_law13_ref12Light, A_law13_ref12Light), (F_graph_Graph_none, A_graph_Graph_none), (F_op_Right, A_op_Right), (F_graph_Graph_place, A_graph_Graph_place), (F_graph_entry_do, A_graph_entry_do), (F_tree_Tree_Nodes, A_tree_Tree_Nodes), (F_graph_Graph_next, A_graph_Graph_next), (F_slices_Clone_entry, A_slices_Clone_entry), (F_tree_Tree_Clone, A_tree_Tree_Clone), (F_ref02_Compare, A_ref02_Compare), (F_tree_Tree_Same, A_tree_Tree_Same), (F_ref07_Trash, A_ref07_Trash), (F_ref10_Tree_Spot, A_ref10_Tree_Spot), (F_order_Sort_c1, A_order_Sort_c1), (F_order_Before, A_order_Before), (F_slices_Values_Sib, A_slices_Values_Sib), (F_order_gap, A_order_gap), (F_order_Key_c1, A_order_Key_c1), (F_poskey_Between, A_poskey_Between)]
theorem codes1_ok : ∀ x ∈ codes1, ∃ fn, Tryz.prog.funcs[x.1]? = some fn ∧ (fn.name == "runtime.NumGoroutine") = false ∧ cFunc Tryz.prog gl0 fn = some x.2 := by
  unfold codes1
  simp only [List.forall_mem_cons]
  exact ⟨⟨_, Tryz.func43, (by kernel_rfl), c_order_Find⟩, ⟨_, Tryz.func44, (by kernel_rfl), c_tree_Tree_none⟩, ⟨_, Tryz.func45, (by kernel_rfl), c_op_Node⟩, ⟨_, Tryz.func46, (by kernel_rfl), c_tree_Spot_right⟩, ⟨_, Tryz.func47, (by kernel_rfl), c_tree_Tree_node⟩, ⟨_, Tryz.func48, (by kernel_rfl), c_tree_Tree_Has⟩, ⟨_, Tryz.func49, (by kernel_rfl), c_ref10_Tree_find⟩, ⟨_, Tryz.func50, (by kernel_rfl), c_ref07_Node⟩, ⟨_, Tryz.func51, (by kernel_rfl), c_ref10_Right⟩, ⟨_, Tryz.func52, (by kernel_rfl), c_ref10_Tree_Has⟩, ⟨_, Tryz.func55, (by kernel_rfl), c_tree_Tree_Below⟩, ⟨_, Tryz.func56, (by kernel_rfl), c_tree_Tree_Spot⟩, ⟨_, Tryz.func58, (by kernel_rfl), c_law13_ref12Light⟩, ⟨_, Tryz.func59, (by kernel_rfl), c_graph_Graph_none⟩, ⟨_, Tryz.func60, (by kernel_rfl), c_op_Right⟩, ⟨_, Tryz.func61, (by kernel_rfl), c_graph_Graph_place⟩, ⟨_, Tryz.func63, (by kernel_rfl), c_graph_entry_do⟩, ⟨_, Tryz.func64, (by kernel_rfl), c_tree_Tree_Nodes⟩, ⟨_, Tryz.func66, (by kernel_rfl), c_graph_Graph_next⟩, ⟨_, Tryz.func67, (by kernel_rfl), c_slices_Clone_entry⟩, ⟨_, Tryz.func68, (by kernel_rfl), c_tree_Tree_Clone⟩, ⟨_, Tryz.func71, (by kernel_rfl), c_ref02_Compare⟩, ⟨_, Tryz.func72, (by kernel_rfl), c_tree_Tree_Same⟩, ⟨_, Tryz.func74, (by kernel_rfl), c_ref07_Trash⟩, ⟨_, Tryz.func77, (by kernel_rfl), c_ref10_Tree_Spot⟩, ⟨_, Tryz.func82, (by kernel_rfl), c_order_Sort_c1⟩, ⟨_, Tryz.func83, (by kernel_rfl), c_order_Before⟩, ⟨_, Tryz.func85, (by kernel_rfl), c_slices_Values_Sib⟩, ⟨_, Tryz.func86, (by kernel_rfl), c_order_gap⟩, ⟨_, Tryz.func87, (by kernel_rfl), c_order_Key_c1⟩, ⟨_, Tryz.func88, (by kernel_rfl), c_poskey_Between⟩, fun _ h => (by cases h)⟩
def codes2 : List (Nat × AFunc) := [(F_slices_IndexFunc_Sib, A_slices_IndexFunc_Sib), (F_order_Find_c1, A_order_Find_c1), (F_stamp_Right, A_stamp_Right), (F_op_Place, A_op_Place), (F_poskey_Right, A_poskey_Right), (F_ref02_Right, A_ref02_Right), (F_ref07_Place, A_ref07_Place), (F_ref04_Right, A_ref04_Right), (F_ref07_Root, A_ref07_Root), (F_tree_Tree_up, A_tree_Tree_up), (F_op_parts, A_op_parts), (F_op_Right_c1, A_op_Right_c1), (F_slices_ContainsFunc_Stamp, A_slices_ContainsFunc_Stamp), (F_op_Right_c2, A_op_Right_c2), (F_value_Right8, A_value_Right8), (F_slices_BinarySearchFunc_entry_Stamp, A_slices_BinarySearchFunc_entry_Stamp), (F_graph_Graph_place_c1, A_graph_Graph_place_c1), (F_stamp_Compare, A_stamp_Compare), (F_slices_rotateRight_entry, A_slices_rotateRight_entry), (F_graph_entry_do_c1, A_graph_entry_do_c1), (F_tree_Tree_Drop, A_tree_Tree_Drop), (F_graph_entry_do_c2, A_graph_entry_do_c2), (F_graph_Graph_ring, A_graph_Graph_ring), (F_graph_Graph_link, A_graph_Graph_link), (F_maps_Keys_Stamp_Spot, A_maps_Keys_Stamp_Spot), (F_poskey_Compare, A_poskey_Compare), (F_poskey_fine, A_poskey_fine), (F_poskey_above, A_poskey_above), (F_poskey_greatest, A_poskey_greatest), (F_slices_IndexFunc_Stamp, A_slices_IndexFunc_Stamp)]
theorem codes2_ok : ∀ x ∈ codes2, ∃ fn, Tryz.prog.funcs[x.1]? = some fn ∧ (fn.name == "runtime.NumGoroutine") = false ∧ cFunc Tryz.prog gl0 fn = some x.2 := by
  unfold codes2
  simp only [List.forall_mem_cons]
  exact ⟨⟨_, Tryz.func89, (by kernel_rfl), c_slices_IndexFunc_Sib⟩, ⟨_, Tryz.func90, (by kernel_rfl), c_order_Find_c1⟩, ⟨_, Tryz.func91, (by kernel_rfl), c_stamp_Right⟩, ⟨_, Tryz.func92, (by kernel_rfl), c_op_Place⟩, ⟨_, Tryz.func93, (by kernel_rfl), c_poskey_Right⟩, ⟨_, Tryz.func94, (by kernel_rfl), c_ref02_Right⟩, ⟨_, Tryz.func95, (by kernel_rfl), c_ref07_Place⟩, ⟨_, Tryz.func96, (by kernel_rfl), c_ref04_Right⟩, ⟨_, Tryz.func97, (by kernel_rfl), c_ref07_Root⟩, ⟨_, Tryz.func98, (by kernel_rfl), c_tree_Tree_up⟩, ⟨_, Tryz.func100, (by kernel_rfl), c_op_parts⟩, ⟨_, Tryz.func101, (by kernel_rfl), c_op_Right_c1⟩, ⟨_, Tryz.func102, (by kernel_rfl), c_slices_ContainsFunc_Stamp⟩, ⟨_, Tryz.func103, (by kernel_rfl), c_op_Right_c2⟩, ⟨_, Tryz.func104, (by kernel_rfl), c_value_Right8⟩, ⟨_, Tryz.func105, (by kernel_rfl), c_slices_BinarySearchFunc_entry_Stamp⟩, ⟨_, Tryz.func106, (by kernel_rfl), c_graph_Graph_place_c1⟩, ⟨_, Tryz.func107, (by kernel_rfl), c_stamp_Compare⟩, ⟨_, Tryz.func109, (by kernel_rfl), c_slices_rotateRight_entry⟩, ⟨_, Tryz.func110, (by kernel_rfl), c_graph_entry_do_c1⟩, ⟨_, Tryz.func111, (by kernel_rfl), c_tree_Tree_Drop⟩, ⟨_, Tryz.func112, (by kernel_rfl), c_graph_entry_do_c2⟩, ⟨_, Tryz.func113, (by kernel_rfl), c_graph_Graph_ring⟩, ⟨_, Tryz.func114, (by kernel_rfl), c_graph_Graph_link⟩, ⟨_, Tryz.func116, (by kernel_rfl), c_maps_Keys_Stamp_Spot⟩, ⟨_, Tryz.func129, (by kernel_rfl), c_poskey_Compare⟩, ⟨_, Tryz.func133, (by kernel_rfl), c_poskey_fine⟩, ⟨_, Tryz.func134, (by kernel_rfl), c_poskey_above⟩, ⟨_, Tryz.func135, (by kernel_rfl), c_poskey_greatest⟩, ⟨_, Tryz.func138, (by kernel_rfl), c_slices_IndexFunc_Stamp⟩, fun _ h => (by cases h)⟩
def codes3 : List (Nat × AFunc) := [(F_value_Right, A_value_Right), (F_slices_rotateLeft_entry, A_slices_rotateLeft_entry), (F_graph_Graph_link_c1, A_graph_Graph_link_c1), (F_poskey_fine_c1, A_poskey_fine_c1), (F_poskey_digit, A_poskey_digit), (F_value_good, A_value_good), (F_slices_Reverse_entry, A_slices_Reverse_entry)]
theorem codes3_ok : ∀ x ∈ codes3, ∃ fn, Tryz.prog.funcs[x.1]? = some fn ∧ (fn.name == "runtime.NumGoroutine") = false ∧ cFunc Tryz.prog gl0 fn = some x.2 := by
  unfold codes3
  simp only [List.forall_mem_cons]
  exact ⟨⟨_, Tryz.func139, (by kernel_rfl), c_value_Right⟩, ⟨_, Tryz.func140, (by kernel_rfl), c_slices_rotateLeft_entry⟩, ⟨_, Tryz.func141, (by kernel_rfl), c_graph_Graph_link_c1⟩, ⟨_, Tryz.func151, (by kernel_rfl), c_poskey_fine_c1⟩, ⟨_, Tryz.func152, (by kernel_rfl), c_poskey_digit⟩, ⟨_, Tryz.func153, (by kernel_rfl), c_value_good⟩, ⟨_, Tryz.func154, (by kernel_rfl), c_slices_Reverse_entry⟩, fun _ h => (by cases h)⟩
def codes : List (Nat × AFunc) := codes0 ++ codes1 ++ codes2 ++ codes3
theorem codes_ok : ∀ x ∈ codes, ∃ fn, Tryz.prog.funcs[x.1]? = some fn ∧ (fn.name == "runtime.NumGoroutine") = false ∧ cFunc Tryz.prog gl0 fn = some x.2 := by
  intro x hx
  simp only [codes, List.mem_append] at hx

  rcases hx with (((h | h) | h) | h)
  · exact codes0_ok x h
  · exact codes1_ok x h
  · exact codes2_ok x h
  · exact codes3_ok x h
def codesK : List (Nat × AFunc) := [(F_law11_knows, A_law11_knows), (F_law13_knows, A_law13_knows)]
theorem codesK_ok : ∀ x ∈ codesK, ∃ fn, Tryz.prog.funcs[x.1]? = some fn ∧ (fn.name == "runtime.NumGoroutine") = false ∧ cFunc Tryz.prog gl0 fn = some x.2 := by
  unfold codesK
  simp only [List.forall_mem_cons]
  exact ⟨⟨_, Tryz.func8, (by kernel_rfl), c_law11_knows⟩, ⟨_, Tryz.func19, (by kernel_rfl), c_law13_knows⟩, fun x hx => by cases hx⟩
theorem codesA_ok : ∀ x ∈ codesK ++ codes, ∃ fn, Tryz.prog.funcs[x.1]? = some fn ∧ (fn.name == "runtime.NumGoroutine") = false ∧ cFunc Tryz.prog gl0 fn = some x.2 := by
  intro x hx
  rcases List.mem_append.mp hx with h | h
  · exact codesK_ok x h
  · exact codes_ok x h
end Go.Am.Tryz


/- slices.SortFunc as a part of the machine: by the kit's contract, at elements of some cells. -/
namespace Go.Am
open Go Go.RowKit Go.Sort

/-- How elements stand in cells. -/
structure Elem (α : Type) where
  k : Nat
  cv : α → List V
  enc : α → List Value
  dec : List V → Option α
  k_pos : 0 < k
  len : ∀ x, (cv x).length = k
  elen : ∀ x, (enc x).length = k
  dec_some : ∀ cs x, dec cs = some x → cs = cv x
  dec_cv : ∀ x, dec (cv x) = some x
  rel : ∀ E x, VRs E (cv x) (enc x)
  rel_eq : ∀ E x us, VRs E (cv x) us → us = enc x
  one : ∀ x, ∀ v ∈ enc x, v.oneCell' = true
  one' : ∀ x, allOne (cv x) = true
  flat : ∀ x, V.flats (cv x) = true

section
variable {α : Type} (e : Elem α)
def Elem.all (l : List α) : List V := l.flatMap e.cv
def Elem.encs (l : List α) : List Value := l.flatMap e.enc
def Elem.decs : Nat → List V → Option (List α)
  | 0, [] => some []
  | 0, _ :: _ => none
  | n + 1, cs => (e.dec (cs.take e.k)).bind fun x => (Elem.decs n (cs.drop e.k)).map (x :: ·)
theorem Elem.all_len (l : List α) : (e.all l).length = l.length * e.k := by
  induction l with
  | nil => simp [Elem.all]
  | cons x l ih => simp only [Elem.all, List.flatMap_cons, List.length_append, List.length_cons, e.len, Nat.add_mul, Nat.one_mul] at ih ⊢; omega
theorem Elem.encs_len (l : List α) : (e.encs l).length = l.length * e.k := by
  induction l with
  | nil => simp [Elem.encs]
  | cons x l ih => simp only [Elem.encs, List.flatMap_cons, List.length_append, List.length_cons, e.elen, Nat.add_mul, Nat.one_mul] at ih ⊢; omega
theorem Elem.decs_some : ∀ {n : Nat} {cs : List V} {l : List α}, e.decs n cs = some l → l.length = n ∧ cs = e.all l
  | 0, [], l, h => by cases h; exact ⟨rfl, rfl⟩
  | 0, _ :: _, l, h => by cases h
  | n + 1, cs, l, h => by
    simp only [Elem.decs, Option.bind_eq_some_iff, Option.map_eq_some_iff] at h
    obtain ⟨x, hx, l', hl, rfl⟩ := h
    obtain ⟨h1, h2⟩ := Elem.decs_some hl
    refine ⟨by simp [h1], ?_⟩
    show cs = e.cv x ++ l'.flatMap e.cv
    rw [← e.dec_some _ _ hx, show l'.flatMap e.cv = e.all l' from rfl, ← h2, List.take_append_drop]
theorem Elem.decs_all : ∀ (l : List α), e.decs l.length (e.all l) = some l
  | [] => rfl
  | x :: l => by
    have h1 : (e.all (x :: l)).take e.k = e.cv x := by
      show (e.cv x ++ l.flatMap e.cv).take e.k = _
      rw [← e.len x, List.take_left]
    have h2 : (e.all (x :: l)).drop e.k = e.all l := by
      show (e.cv x ++ l.flatMap e.cv).drop e.k = _
      rw [← e.len x, List.drop_left]; rfl
    simp only [List.length_cons, Elem.decs, h1, h2, e.dec_cv, Option.bind_some, Elem.decs_all l, Option.map_some]
theorem Elem.rels (E : Emb) : ∀ l : List α, VRs E (e.all l) (e.encs l)
  | [] => .nil
  | x :: l => (e.rel E x).app (Elem.rels E l)
theorem VRs.split {E : Emb} : ∀ {xs ys : List V} {us : List Value}, VRs E (xs ++ ys) us → ∃ u1 u2, us = u1 ++ u2 ∧ VRs E xs u1 ∧ VRs E ys u2
  | [], ys, us, h => ⟨[], us, rfl, .nil, h⟩
  | x :: xs, ys, _, .cons h t => by
    obtain ⟨u1, u2, rfl, h1, h2⟩ := VRs.split t
    exact ⟨_ :: u1, u2, rfl, .cons h h1, h2⟩
theorem Elem.rels_eq (E : Emb) : ∀ (l : List α) (us : List Value), VRs E (e.all l) us → us = e.encs l
  | [], us, h => by cases h; rfl
  | x :: l, us, h => by
    obtain ⟨u1, u2, rfl, h1, h2⟩ := VRs.split h
    rw [e.rel_eq E x u1 h1, Elem.rels_eq E l u2 h2]
    rfl
theorem Elem.all_flat : ∀ l : List α, V.flats (e.all l) = true
  | [] => rfl
  | x :: l => by
    have : ∀ (a b : List V), V.flats a = true → V.flats b = true → V.flats (a ++ b) = true := by
      intro a b ha hb
      induction a with
      | nil => exact hb
      | cons v a ih =>
        simp only [V.flats, Bool.and_eq_true] at ha
        simp only [List.cons_append, V.flats, ha.1, Bool.true_and]
        exact ih ha.2
    exact this _ _ (e.flat x) (Elem.all_flat l)

/-- A slice that is read: its elements. -/
def SlR (M : Mem) (s : V) (xs : List α) : Prop := ∃ a cap, s = .slice a xs.length cap ∧ (xs = [] ∨ ∃ b o cs ro, a = some (b, o) ∧ M.get b = some (.cells cs ro) ∧ ∀ (i : Nat) (h : i < xs.length), rdCells cs (o + i * e.k) e.k = some (e.cv xs[i]))
theorem SlR.keep {e : Elem α} {M M' : Mem} {s : V} {xs : List α} (h : SlR e M s xs) (hk : ∀ b, s.blk = some b → M'.get b = M.get b) : SlR e M' s xs := by
  obtain ⟨a, cap, rfl, h⟩ := h
  refine ⟨a, cap, rfl, ?_⟩
  rcases h with h | ⟨b, o, cs, ro, rfl, h1, h2⟩
  · exact .inl h
  · exact .inr ⟨b, o, cs, ro, rfl, (hk b rfl).trans h1, h2⟩
theorem Elem.rd (e : Elem α) : ∀ (xs : List α) (i : Nat) (h : i < xs.length), rdCells (e.all xs) (i * e.k) e.k = some (e.cv xs[i])
  | [], i, h => by simp at h
  | x :: xs, 0, h => by
    simp only [Nat.zero_mul, rdCells, Nat.zero_add, ble_iff]
    have hl : (e.all (x :: xs)) = e.cv x ++ e.all xs := rfl
    rw [hl, List.length_append, e.len, decide_eq_true (by omega)]
    simp only [cond_true, List.drop_zero, List.getElem_cons_zero, Option.some.injEq]
    rw [← e.len x, List.take_left]
  | x :: xs, i + 1, h => by
    have ih := Elem.rd e xs i (by simpa using h)
    have hl : (e.all (x :: xs)) = e.cv x ++ e.all xs := rfl
    simp only [rdCells, ble_iff] at ih ⊢
    have hlen := e.all_len xs
    have hi : i < xs.length := by simpa using h
    have h1 : i * e.k + e.k ≤ (e.all xs).length := by
      rw [hlen]
      have := Nat.mul_le_mul_right e.k (show i + 1 ≤ xs.length from hi)
      rw [Nat.add_mul, Nat.one_mul] at this
      exact this
    rw [decide_eq_true h1] at ih
    simp only [cond_true, Option.some.injEq] at ih
    have h2 : (i + 1) * e.k + e.k ≤ (e.all (x :: xs)).length := by
      rw [hl, List.length_append, e.len, Nat.add_mul, Nat.one_mul]
      omega
    rw [decide_eq_true h2]
    simp only [cond_true, Option.some.injEq, List.getElem_cons_succ]
    rw [hl, Nat.add_mul, Nat.one_mul, Nat.add_comm (i * e.k) e.k, ← List.drop_drop, show e.k = (e.cv x).length from (e.len x).symm, List.drop_left]
    rw [e.len]
    exact ih
theorem Hold.slR {e : Elem α} {lo : Nat} {M : Mem} {s : V} {xs : List α} (h : Hold lo M e.k s xs.length (e.all xs)) : SlR e M s xs := by
  generalize hn : xs.length = n at h
  generalize hc : e.all xs = cs at h
  cases h with
  | nil => exact ⟨_, _, by rw [hn], .inl (List.eq_nil_of_length_eq_zero hn)⟩
  | row h1 h2 h3 h4 => exact ⟨_, _, by rw [hn], .inr ⟨_, 0, cs, false, rfl, h1, fun i hi => by rw [← hc, Nat.zero_add]; exact e.rd xs i hi⟩⟩
theorem rd_cell {cs l : List V} {p k : Nat} (h : rdCells cs p k = some l) (j : Nat) (hj : j < k) : cs[p + j]? = l[j]? := by
  unfold rdCells at h
  obtain ⟨h1, h⟩ := cond_some h
  rw [ble_iff, decide_eq_true_eq] at h1
  cases h
  rw [List.getElem?_take, if_pos hj, List.getElem?_drop]
theorem rd_part {cs l : List V} {p k : Nat} (h : rdCells cs p k = some l) (j m : Nat) (hj : j + m ≤ k) : rdCells cs (p + j) m = some ((l.drop j).take m) := by
  unfold rdCells at h ⊢
  obtain ⟨h1, h⟩ := cond_some h
  rw [ble_iff, decide_eq_true_eq] at h1
  cases h
  rw [ble_iff, decide_eq_true (by omega)]
  simp only [cond_true, Option.some.injEq]
  rw [List.drop_take, List.take_take, List.drop_drop, Nat.min_eq_left (by omega)]
/-- The elements of a slice, read. -/
def readSl (M : Mem) (s : V) : Option (List α) :=
  match s with
  | .slice none 0 (.exact 0) => some []
  | .slice (some (b, o)) n _ => match M.get b with
    | some (.cells cs _) => cond (Nat.ble n maxRoom) ((rdCells cs o (n * e.k)).bind fun l => e.decs n l) none
    | _ => none
  | _ => none
theorem readSl_is {e : Elem α} {M : Mem} {s : V} {xs : List α} (h : readSl e M s = some xs) : SlR e M s xs ∧ xs.length ≤ maxRoom := by
  unfold readSl at h
  split at h
  · cases h; exact ⟨⟨_, _, rfl, .inl rfl⟩, by simp⟩
  · rename_i b o n cap
    split at h
    · rename_i cs ro hM
      obtain ⟨hn, h⟩ := cond_some h
      simp only [Option.bind_eq_some_iff] at h
      obtain ⟨l, hl, h⟩ := h
      obtain ⟨h1, rfl⟩ := e.decs_some h
      refine ⟨⟨_, _, by rw [h1], .inr ⟨b, o, cs, ro, rfl, hM, fun i hi => ?_⟩⟩, by rw [h1]; exact Nat.le_of_ble_eq_true hn⟩
      have hr := e.rd xs i hi
      unfold rdCells at hl hr ⊢
      obtain ⟨c1, hl⟩ := cond_some hl
      obtain ⟨c2, hr⟩ := cond_some hr
      rw [ble_iff, decide_eq_true_eq] at c1 c2
      simp only [Option.some.injEq] at hl hr
      have hlen := e.all_len xs
      rw [h1] at hlen
      rw [ble_iff, decide_eq_true (by omega)]
      simp only [cond_true, Option.some.injEq]
      rw [← hr, ← hl, List.drop_take, List.take_take, List.drop_drop, Nat.min_eq_left (by omega)]
    · cases h
  · cases h
/-! ### sorting -/
def ins (lt : α → α → Bool) (x : α) : List α → List α
  | [] => [x]
  | y :: l => cond (lt y x) (y :: ins lt x l) (x :: y :: l)
def isort (lt : α → α → Bool) : List α → List α
  | [] => []
  | x :: l => ins lt x (isort lt l)
theorem ins_perm (lt : α → α → Bool) (x : α) : ∀ l : List α, (ins lt x l).Perm (x :: l)
  | [] => .refl _
  | y :: l => by
    simp only [ins]
    cases lt y x
    · exact .refl _
    · exact ((ins_perm lt x l).cons y).trans (.swap x y l)
theorem isort_perm (lt : α → α → Bool) : ∀ l : List α, (isort lt l).Perm l
  | [] => .refl _
  | x :: l => (ins_perm lt x _).trans ((isort_perm lt l).cons x)
theorem isort_len (lt : α → α → Bool) (l : List α) : (isort lt l).length = l.length := (isort_perm lt l).length_eq
variable [Inhabited α]
theorem ins_sorted {lt : α → α → Bool} (hO : SWO lt) (x : α) : ∀ l : List α, l.Pairwise (fun a b => lt b a = false) → (ins lt x l).Pairwise (fun a b => lt b a = false)
  | [], _ => by simp [ins]
  | y :: l, h => by
    rw [List.pairwise_cons] at h
    simp only [ins]
    cases hxy : lt y x with
    | true =>
      simp only [cond_true]
      rw [List.pairwise_cons]
      refine ⟨fun z hz => ?_, ins_sorted hO x l h.2⟩
      rcases List.mem_cons.1 ((ins_perm lt x l).mem_iff.1 hz) with rfl | hz
      · cases hq : lt z y with
        | false => rfl
        | true => have := hO.trans _ _ _ hq hxy; rw [hO.irrefl] at this; cases this
      · exact h.1 z hz
    | false =>
      simp only [cond_false]
      rw [List.pairwise_cons]
      refine ⟨fun z hz => ?_, List.pairwise_cons.2 h⟩
      rcases List.mem_cons.1 hz with rfl | hz
      · exact hxy
      · exact hO.ntrans _ _ _ (h.1 z hz) hxy
theorem isort_sorted {lt : α → α → Bool} (hO : SWO lt) : ∀ l : List α, (isort lt l).Pairwise (fun a b => lt b a = false)
  | [] => .nil
  | x :: l => ins_sorted hO x _ (isort_sorted hO l)
theorem sorted_is_isort {lt : α → α → Bool} (hO : SWO lt) (hT : ∀ x y, lt x y = false → lt y x = false → x = y) {l : List α} {d' : Array α} (hp : PermIn 0 l.toArray.size l.toArray d') (hs : SortedIn lt 0 l.toArray.size d') : d' = (isort lt l).toArray := by
  have h1 := sorted_unique_holds hO hT l.toArray d' hp hs
  have h2 := sorted_unique_holds hO hT l.toArray (isort lt l).toArray
    ⟨by simp [isort_len], fun i hi => by
      rcases hi with hi | hi
      · omega
      · rw [getElem!_neg _ _ (by simp [isort_len]; simpa using hi), getElem!_neg _ _ (by simpa using hi)], by
      have e1 : (isort lt l).toArray.extract 0 l.toArray.size = (isort lt l).toArray := by
        rw [show l.toArray.size = (isort lt l).toArray.size by simp [isort_len]]; exact Array.extract_size
      rw [e1, Array.extract_size]
      exact isort_perm lt l⟩
    (fun i j _ hij hj => by
      have := isort_sorted hO l
      rw [List.pairwise_iff_getElem] at this
      have hj' : j < (isort lt l).length := by rw [isort_len]; simpa using hj
      have := this i j (by omega) hj' hij
      simpa [hj', show i < (isort lt l).length by omega] using this)
  exact Array.toList_inj.1 (h1.trans h2.symm)
end
end Go.Am


/- slices.SortFunc as a part of the machine. -/
namespace Go.Am
open Go Go.RowKit Go.Sort Go.Proofs Go.Shelf

section
variable {P : Program} {gl : Nat → Bool} {α : Type} [Inhabited α]

theorem flatK_encs (e : Elem α) (l : List α) : (flatK e.enc e.k l.toArray).toList = e.encs l := by
  apply List.ext_getElem?
  intro t
  by_cases ht : t < l.length * e.k
  · have hk := e.k_pos
    have hq : t / e.k < l.length := (Nat.div_lt_iff_lt_mul hk).2 ht
    have hr : t % e.k < e.k := Nat.mod_lt _ hk
    have h1 : (flatK e.enc e.k l.toArray)[t]! = (e.enc l.toArray[t / e.k]!)[t % e.k]! := get_flatK _ _ _ _ (by simpa using ht)
    have hsz : t < (flatK e.enc e.k l.toArray).size := by simpa using ht
    rw [getElem!_pos (flatK e.enc e.k l.toArray) t hsz] at h1
    have h2 : l.toArray[t / e.k]! = l[t / e.k] := by simp [hq]
    rw [h2] at h1
    have h3 : (e.enc l[t / e.k])[t % e.k]! = (e.enc l[t / e.k])[t % e.k]'(by rw [e.elen]; exact hr) := by rw [getElem!_pos]
    rw [h3] at h1
    rw [Array.getElem?_toList, Array.getElem?_eq_getElem hsz, h1]
    -- the flat list at t
    have key : ∀ (l : List α) (t : Nat) (hq : t / e.k < l.length), (e.encs l)[t]? = some ((e.enc l[t / e.k])[t % e.k]'(by rw [e.elen]; exact Nat.mod_lt _ hk)) := by
      intro l
      induction l with
      | nil => intro t hq; simp at hq
      | cons x l ih =>
        intro t hq
        show (e.enc x ++ e.encs l)[t]? = _
        by_cases hlt : t < e.k
        · have h0 : t / e.k = 0 := Nat.div_eq_of_lt hlt
          have hm : t % e.k = t := Nat.mod_eq_of_lt hlt
          rw [List.getElem?_append_left (by rw [e.elen]; exact hlt)]
          simp [h0, hm, e.elen, hlt]
        · obtain ⟨u, rfl⟩ : ∃ u, t = u + e.k := ⟨t - e.k, by omega⟩
          have h0 : (u + e.k) / e.k = u / e.k + 1 := Nat.add_div_right u hk
          have hm : (u + e.k) % e.k = u % e.k := Nat.add_mod_right u e.k
          rw [List.getElem?_append_right (by rw [e.elen]; omega), e.elen, Nat.add_sub_cancel]
          have := ih u (by rw [h0] at hq; simpa using hq)
          rw [this]
          simp [h0, hm]
    exact (key l t hq).symm
  · rw [Array.getElem?_toList, Array.getElem?_eq_none (by simp; omega), List.getElem?_eq_none (by rw [e.encs_len]; omega)]

/-- What the sort does to a row. -/
def sortP (e : Elem α) (g : FuncId) (lt : α → α → Bool) (args : List V) (M : Mem) : Option (V × Mem) :=
  match args with
  | [.slice none 0 (.exact 0), .fn g' [] []] => cond (Nat.beq g' g) (some (.tup [], M)) none
  | [.slice (some (b, 0)) n _, .fn g' [] []] => cond (Nat.beq g' g) (cond (Nat.ble n maxRoom) (match M.get b with
      | some (.cells cs false) => (e.decs n cs).map fun l => (.tup [], M.set b (.cells (e.all (isort lt l)) false))
      | _ => none) none) none
  | _ => none

theorem Rel.heapEq {E : Emb} {M : Mem} {w w' : World} (h : Rel E M w) (hh : w'.heap = w.heap) : Rel E M w' := ⟨fun b c d k hb => by rw [hh]; exact h.at_ b c d k hb, fun b c d k hb => by rw [hh]; exact h.lt b c d k hb, h.inj, h.wf⟩
theorem Rel.grow {E : Emb} {M : Mem} {w : World} (h : Rel E M w) (os : Array Obj) : Rel E M (Go.Sort.grow w os) ∧ Ext E M w E M (Go.Sort.grow w os) := by
  have hk : ∀ c, c < w.heap.size → (w.heap ++ os)[c]? = w.heap[c]? := fun c hc => Array.getElem?_append_left hc
  refine ⟨⟨fun b c d k hb => ?_, fun b c d k hb => ?_, h.inj, h.wf⟩, ⟨Emb.le_refl E, rfl, rfl, rfl, ?_, Nat.le_refl _, fun c hc _ => hk c hc, fun b c d k h1 h2 => by (rw [h1] at h2; cases h2), fun _ _ => rfl, Nat.le_refl _⟩⟩
  · obtain ⟨o, ho, hr⟩ := h.at_ b c d k hb
    exact ⟨o, ho, by show OR E o (w.heap ++ os)[c]? d k; rw [hk c (h.lt b c d k hb)]; exact hr⟩
  · show c < (w.heap ++ os).size
    have := h.lt b c d k hb
    simp
    omega
  · show w.heap.size ≤ (w.heap ++ os).size
    simp

theorem sort_callOK {ρ : Ren} (L : SlLaysF0.n6 P ρ) (e : Elem α) (aE : ∀ w, (isAgg (ρ.t 24)).run P w = .ok true w) (zE : ∀ w, (Go.sizeOf (ρ.t 24)).run P w = .ok e.k w) (cf : α → α → Int) (hO : SWO (ltOf cf)) (hT : ∀ x y, (ltOf cf) x y = false → (ltOf cf) y x = false → x = y) (g : FuncId)
    (hg : Callable P g) (hc : Callable P (ρ.f 6))
    (hcmp : ∀ (x y : α) (w : World), Calls P g #[.agg (e.enc x).toArray, .agg (e.enc y).toArray] w fun r w' => r = .returned (.int .i64 (cf x y)) ∧ ∃ q os, w' = Go.Sort.grow (w.drewN q) os) :
    CallOK P gl fun f' args M => if f' = ρ.f 6 then sortP e g (ltOf cf) args M else none := by
  intro f' args M v M' he
  simp only at he
  split at he
  · rename_i ef
    subst ef
    refine ⟨hc, fun E w args' hR hG hA => ?_⟩
    unfold sortP at he
    split at he
    · rename_i g'
      obtain ⟨h1, he⟩ := cond_some he
      cases he
      have : ∃ fv, args' = #[.slice none 0 0, fv] := by
        obtain ⟨l⟩ := args'
        simp only at hA
        cases hA with
        | cons h1 t => cases h1 with | sliceNil => cases t with | cons h2 t => cases t; exact ⟨_, rfl⟩
      obtain ⟨fv, rfl⟩ := this
      refine (AnyF.slices_SortFunc_none L none 0 fv w).mono ?_
      rintro r w' ⟨rfl, rfl⟩
      exact ⟨E, _, rfl, .tup (cs' := #[]) .nil, hR, Ext.refl E M w'⟩
    · rename_i b n cap g'
      obtain ⟨h1, he1⟩ := cond_some he
      clear he
      have : g' = g := Nat.eq_of_beq_eq_true h1
      subst this
      obtain ⟨h2, he⟩ := cond_some he1
      have hn : n ≤ maxRoom := Nat.le_of_ble_eq_true h2
      split at he
      · rename_i cs hM
        simp only [Option.map_eq_some_iff] at he
        obtain ⟨l, hl, he⟩ := he
        cases he
        obtain ⟨hln, rfl⟩ := e.decs_some hl
        -- the arguments
        have : ∃ sv, args' = #[sv, .func (.func g') #[] #[]] ∧ VR E (.slice (some (b, 0)) n cap) sv := by
          obtain ⟨l⟩ := args'
          simp only at hA
          cases hA with
          | cons h1 t => cases t with
            | cons h2 t => cases t; cases h2 with
              | fn ha hb =>
                rename_i a' b'
                cases ha' : a' with | mk la => cases hb' : b' with | mk lb =>
                rw [ha'] at ha; rw [hb'] at hb
                cases ha; cases hb
                exact ⟨_, rfl, h1⟩
        obtain ⟨sv, rfl, hsv⟩ := this
        have hown : own M b := by unfold own; rw [hM]; trivial
        by_cases hn0 : n = 0
        · have hl0 : l = [] := List.eq_nil_of_length_eq_zero (by omega)
          subst hl0
          subst hn0
          have : ∃ p c, sv = .slice p 0 c := by
            cases hsv with
            | slice => exact ⟨_, _, rfl⟩
            | sliceZero => exact ⟨_, _, rfl⟩
          obtain ⟨p, c, rfl⟩ := this
          refine (AnyF.slices_SortFunc_none L p c _ w).mono ?_
          rintro r w' ⟨rfl, rfl⟩
          cases hsv with
          | slice hE _ _ =>
            obtain ⟨o, ho, hor⟩ := hR.at_ b _ _ _ hE
            rw [hM] at ho
            cases ho
            obtain ⟨arr, elem, fz, hx, hrest⟩ := hor
            obtain ⟨p1, p2⟩ := hR.setBlock (o' := .cells (e.all (isort (ltOf cf) [])) false) (w' := w') hE hown trivial rfl rfl rfl (Nat.le_refl _) rfl hx (fun _ _ => rfl) ⟨arr, elem, fz, rfl, hrest⟩
            exact ⟨E, _, rfl, .tup (cs' := #[]) .nil, p1, p2⟩
          | sliceZero hE _ =>
            obtain ⟨o, ho, hor⟩ := hR.at_ b _ _ _ hE
            rw [hM] at ho
            cases ho
            obtain ⟨arr, elem, fz, hx, hrest⟩ := hor
            obtain ⟨p1, p2⟩ := hR.setBlock (o' := .cells (e.all (isort (ltOf cf) [])) false) (w' := w') hE hown trivial rfl rfl rfl (Nat.le_refl _) rfl hx (fun _ _ => rfl) ⟨arr, elem, fz, rfl, hrest⟩
            exact ⟨E, _, rfl, .tup (cs' := #[]) .nil, p1, p2⟩
        · cases hsv with
          | sliceZero => exact absurd rfl hn0
          | slice hE hcap hnc =>
            rename_i c d kk c'
            obtain ⟨o, ho, hor⟩ := hR.at_ b c d kk hE
            rw [hM] at ho
            cases ho
            obtain ⟨arr, elem, fz, hx, hcr, hk, hfree⟩ := hor
            have hfree := hfree rfl
            have hlen := e.all_len l
            have hcell : ∀ t, t < l.length * e.k → ∃ u, arr[d + t]? = some u ∧ (e.encs l)[t]? = some u := by
              intro t ht
              have hv : (e.all l)[t]? = some (e.all l)[t] := List.getElem?_eq_getElem (by omega)
              obtain ⟨u, hu, hvu⟩ := hcr t _ hv
              obtain ⟨u2, hu2, hvu2⟩ := (e.rels E l).get t _ hv
              refine ⟨u, hu, ?_⟩
              -- both stand for the one cell
              have hF := (e.all_flat l)
              have hone : ∀ {x : V} {y z : Value}, x.flat = true → VR E x y → VR E x z → (∃ q : V, True) := fun _ _ _ => ⟨.nilFn, trivial⟩
              have : u2 = u := by
                have hall : VRs E (e.all l) ((e.encs l).set t u) := by
                  refine VRs.of_get (by rw [List.length_set]; exact (e.rels E l).length) fun i v hi => ?_
                  obtain ⟨y, hy, hvy⟩ := (e.rels E l).get i v hi
                  by_cases hit : i = t
                  · subst hit
                    rw [hv] at hi
                    cases hi
                    exact ⟨u, by rw [List.getElem?_set_self (by rw [e.encs_len]; exact ht)], hvu⟩
                  · exact ⟨y, by rw [List.getElem?_set_ne (Ne.symm hit)]; exact hy, hvy⟩
                have := e.rels_eq E l _ hall
                have h3 : ((e.encs l).set t u)[t]? = some u := List.getElem?_set_self (by rw [e.encs_len]; exact ht)
                rw [this, hu2] at h3
                exact Option.some.inj h3
              rw [← this]; exact hu2
            have hsz : ∀ t, t < l.length * e.k → d + t < arr.size := fun t ht => by
              obtain ⟨u, hu, _⟩ := hcell t ht
              exact (Array.getElem?_eq_some_iff.1 hu).1
            have hflat := flatK_encs e l
            have hH : HoldsK e.enc e.k w c d l.toArray := by
              intro j hj
              have hj' : j < l.length * e.k := by simpa using hj
              obtain ⟨u, hu, hu2⟩ := hcell j hj'
              rw [← hflat, Array.getElem?_toList] at hu2
              have hq : (flatK e.enc e.k l.toArray)[j]! = u := by
                rw [getElem!_pos (flatK e.enc e.k l.toArray) j hj]
                rw [Array.getElem?_eq_getElem hj] at hu2
                exact Option.some.inj hu2
              refine ⟨?_, ?_⟩
              · rw [hq]
                simp only [World.cell?, hx]
                exact hu
              · simp only [World.frozen?, hx]
                have := hfree (d + j) (hsz j hj')
                simpa using this
            have hclt := hR.lt b c d kk hE
            have hgE : ∀ args w, (callFunc g' args).run P w = .ok (.enter g' args) w := fun args w => run_callFunc hg args w
            have hcl : CmpLays P g' #[] e.enc e.k cf c d l.toArray.size w := fun m os dk _ x y => by
              have := hcmp x y (sortWorldK e.enc e.k w c d m dk os)
              simpa using this
            have hcall := AnyQ.slices_SortFunc L e.k aE zE e.enc e.elen e.one cf hO g' #[] c d c' l.toArray w hgE hcl hH hclt (by simp; unfold maxRoom at hn; omega)
            rw [show (⟨c, d + 0, none⟩ : Addr) = ⟨c, d, none⟩ from rfl, show n = l.toArray.size by simp [hln]]
            refine hcall.mono ?_
            rintro r w' ⟨rfl, d', q, os, hp, hs, rfl⟩
            have hd' := sorted_is_isort hO hT hp hs
            subst hd'
            -- the row laid anew
            have hR1 : Rel E M (Go.Sort.ahead w q) := hR.heapEq rfl
            have hX1 : Ext E M w E M (Go.Sort.ahead w q) := ⟨Emb.le_refl E, rfl, rfl, rfl, Nat.le_refl _, Nat.le_refl _, fun _ _ _ => rfl, fun b c d k h1 h2 => by (rw [h1] at h2; cases h2), fun _ _ => rfl, Nat.le_add_right _ _⟩
            have hflat2 := flatK_encs e (isort (ltOf cf) l)
            have hl2 := isort_len (ltOf cf) l
            generalize isort (ltOf cf) l = l2 at *
            have hx2 : (putRowK e.enc e.k (Go.Sort.ahead w q) c d l2.toArray).heap[c]? = some (.cells (putCells id d (flatK e.enc e.k l2.toArray) arr) elem fz) := by
              show (w.heap.modify c _)[c]? = _
              rw [Array.getElem?_modify, if_pos rfl, hx]
              rfl
            have hoth : ∀ i, i ≠ c → (putRowK e.enc e.k (Go.Sort.ahead w q) c d l2.toArray).heap[i]? = (Go.Sort.ahead w q).heap[i]? := by
              intro i hi
              show (w.heap.modify c _)[i]? = _
              rw [Array.getElem?_modify, if_neg (Ne.symm hi)]
              rfl
            have hps : (putCells id d (flatK e.enc e.k l2.toArray) arr).size = arr.size := by simp [putCells]
            obtain ⟨p1, p2⟩ := hR1.setBlock (o' := .cells (e.all l2) false) (w' := putRowK e.enc e.k (Go.Sort.ahead w q) c d l2.toArray) hE hown trivial rfl rfl rfl (Nat.le_refl _) (by simp [putRowK]) hx2 hoth
              ⟨_, elem, fz, rfl, fun i v hi => by
                have hil := (List.getElem?_eq_some_iff.1 hi).1
                rw [e.all_len] at hil
                obtain ⟨u, hu, hvu⟩ := (e.rels E l2).get i v hi
                refine ⟨u, ?_, hvu⟩
                have hii := hsz i (by rw [← hl2]; exact hil)
                rw [← hflat2, Array.getElem?_toList] at hu
                have hF : i < (flatK e.enc e.k l2.toArray).size := by simpa using hil
                simp only [putCells, Array.getElem?_mapIdx, Array.getElem?_eq_getElem hii, Option.map_some, id]
                rw [if_pos ⟨by omega, by omega⟩, Nat.add_sub_cancel_left, getElem!_pos (flatK e.enc e.k l2.toArray) i hF]
                rw [Array.getElem?_eq_getElem hF] at hu
                exact hu, by rw [hps]; exact hk, fun _ => by rw [hps]; exact hfree⟩
            obtain ⟨p3, p4⟩ := p1.grow os
            exact ⟨E, _, rfl, .tup (cs' := #[]) .nil, p3, (hX1.trans p2).trans p4⟩
      · cases he
    · cases he
  · cases he
end
end Go.Am

