/- The machine and what is proved of its runs, part 4: what each part says stands at its head. -/
import Derived.Test.YtefigbdkennhaaaDoorJ3
import Derived.Test.YtefigbdkennhaaaDoorChecked
import Derived.KernelRfl
set_option linter.unusedSimpArgs false
set_option linter.unusedVariables false
set_option linter.unusedSectionVars false
/- What the machine runs: the code of the functions, by name, written by a program of mine, each tied to the given program by the kernel. -/
namespace Go.Am.Tryd
open Go Go.Am Go.Proofs
abbrev Row := List Go.Am.Item
abbrev r (t : Nat) : Opd := .tmp t
abbrev i (d : Nat) (op : AOp) : Go.Am.Item := ⟨⟨some d, op, none⟩, []⟩
abbrev i0 (op : AOp) : Go.Am.Item := ⟨⟨none, op, none⟩, []⟩
abbrev g (d : Nat) (op : AOp) (t : Nat) (b : Bool) : Go.Am.Item := ⟨⟨some d, op, some (t, b)⟩, []⟩
abbrev a (d : Nat) (op : AOp) : AOper := ⟨some d, op, none⟩
abbrev F_law10_TreeReaches : Nat := 3
abbrev F_law10_TreeBelow : Nat := 4
abbrev F_law10_TreeBack : Nat := 5
abbrev F_law10_TreePlays : Nat := 6
abbrev F_law10_TreeNil : Nat := 7
abbrev F_law13_GraphAnyOrder : Nat := 8
abbrev F_law13_GraphPassed : Nat := 9
abbrev F_law10_Long : Nat := 10
abbrev F_law10_knows : Nat := 11
abbrev F_tree_New : Nat := 12
abbrev F_law10_do : Nat := 13
abbrev F_tree_Tree_Nodes : Nat := 14
abbrev F_tree_Tree_Above : Nat := 15
abbrev F_tree_Tree_Below : Nat := 16
abbrev F_tree_Tree_Spot : Nat := 17
abbrev F_tree_Tree_Within : Nat := 18
abbrev F_tree_Tree_Clone : Nat := 19
abbrev F_tree_Tree_Move : Nat := 20
abbrev F_law10_Own : Nat := 21
abbrev F_law10_num : Nat := 22
abbrev F_tree_Tree_Same : Nat := 23
abbrev F_tree_Tree_Add : Nat := 24
abbrev F_tree_Tree_Drop : Nat := 25
abbrev F_law10_step : Nat := 26
abbrev F_law10_same : Nat := 27
abbrev F_law05_Same : Nat := 28
abbrev F_ref10_Same : Nat := 29
abbrev F_tree_Tree_Has : Nat := 30
abbrev F_law13_Light : Nat := 31
abbrev F_law13_knows : Nat := 32
abbrev F_graph_New : Nat := 33
abbrev F_graph_Graph_Insert : Nat := 34
abbrev F_law07_Own : Nat := 35
abbrev F_graph_Graph_Same : Nat := 36
abbrev F_graph_Graph_Count : Nat := 37
abbrev F_graph_Graph_Done : Nat := 38
abbrev F_graph_Graph_Clone : Nat := 39
abbrev F_law13_num : Nat := 40
abbrev F_graph_Graph_Spot : Nat := 41
abbrev F_graph_Graph_Has : Nat := 42
abbrev F_graph_Graph_Ref : Nat := 43
abbrev F_tree_Tree_none : Nat := 44
abbrev F_slices_SortedFunc_Stamp : Nat := 45
abbrev F_maps_Keys_Stamp_Spot : Nat := 46
abbrev F_stamp_Compare : Nat := 47
abbrev F_slices_Collect_Stamp : Nat := 48
abbrev F_tree_Tree_up : Nat := 49
abbrev F_tree_Tree_node : Nat := 50
abbrev F_maps_Clone_Stamp_Spot : Nat := 51
abbrev F_op_Node : Nat := 52
abbrev F_tree_Spot_right : Nat := 53
abbrev F_maps_Equal_Stamp_Spot : Nat := 54
abbrev F_ref10_Tree_Add : Nat := 55
abbrev F_ref10_Tree_Move : Nat := 56
abbrev F_ref10_Tree_Drop : Nat := 57
abbrev F_ref10_Tree_Spot : Nat := 58
abbrev F_ref10_Tree_Has : Nat := 59
abbrev F_ref10_Tree_Below : Nat := 60
abbrev F_ref10_Tree_Above : Nat := 61
abbrev F_ref10_Tree_Within : Nat := 62
abbrev F_op_Place : Nat := 63
abbrev F_law13_ref12Light : Nat := 64
abbrev F_graph_Graph_Reaches : Nat := 65
abbrev F_graph_Graph_none : Nat := 66
abbrev F_op_Right : Nat := 67
abbrev F_graph_Graph_place : Nat := 68
abbrev F_slices_Insert_entry : Nat := 69
abbrev F_graph_entry_do : Nat := 70
abbrev F_maps_Equal_Stamp : Nat := 71
abbrev F_slices_Clone_entry : Nat := 72
abbrev F_maps_Clone_Stamp : Nat := 73
abbrev F_slices_SortFunc_Stamp : Nat := 74
abbrev F_maps_Keys_Stamp_Spot_c1 : Nat := 75
abbrev F_slices_AppendSeq_Stamp : Nat := 76
abbrev F_tree_Tree_up_c1 : Nat := 77
abbrev F_maps_clone : Nat := 78
abbrev F_stamp_Right : Nat := 79
abbrev F_poskey_Right : Nat := 80
abbrev F_ref10_Tree_find : Nat := 81
abbrev F_ref07_Node : Nat := 82
abbrev F_ref10_Right : Nat := 83
abbrev F_ref07_Root : Nat := 84
abbrev F_ref07_Trash : Nat := 85
abbrev F_graph_Graph_next : Nat := 86
abbrev F_op_parts : Nat := 87
abbrev F_op_Right_c1 : Nat := 88
abbrev F_slices_ContainsFunc_Stamp : Nat := 89
abbrev F_op_Right_c2 : Nat := 90
abbrev F_value_Right8 : Nat := 91
abbrev F_slices_BinarySearchFunc_entry_Stamp : Nat := 92
abbrev F_graph_Graph_place_c1 : Nat := 93
abbrev F_slices_overlaps_entry : Nat := 94
abbrev F_slices_rotateRight_entry : Nat := 95
abbrev F_graph_entry_do_c1 : Nat := 96
abbrev F_graph_entry_do_c2 : Nat := 97
abbrev F_graph_Graph_ring : Nat := 98
abbrev F_graph_Graph_link : Nat := 99
abbrev F_slices_pdqsortCmpFunc_Stamp : Nat := 100
abbrev F_math_bits_Len : Nat := 101
abbrev F_ref02_Compare : Nat := 102
abbrev F_ref02_Right : Nat := 103
abbrev F_ref07_Place : Nat := 104
abbrev F_ref04_Right : Nat := 105
abbrev F_slices_IndexFunc_Stamp : Nat := 106
abbrev F_value_Right : Nat := 107
abbrev F_slices_rotateLeft_entry : Nat := 108
abbrev F_graph_Graph_link_c1 : Nat := 109
abbrev F_slices_insertionSortCmpFunc_Stamp : Nat := 110
abbrev F_slices_heapSortCmpFunc_Stamp : Nat := 111
abbrev F_slices_breakPatternsCmpFunc_Stamp : Nat := 112
abbrev F_slices_choosePivotCmpFunc_Stamp : Nat := 113
abbrev F_slices_reverseRangeCmpFunc_Stamp : Nat := 114
abbrev F_slices_partialInsertionSortCmpFunc_Stamp : Nat := 115
abbrev F_slices_partitionEqualCmpFunc_Stamp : Nat := 116
abbrev F_slices_partitionCmpFunc_Stamp : Nat := 117
abbrev F_math_bits_Len32 : Nat := 118
abbrev F_math_bits_Len64 : Nat := 119
abbrev F_value_good : Nat := 120
abbrev F_slices_Reverse_entry : Nat := 121
abbrev F_slices_siftDownCmpFunc_Stamp : Nat := 122
abbrev F_slices_nextPowerOfTwo : Nat := 123
abbrev F_slices_xorshift_Next : Nat := 124
abbrev F_slices_medianAdjacentCmpFunc_Stamp : Nat := 125
abbrev F_slices_medianCmpFunc_Stamp : Nat := 126
abbrev F_slices_order2CmpFunc_Stamp : Nat := 127
abbrev F_ref10_Tree_Clone : Nat := 143
abbrev F_gosem_cut_vars : Nat := 149
/-! diorama/dioramalaw10.TreeReaches -/
def A_law10_TreeReaches_0 : Row := [i 2 (.mv (.const (.bool false)))]
def A_law10_TreeReaches_1 : Row := [i 11 (.mv (r 0)), i 12 (.call (.func F_law10_Long) [.tmp 11])]
def A_law10_TreeReaches_2 : Row := [i 13 (.call (.func F_law10_knows) []), i 2 (.mv (r 13))]
def A_law10_TreeReaches_3 : Row := [i 14 (.call (.func F_tree_New) []), i 3 (.mv (r 14))]
def A_law10_TreeReaches_4 : Row := [i 15 (.mv (r 3)), i 16 (.eqNil false (.ptr) (r 15) (.const (.ptr none))), i 17 (.mv (r 16)), g 18 (.call (.func F_law10_knows) []) 17
  false, g 19 (.un (.not) (r 18)) 17 false, i 20 (.pick (r 17) (.const (.bool true)) (r 19))]
def A_law10_TreeReaches_5 : Row := [i 2 (.mv (.const (.bool false)))]
def A_law10_TreeReaches_6 : Row := [i 4 (.mv (.const (.int (.i64) 0)))]
def A_law10_TreeReaches_7 : Row := [i 21 (.mv (r 4)), i 22 (.mv (r 0)), i 23 (.lenSlice (r 22)), i 24 (.bin (.lss) (r 21) (r 23))]
def A_law10_TreeReaches_8 : Row := [i 27 (.mv (r 3)), i 28 (.mv (r 0)), i 29 (.mv (r 4)), i 30 (.indexAddr 6 (r 28) (r 29)), i 31 (.load (some 6) (r 30)), i 32 (.call (.func
  F_law10_do) [.tmp 27, .tmp 31])]
def A_law10_TreeReaches_9 : Row := [i 25 (.mv (r 4)), i 26 (.bin (.add) (r 25) (.const (.int (.i64) 1))), i 4 (.mv (r 26))]
def A_law10_TreeReaches_10 : ACode := (.seq (.seq (.ops A_law10_TreeReaches_7) (.cond (r 24) .skip (.exit 0))) (.seq (.block 1 (.ops A_law10_TreeReaches_8)) (.ops
  A_law10_TreeReaches_9)))
def A_law10_TreeReaches_11 : Row := [i 33 (.mv (r 3)), i 34 (.call (.func F_tree_Tree_Nodes) [.tmp 33]), i 5 (.mv (r 34))]
def A_law10_TreeReaches_12 : Row := [i 6 (.mv (.const (.int (.i64) 0)))]
def A_law10_TreeReaches_13 : Row := [i 35 (.mv (r 6)), i 36 (.mv (r 5)), i 37 (.lenSlice (r 36)), i 38 (.bin (.lss) (r 35) (r 37))]
def A_law10_TreeReaches_14 : Row := [i 41 (.mv (r 3)), i 42 (.mv (r 5)), i 43 (.mv (r 6)), i 44 (.indexAddr 2 (r 42) (r 43)), i 45 (.load (some 2) (r 44)), i 46 (.call (.func
  F_tree_Tree_Above) [.tmp 41, .tmp 45]), i 7 (.mv (r 46))]
def A_law10_TreeReaches_15 : Row := [i 47 (.mv (r 7)), i 48 (.lenSlice (r 47)), i 49 (.bin (.eql) (r 48) (.const (.int (.i64) 0))), i 50 (.mv (r 49)), g 51 (.mv (r 7)) 50
  false, g 52 (.lenSlice (r 51)) 50 false, g 53 (.mv (r 5)) 50 false, g 54 (.lenSlice (r 53)) 50 false, g 55 (.bin (.gtr) (r 52) (r 54)) 50 false, i 56 (.pick (r 50)
  (.const (.bool true)) (r 55))]
def A_law10_TreeReaches_16 : Row := [i 2 (.mv (.const (.bool false)))]
def A_law10_TreeReaches_17 : Row := [i 57 (.makeMap), i 58 (.mv (r 5)), i 59 (.mv (r 6)), i 60 (.indexAddr 2 (r 58) (r 59)), i 61 (.load (some 2) (r 60)), i0 (.mapUpdate
  ⟨true, [.int (.i64), .int (.i64)]⟩ (r 57) (r 61) (.const (.bool true))), i 62 (.mv (r 57)), i 8 (.mv (r 62))]
def A_law10_TreeReaches_18 : Row := [i 9 (.mv (.const (.int (.i64) 0)))]
def A_law10_TreeReaches_19 : Row := [i 63 (.mv (r 9)), i 64 (.mv (r 7)), i 65 (.lenSlice (r 64)), i 66 (.bin (.lss) (r 63) (r 65))]
def A_law10_TreeReaches_20 : Row := [i 69 (.mv (r 8)), i 70 (.mv (r 7)), i 71 (.mv (r 9)), i 72 (.indexAddr 2 (r 70) (r 71)), i 73 (.load (some 2) (r 72)), i 74 (.lookup
  ⟨true, [.int (.i64), .int (.i64)]⟩ (.bool false) false (r 69) (r 73))]
def A_law10_TreeReaches_21 : Row := [i 2 (.mv (.const (.bool false)))]
def A_law10_TreeReaches_22 : Row := [i 75 (.mv (r 8)), i 76 (.mv (r 7)), i 77 (.mv (r 9)), i 78 (.indexAddr 2 (r 76) (r 77)), i 79 (.load (some 2) (r 78)), i0 (.mapUpdate
  ⟨true, [.int (.i64), .int (.i64)]⟩ (r 75) (r 79) (.const (.bool true)))]
def A_law10_TreeReaches_23 : Row := [i 67 (.mv (r 9)), i 68 (.bin (.add) (r 67) (.const (.int (.i64) 1))), i 9 (.mv (r 68))]
def A_law10_TreeReaches_24 : ACode := (.seq (.seq (.ops A_law10_TreeReaches_19) (.cond (r 66) .skip (.exit 4))) (.seq (.block 5 (.seq (.seq (.ops A_law10_TreeReaches_20)
  (.cond (r 74) (.seq (.ops A_law10_TreeReaches_21) .ret) .skip)) (.ops A_law10_TreeReaches_22))) (.ops A_law10_TreeReaches_23)))
def A_law10_TreeReaches_25 : Row := [i 80 (.mv (r 7)), i 81 (.mv (r 7)), i 82 (.lenSlice (r 81)), i 83 (.bin (.sub) (r 82) (.const (.int (.i64) 1))), i 84 (.indexAddr 2 (r 80)
  (r 83)), i 85 (.load (some 2) (r 84)), i 10 (.alloc [.int (.i64) 0, .int (.i64) 0]), i0 (.store 2 (r 10) (r 85))]
def A_law10_TreeReaches_26 : Row := [i 86 (.load (some 2) (r 10)), i 87 (.build [.int (.i64) 0, .int (.i64) 0] []), i 88 (.eq true ⟨true, [.int (.i64), .int (.i64)]⟩ (r 86) (r
  87)), i 89 (.mv (r 88)), g 90 (.load (some 2) (r 10)) 89 true, g 91 (.build [.int (.i64) 0, .int (.i64) 0] [(1, 1, .const (.int (.i64) 1))]) 89 true, g 92 (.eq true
  ⟨true, [.int (.i64), .int (.i64)]⟩ (r 90) (r 91)) 89 true, i 93 (.pick (r 89) (r 92) (.const (.bool false)))]
def A_law10_TreeReaches_27 : Row := [i 2 (.mv (.const (.bool false)))]
def A_law10_TreeReaches_28 : Row := [i 39 (.mv (r 6)), i 40 (.bin (.add) (r 39) (.const (.int (.i64) 1))), i 6 (.mv (r 40))]
def A_law10_TreeReaches_29 : ACode := (.seq (.seq (.ops A_law10_TreeReaches_13) (.cond (r 38) .skip (.exit 2))) (.seq (.block 3 (.seq (.ops A_law10_TreeReaches_14) (.seq (.seq
  (.ops A_law10_TreeReaches_15) (.cond (r 56) (.seq (.ops A_law10_TreeReaches_16) .ret) .skip)) (.seq (.ops A_law10_TreeReaches_17) (.seq (.seq (.ops
  A_law10_TreeReaches_18) (.block 4 (.loop A_law10_TreeReaches_24))) (.seq (.ops A_law10_TreeReaches_25) (.seq (.ops A_law10_TreeReaches_26) (.cond (r 93) (.seq (.ops
  A_law10_TreeReaches_27) .ret) .skip)))))))) (.ops A_law10_TreeReaches_28)))
def A_law10_TreeReaches_30 : Row := [i 2 (.mv (.const (.bool true)))]
/-- diorama/dioramalaw10.TreeReaches -/
def A_law10_TreeReaches : AFunc :=
 ⟨94, [.tmp 2], (.seq (.ops A_law10_TreeReaches_0) (.seq (.seq (.ops A_law10_TreeReaches_1) (.cond (r 12) (.seq (.ops A_law10_TreeReaches_2) .ret) .skip)) (.seq (.ops
  A_law10_TreeReaches_3) (.seq (.seq (.ops A_law10_TreeReaches_4) (.cond (r 20) (.seq (.ops A_law10_TreeReaches_5) .ret) .skip)) (.seq (.seq (.ops A_law10_TreeReaches_6)
  (.block 0 (.loop A_law10_TreeReaches_10))) (.seq (.ops A_law10_TreeReaches_11) (.seq (.seq (.ops A_law10_TreeReaches_12) (.block 2 (.loop A_law10_TreeReaches_29))) (.seq
  (.ops A_law10_TreeReaches_30) .ret))))))))⟩
/-! diorama/dioramalaw10.TreeBelow -/
def A_law10_TreeBelow_0 : Row := [i 2 (.mv (.const (.bool false)))]
def A_law10_TreeBelow_1 : Row := [i 13 (.mv (r 0)), i 14 (.call (.func F_law10_Long) [.tmp 13])]
def A_law10_TreeBelow_2 : Row := [i 15 (.call (.func F_law10_knows) []), i 2 (.mv (r 15))]
def A_law10_TreeBelow_3 : Row := [i 16 (.call (.func F_tree_New) []), i 3 (.mv (r 16))]
def A_law10_TreeBelow_4 : Row := [i 17 (.mv (r 3)), i 18 (.eqNil false (.ptr) (r 17) (.const (.ptr none))), i 19 (.mv (r 18)), g 20 (.call (.func F_law10_knows) []) 19 false,
  g 21 (.un (.not) (r 20)) 19 false, i 22 (.pick (r 19) (.const (.bool true)) (r 21))]
def A_law10_TreeBelow_5 : Row := [i 2 (.mv (.const (.bool false)))]
def A_law10_TreeBelow_6 : Row := [i 4 (.mv (.const (.int (.i64) 0)))]
def A_law10_TreeBelow_7 : Row := [i 23 (.mv (r 4)), i 24 (.mv (r 0)), i 25 (.lenSlice (r 24)), i 26 (.bin (.lss) (r 23) (r 25))]
def A_law10_TreeBelow_8 : Row := [i 29 (.mv (r 3)), i 30 (.mv (r 0)), i 31 (.mv (r 4)), i 32 (.indexAddr 6 (r 30) (r 31)), i 33 (.load (some 6) (r 32)), i 34 (.call (.func
  F_law10_do) [.tmp 29, .tmp 33])]
def A_law10_TreeBelow_9 : Row := [i 27 (.mv (r 4)), i 28 (.bin (.add) (r 27) (.const (.int (.i64) 1))), i 4 (.mv (r 28))]
def A_law10_TreeBelow_10 : ACode := (.seq (.seq (.ops A_law10_TreeBelow_7) (.cond (r 26) .skip (.exit 0))) (.seq (.block 1 (.ops A_law10_TreeBelow_8)) (.ops
  A_law10_TreeBelow_9)))
def A_law10_TreeBelow_11 : Row := [i 35 (.mv (r 3)), i 36 (.call (.func F_tree_Tree_Nodes) [.tmp 35]), i 5 (.mv (r 36))]
def A_law10_TreeBelow_12 : Row := [i 37 (.buildSlice 0 [] []), i 38 (.mv (r 5)), i 39 (.append 2 16 (r 37) (r 38)), i 40 (.build [.int (.i64) 0, .int (.i64) 0] []), i 41
  (.build [.int (.i64) 0, .int (.i64) 0] [(1, 1, .const (.int (.i64) 1))]), i 42 (.buildSlice 2 [.int (.i64) 0, .int (.i64) 0, .int (.i64) 0, .int (.i64) 0] [(0, 2, .tmp
  40), (2, 2, .tmp 41)]), i 43 (.append 2 16 (r 39) (r 42)), i 6 (.mv (r 43))]
def A_law10_TreeBelow_13 : Row := [i 7 (.mv (.const (.int (.i64) 0)))]
def A_law10_TreeBelow_14 : Row := [i 8 (.mv (.const (.int (.i64) 0)))]
def A_law10_TreeBelow_15 : Row := [i 44 (.mv (r 8)), i 45 (.mv (r 6)), i 46 (.lenSlice (r 45)), i 47 (.bin (.lss) (r 44) (r 46))]
def A_law10_TreeBelow_16 : Row := [i 50 (.mv (r 3)), i 51 (.mv (r 6)), i 52 (.mv (r 8)), i 53 (.indexAddr 2 (r 51) (r 52)), i 54 (.load (some 2) (r 53)), i 55 (.call (.func
  F_tree_Tree_Below) [.tmp 50, .tmp 54]), i 9 (.mv (r 55))]
def A_law10_TreeBelow_17 : Row := [i 56 (.mv (r 7)), i 57 (.mv (r 9)), i 58 (.lenSlice (r 57)), i 59 (.bin (.add) (r 56) (r 58)), i 7 (.mv (r 59))]
def A_law10_TreeBelow_18 : Row := [i 10 (.mv (.const (.int (.i64) 0)))]
def A_law10_TreeBelow_19 : Row := [i 60 (.mv (r 10)), i 61 (.mv (r 9)), i 62 (.lenSlice (r 61)), i 63 (.bin (.lss) (r 60) (r 62))]
def A_law10_TreeBelow_20 : Row := [i 67 (.mv (r 3)), i 68 (.mv (r 9)), i 69 (.mv (r 10)), i 70 (.indexAddr 2 (r 68) (r 69)), i 71 (.load (some 2) (r 70)), i 72 (.call (.func
  F_tree_Tree_Spot) [.tmp 67, .tmp 71]), i 66 (.mv (r 72)), i 73 (.extract (r 66) 0), i 74 (.extract (r 66) 1), i 11 (.alloc [.int (.i64) 0, .int (.i64) 0, .str []]), i0
  (.store 3 (r 11) (r 73)), i 12 (.mv (r 74))]
def A_law10_TreeBelow_21 : Row := [i 75 (.mv (r 12)), i 76 (.un (.not) (r 75)), i 77 (.mv (r 76)), g 78 (.fieldAddr 0 (r 11)) 77 false, g 79 (.load (some 2) (r 78)) 77 false,
  g 80 (.mv (r 6)) 77 false, g 81 (.mv (r 8)) 77 false, g 82 (.indexAddr 2 (r 80) (r 81)) 77 false, g 83 (.load (some 2) (r 82)) 77 false, g 84 (.eq true ⟨true, [.int
  (.i64), .int (.i64)]⟩ (r 79) (r 83)) 77 false, i 85 (.pick (r 77) (.const (.bool true)) (r 84)), i 86 (.mv (r 85)), g 87 (.mv (r 3)) 86 false, g 88 (.mv (r 9)) 86 false,
  g 89 (.mv (r 10)) 86 false, g 90 (.indexAddr 2 (r 88) (r 89)) 86 false, g 91 (.load (some 2) (r 90)) 86 false, g 92 (.mv (r 9)) 86 false, g 93 (.mv (r 10)) 86 false, g
  94 (.indexAddr 2 (r 92) (r 93)) 86 false, g 95 (.load (some 2) (r 94)) 86 false, g 96 (.call (.func F_tree_Tree_Within) [.tmp 87, .tmp 91, .tmp 95]) 86 false, g 97 (.un
  (.not) (r 96)) 86 false, i 98 (.pick (r 86) (.const (.bool true)) (r 97)), i 99 (.mv (r 98)), g 100 (.mv (r 3)) 99 false, g 101 (.mv (r 6)) 99 false, g 102 (.mv (r 8))
  99 false, g 103 (.indexAddr 2 (r 101) (r 102)) 99 false, g 104 (.load (some 2) (r 103)) 99 false, g 105 (.mv (r 9)) 99 false, g 106 (.mv (r 10)) 99 false, g 107
  (.indexAddr 2 (r 105) (r 106)) 99 false, g 108 (.load (some 2) (r 107)) 99 false, g 109 (.call (.func F_tree_Tree_Within) [.tmp 100, .tmp 104, .tmp 108]) 99 false, g 110
  (.un (.not) (r 109)) 99 false, i 111 (.pick (r 99) (.const (.bool true)) (r 110))]
def A_law10_TreeBelow_22 : Row := [i 2 (.mv (.const (.bool false)))]
def A_law10_TreeBelow_23 : Row := [i 64 (.mv (r 10)), i 65 (.bin (.add) (r 64) (.const (.int (.i64) 1))), i 10 (.mv (r 65))]
def A_law10_TreeBelow_24 : ACode := (.seq (.seq (.ops A_law10_TreeBelow_19) (.cond (r 63) .skip (.exit 4))) (.seq (.block 5 (.seq (.ops A_law10_TreeBelow_20) (.seq (.ops
  A_law10_TreeBelow_21) (.cond (r 111) (.seq (.ops A_law10_TreeBelow_22) .ret) .skip)))) (.ops A_law10_TreeBelow_23)))
def A_law10_TreeBelow_25 : Row := [i 48 (.mv (r 8)), i 49 (.bin (.add) (r 48) (.const (.int (.i64) 1))), i 8 (.mv (r 49))]
def A_law10_TreeBelow_26 : ACode := (.seq (.seq (.ops A_law10_TreeBelow_15) (.cond (r 47) .skip (.exit 2))) (.seq (.block 3 (.seq (.ops A_law10_TreeBelow_16) (.seq (.ops
  A_law10_TreeBelow_17) (.seq (.ops A_law10_TreeBelow_18) (.block 4 (.loop A_law10_TreeBelow_24)))))) (.ops A_law10_TreeBelow_25)))
def A_law10_TreeBelow_27 : Row := [i 112 (.mv (r 7)), i 113 (.mv (r 5)), i 114 (.lenSlice (r 113)), i 115 (.bin (.eql) (r 112) (r 114)), i 2 (.mv (r 115))]
/-- diorama/dioramalaw10.TreeBelow -/
def A_law10_TreeBelow : AFunc :=
 ⟨116, [.tmp 2], (.seq (.ops A_law10_TreeBelow_0) (.seq (.seq (.ops A_law10_TreeBelow_1) (.cond (r 14) (.seq (.ops A_law10_TreeBelow_2) .ret) .skip)) (.seq (.ops
  A_law10_TreeBelow_3) (.seq (.seq (.ops A_law10_TreeBelow_4) (.cond (r 22) (.seq (.ops A_law10_TreeBelow_5) .ret) .skip)) (.seq (.seq (.ops A_law10_TreeBelow_6) (.block 0
  (.loop A_law10_TreeBelow_10))) (.seq (.ops A_law10_TreeBelow_11) (.seq (.ops A_law10_TreeBelow_12) (.seq (.ops A_law10_TreeBelow_13) (.seq (.seq (.ops
  A_law10_TreeBelow_14) (.block 2 (.loop A_law10_TreeBelow_26))) (.seq (.ops A_law10_TreeBelow_27) .ret))))))))))⟩
/-! diorama/dioramalaw10.TreeBack -/
def A_law10_TreeBack_0 : Row := [i 3 (.box (r 1)), i 4 (.mv (.const (.bool false)))]
def A_law10_TreeBack_1 : Row := [i 14 (.mv (r 0)), i 15 (.call (.func F_law10_Long) [.tmp 14]), i 16 (.mv (r 15)), g 17 (.load (some 6) (r 3)) 16 false, g 18 (.buildSlice 1
  [.int (.i64) 0, .int (.i64) 0, .int (.i64) 0, .int (.i64) 0, .int (.i64) 0, .str []] [(0, 6, .tmp 17)]) 16 false, g 19 (.call (.func F_law10_Long) [.tmp 18]) 16 false, i
  20 (.pick (r 16) (.const (.bool true)) (r 19))]
def A_law10_TreeBack_2 : Row := [i 21 (.call (.func F_law10_knows) []), i 4 (.mv (r 21))]
def A_law10_TreeBack_3 : Row := [i 22 (.call (.func F_tree_New) []), i 5 (.mv (r 22))]
def A_law10_TreeBack_4 : Row := [i 23 (.mv (r 5)), i 24 (.eqNil false (.ptr) (r 23) (.const (.ptr none))), i 25 (.mv (r 24)), g 26 (.call (.func F_law10_knows) []) 25 false, g
  27 (.un (.not) (r 26)) 25 false, i 28 (.pick (r 25) (.const (.bool true)) (r 27))]
def A_law10_TreeBack_5 : Row := [i 4 (.mv (.const (.bool false)))]
def A_law10_TreeBack_6 : Row := [i 6 (.mv (.const (.int (.i64) 0)))]
def A_law10_TreeBack_7 : Row := [i 29 (.mv (r 6)), i 30 (.mv (r 0)), i 31 (.lenSlice (r 30)), i 32 (.bin (.lss) (r 29) (r 31))]
def A_law10_TreeBack_8 : Row := [i 35 (.mv (r 5)), i 36 (.mv (r 0)), i 37 (.mv (r 6)), i 38 (.indexAddr 6 (r 36) (r 37)), i 39 (.load (some 6) (r 38)), i 40 (.call (.func
  F_law10_do) [.tmp 35, .tmp 39])]
def A_law10_TreeBack_9 : Row := [i 33 (.mv (r 6)), i 34 (.bin (.add) (r 33) (.const (.int (.i64) 1))), i 6 (.mv (r 34))]
def A_law10_TreeBack_10 : ACode := (.seq (.seq (.ops A_law10_TreeBack_7) (.cond (r 32) .skip (.exit 0))) (.seq (.block 1 (.ops A_law10_TreeBack_8)) (.ops A_law10_TreeBack_9)))
def A_law10_TreeBack_11 : Row := [i 41 (.mv (r 5)), i 42 (.call (.func F_tree_Tree_Clone) [.tmp 41]), i 7 (.mv (r 42))]
def A_law10_TreeBack_12 : Row := [i 44 (.mv (r 5)), i 45 (.fieldAddr 1 (r 3)), i 46 (.load (some 2) (r 45)), i 47 (.fieldAddr 3 (r 3)), i 48 (.load (some 3) (r 47)), i 8
  (.alloc [.int (.i64) 0, .int (.i64) 0, .str []]), ⟨a 49 (.call (.func F_law10_Own) [.tmp 48]), [a 8 (.alloc [.int (.i64) 0, .int (.i64) 0, .str []]), a 46 (.load (some
  2) (r 45))]⟩, ⟨a 50 (.call (.func F_tree_Tree_Move) [.tmp 44, .tmp 46, .tmp 49]), [a 8 (.alloc [.int (.i64) 0, .int (.i64) 0, .str []])]⟩, i 43 (.mv (r 50)), i 51
  (.extract (r 43) 0), i 52 (.extract (r 43) 1), i0 (.store 3 (r 8) (r 51)), i 9 (.mv (r 52))]
def A_law10_TreeBack_13 : Row := [i 53 (.mv (r 9)), i 54 (.call (.func F_law10_num) [.tmp 53]), i 55 (.bin (.eql) (r 54) (.const (.int (.i64) 0)))]
def A_law10_TreeBack_14 : Row := [i 57 (.mv (r 5)), i 58 (.fieldAddr 1 (r 3)), i 59 (.load (some 2) (r 58)), i 60 (.load (some 3) (r 8)), i 61 (.call (.func F_tree_Tree_Move)
  [.tmp 57, .tmp 59, .tmp 60]), i 56 (.mv (r 61)), i 62 (.extract (r 56) 0), i 63 (.extract (r 56) 1), i 10 (.alloc [.int (.i64) 0, .int (.i64) 0, .str []]), i0 (.store 3
  (r 10) (r 62)), i 11 (.mv (r 63))]
def A_law10_TreeBack_15 : Row := [i 64 (.mv (r 11)), i 65 (.call (.func F_law10_num) [.tmp 64]), i 66 (.bin (.neq) (r 65) (.const (.int (.i64) 0))), i 67 (.mv (r 66)), g 68
  (.load (some 3) (r 10)) 67 false, g 69 (.fieldAddr 3 (r 3)) 67 false, g 70 (.load (some 3) (r 69)) 67 false, ⟨⟨(some 71), .call (.func F_law10_Own) [.tmp 70], (some (67,
  false))⟩, [⟨(some 68), .load (some 3) (r 10), (some (67, false))⟩]⟩, g 72 (.eq true ⟨true, [.int (.i64), .int (.i64), .str]⟩ (r 68) (r 71)) 67 false, i 73 (.pick (r 67)
  (.const (.bool true)) (r 72))]
def A_law10_TreeBack_16 : Row := [i 4 (.mv (.const (.bool false)))]
def A_law10_TreeBack_17 : Row := [i 74 (.mv (r 5)), i 75 (.mv (r 7)), i 76 (.call (.func F_tree_Tree_Same) [.tmp 74, .tmp 75]), i 77 (.un (.not) (r 76))]
def A_law10_TreeBack_18 : Row := [i 4 (.mv (.const (.bool false)))]
def A_law10_TreeBack_19 : Row := [i 78 (.mv (r 5)), i 79 (.fieldAddr 1 (r 3)), i 80 (.load (some 2) (r 79)), i 81 (.fieldAddr 3 (r 3)), i 82 (.load (some 3) (r 81)), ⟨a 83
  (.call (.func F_law10_Own) [.tmp 82]), [a 80 (.load (some 2) (r 79))]⟩, i 84 (.call (.func F_tree_Tree_Add) [.tmp 78, .tmp 80, .tmp 83]), i 85 (.call (.func F_law10_num)
  [.tmp 84]), i 86 (.bin (.eql) (r 85) (.const (.int (.i64) 0)))]
def A_law10_TreeBack_20 : Row := [i 88 (.mv (r 5)), i 89 (.fieldAddr 1 (r 3)), i 90 (.load (some 2) (r 89)), i 91 (.call (.func F_tree_Tree_Drop) [.tmp 88, .tmp 90]), i 87
  (.mv (r 91)), i 92 (.extract (r 87) 0), i 93 (.extract (r 87) 1), i 12 (.alloc [.int (.i64) 0, .int (.i64) 0, .str []]), i0 (.store 3 (r 12) (r 92)), i 13 (.mv (r 93))]
def A_law10_TreeBack_21 : Row := [i 94 (.mv (r 13)), i 95 (.call (.func F_law10_num) [.tmp 94]), i 96 (.bin (.neq) (r 95) (.const (.int (.i64) 0))), i 97 (.mv (r 96)), g 98
  (.load (some 3) (r 12)) 97 false, g 99 (.fieldAddr 3 (r 3)) 97 false, g 100 (.load (some 3) (r 99)) 97 false, ⟨⟨(some 101), .call (.func F_law10_Own) [.tmp 100], (some
  (97, false))⟩, [⟨(some 98), .load (some 3) (r 12), (some (97, false))⟩]⟩, g 102 (.eq true ⟨true, [.int (.i64), .int (.i64), .str]⟩ (r 98) (r 101)) 97 false, i 103 (.pick
  (r 97) (.const (.bool true)) (r 102))]
def A_law10_TreeBack_22 : Row := [i 4 (.mv (.const (.bool false)))]
def A_law10_TreeBack_23 : Row := [i 104 (.mv (r 5)), i 105 (.mv (r 7)), i 106 (.call (.func F_tree_Tree_Same) [.tmp 104, .tmp 105]), i 4 (.mv (r 106))]
/-- diorama/dioramalaw10.TreeBack -/
def A_law10_TreeBack : AFunc :=
 ⟨107, [.tmp 4], (.seq (.ops A_law10_TreeBack_0) (.seq (.seq (.ops A_law10_TreeBack_1) (.cond (r 20) (.seq (.ops A_law10_TreeBack_2) .ret) .skip)) (.seq (.ops
  A_law10_TreeBack_3) (.seq (.seq (.ops A_law10_TreeBack_4) (.cond (r 28) (.seq (.ops A_law10_TreeBack_5) .ret) .skip)) (.seq (.seq (.ops A_law10_TreeBack_6) (.block 0
  (.loop A_law10_TreeBack_10))) (.seq (.ops A_law10_TreeBack_11) (.seq (.ops A_law10_TreeBack_12) (.seq (.seq (.ops A_law10_TreeBack_13) (.cond (r 55) (.seq (.ops
  A_law10_TreeBack_14) (.seq (.ops A_law10_TreeBack_15) (.cond (r 73) (.seq (.ops A_law10_TreeBack_16) .ret) .skip))) .skip)) (.seq (.seq (.ops A_law10_TreeBack_17) (.cond
  (r 77) (.seq (.ops A_law10_TreeBack_18) .ret) .skip)) (.seq (.seq (.ops A_law10_TreeBack_19) (.cond (r 86) (.seq (.ops A_law10_TreeBack_20) (.seq (.ops
  A_law10_TreeBack_21) (.cond (r 103) (.seq (.ops A_law10_TreeBack_22) .ret) .skip))) .skip)) (.seq (.ops A_law10_TreeBack_23) .ret)))))))))))⟩
/-! diorama/dioramalaw10.TreePlays -/
def A_law10_TreePlays_0 : Row := [i 4 (.mv (.const (.bool false)))]
def A_law10_TreePlays_1 : Row := [i 14 (.mv (r 0)), i 15 (.call (.func F_law10_Long) [.tmp 14]), i 16 (.mv (r 15)), g 17 (.mv (r 1)) 16 false, g 18 (.call (.func F_law10_Long)
  [.tmp 17]) 16 false, i 19 (.pick (r 16) (.const (.bool true)) (r 18)), i 20 (.mv (r 19)), g 21 (.mv (r 0)) 20 false, g 22 (.lenSlice (r 21)) 20 false, g 23 (.bin (.gtr)
  (r 22) (.const (.int (.i64) 50))) 20 false, i 24 (.pick (r 20) (.const (.bool true)) (r 23)), i 25 (.mv (r 24)), g 26 (.mv (r 1)) 25 false, g 27 (.lenSlice (r 26)) 25
  false, g 28 (.bin (.gtr) (r 27) (.const (.int (.i64) 50))) 25 false, i 29 (.pick (r 25) (.const (.bool true)) (r 28))]
def A_law10_TreePlays_2 : Row := [i 30 (.call (.func F_law10_knows) []), i 4 (.mv (r 30))]
def A_law10_TreePlays_3 : Row := [i 31 (.call (.func F_tree_New) []), i 5 (.mv (r 31))]
def A_law10_TreePlays_4 : Row := [i 32 (.call (.func F_tree_New) []), i 6 (.mv (r 32))]
def A_law10_TreePlays_5 : Row := [i 33 (.build [.slice none 0 (.exact 0)] []), i 34 (.box (r 33)), i 7 (.mv (r 34))]
def A_law10_TreePlays_6 : Row := [i 35 (.build [.slice none 0 (.exact 0)] []), i 36 (.box (r 35)), i 8 (.mv (r 36))]
def A_law10_TreePlays_7 : Row := [i 37 (.mv (r 5)), i 38 (.eqNil false (.ptr) (r 37) (.const (.ptr none))), i 39 (.mv (r 38)), g 40 (.mv (r 6)) 39 false, g 41 (.eqNil false
  (.ptr) (r 40) (.const (.ptr none))) 39 false, i 42 (.pick (r 39) (.const (.bool true)) (r 41)), i 43 (.mv (r 42)), g 44 (.call (.func F_law10_knows) []) 43 false, g 45
  (.un (.not) (r 44)) 43 false, i 46 (.pick (r 43) (.const (.bool true)) (r 45))]
def A_law10_TreePlays_8 : Row := [i 4 (.mv (.const (.bool false)))]
def A_law10_TreePlays_9 : Row := [i 9 (.mv (.const (.int (.i64) 0)))]
def A_law10_TreePlays_10 : Row := [i 47 (.mv (r 9)), i 48 (.mv (r 0)), i 49 (.lenSlice (r 48)), i 50 (.bin (.lss) (r 47) (r 49)), i 51 (.mv (r 50)), g 52 (.mv (r 9)) 51 false,
  g 53 (.mv (r 1)) 51 false, g 54 (.lenSlice (r 53)) 51 false, g 55 (.bin (.lss) (r 52) (r 54)) 51 false, i 56 (.pick (r 51) (.const (.bool true)) (r 55))]
def A_law10_TreePlays_11 : Row := [i 59 (.mv (r 9)), i 60 (.mv (r 0)), i 61 (.lenSlice (r 60)), i 62 (.bin (.lss) (r 59) (r 61))]
def A_law10_TreePlays_12 : Row := [i 63 (.mv (r 0)), i 64 (.mv (r 9)), i 65 (.indexAddr 6 (r 63) (r 64)), i 66 (.fieldAddr 0 (r 65)), i 67 (.load none (r 66)), i 68 (.bin
  (.eql) (r 67) (.const (.int (.i64) 3)))]
def A_law10_TreePlays_13 : Row := [i 69 (.mv (r 5)), i 70 (.call (.func F_tree_Tree_Clone) [.tmp 69]), i 10 (.mv (r 70))]
def A_law10_TreePlays_14 : Row := [i 71 (.mv (r 5)), i 72 (.build [.int (.i64) 0, .int (.i64) 0] [(0, 1, .const (.int (.i64) 549755813888))]), i 73 (.build [.int (.i64) 0,
  .int (.i64) 0, .str []] [(2, 1, .const (.str [122]))]), i 74 (.call (.func F_tree_Tree_Add) [.tmp 71, .tmp 72, .tmp 73])]
def A_law10_TreePlays_15 : Row := [i 75 (.mv (r 10)), i 5 (.mv (r 75))]
def A_law10_TreePlays_16 : Row := [i 76 (.mv (r 5)), i 77 (.eqNil false (.ptr) (r 76) (.const (.ptr none))), i 78 (.mv (r 77)), g 79 (.mv (r 5)) 78 false, g 80 (.mv (r 7)) 78
  false, g 81 (.mv (r 0)) 78 false, g 82 (.mv (r 9)) 78 false, g 83 (.indexAddr 6 (r 81) (r 82)) 78 false, g 84 (.load (some 6) (r 83)) 78 false, g 85 (.call (.func
  F_law10_step) [.tmp 79, .tmp 80, .tmp 84]) 78 false, g 86 (.un (.not) (r 85)) 78 false, i 87 (.pick (r 78) (.const (.bool true)) (r 86))]
def A_law10_TreePlays_17 : Row := [i 4 (.mv (.const (.bool false)))]
def A_law10_TreePlays_18 : Row := [i 88 (.mv (r 9)), i 89 (.mv (r 1)), i 90 (.lenSlice (r 89)), i 91 (.bin (.lss) (r 88) (r 90)), i 92 (.mv (r 91)), g 93 (.mv (r 6)) 92 true,
  g 94 (.mv (r 8)) 92 true, g 95 (.mv (r 1)) 92 true, g 96 (.mv (r 9)) 92 true, g 97 (.indexAddr 6 (r 95) (r 96)) 92 true, g 98 (.load (some 6) (r 97)) 92 true, g 99
  (.call (.func F_law10_step) [.tmp 93, .tmp 94, .tmp 98]) 92 true, g 100 (.un (.not) (r 99)) 92 true, i 101 (.pick (r 92) (r 100) (.const (.bool false)))]
def A_law10_TreePlays_19 : Row := [i 4 (.mv (.const (.bool false)))]
def A_law10_TreePlays_20 : Row := [i 11 (.mv (.const (.int (.i64) 0)))]
def A_law10_TreePlays_21 : Row := [i 102 (.mv (r 11)), i 103 (.mv (r 0)), i 104 (.lenSlice (r 103)), i 105 (.bin (.lss) (r 102) (r 104))]
def A_law10_TreePlays_22 : Row := [i 108 (.mv (r 5)), i 109 (.mv (r 7)), i 110 (.mv (r 0)), i 111 (.mv (r 11)), i 112 (.indexAddr 6 (r 110) (r 111)), i 113 (.fieldAddr 1 (r
  112)), i 114 (.load (some 2) (r 113)), i 115 (.mv (r 0)), i 116 (.mv (r 11)), i 117 (.indexAddr 6 (r 115) (r 116)), i 118 (.fieldAddr 3 (r 117)), i 119 (.fieldAddr 0 (r
  118)), i 120 (.load (some 2) (r 119)), i 121 (.call (.func F_law10_same) [.tmp 108, .tmp 109, .tmp 114, .tmp 120]), i 122 (.un (.not) (r 121))]
def A_law10_TreePlays_23 : Row := [i 4 (.mv (.const (.bool false)))]
def A_law10_TreePlays_24 : Row := [i 106 (.mv (r 11)), i 107 (.bin (.add) (r 106) (.const (.int (.i64) 1))), i 11 (.mv (r 107))]
def A_law10_TreePlays_25 : ACode := (.seq (.seq (.ops A_law10_TreePlays_21) (.cond (r 105) .skip (.exit 2))) (.seq (.block 3 (.seq (.ops A_law10_TreePlays_22) (.cond (r 122)
  (.seq (.ops A_law10_TreePlays_23) .ret) .skip))) (.ops A_law10_TreePlays_24)))
def A_law10_TreePlays_26 : Row := [i 57 (.mv (r 9)), i 58 (.bin (.add) (r 57) (.const (.int (.i64) 1))), i 9 (.mv (r 58))]
def A_law10_TreePlays_27 : ACode := (.seq (.seq (.ops A_law10_TreePlays_10) (.cond (r 56) .skip (.exit 0))) (.seq (.block 1 (.seq (.seq (.ops A_law10_TreePlays_11) (.cond (r
  62) (.seq (.seq (.ops A_law10_TreePlays_12) (.cond (r 68) (.seq (.ops A_law10_TreePlays_13) (.seq (.ops A_law10_TreePlays_14) (.ops A_law10_TreePlays_15))) .skip)) (.seq
  (.ops A_law10_TreePlays_16) (.cond (r 87) (.seq (.ops A_law10_TreePlays_17) .ret) .skip))) .skip)) (.seq (.seq (.ops A_law10_TreePlays_18) (.cond (r 101) (.seq (.ops
  A_law10_TreePlays_19) .ret) .skip)) (.seq (.ops A_law10_TreePlays_20) (.block 2 (.loop A_law10_TreePlays_25)))))) (.ops A_law10_TreePlays_26)))
def A_law10_TreePlays_28 : Row := [i 12 (.mv (.const (.slice none 0 (.exact 0))))]
def A_law10_TreePlays_29 : Row := [i 13 (.mv (.const (.int (.i64) 0)))]
def A_law10_TreePlays_30 : Row := [i 123 (.mv (r 13)), i 124 (.mv (r 7)), i 125 (.nilCheck (r 124)), i 126 (.fieldAddr 0 (r 125)), i 127 (.load none (r 126)), i 128 (.lenSlice
  (r 127)), i 129 (.bin (.lss) (r 123) (r 128))]
def A_law10_TreePlays_31 : Row := [i 132 (.mv (r 12)), i 133 (.mv (r 7)), i 134 (.nilCheck (r 133)), i 135 (.fieldAddr 0 (r 134)), i 136 (.load none (r 135)), i 137 (.mv (r
  13)), i 138 (.indexAddr 5 (r 136) (r 137)), i 139 (.fieldAddr 0 (r 138)), i 140 (.load (some 2) (r 139)), i 141 (.buildSlice 1 [.int (.i64) 0, .int (.i64) 0] [(0, 2,
  .tmp 140)]), i 142 (.append 2 16 (r 132) (r 141)), i 12 (.mv (r 142))]
def A_law10_TreePlays_32 : Row := [i 130 (.mv (r 13)), i 131 (.bin (.add) (r 130) (.const (.int (.i64) 1))), i 13 (.mv (r 131))]
def A_law10_TreePlays_33 : ACode := (.seq (.seq (.ops A_law10_TreePlays_30) (.cond (r 129) .skip (.exit 4))) (.seq (.block 5 (.ops A_law10_TreePlays_31)) (.ops
  A_law10_TreePlays_32)))
def A_law10_TreePlays_34 : Row := [i 143 (.mv (r 5)), i 144 (.call (.func F_tree_Tree_Nodes) [.tmp 143]), i 145 (.mv (r 12)), i 146 (.call (.func F_law05_Same) [.tmp 144, .tmp
  145]), i 147 (.mv (r 146)), g 148 (.mv (r 5)) 147 true, g 149 (.mv (r 6)) 147 true, g 150 (.call (.func F_tree_Tree_Same) [.tmp 148, .tmp 149]) 147 true, g 151 (.mv (r
  7)) 147 true, g 152 (.mv (r 8)) 147 true, g 153 (.call (.func F_ref10_Same) [.tmp 151, .tmp 152]) 147 true, g 154 (.eq false ⟨false, [.bool]⟩ (r 150) (r 153)) 147 true,
  i 155 (.pick (r 147) (r 154) (.const (.bool false))), i 156 (.mv (r 155)), g 157 (.mv (r 5)) 156 true, g 158 (.mv (r 5)) 156 true, g 159 (.call (.func F_tree_Tree_Clone)
  [.tmp 158]) 156 true, g 160 (.call (.func F_tree_Tree_Same) [.tmp 157, .tmp 159]) 156 true, i 161 (.pick (r 156) (r 160) (.const (.bool false))), i 4 (.mv (r 161))]
/-- diorama/dioramalaw10.TreePlays -/
def A_law10_TreePlays : AFunc :=
 ⟨162, [.tmp 4], (.seq (.ops A_law10_TreePlays_0) (.seq (.seq (.ops A_law10_TreePlays_1) (.cond (r 29) (.seq (.ops A_law10_TreePlays_2) .ret) .skip)) (.seq (.ops
  A_law10_TreePlays_3) (.seq (.ops A_law10_TreePlays_4) (.seq (.ops A_law10_TreePlays_5) (.seq (.ops A_law10_TreePlays_6) (.seq (.seq (.ops A_law10_TreePlays_7) (.cond (r
  46) (.seq (.ops A_law10_TreePlays_8) .ret) .skip)) (.seq (.seq (.ops A_law10_TreePlays_9) (.block 0 (.loop A_law10_TreePlays_27))) (.seq (.ops A_law10_TreePlays_28)
  (.seq (.seq (.ops A_law10_TreePlays_29) (.block 4 (.loop A_law10_TreePlays_33))) (.seq (.ops A_law10_TreePlays_34) .ret)))))))))))⟩
/-! diorama/dioramalaw10.TreeNil -/
def A_law10_TreeNil_0 : Row := [i 1 (.box (r 0)), i 2 (.mv (.const (.bool false)))]
def A_law10_TreeNil_1 : Row := [i 11 (.load (some 6) (r 1)), i 12 (.buildSlice 1 [.int (.i64) 0, .int (.i64) 0, .int (.i64) 0, .int (.i64) 0, .int (.i64) 0, .str []] [(0, 6,
  .tmp 11)]), i 13 (.call (.func F_law10_Long) [.tmp 12])]
def A_law10_TreeNil_2 : Row := [i 14 (.call (.func F_law10_knows) []), i 2 (.mv (r 14))]
def A_law10_TreeNil_3 : Row := [i 3 (.mv (.const (.ptr none)))]
def A_law10_TreeNil_4 : Row := [i 4 (.mv (.const (.int (.i64) 0)))]
def A_law10_TreeNil_5 : Row := [i 15 (.mv (r 4)), i 16 (.bin (.lss) (r 15) (.const (.int (.i64) 2)))]
def A_law10_TreeNil_6 : Row := [i 20 (.mv (r 3)), i 21 (.fieldAddr 1 (r 1)), i 22 (.load (some 2) (r 21)), i 23 (.fieldAddr 3 (r 1)), i 24 (.load (some 3) (r 23)), i 5 (.alloc
  [.int (.i64) 0, .int (.i64) 0, .str []]), ⟨a 25 (.call (.func F_law10_Own) [.tmp 24]), [a 5 (.alloc [.int (.i64) 0, .int (.i64) 0, .str []]), a 22 (.load (some 2) (r
  21))]⟩, ⟨a 26 (.call (.func F_tree_Tree_Move) [.tmp 20, .tmp 22, .tmp 25]), [a 5 (.alloc [.int (.i64) 0, .int (.i64) 0, .str []])]⟩, i 19 (.mv (r 26)), i 27 (.extract (r
  19) 0), i 28 (.extract (r 19) 1), i0 (.store 3 (r 5) (r 27)), i 6 (.mv (r 28))]
def A_law10_TreeNil_7 : Row := [i 30 (.mv (r 3)), i 31 (.fieldAddr 1 (r 1)), i 32 (.load (some 2) (r 31)), i 33 (.call (.func F_tree_Tree_Drop) [.tmp 30, .tmp 32]), i 29 (.mv
  (r 33)), i 34 (.extract (r 29) 0), i 35 (.extract (r 29) 1), i 7 (.alloc [.int (.i64) 0, .int (.i64) 0, .str []]), i0 (.store 3 (r 7) (r 34)), i 8 (.mv (r 35))]
def A_law10_TreeNil_8 : Row := [i 37 (.mv (r 3)), i 38 (.fieldAddr 1 (r 1)), i 39 (.load (some 2) (r 38)), i 40 (.call (.func F_tree_Tree_Spot) [.tmp 37, .tmp 39]), i 36 (.mv
  (r 40)), i 41 (.extract (r 36) 0), i 42 (.extract (r 36) 1), i 9 (.alloc [.int (.i64) 0, .int (.i64) 0, .str []]), i0 (.store 3 (r 9) (r 41)), i 10 (.mv (r 42))]
def A_law10_TreeNil_9 : Row := [i 43 (.mv (r 3)), i 44 (.fieldAddr 1 (r 1)), i 45 (.load (some 2) (r 44)), i 46 (.fieldAddr 3 (r 1)), i 47 (.load (some 3) (r 46)), ⟨a 48
  (.call (.func F_law10_Own) [.tmp 47]), [a 45 (.load (some 2) (r 44))]⟩, i 49 (.call (.func F_tree_Tree_Add) [.tmp 43, .tmp 45, .tmp 48]), i 50 (.call (.func F_law10_num)
  [.tmp 49]), i 51 (.bin (.neq) (r 50) (.const (.int (.i64) 1))), i 52 (.mv (r 51)), g 53 (.mv (r 6)) 52 false, g 54 (.call (.func F_law10_num) [.tmp 53]) 52 false, g 55
  (.bin (.neq) (r 54) (.const (.int (.i64) 1))) 52 false, i 56 (.pick (r 52) (.const (.bool true)) (r 55)), i 57 (.mv (r 56)), g 58 (.mv (r 8)) 57 false, g 59 (.call
  (.func F_law10_num) [.tmp 58]) 57 false, g 60 (.bin (.neq) (r 59) (.const (.int (.i64) 1))) 57 false, i 61 (.pick (r 57) (.const (.bool true)) (r 60)), i 62 (.mv (r
  61)), g 63 (.mv (r 10)) 62 false, i 64 (.pick (r 62) (.const (.bool true)) (r 63)), i 65 (.mv (r 64)), g 66 (.mv (r 3)) 65 false, g 67 (.fieldAddr 1 (r 1)) 65 false, g
  68 (.load (some 2) (r 67)) 65 false, g 69 (.call (.func F_tree_Tree_Has) [.tmp 66, .tmp 68]) 65 false, i 70 (.pick (r 65) (.const (.bool true)) (r 69)), i 71 (.mv (r
  70)), g 72 (.mv (r 3)) 71 false, g 73 (.fieldAddr 1 (r 1)) 71 false, g 74 (.load (some 2) (r 73)) 71 false, g 75 (.fieldAddr 1 (r 1)) 71 false, g 76 (.load (some 2) (r
  75)) 71 false, g 77 (.call (.func F_tree_Tree_Within) [.tmp 72, .tmp 74, .tmp 76]) 71 false, i 78 (.pick (r 71) (.const (.bool true)) (r 77)), i 79 (.mv (r 78)), g 80
  (.mv (r 3)) 79 false, g 81 (.fieldAddr 1 (r 1)) 79 false, g 82 (.load (some 2) (r 81)) 79 false, g 85 (.mv (r 3)) 79 false, g 86 (.fieldAddr 1 (r 1)) 79 false, g 87
  (.load (some 2) (r 86)) 79 false, g 91 (.mv (r 3)) 79 false, ⟨⟨(some 83), .call (.func F_tree_Tree_Below) [.tmp 80, .tmp 82], (some (79, false))⟩, [⟨(some 87), .load
  (some 2) (r 86), (some (79, false))⟩]⟩, g 84 (.lenSlice (r 83)) 79 false, g 88 (.call (.func F_tree_Tree_Above) [.tmp 85, .tmp 87]) 79 false, g 89 (.lenSlice (r 88)) 79
  false, g 90 (.bin (.add) (r 84) (r 89)) 79 false, g 92 (.call (.func F_tree_Tree_Nodes) [.tmp 91]) 79 false, g 93 (.lenSlice (r 92)) 79 false, g 94 (.bin (.add) (r 90)
  (r 93)) 79 false, g 95 (.bin (.neq) (r 94) (.const (.int (.i64) 0))) 79 false, i 96 (.pick (r 79) (.const (.bool true)) (r 95)), i 97 (.mv (r 96)), g 98 (.mv (r 3)) 97
  false, g 99 (.mv (r 3)) 97 false, g 100 (.call (.func F_tree_Tree_Same) [.tmp 98, .tmp 99]) 97 false, i 101 (.pick (r 97) (.const (.bool true)) (r 100)), i 102 (.mv (r
  101)), g 103 (.mv (r 3)) 102 false, g 104 (.call (.func F_tree_New) []) 102 false, g 105 (.call (.func F_tree_Tree_Same) [.tmp 103, .tmp 104]) 102 false, i 106 (.pick (r
  102) (.const (.bool true)) (r 105)), i 107 (.mv (r 106)), g 108 (.mv (r 3)) 107 false, g 109 (.call (.func F_tree_Tree_Clone) [.tmp 108]) 107 false, g 110 (.eqNil true
  (.ptr) (r 109) (.const (.ptr none))) 107 false, i 111 (.pick (r 107) (.const (.bool true)) (r 110))]
def A_law10_TreeNil_10 : Row := [i 2 (.mv (.const (.bool false)))]
def A_law10_TreeNil_11 : Row := [i 112 (.build [.map none] []), i 113 (.box (r 112)), i 3 (.mv (r 113))]
def A_law10_TreeNil_12 : Row := [i 17 (.mv (r 4)), i 18 (.bin (.add) (r 17) (.const (.int (.i64) 1))), i 4 (.mv (r 18))]
def A_law10_TreeNil_13 : ACode := (.seq (.seq (.ops A_law10_TreeNil_5) (.cond (r 16) .skip (.exit 0))) (.seq (.block 1 (.seq (.ops A_law10_TreeNil_6) (.seq (.ops
  A_law10_TreeNil_7) (.seq (.ops A_law10_TreeNil_8) (.seq (.seq (.ops A_law10_TreeNil_9) (.cond (r 111) (.seq (.ops A_law10_TreeNil_10) .ret) .skip)) (.ops
  A_law10_TreeNil_11)))))) (.ops A_law10_TreeNil_12)))
def A_law10_TreeNil_14 : Row := [i 114 (.call (.func F_law10_knows) []), i 2 (.mv (r 114))]
/-- diorama/dioramalaw10.TreeNil -/
def A_law10_TreeNil : AFunc :=
 ⟨115, [.tmp 2], (.seq (.ops A_law10_TreeNil_0) (.seq (.seq (.ops A_law10_TreeNil_1) (.cond (r 13) (.seq (.ops A_law10_TreeNil_2) .ret) .skip)) (.seq (.ops
  A_law10_TreeNil_3) (.seq (.seq (.ops A_law10_TreeNil_4) (.block 0 (.loop A_law10_TreeNil_13))) (.seq (.ops A_law10_TreeNil_14) .ret)))))⟩
/-! diorama/dioramalaw13.GraphAnyOrder -/
def A_law13_GraphAnyOrder_0 : Row := [i 4 (.mv (.const (.bool false)))]
def A_law13_GraphAnyOrder_1 : Row := [i 15 (.mv (r 0)), i 16 (.call (.func F_law13_Light) [.tmp 15]), i 17 (.un (.not) (r 16))]
def A_law13_GraphAnyOrder_2 : Row := [i 18 (.call (.func F_law13_knows) []), i 4 (.mv (r 18))]
def A_law13_GraphAnyOrder_3 : Row := [i 5 (.mv (.const (.int (.i64) 0)))]
def A_law13_GraphAnyOrder_4 : Row := [i 19 (.mv (r 5)), i 20 (.mv (r 0)), i 21 (.lenSlice (r 20)), i 22 (.bin (.lss) (r 19) (r 21))]
def A_law13_GraphAnyOrder_5 : Row := [i 6 (.mv (.const (.int (.i64) 0)))]
def A_law13_GraphAnyOrder_6 : Row := [i 25 (.mv (r 6)), i 26 (.mv (r 5)), i 27 (.bin (.lss) (r 25) (r 26))]
def A_law13_GraphAnyOrder_7 : Row := [i 30 (.mv (r 0)), i 31 (.mv (r 5)), i 32 (.indexAddr 14 (r 30) (r 31)), i 33 (.fieldAddr 0 (r 32)), i 34 (.load (some 2) (r 33)), i 35
  (.mv (r 0)), i 36 (.mv (r 6)), i 37 (.indexAddr 14 (r 35) (r 36)), i 38 (.fieldAddr 0 (r 37)), i 39 (.load (some 2) (r 38)), i 40 (.eq false ⟨true, [.int (.i64), .int
  (.i64)]⟩ (r 34) (r 39))]
def A_law13_GraphAnyOrder_8 : Row := [i 41 (.call (.func F_law13_knows) []), i 4 (.mv (r 41))]
def A_law13_GraphAnyOrder_9 : Row := [i 28 (.mv (r 6)), i 29 (.bin (.add) (r 28) (.const (.int (.i64) 1))), i 6 (.mv (r 29))]
def A_law13_GraphAnyOrder_10 : ACode := (.seq (.seq (.ops A_law13_GraphAnyOrder_6) (.cond (r 27) .skip (.exit 2))) (.seq (.block 3 (.seq (.ops A_law13_GraphAnyOrder_7) (.cond
  (r 40) (.seq (.ops A_law13_GraphAnyOrder_8) .ret) .skip))) (.ops A_law13_GraphAnyOrder_9)))
def A_law13_GraphAnyOrder_11 : Row := [i 23 (.mv (r 5)), i 24 (.bin (.add) (r 23) (.const (.int (.i64) 1))), i 5 (.mv (r 24))]
def A_law13_GraphAnyOrder_12 : ACode := (.seq (.seq (.ops A_law13_GraphAnyOrder_4) (.cond (r 22) .skip (.exit 0))) (.seq (.block 1 (.seq (.ops A_law13_GraphAnyOrder_5) (.block
  2 (.loop A_law13_GraphAnyOrder_10)))) (.ops A_law13_GraphAnyOrder_11)))
def A_law13_GraphAnyOrder_13 : Row := [i 42 (.call (.func F_graph_New) []), i 7 (.mv (r 42))]
def A_law13_GraphAnyOrder_14 : Row := [i 43 (.call (.func F_graph_New) []), i 8 (.mv (r 43))]
def A_law13_GraphAnyOrder_15 : Row := [i 44 (.mv (r 7)), i 45 (.eqNil false (.ptr) (r 44) (.const (.ptr none))), i 46 (.mv (r 45)), g 47 (.mv (r 8)) 46 false, g 48 (.eqNil
  false (.ptr) (r 47) (.const (.ptr none))) 46 false, i 49 (.pick (r 46) (.const (.bool true)) (r 48)), i 50 (.mv (r 49)), g 51 (.call (.func F_law13_knows) []) 50 false,
  g 52 (.un (.not) (r 51)) 50 false, i 53 (.pick (r 50) (.const (.bool true)) (r 52))]
def A_law13_GraphAnyOrder_16 : Row := [i 4 (.mv (.const (.bool false)))]
def A_law13_GraphAnyOrder_17 : Row := [i 54 (.buildSlice 0 [] []), i 55 (.mv (r 0)), i 56 (.append 14 144 (r 54) (r 55)), i 9 (.mv (r 56))]
def A_law13_GraphAnyOrder_18 : Row := [i 10 (.mv (.const (.int (.i64) 0)))]
def A_law13_GraphAnyOrder_19 : Row := [i 57 (.mv (r 10)), i 58 (.mv (r 1)), i 59 (.lenSlice (r 58)), i 60 (.bin (.lss) (r 57) (r 59)), i 61 (.mv (r 60)), g 62 (.mv (r 10)) 61
  true, g 63 (.bin (.lss) (r 62) (.const (.int (.i64) 60))) 61 true, i 64 (.pick (r 61) (r 63) (.const (.bool false))), i 65 (.mv (r 64)), g 66 (.mv (r 9)) 65 true, g 67
  (.lenSlice (r 66)) 65 true, g 68 (.bin (.gtr) (r 67) (.const (.int (.i64) 0))) 65 true, i 69 (.pick (r 65) (r 68) (.const (.bool false)))]
def A_law13_GraphAnyOrder_20 : Row := [i 72 (.mv (r 1)), i 73 (.mv (r 10)), i 74 (.indexAddr 1 (r 72) (r 73)), i 75 (.load none (r 74)), i 76 (.mv (r 9)), i 77 (.lenSlice (r
  76)), i 78 (.bin (.rem) (r 75) (r 77)), i 79 (.mv (r 9)), i 80 (.lenSlice (r 79)), i 81 (.bin (.add) (r 78) (r 80)), i 82 (.mv (r 9)), i 83 (.lenSlice (r 82)), i 84
  (.bin (.rem) (r 81) (r 83)), i 11 (.mv (r 84))]
def A_law13_GraphAnyOrder_21 : Row := [i 85 (.mv (r 10)), i 86 (.mv (r 9)), i 87 (.lenSlice (r 86)), i 88 (.bin (.rem) (r 85) (r 87)), i 12 (.mv (r 88))]
def A_law13_GraphAnyOrder_22 : Row := [i 89 (.mv (r 9)), i 90 (.mv (r 11)), i 91 (.mv (r 9)), i 92 (.mv (r 12)), i 93 (.mv (r 9)), i 94 (.mv (r 12)), i 95 (.indexAddr 14 (r
  93) (r 94)), i 96 (.load (some 14) (r 95)), i 97 (.mv (r 9)), i 98 (.mv (r 11)), i 99 (.indexAddr 14 (r 97) (r 98)), i 100 (.load (some 14) (r 99)), i 101 (.indexAddr 14
  (r 89) (r 90)), i0 (.store 14 (r 101) (r 96)), i 102 (.indexAddr 14 (r 91) (r 92)), i0 (.store 14 (r 102) (r 100))]
def A_law13_GraphAnyOrder_23 : Row := [i 70 (.mv (r 10)), i 71 (.bin (.add) (r 70) (.const (.int (.i64) 1))), i 10 (.mv (r 71))]
def A_law13_GraphAnyOrder_24 : ACode := (.seq (.seq (.ops A_law13_GraphAnyOrder_19) (.cond (r 69) .skip (.exit 4))) (.seq (.block 5 (.seq (.ops A_law13_GraphAnyOrder_20) (.seq
  (.ops A_law13_GraphAnyOrder_21) (.ops A_law13_GraphAnyOrder_22)))) (.ops A_law13_GraphAnyOrder_23)))
def A_law13_GraphAnyOrder_25 : Row := [i 13 (.mv (.const (.int (.i64) 0)))]
def A_law13_GraphAnyOrder_26 : Row := [i 103 (.mv (r 13)), i 104 (.mv (r 0)), i 105 (.lenSlice (r 104)), i 106 (.bin (.lss) (r 103) (r 105))]
def A_law13_GraphAnyOrder_27 : Row := [i 109 (.mv (r 7)), i 110 (.mv (r 0)), i 111 (.mv (r 13)), i 112 (.indexAddr 14 (r 110) (r 111)), i 113 (.fieldAddr 0 (r 112)), i 114
  (.load (some 2) (r 113)), i 115 (.mv (r 0)), i 116 (.mv (r 13)), i 117 (.indexAddr 14 (r 115) (r 116)), i 118 (.fieldAddr 2 (r 117)), i 119 (.load (some 12) (r 118)), ⟨a
  120 (.call (.func F_law07_Own) [.tmp 119]), [a 114 (.load (some 2) (r 113))]⟩, i 121 (.call (.func F_graph_Graph_Insert) [.tmp 109, .tmp 114, .tmp 120])]
def A_law13_GraphAnyOrder_28 : Row := [i 122 (.mv (r 8)), i 123 (.mv (r 9)), i 124 (.mv (r 13)), i 125 (.indexAddr 14 (r 123) (r 124)), i 126 (.fieldAddr 0 (r 125)), i 127
  (.load (some 2) (r 126)), i 128 (.mv (r 9)), i 129 (.mv (r 13)), i 130 (.indexAddr 14 (r 128) (r 129)), i 131 (.fieldAddr 2 (r 130)), i 132 (.load (some 12) (r 131)), ⟨a
  133 (.call (.func F_law07_Own) [.tmp 132]), [a 127 (.load (some 2) (r 126))]⟩, i 134 (.call (.func F_graph_Graph_Insert) [.tmp 122, .tmp 127, .tmp 133])]
def A_law13_GraphAnyOrder_29 : Row := [i 107 (.mv (r 13)), i 108 (.bin (.add) (r 107) (.const (.int (.i64) 1))), i 13 (.mv (r 108))]
def A_law13_GraphAnyOrder_30 : ACode := (.seq (.seq (.ops A_law13_GraphAnyOrder_26) (.cond (r 106) .skip (.exit 6))) (.seq (.block 7 (.seq (.ops A_law13_GraphAnyOrder_27)
  (.ops A_law13_GraphAnyOrder_28))) (.ops A_law13_GraphAnyOrder_29)))
def A_law13_GraphAnyOrder_31 : Row := [i 135 (.mv (r 7)), i 136 (.mv (r 8)), i 137 (.call (.func F_graph_Graph_Same) [.tmp 135, .tmp 136]), i 138 (.un (.not) (r 137)), i 139
  (.mv (r 138)), g 140 (.mv (r 7)) 139 false, g 141 (.call (.func F_graph_Graph_Count) [.tmp 140]) 139 false, g 142 (.mv (r 8)) 139 false, g 143 (.call (.func
  F_graph_Graph_Count) [.tmp 142]) 139 false, g 144 (.bin (.neq) (r 141) (r 143)) 139 false, i 145 (.pick (r 139) (.const (.bool true)) (r 144))]
def A_law13_GraphAnyOrder_32 : Row := [i 4 (.mv (.const (.bool false)))]
def A_law13_GraphAnyOrder_33 : Row := [i 14 (.mv (.const (.int (.i64) 0)))]
def A_law13_GraphAnyOrder_34 : Row := [i 146 (.mv (r 14)), i 147 (.mv (r 0)), i 148 (.lenSlice (r 147)), i 149 (.bin (.lss) (r 146) (r 148))]
def A_law13_GraphAnyOrder_35 : Row := [i 152 (.mv (r 7)), i 153 (.mv (r 0)), i 154 (.mv (r 14)), i 155 (.indexAddr 14 (r 153) (r 154)), i 156 (.fieldAddr 0 (r 155)), i 157
  (.load (some 2) (r 156)), i 159 (.mv (r 8)), i 160 (.mv (r 0)), i 161 (.mv (r 14)), i 162 (.indexAddr 14 (r 160) (r 161)), i 163 (.fieldAddr 0 (r 162)), i 164 (.load
  (some 2) (r 163)), ⟨a 158 (.call (.func F_graph_Graph_Done) [.tmp 152, .tmp 157]), [a 164 (.load (some 2) (r 163))]⟩, i 165 (.call (.func F_graph_Graph_Done) [.tmp 159,
  .tmp 164]), i 166 (.eq true ⟨false, [.bool]⟩ (r 158) (r 165))]
def A_law13_GraphAnyOrder_36 : Row := [i 4 (.mv (.const (.bool false)))]
def A_law13_GraphAnyOrder_37 : Row := [i 150 (.mv (r 14)), i 151 (.bin (.add) (r 150) (.const (.int (.i64) 1))), i 14 (.mv (r 151))]
def A_law13_GraphAnyOrder_38 : ACode := (.seq (.seq (.ops A_law13_GraphAnyOrder_34) (.cond (r 149) .skip (.exit 8))) (.seq (.block 9 (.seq (.ops A_law13_GraphAnyOrder_35)
  (.cond (r 166) (.seq (.ops A_law13_GraphAnyOrder_36) .ret) .skip))) (.ops A_law13_GraphAnyOrder_37)))
def A_law13_GraphAnyOrder_39 : Row := [i 4 (.mv (.const (.bool true)))]
/-- diorama/dioramalaw13.GraphAnyOrder -/
def A_law13_GraphAnyOrder : AFunc :=
 ⟨167, [.tmp 4], (.seq (.ops A_law13_GraphAnyOrder_0) (.seq (.seq (.ops A_law13_GraphAnyOrder_1) (.cond (r 17) (.seq (.ops A_law13_GraphAnyOrder_2) .ret) .skip)) (.seq
  (.seq (.ops A_law13_GraphAnyOrder_3) (.block 0 (.loop A_law13_GraphAnyOrder_12))) (.seq (.ops A_law13_GraphAnyOrder_13) (.seq (.ops A_law13_GraphAnyOrder_14) (.seq (.seq
  (.ops A_law13_GraphAnyOrder_15) (.cond (r 53) (.seq (.ops A_law13_GraphAnyOrder_16) .ret) .skip)) (.seq (.ops A_law13_GraphAnyOrder_17) (.seq (.seq (.ops
  A_law13_GraphAnyOrder_18) (.block 4 (.loop A_law13_GraphAnyOrder_24))) (.seq (.seq (.ops A_law13_GraphAnyOrder_25) (.block 6 (.loop A_law13_GraphAnyOrder_30))) (.seq
  (.seq (.ops A_law13_GraphAnyOrder_31) (.cond (r 145) (.seq (.ops A_law13_GraphAnyOrder_32) .ret) .skip)) (.seq (.seq (.ops A_law13_GraphAnyOrder_33) (.block 8 (.loop
  A_law13_GraphAnyOrder_38))) (.seq (.ops A_law13_GraphAnyOrder_39) .ret))))))))))))⟩
/-! diorama/dioramalaw13.GraphPassed -/
def A_law13_GraphPassed_0 : Row := [i 3 (.box (r 1)), i 4 (.mv (.const (.bool false)))]
def A_law13_GraphPassed_1 : Row := [i 18 (.mv (r 0)), i 19 (.call (.func F_law13_Light) [.tmp 18]), i 20 (.un (.not) (r 19)), i 21 (.mv (r 20)), g 22 (.load (some 12) (r 3))
  21 false, g 23 (.build [.int (.i64) 0, .int (.i64) 0, .int (.i64) 0, .int (.i64) 0, .int (.i64) 0, .int (.i64) 0, .int (.i64) 0, .str [], .slice none 0 (.exact 0), .int
  (.i64) 0, .int (.i64) 0, .int (.i64) 0, .str [], .bool false] [(2, 12, .tmp 22)]) 21 false, g 24 (.buildSlice 1 [.int (.i64) 0, .int (.i64) 0, .int (.i64) 0, .int (.i64)
  0, .int (.i64) 0, .int (.i64) 0, .int (.i64) 0, .str [], .slice none 0 (.exact 0), .int (.i64) 0, .int (.i64) 0, .int (.i64) 0, .str [], .bool false] [(0, 14, .tmp 23)])
  21 false, g 25 (.call (.func F_law13_Light) [.tmp 24]) 21 false, g 26 (.un (.not) (r 25)) 21 false, i 27 (.pick (r 21) (.const (.bool true)) (r 26))]
def A_law13_GraphPassed_2 : Row := [i 28 (.call (.func F_law13_knows) []), i 4 (.mv (r 28))]
def A_law13_GraphPassed_3 : Row := [i 29 (.call (.func F_graph_New) []), i 5 (.mv (r 29))]
def A_law13_GraphPassed_4 : Row := [i 30 (.mv (r 5)), i 31 (.eqNil false (.ptr) (r 30) (.const (.ptr none))), i 32 (.mv (r 31)), g 33 (.call (.func F_law13_knows) []) 32
  false, g 34 (.un (.not) (r 33)) 32 false, i 35 (.pick (r 32) (.const (.bool true)) (r 34))]
def A_law13_GraphPassed_5 : Row := [i 4 (.mv (.const (.bool false)))]
def A_law13_GraphPassed_6 : Row := [i 6 (.mv (.const (.int (.i64) 0)))]
def A_law13_GraphPassed_7 : Row := [i 36 (.mv (r 6)), i 37 (.mv (r 0)), i 38 (.lenSlice (r 37)), i 39 (.bin (.lss) (r 36) (r 38))]
def A_law13_GraphPassed_8 : Row := [i 42 (.mv (r 0)), i 43 (.mv (r 6)), i 44 (.indexAddr 14 (r 42) (r 43)), i 45 (.fieldAddr 0 (r 44)), i 46 (.fieldAddr 0 (r 45)), i 47 (.load
  none (r 46)), i 48 (.bin (.lss) (r 47) (.const (.int (.i64) 549755813888)))]
def A_law13_GraphPassed_9 : Row := [i 49 (.mv (r 5)), i 50 (.mv (r 0)), i 51 (.mv (r 6)), i 52 (.indexAddr 14 (r 50) (r 51)), i 53 (.fieldAddr 0 (r 52)), i 54 (.load (some 2)
  (r 53)), i 55 (.mv (r 0)), i 56 (.mv (r 6)), i 57 (.indexAddr 14 (r 55) (r 56)), i 58 (.fieldAddr 2 (r 57)), i 59 (.load (some 12) (r 58)), ⟨a 60 (.call (.func
  F_law07_Own) [.tmp 59]), [a 54 (.load (some 2) (r 53))]⟩, i 61 (.call (.func F_graph_Graph_Insert) [.tmp 49, .tmp 54, .tmp 60])]
def A_law13_GraphPassed_10 : Row := [i 40 (.mv (r 6)), i 41 (.bin (.add) (r 40) (.const (.int (.i64) 1))), i 6 (.mv (r 41))]
def A_law13_GraphPassed_11 : ACode := (.seq (.seq (.ops A_law13_GraphPassed_7) (.cond (r 39) .skip (.exit 0))) (.seq (.block 1 (.seq (.ops A_law13_GraphPassed_8) (.cond (r 48)
  (.ops A_law13_GraphPassed_9) .skip))) (.ops A_law13_GraphPassed_10)))
def A_law13_GraphPassed_12 : Row := [i 62 (.mv (r 5)), i 63 (.call (.func F_graph_Graph_Clone) [.tmp 62]), i 7 (.mv (r 63))]
def A_law13_GraphPassed_13 : Row := [i 64 (.build [.int (.i64) 0, .int (.i64) 0] [(0, 1, .const (.int (.i64) 1099511627776))]), i 8 (.alloc [.int (.i64) 0, .int (.i64) 0]), i0
  (.store 2 (r 8) (r 64))]
def A_law13_GraphPassed_14 : Row := [i 66 (.mv (r 5)), i 67 (.load (some 2) (r 8)), i 68 (.load (some 12) (r 3)), ⟨a 69 (.call (.func F_law07_Own) [.tmp 68]), [a 67 (.load
  (some 2) (r 8))]⟩, i 70 (.call (.func F_graph_Graph_Insert) [.tmp 66, .tmp 67, .tmp 69]), i 65 (.mv (r 70)), i 71 (.extract (r 65) 0), i 72 (.extract (r 65) 1), i 9 (.mv
  (r 71)), i 10 (.mv (r 72))]
def A_law13_GraphPassed_15 : Row := [i 73 (.mv (r 10)), i 74 (.call (.func F_law13_num) [.tmp 73]), i 75 (.bin (.neq) (r 74) (.const (.int (.i64) 0))), i 76 (.mv (r 75)), g 77
  (.mv (r 5)) 76 false, g 78 (.load (some 2) (r 8)) 76 false, g 79 (.call (.func F_graph_Graph_Done) [.tmp 77, .tmp 78]) 76 false, g 80 (.un (.not) (r 79)) 76 false, i 81
  (.pick (r 76) (.const (.bool true)) (r 80))]
def A_law13_GraphPassed_16 : Row := [i 82 (.mv (r 5)), i 83 (.mv (r 7)), i 84 (.call (.func F_graph_Graph_Same) [.tmp 82, .tmp 83]), i 85 (.mv (r 84)), g 86 (.mv (r 9)) 85
  true, g 87 (.bin (.eql) (r 86) (.const (.int (.i64) 0))) 85 true, i 88 (.pick (r 85) (r 87) (.const (.bool false))), i 4 (.mv (r 88))]
def A_law13_GraphPassed_17 : Row := [i 89 (.fieldAddr 0 (r 3)), i 90 (.load none (r 89))]
def A_law13_GraphPassed_18 : Row := [i 92 (.bin (.eql) (r 90) (.const (.int (.i64) 1))), i 91 (.mv (r 92))]
def A_law13_GraphPassed_19 : Row := [i 94 (.mv (r 5)), i 95 (.load (some 2) (r 8)), i 96 (.call (.func F_graph_Graph_Spot) [.tmp 94, .tmp 95]), i 93 (.mv (r 96)), i 97
  (.extract (r 93) 0), i 98 (.extract (r 93) 1), i 11 (.alloc [.int (.i64) 0, .int (.i64) 0, .str []]), i0 (.store 3 (r 11) (r 97)), i 12 (.mv (r 98))]
def A_law13_GraphPassed_20 : Row := [i 99 (.fieldAddr 3 (r 3)), i 100 (.load (some 2) (r 99)), i 13 (.alloc [.int (.i64) 0, .int (.i64) 0]), i0 (.store 2 (r 13) (r 100))]
def A_law13_GraphPassed_21 : Row := [i 101 (.mv (r 7)), i 102 (.load (some 2) (r 13)), i 103 (.call (.func F_graph_Graph_Has) [.tmp 101, .tmp 102]), i 104 (.un (.not) (r
  103))]
def A_law13_GraphPassed_22 : Row := [i 105 (.build [.int (.i64) 0, .int (.i64) 0] [(1, 1, .const (.int (.i64) 1))]), i0 (.store 2 (r 13) (r 105))]
def A_law13_GraphPassed_23 : Row := [i 106 (.mv (r 12)), i 107 (.mv (r 106)), g 108 (.fieldAddr 0 (r 11)) 107 true, g 109 (.load (some 2) (r 108)) 107 true, g 110 (.load (some
  2) (r 13)) 107 true, g 111 (.eq false ⟨true, [.int (.i64), .int (.i64)]⟩ (r 109) (r 110)) 107 true, i 112 (.pick (r 107) (r 111) (.const (.bool false))), i 113 (.mv (r
  112)), g 114 (.fieldAddr 2 (r 11)) 113 true, g 115 (.load none (r 114)) 113 true, g 116 (.fieldAddr 5 (r 3)) 113 true, g 117 (.load none (r 116)) 113 true, g 118 (.bin
  (.eql) (r 115) (r 117)) 113 true, i 119 (.pick (r 113) (r 118) (.const (.bool false))), i 120 (.mv (r 119)), g 121 (.mv (r 9)) 120 true, g 122 (.bin (.eql) (r 121)
  (.const (.int (.i64) 0))) 120 true, i 123 (.pick (r 120) (r 122) (.const (.bool false))), i 4 (.mv (r 123))]
def A_law13_GraphPassed_24 : Row := [i 125 (.bin (.eql) (r 90) (.const (.int (.i64) 2))), i 124 (.mv (r 125))]
def A_law13_GraphPassed_25 : Row := [i 127 (.mv (r 5)), i 128 (.fieldAddr 1 (r 3)), i 129 (.load (some 2) (r 128)), i 130 (.call (.func F_graph_Graph_Spot) [.tmp 127, .tmp
  129]), i 126 (.mv (r 130)), i 131 (.extract (r 126) 0), i 132 (.extract (r 126) 1), i 14 (.alloc [.int (.i64) 0, .int (.i64) 0, .str []]), i0 (.store 3 (r 14) (r 131)),
  i 15 (.mv (r 132))]
def A_law13_GraphPassed_26 : Row := [i 133 (.mv (r 15)), i 134 (.mv (r 133)), g 135 (.fieldAddr 0 (r 14)) 134 true, g 136 (.load (some 2) (r 135)) 134 true, g 137 (.fieldAddr
  3 (r 3)) 134 true, g 138 (.load (some 2) (r 137)) 134 true, g 139 (.eq false ⟨true, [.int (.i64), .int (.i64)]⟩ (r 136) (r 138)) 134 true, i 140 (.pick (r 134) (r 139)
  (.const (.bool false))), i 141 (.mv (r 140)), g 142 (.fieldAddr 2 (r 14)) 141 true, g 143 (.load none (r 142)) 141 true, g 144 (.fieldAddr 5 (r 3)) 141 true, g 145
  (.load none (r 144)) 141 true, g 146 (.bin (.eql) (r 143) (r 145)) 141 true, i 147 (.pick (r 141) (r 146) (.const (.bool false))), i 148 (.mv (r 147)), g 149 (.mv (r 9))
  148 true, g 150 (.bin (.eql) (r 149) (.const (.int (.i64) 0))) 148 true, i 151 (.pick (r 148) (r 150) (.const (.bool false))), i 4 (.mv (r 151))]
def A_law13_GraphPassed_27 : Row := [i 153 (.mv (r 5)), i 154 (.fieldAddr 1 (r 3)), i 155 (.load (some 2) (r 154)), i 156 (.call (.func F_graph_Graph_Ref) [.tmp 153, .tmp
  155]), i 152 (.mv (r 156)), i 157 (.extract (r 152) 0), i 158 (.extract (r 152) 1), i 16 (.alloc [.int (.i64) 0, .int (.i64) 0]), i0 (.store 2 (r 16) (r 157)), i 17 (.mv
  (r 158))]
def A_law13_GraphPassed_28 : Row := [i 159 (.mv (r 17)), i 160 (.fieldAddr 3 (r 3)), i 161 (.load (some 2) (r 160)), i 162 (.build [.int (.i64) 0, .int (.i64) 0] []), i 163
  (.eq true ⟨true, [.int (.i64), .int (.i64)]⟩ (r 161) (r 162)), i 164 (.eq false ⟨false, [.bool]⟩ (r 159) (r 163)), i 165 (.mv (r 164)), g 166 (.load (some 2) (r 16)) 165
  true, g 167 (.fieldAddr 3 (r 3)) 165 true, g 168 (.load (some 2) (r 167)) 165 true, g 169 (.eq false ⟨true, [.int (.i64), .int (.i64)]⟩ (r 166) (r 168)) 165 true, i 170
  (.pick (r 165) (r 169) (.const (.bool false))), i 171 (.mv (r 170)), g 172 (.mv (r 9)) 171 true, g 173 (.bin (.eql) (r 172) (.const (.int (.i64) 0))) 171 true, i 174
  (.pick (r 171) (r 173) (.const (.bool false))), i 4 (.mv (r 174))]
/-- diorama/dioramalaw13.GraphPassed -/
def A_law13_GraphPassed : AFunc :=
 ⟨175, [.tmp 4], (.seq (.ops A_law13_GraphPassed_0) (.seq (.seq (.ops A_law13_GraphPassed_1) (.cond (r 27) (.seq (.ops A_law13_GraphPassed_2) .ret) .skip)) (.seq (.ops
  A_law13_GraphPassed_3) (.seq (.seq (.ops A_law13_GraphPassed_4) (.cond (r 35) (.seq (.ops A_law13_GraphPassed_5) .ret) .skip)) (.seq (.seq (.ops A_law13_GraphPassed_6)
  (.block 0 (.loop A_law13_GraphPassed_11))) (.seq (.ops A_law13_GraphPassed_12) (.seq (.ops A_law13_GraphPassed_13) (.seq (.ops A_law13_GraphPassed_14) (.seq (.seq (.ops
  A_law13_GraphPassed_15) (.cond (r 81) (.seq (.ops A_law13_GraphPassed_16) .ret) .skip)) (.seq (.seq (.ops A_law13_GraphPassed_17) (.block 2 (.seq (.ops
  A_law13_GraphPassed_18) (.cond (r 91) (.seq (.ops A_law13_GraphPassed_19) (.seq (.ops A_law13_GraphPassed_20) (.seq (.seq (.ops A_law13_GraphPassed_21) (.cond (r 104)
  (.ops A_law13_GraphPassed_22) .skip)) (.seq (.ops A_law13_GraphPassed_23) .ret)))) (.seq (.ops A_law13_GraphPassed_24) (.cond (r 124) (.seq (.ops A_law13_GraphPassed_25)
  (.seq (.ops A_law13_GraphPassed_26) .ret)) .skip)))))) (.seq (.ops A_law13_GraphPassed_27) (.seq (.ops A_law13_GraphPassed_28) .ret))))))))))))⟩
/-! diorama/dioramalaw10.Long -/
def A_law10_Long_0 : Row := [i 2 (.mv (.const (.bool false)))]
def A_law10_Long_1 : Row := [i 3 (.mv (.const (.int (.i64) 0)))]
def A_law10_Long_2 : Row := [i 4 (.mv (r 3)), i 5 (.mv (r 0)), i 6 (.lenSlice (r 5)), i 7 (.bin (.lss) (r 4) (r 6)), i 8 (.mv (r 7)), g 9 (.mv (r 3)) 8 true, g 10 (.bin (.lss)
  (r 9) (.const (.int (.i64) 300))) 8 true, i 11 (.pick (r 8) (r 10) (.const (.bool false)))]
def A_law10_Long_3 : Row := [i 14 (.mv (r 0)), i 15 (.mv (r 3)), i 16 (.indexAddr 6 (r 14) (r 15)), i 17 (.fieldAddr 3 (r 16)), i 18 (.fieldAddr 2 (r 17)), i 19 (.load none (r
  18)), i 20 (.lenStr (r 19)), i 21 (.bin (.gtr) (r 20) (.const (.int (.i64) 500)))]
def A_law10_Long_4 : Row := [i 2 (.mv (.const (.bool true)))]
def A_law10_Long_5 : Row := [i 12 (.mv (r 3)), i 13 (.bin (.add) (r 12) (.const (.int (.i64) 1))), i 3 (.mv (r 13))]
def A_law10_Long_6 : ACode := (.seq (.seq (.ops A_law10_Long_2) (.cond (r 11) .skip (.exit 0))) (.seq (.block 1 (.seq (.ops A_law10_Long_3) (.cond (r 21) (.seq (.ops
  A_law10_Long_4) .ret) .skip))) (.ops A_law10_Long_5)))
def A_law10_Long_7 : Row := [i 22 (.mv (r 0)), i 23 (.lenSlice (r 22)), i 24 (.bin (.gtr) (r 23) (.const (.int (.i64) 150))), i 2 (.mv (r 24))]
/-- diorama/dioramalaw10.Long -/
def A_law10_Long : AFunc :=
 ⟨25, [.tmp 2], (.seq (.ops A_law10_Long_0) (.seq (.seq (.ops A_law10_Long_1) (.block 0 (.loop A_law10_Long_6))) (.seq (.ops A_law10_Long_7) .ret)))⟩
/-! diorama/dioramalaw10.knows -/
def A_law10_knows_0 : Row := [i 0 (.mv (.const (.bool false)))]
def A_law10_knows_1 : Row := [i 10 (.call (.func F_tree_New) []), i 1 (.mv (r 10))]
def A_law10_knows_2 : Row := [i 11 (.build [.int (.i64) 0, .int (.i64) 0] [(0, 1, .const (.int (.i64) 1))]), i 2 (.alloc [.int (.i64) 0, .int (.i64) 0]), i0 (.store 2 (r 2) (r
  11))]
def A_law10_knows_3 : Row := [i 12 (.build [.int (.i64) 0, .int (.i64) 0] [(0, 1, .const (.int (.i64) 2))]), i 3 (.alloc [.int (.i64) 0, .int (.i64) 0]), i0 (.store 2 (r 3) (r
  12))]
def A_law10_knows_4 : Row := [i 13 (.mv (r 1)), i 14 (.load (some 2) (r 2)), i 15 (.build [.int (.i64) 0, .int (.i64) 0, .str []] [(2, 1, .const (.str [97]))]), i 16 (.call
  (.func F_tree_Tree_Add) [.tmp 13, .tmp 14, .tmp 15]), i 4 (.mv (r 16))]
def A_law10_knows_5 : Row := [i 17 (.mv (r 1)), i 18 (.load (some 2) (r 3)), i 19 (.load (some 2) (r 2)), i 20 (.build [.int (.i64) 0, .int (.i64) 0, .str []] [(0, 2, .tmp
  19), (2, 1, .const (.str [97]))]), i 21 (.call (.func F_tree_Tree_Add) [.tmp 17, .tmp 18, .tmp 20]), i 5 (.mv (r 21))]
def A_law10_knows_6 : Row := [i 23 (.mv (r 1)), i 24 (.load (some 2) (r 2)), i 25 (.load (some 2) (r 3)), i 26 (.build [.int (.i64) 0, .int (.i64) 0, .str []] [(0, 2, .tmp
  25), (2, 1, .const (.str [97]))]), i 27 (.call (.func F_tree_Tree_Move) [.tmp 23, .tmp 24, .tmp 26]), i 22 (.mv (r 27)), i 28 (.extract (r 22) 0), i 29 (.extract (r 22)
  1), i 6 (.alloc [.int (.i64) 0, .int (.i64) 0, .str []]), i0 (.store 3 (r 6) (r 28)), i 7 (.mv (r 29))]
def A_law10_knows_7 : Row := [i 31 (.mv (r 1)), i 32 (.load (some 2) (r 3)), i 33 (.build [.int (.i64) 0, .int (.i64) 0] [(1, 1, .const (.int (.i64) 1))]), i 34 (.build [.int
  (.i64) 0, .int (.i64) 0, .str []] [(0, 2, .tmp 33), (2, 1, .const (.str [98]))]), i 35 (.call (.func F_tree_Tree_Move) [.tmp 31, .tmp 32, .tmp 34]), i 30 (.mv (r 35)), i
  36 (.extract (r 30) 0), i 37 (.extract (r 30) 1), i 8 (.alloc [.int (.i64) 0, .int (.i64) 0, .str []]), i0 (.store 3 (r 8) (r 36)), i 9 (.mv (r 37))]
def A_law10_knows_8 : Row := [i 38 (.mv (r 4)), i 39 (.call (.func F_law10_num) [.tmp 38]), i 40 (.mv (r 5)), i 41 (.call (.func F_law10_num) [.tmp 40]), i 42 (.bin (.add) (r
  39) (r 41)), i 43 (.mv (r 9)), i 44 (.call (.func F_law10_num) [.tmp 43]), i 45 (.bin (.add) (r 42) (r 44)), i 46 (.bin (.eql) (r 45) (.const (.int (.i64) 0))), i 47
  (.mv (r 46)), g 48 (.mv (r 7)) 47 true, g 49 (.call (.func F_law10_num) [.tmp 48]) 47 true, g 50 (.bin (.eql) (r 49) (.const (.int (.i64) 41))) 47 true, i 51 (.pick (r
  47) (r 50) (.const (.bool false))), i 52 (.mv (r 51)), g 53 (.mv (r 1)) 52 true, g 54 (.load (some 2) (r 2)) 52 true, g 55 (.load (some 2) (r 2)) 52 true, g 56 (.call
  (.func F_tree_Tree_Within) [.tmp 53, .tmp 54, .tmp 55]) 52 true, i 57 (.pick (r 52) (r 56) (.const (.bool false))), i 58 (.mv (r 57)), g 59 (.mv (r 1)) 58 true, g 60
  (.load (some 2) (r 2)) 58 true, g 61 (.load (some 2) (r 3)) 58 true, g 62 (.call (.func F_tree_Tree_Within) [.tmp 59, .tmp 60, .tmp 61]) 58 true, g 63 (.un (.not) (r
  62)) 58 true, i 64 (.pick (r 58) (r 63) (.const (.bool false))), i 65 (.mv (r 64)), g 66 (.mv (r 1)) 65 true, g 67 (.call (.func F_tree_Tree_Nodes) [.tmp 66]) 65 true, g
  68 (.lenSlice (r 67)) 65 true, g 69 (.bin (.eql) (r 68) (.const (.int (.i64) 2))) 65 true, i 70 (.pick (r 65) (r 69) (.const (.bool false))), i 0 (.mv (r 70))]
/-- diorama/dioramalaw10.knows -/
def A_law10_knows : AFunc :=
 ⟨71, [.tmp 0], (.seq (.ops A_law10_knows_0) (.seq (.ops A_law10_knows_1) (.seq (.ops A_law10_knows_2) (.seq (.ops A_law10_knows_3) (.seq (.ops A_law10_knows_4) (.seq (.ops
  A_law10_knows_5) (.seq (.ops A_law10_knows_6) (.seq (.ops A_law10_knows_7) (.seq (.ops A_law10_knows_8) .ret)))))))))⟩
/-! diorama/tree.New -/
def A_tree_New_0 : Row := [i 0 (.mv (.const (.ptr none)))]
def A_tree_New_1 : Row := [i 1 (.makeMap), i 2 (.build [.map none] [(0, 1, .tmp 1)]), i 3 (.box (r 2)), i 0 (.mv (r 3))]
/-- diorama/tree.New -/
def A_tree_New : AFunc :=
 ⟨4, [.tmp 0], (.seq (.ops A_tree_New_0) (.seq (.ops A_tree_New_1) .ret))⟩
/-! diorama/dioramalaw10.do -/
def A_law10_do_0 : Row := [i 3 (.box (r 1))]
def A_law10_do_1 : Row := [i 4 (.fieldAddr 0 (r 3)), i 5 (.load none (r 4))]
def A_law10_do_2 : Row := [i 7 (.bin (.eql) (r 5) (.const (.int (.i64) 0))), i 6 (.mv (r 7))]
def A_law10_do_3 : Row := [i 8 (.mv (r 0)), i 9 (.fieldAddr 1 (r 3)), i 10 (.load (some 2) (r 9)), i 11 (.fieldAddr 3 (r 3)), i 12 (.load (some 3) (r 11)), ⟨a 13 (.call (.func
  F_law10_Own) [.tmp 12]), [a 10 (.load (some 2) (r 9))]⟩, i 14 (.call (.func F_tree_Tree_Add) [.tmp 8, .tmp 10, .tmp 13])]
def A_law10_do_4 : Row := [i 16 (.bin (.eql) (r 5) (.const (.int (.i64) 1))), i 15 (.mv (r 16))]
def A_law10_do_5 : Row := [i 17 (.mv (r 0)), i 18 (.fieldAddr 1 (r 3)), i 19 (.load (some 2) (r 18)), i 20 (.fieldAddr 3 (r 3)), i 21 (.load (some 3) (r 20)), ⟨a 22 (.call
  (.func F_law10_Own) [.tmp 21]), [a 19 (.load (some 2) (r 18))]⟩, i 23 (.call (.func F_tree_Tree_Move) [.tmp 17, .tmp 19, .tmp 22])]
def A_law10_do_6 : Row := [i 25 (.bin (.eql) (r 5) (.const (.int (.i64) 2))), i 24 (.mv (r 25))]
def A_law10_do_7 : Row := [i 26 (.mv (r 0)), i 27 (.fieldAddr 1 (r 3)), i 28 (.load (some 2) (r 27)), i 29 (.call (.func F_tree_Tree_Drop) [.tmp 26, .tmp 28])]
/-- diorama/dioramalaw10.do -/
def A_law10_do : AFunc :=
 ⟨30, [], (.seq (.ops A_law10_do_0) (.seq (.ops A_law10_do_1) (.block 0 (.seq (.ops A_law10_do_2) (.cond (r 6) (.ops A_law10_do_3) (.seq (.ops A_law10_do_4) (.cond (r 15)
  (.ops A_law10_do_5) (.seq (.ops A_law10_do_6) (.cond (r 24) (.ops A_law10_do_7) .skip)))))))))⟩
/-! (*diorama/tree.Tree).Nodes -/
def A_tree_Tree_Nodes_0 : Row := [i 2 (.mv (.const (.slice none 0 (.exact 0))))]
def A_tree_Tree_Nodes_1 : Row := [i 3 (.mv (r 0)), i 4 (.call (.func F_tree_Tree_none) [.tmp 3])]
def A_tree_Tree_Nodes_2 : Row := [i 2 (.mv (.const (.slice none 0 (.exact 0))))]
def A_tree_Tree_Nodes_3 : Row := [i 5 (.mv (r 0)), i 6 (.nilCheck (r 5)), i 7 (.fieldAddr 0 (r 6)), i 8 (.load none (r 7)), i 9 (.call (.func F_maps_Keys_Stamp_Spot) [.tmp
  8]), i 10 (.call (.func F_slices_SortedFunc_Stamp) [.tmp 9, .func F_stamp_Compare]), i 2 (.mv (r 10))]
/-- (*diorama/tree.Tree).Nodes -/
def A_tree_Tree_Nodes : AFunc :=
 ⟨11, [.tmp 2], (.seq (.ops A_tree_Tree_Nodes_0) (.seq (.seq (.ops A_tree_Tree_Nodes_1) (.cond (r 4) (.seq (.ops A_tree_Tree_Nodes_2) .ret) .skip)) (.seq (.ops
  A_tree_Tree_Nodes_3) .ret)))⟩
/-! (*diorama/tree.Tree).Below -/
def A_tree_Tree_Below_0 : Row := [i 3 (.box (r 1)), i 4 (.mv (.const (.slice none 0 (.exact 0))))]
def A_tree_Tree_Below_1 : Row := [i 5 (.mv (.const (.slice none 0 (.exact 0))))]
def A_tree_Tree_Below_2 : Row := [i 8 (.mv (r 0)), i 9 (.call (.func F_tree_Tree_Nodes) [.tmp 8]), i 10 (.lenSlice (r 9)), i 11 (.mv (.const (.int (.i64) 0)))]
def A_tree_Tree_Below_3 : Row := [i 12 (.bin (.lss) (r 11) (r 10))]
def A_tree_Tree_Below_4 : Row := [i 13 (.indexAddr 2 (r 9) (r 11)), i 14 (.load (some 2) (r 13)), i 7 (.alloc [.int (.i64) 0, .int (.i64) 0]), i0 (.store 2 (r 7) (r 14))]
def A_tree_Tree_Below_5 : Row := [i 15 (.mv (r 0)), i 16 (.nilCheck (r 15)), i 17 (.fieldAddr 0 (r 16)), i 18 (.load none (r 17)), i 19 (.load (some 2) (r 7)), i 20 (.lookup
  ⟨true, [.int (.i64), .int (.i64)]⟩ (.agg [.int (.i64) 0, .int (.i64) 0, .str []]) false (r 18) (r 19)), i 21 (.field 0 (some 2) (r 20)), i 22 (.load (some 2) (r 3)), i
  23 (.eq false ⟨true, [.int (.i64), .int (.i64)]⟩ (r 21) (r 22))]
def A_tree_Tree_Below_6 : Row := [i 24 (.mv (r 5)), i 25 (.load (some 2) (r 7)), i 26 (.buildSlice 1 [.int (.i64) 0, .int (.i64) 0] [(0, 2, .tmp 25)]), i 27 (.append 2 16 (r
  24) (r 26)), i 5 (.mv (r 27))]
def A_tree_Tree_Below_7 : Row := [i 28 (.bin (.add) (r 11) (.const (.int (.i64) 1))), i 11 (.mv (r 28))]
def A_tree_Tree_Below_8 : ACode := (.seq (.ops A_tree_Tree_Below_3) (.seq (.cond (r 12) .skip (.exit 0)) (.seq (.block 1 (.seq (.ops A_tree_Tree_Below_4) (.seq (.ops
  A_tree_Tree_Below_5) (.cond (r 23) (.ops A_tree_Tree_Below_6) .skip)))) (.ops A_tree_Tree_Below_7))))
def A_tree_Tree_Below_9 : Row := [i 29 (.mv (r 5)), i 4 (.mv (r 29))]
/-- (*diorama/tree.Tree).Below -/
def A_tree_Tree_Below : AFunc :=
 ⟨30, [.tmp 4], (.seq (.ops A_tree_Tree_Below_0) (.seq (.ops A_tree_Tree_Below_1) (.seq (.seq (.ops A_tree_Tree_Below_2) (.block 0 (.loop A_tree_Tree_Below_8))) (.seq (.ops
  A_tree_Tree_Below_9) .ret))))⟩
/-! (*diorama/tree.Tree).Spot -/
def A_tree_Tree_Spot_0 : Row := [i 3 (.box (r 1)), i 4 (.alloc [.int (.i64) 0, .int (.i64) 0, .str []]), i 5 (.mv (.const (.bool false)))]
def A_tree_Tree_Spot_1 : Row := [i 8 (.mv (r 0)), i 9 (.call (.func F_tree_Tree_none) [.tmp 8])]
def A_tree_Tree_Spot_2 : Row := [i 10 (.build [.int (.i64) 0, .int (.i64) 0, .str []] []), i0 (.store 3 (r 4) (r 10)), i 5 (.mv (.const (.bool false)))]
def A_tree_Tree_Spot_3 : Row := [i 12 (.mv (r 0)), i 13 (.nilCheck (r 12)), i 14 (.fieldAddr 0 (r 13)), i 15 (.load none (r 14)), i 16 (.load (some 2) (r 3)), i 17 (.lookup
  ⟨true, [.int (.i64), .int (.i64)]⟩ (.agg [.int (.i64) 0, .int (.i64) 0, .str []]) true (r 15) (r 16)), i 11 (.mv (r 17)), i 18 (.extract (r 11) 0), i 19 (.extract (r 11)
  1), i 6 (.alloc [.int (.i64) 0, .int (.i64) 0, .str []]), i0 (.store 3 (r 6) (r 18)), i 7 (.mv (r 19))]
def A_tree_Tree_Spot_4 : Row := [i 20 (.load (some 3) (r 6)), i 21 (.mv (r 7)), i0 (.store 3 (r 4) (r 20)), i 5 (.mv (r 21))]
/-- (*diorama/tree.Tree).Spot -/
def A_tree_Tree_Spot : AFunc :=
 ⟨22, [.cell 4 (some 3), .tmp 5], (.seq (.ops A_tree_Tree_Spot_0) (.seq (.seq (.ops A_tree_Tree_Spot_1) (.cond (r 9) (.seq (.ops A_tree_Tree_Spot_2) .ret) .skip)) (.seq
  (.ops A_tree_Tree_Spot_3) (.seq (.ops A_tree_Tree_Spot_4) .ret))))⟩
/-! (*diorama/tree.Tree).Clone -/
def A_tree_Tree_Clone_0 : Row := [i 2 (.mv (.const (.ptr none)))]
def A_tree_Tree_Clone_1 : Row := [i 3 (.mv (r 0)), i 4 (.call (.func F_tree_Tree_none) [.tmp 3])]
def A_tree_Tree_Clone_2 : Row := [i 2 (.mv (.const (.ptr none)))]
def A_tree_Tree_Clone_3 : Row := [i 5 (.mv (r 0)), i 6 (.nilCheck (r 5)), i 7 (.fieldAddr 0 (r 6)), i 8 (.load none (r 7)), i 9 (.call (.func F_maps_Clone_Stamp_Spot) [.tmp
  8]), i 10 (.build [.map none] [(0, 1, .tmp 9)]), i 11 (.box (r 10)), i 2 (.mv (r 11))]
/-- (*diorama/tree.Tree).Clone -/
def A_tree_Tree_Clone : AFunc :=
 ⟨12, [.tmp 2], (.seq (.ops A_tree_Tree_Clone_0) (.seq (.seq (.ops A_tree_Tree_Clone_1) (.cond (r 4) (.seq (.ops A_tree_Tree_Clone_2) .ret) .skip)) (.seq (.ops
  A_tree_Tree_Clone_3) .ret)))⟩
/-! (*diorama/tree.Tree).Move -/
def A_tree_Tree_Move_0 : Row := [i 4 (.box (r 1)), i 5 (.box (r 2)), i 6 (.alloc [.int (.i64) 0, .int (.i64) 0, .str []]), i 7 (.mv (.const (.int (.i64) 0)))]
def A_tree_Tree_Move_1 : Row := [i 9 (.mv (r 0)), i 10 (.call (.func F_tree_Tree_none) [.tmp 9]), i 11 (.mv (r 10)), g 12 (.load (some 2) (r 4)) 11 false, g 13 (.call (.func
  F_op_Node) [.tmp 12]) 11 false, g 14 (.un (.not) (r 13)) 11 false, i 15 (.pick (r 11) (.const (.bool true)) (r 14)), i 16 (.mv (r 15)), g 17 (.load (some 3) (r 5)) 16
  false, g 18 (.call (.func F_tree_Spot_right) [.tmp 17]) 16 false, g 19 (.un (.not) (r 18)) 16 false, i 20 (.pick (r 16) (.const (.bool true)) (r 19)), i 8 (.mv (r 20))]
def A_tree_Tree_Move_2 : Row := [i 21 (.load (some 3) (r 6)), i0 (.store 3 (r 6) (r 21)), i 7 (.mv (.const (.int (.i64) 1)))]
def A_tree_Tree_Move_3 : Row := [i 23 (.mv (r 0)), i 24 (.load (some 2) (r 4)), i 25 (.call (.func F_tree_Tree_node) [.tmp 23, .tmp 24]), i 26 (.un (.not) (r 25)), i 27 (.mv
  (r 26)), g 28 (.mv (r 0)) 27 false, g 29 (.fieldAddr 0 (r 5)) 27 false, g 30 (.load (some 2) (r 29)) 27 false, g 31 (.call (.func F_tree_Tree_Has) [.tmp 28, .tmp 30]) 27
  false, g 32 (.un (.not) (r 31)) 27 false, i 33 (.pick (r 27) (.const (.bool true)) (r 32)), i 22 (.mv (r 33))]
def A_tree_Tree_Move_4 : Row := [i 34 (.load (some 3) (r 6)), i0 (.store 3 (r 6) (r 34)), i 7 (.mv (.const (.int (.i64) 3)))]
def A_tree_Tree_Move_5 : Row := [i 36 (.mv (r 0)), i 37 (.load (some 2) (r 4)), i 38 (.fieldAddr 0 (r 5)), i 39 (.load (some 2) (r 38)), i 40 (.call (.func F_tree_Tree_Within)
  [.tmp 36, .tmp 37, .tmp 39]), i 35 (.mv (r 40))]
def A_tree_Tree_Move_6 : Row := [i 41 (.load (some 3) (r 6)), i0 (.store 3 (r 6) (r 41)), i 7 (.mv (.const (.int (.i64) 41)))]
def A_tree_Tree_Move_7 : Row := [i 42 (.mv (r 0)), i 43 (.nilCheck (r 42)), i 44 (.fieldAddr 0 (r 43)), i 45 (.load none (r 44)), i 46 (.load (some 2) (r 4)), i 47 (.lookup
  ⟨true, [.int (.i64), .int (.i64)]⟩ (.agg [.int (.i64) 0, .int (.i64) 0, .str []]) false (r 45) (r 46)), i0 (.store 3 (r 6) (r 47))]
def A_tree_Tree_Move_8 : Row := [i 48 (.mv (r 0)), i 49 (.nilCheck (r 48)), i 50 (.fieldAddr 0 (r 49)), i 51 (.load none (r 50)), i 52 (.load (some 2) (r 4)), i 53 (.load
  (some 3) (r 5)), i0 (.mapUpdate ⟨true, [.int (.i64), .int (.i64)]⟩ (r 51) (r 52) (r 53))]
def A_tree_Tree_Move_9 : Row := [i 54 (.load (some 3) (r 6)), i0 (.store 3 (r 6) (r 54)), i 7 (.mv (.const (.int (.i64) 0)))]
/-- (*diorama/tree.Tree).Move -/
def A_tree_Tree_Move : AFunc :=
 ⟨55, [.cell 6 (some 3), .tmp 7], (.seq (.ops A_tree_Tree_Move_0) (.seq (.block 0 (.seq (.ops A_tree_Tree_Move_1) (.cond (r 8) (.seq (.ops A_tree_Tree_Move_2) .ret) (.seq
  (.ops A_tree_Tree_Move_3) (.cond (r 22) (.seq (.ops A_tree_Tree_Move_4) .ret) (.seq (.ops A_tree_Tree_Move_5) (.cond (r 35) (.seq (.ops A_tree_Tree_Move_6) .ret)
  .skip))))))) (.seq (.ops A_tree_Tree_Move_7) (.seq (.ops A_tree_Tree_Move_8) (.seq (.ops A_tree_Tree_Move_9) .ret)))))⟩
/-! diorama/dioramalaw10.Own -/
def A_law10_Own_0 : Row := [i 1 (.box (r 0)), i 2 (.alloc [.int (.i64) 0, .int (.i64) 0, .str []])]
def A_law10_Own_1 : Row := [i 3 (.fieldAddr 0 (r 1)), i 4 (.load (some 2) (r 3)), i 5 (.fieldAddr 2 (r 1)), i 6 (.load none (r 5)), i 7 (.build [.int (.i64) 0, .int (.i64) 0,
  .str []] [(0, 2, .tmp 4), (2, 1, .tmp 6)]), i0 (.store 3 (r 2) (r 7))]
/-- diorama/dioramalaw10.Own -/
def A_law10_Own : AFunc :=
 ⟨8, [.cell 2 (some 3)], (.seq (.ops A_law10_Own_0) (.seq (.ops A_law10_Own_1) .ret))⟩
/-! diorama/dioramalaw10.num -/
def A_law10_num_0 : Row := [i 2 (.mv (.const (.int (.i64) 0)))]
def A_law10_num_1 : Row := [i 3 (.mv (r 0)), i 2 (.mv (r 3))]
/-- diorama/dioramalaw10.num -/
def A_law10_num : AFunc :=
 ⟨4, [.tmp 2], (.seq (.ops A_law10_num_0) (.seq (.ops A_law10_num_1) .ret))⟩
/-! (*diorama/tree.Tree).Same -/
def A_tree_Tree_Same_0 : Row := [i 4 (.mv (.const (.bool false)))]
def A_tree_Tree_Same_1 : Row := [i 5 (.mv (r 0)), i 6 (.call (.func F_tree_Tree_none) [.tmp 5]), i 7 (.un (.not) (r 6)), i 8 (.mv (r 7)), g 9 (.mv (r 1)) 8 true, g 10 (.call
  (.func F_tree_Tree_none) [.tmp 9]) 8 true, g 11 (.un (.not) (r 10)) 8 true, i 12 (.pick (r 8) (r 11) (.const (.bool false))), i 13 (.mv (r 12)), g 14 (.mv (r 0)) 13
  true, g 15 (.nilCheck (r 14)) 13 true, g 16 (.fieldAddr 0 (r 15)) 13 true, g 17 (.load none (r 16)) 13 true, g 18 (.mv (r 1)) 13 true, g 19 (.nilCheck (r 18)) 13 true, g
  20 (.fieldAddr 0 (r 19)) 13 true, g 21 (.load none (r 20)) 13 true, g 22 (.call (.func F_maps_Equal_Stamp_Spot) [.tmp 17, .tmp 21]) 13 true, i 23 (.pick (r 13) (r 22)
  (.const (.bool false))), i 4 (.mv (r 23))]
/-- (*diorama/tree.Tree).Same -/
def A_tree_Tree_Same : AFunc :=
 ⟨24, [.tmp 4], (.seq (.ops A_tree_Tree_Same_0) (.seq (.ops A_tree_Tree_Same_1) .ret))⟩
/-! (*diorama/tree.Tree).Add -/
def A_tree_Tree_Add_0 : Row := [i 4 (.box (r 1)), i 5 (.box (r 2)), i 6 (.mv (.const (.int (.i64) 0)))]
def A_tree_Tree_Add_1 : Row := [i 8 (.mv (r 0)), i 9 (.call (.func F_tree_Tree_none) [.tmp 8]), i 10 (.mv (r 9)), g 11 (.load (some 2) (r 4)) 10 false, g 12 (.call (.func
  F_op_Node) [.tmp 11]) 10 false, g 13 (.un (.not) (r 12)) 10 false, i 14 (.pick (r 10) (.const (.bool true)) (r 13)), i 15 (.mv (r 14)), g 16 (.load (some 3) (r 5)) 15
  false, g 17 (.call (.func F_tree_Spot_right) [.tmp 16]) 15 false, g 18 (.un (.not) (r 17)) 15 false, i 19 (.pick (r 15) (.const (.bool true)) (r 18)), i 7 (.mv (r 19))]
def A_tree_Tree_Add_2 : Row := [i 6 (.mv (.const (.int (.i64) 1)))]
def A_tree_Tree_Add_3 : Row := [i 21 (.mv (r 0)), i 22 (.load (some 2) (r 4)), i 23 (.call (.func F_tree_Tree_node) [.tmp 21, .tmp 22]), i 20 (.mv (r 23))]
def A_tree_Tree_Add_4 : Row := [i 6 (.mv (.const (.int (.i64) 4)))]
def A_tree_Tree_Add_5 : Row := [i 25 (.mv (r 0)), i 26 (.fieldAddr 0 (r 5)), i 27 (.load (some 2) (r 26)), i 28 (.call (.func F_tree_Tree_Has) [.tmp 25, .tmp 27]), i 29 (.un
  (.not) (r 28)), i 24 (.mv (r 29))]
def A_tree_Tree_Add_6 : Row := [i 6 (.mv (.const (.int (.i64) 3)))]
def A_tree_Tree_Add_7 : Row := [i 31 (.mv (r 0)), i 32 (.nilCheck (r 31)), i 33 (.fieldAddr 0 (r 32)), i 34 (.load none (r 33)), i 35 (.lenMap (r 34)), i 36 (.bin (.geq) (r
  35) (.const (.int (.i64) 65536))), i 30 (.mv (r 36))]
def A_tree_Tree_Add_8 : Row := [i 6 (.mv (.const (.int (.i64) 7)))]
def A_tree_Tree_Add_9 : Row := [i 37 (.mv (r 0)), i 38 (.nilCheck (r 37)), i 39 (.fieldAddr 0 (r 38)), i 40 (.load none (r 39)), i 41 (.load (some 2) (r 4)), i 42 (.load (some
  3) (r 5)), i0 (.mapUpdate ⟨true, [.int (.i64), .int (.i64)]⟩ (r 40) (r 41) (r 42))]
def A_tree_Tree_Add_10 : Row := [i 6 (.mv (.const (.int (.i64) 0)))]
/-- (*diorama/tree.Tree).Add -/
def A_tree_Tree_Add : AFunc :=
 ⟨43, [.tmp 6], (.seq (.ops A_tree_Tree_Add_0) (.seq (.block 0 (.seq (.ops A_tree_Tree_Add_1) (.cond (r 7) (.seq (.ops A_tree_Tree_Add_2) .ret) (.seq (.ops
  A_tree_Tree_Add_3) (.cond (r 20) (.seq (.ops A_tree_Tree_Add_4) .ret) (.seq (.ops A_tree_Tree_Add_5) (.cond (r 24) (.seq (.ops A_tree_Tree_Add_6) .ret) (.seq (.ops
  A_tree_Tree_Add_7) (.cond (r 30) (.seq (.ops A_tree_Tree_Add_8) .ret) .skip))))))))) (.seq (.ops A_tree_Tree_Add_9) (.seq (.ops A_tree_Tree_Add_10) .ret))))⟩
/-! (*diorama/tree.Tree).Drop -/
def A_tree_Tree_Drop_0 : Row := [i 3 (.box (r 1)), i 4 (.alloc [.int (.i64) 0, .int (.i64) 0, .str []]), i 5 (.mv (.const (.int (.i64) 0)))]
def A_tree_Tree_Drop_1 : Row := [i 7 (.mv (r 0)), i 8 (.call (.func F_tree_Tree_none) [.tmp 7]), i 6 (.mv (r 8))]
def A_tree_Tree_Drop_2 : Row := [i 9 (.load (some 3) (r 4)), i0 (.store 3 (r 4) (r 9)), i 5 (.mv (.const (.int (.i64) 1)))]
def A_tree_Tree_Drop_3 : Row := [i 11 (.mv (r 0)), i 12 (.load (some 2) (r 3)), i 13 (.call (.func F_tree_Tree_node) [.tmp 11, .tmp 12]), i 14 (.un (.not) (r 13)), i 10 (.mv
  (r 14))]
def A_tree_Tree_Drop_4 : Row := [i 15 (.load (some 3) (r 4)), i0 (.store 3 (r 4) (r 15)), i 5 (.mv (.const (.int (.i64) 3)))]
def A_tree_Tree_Drop_5 : Row := [i 17 (.mv (r 0)), i 18 (.load (some 2) (r 3)), i 19 (.call (.func F_tree_Tree_Below) [.tmp 17, .tmp 18]), i 20 (.lenSlice (r 19)), i 21 (.bin
  (.gtr) (r 20) (.const (.int (.i64) 0))), i 16 (.mv (r 21))]
def A_tree_Tree_Drop_6 : Row := [i 22 (.load (some 3) (r 4)), i0 (.store 3 (r 4) (r 22)), i 5 (.mv (.const (.int (.i64) 4)))]
def A_tree_Tree_Drop_7 : Row := [i 23 (.mv (r 0)), i 24 (.nilCheck (r 23)), i 25 (.fieldAddr 0 (r 24)), i 26 (.load none (r 25)), i 27 (.load (some 2) (r 3)), i 28 (.lookup
  ⟨true, [.int (.i64), .int (.i64)]⟩ (.agg [.int (.i64) 0, .int (.i64) 0, .str []]) false (r 26) (r 27)), i0 (.store 3 (r 4) (r 28))]
def A_tree_Tree_Drop_8 : Row := [i 29 (.mv (r 0)), i 30 (.nilCheck (r 29)), i 31 (.fieldAddr 0 (r 30)), i 32 (.load none (r 31)), i 33 (.load (some 2) (r 3)), i0 (.delete
  ⟨true, [.int (.i64), .int (.i64)]⟩ (r 32) (r 33))]
def A_tree_Tree_Drop_9 : Row := [i 34 (.load (some 3) (r 4)), i0 (.store 3 (r 4) (r 34)), i 5 (.mv (.const (.int (.i64) 0)))]
/-- (*diorama/tree.Tree).Drop -/
def A_tree_Tree_Drop : AFunc :=
 ⟨35, [.cell 4 (some 3), .tmp 5], (.seq (.ops A_tree_Tree_Drop_0) (.seq (.block 0 (.seq (.ops A_tree_Tree_Drop_1) (.cond (r 6) (.seq (.ops A_tree_Tree_Drop_2) .ret) (.seq
  (.ops A_tree_Tree_Drop_3) (.cond (r 10) (.seq (.ops A_tree_Tree_Drop_4) .ret) (.seq (.ops A_tree_Tree_Drop_5) (.cond (r 16) (.seq (.ops A_tree_Tree_Drop_6) .ret)
  .skip))))))) (.seq (.ops A_tree_Tree_Drop_7) (.seq (.ops A_tree_Tree_Drop_8) (.seq (.ops A_tree_Tree_Drop_9) .ret)))))⟩
/-! diorama/dioramalaw10.step -/
def A_law10_step_0 : Row := [i 5 (.box (r 2)), i 6 (.mv (.const (.bool false)))]
def A_law10_step_1 : Row := [i 15 (.fieldAddr 0 (r 5)), i 16 (.load none (r 15))]
def A_law10_step_2 : Row := [i 18 (.bin (.eql) (r 16) (.const (.int (.i64) 0))), i 17 (.mv (r 18))]
def A_law10_step_3 : Row := [i 19 (.mv (r 0)), i 20 (.fieldAddr 1 (r 5)), i 21 (.load (some 2) (r 20)), i 22 (.fieldAddr 3 (r 5)), i 23 (.load (some 3) (r 22)), i 27 (.mv (r
  1)), i 28 (.fieldAddr 1 (r 5)), i 29 (.load (some 2) (r 28)), i 30 (.fieldAddr 3 (r 5)), i 31 (.load (some 3) (r 30)), ⟨a 24 (.call (.func F_law10_Own) [.tmp 23]), [a 31
  (.load (some 3) (r 30)), a 29 (.load (some 2) (r 28)), a 21 (.load (some 2) (r 20))]⟩, ⟨a 25 (.call (.func F_tree_Tree_Add) [.tmp 19, .tmp 21, .tmp 24]), [a 31 (.load
  (some 3) (r 30)), a 29 (.load (some 2) (r 28))]⟩, ⟨a 26 (.call (.func F_law10_num) [.tmp 25]), [a 31 (.load (some 3) (r 30)), a 29 (.load (some 2) (r 28))]⟩, i 32 (.call
  (.func F_ref10_Tree_Add) [.tmp 27, .tmp 29, .tmp 31]), i 33 (.bin (.eql) (r 26) (r 32)), i 6 (.mv (r 33))]
def A_law10_step_4 : Row := [i 35 (.bin (.eql) (r 16) (.const (.int (.i64) 1))), i 34 (.mv (r 35))]
def A_law10_step_5 : Row := [i 37 (.mv (r 0)), i 38 (.fieldAddr 1 (r 5)), i 39 (.load (some 2) (r 38)), i 40 (.fieldAddr 3 (r 5)), i 41 (.load (some 3) (r 40)), i 7 (.alloc
  [.int (.i64) 0, .int (.i64) 0, .str []]), ⟨a 42 (.call (.func F_law10_Own) [.tmp 41]), [a 7 (.alloc [.int (.i64) 0, .int (.i64) 0, .str []]), a 39 (.load (some 2) (r
  38))]⟩, ⟨a 43 (.call (.func F_tree_Tree_Move) [.tmp 37, .tmp 39, .tmp 42]), [a 7 (.alloc [.int (.i64) 0, .int (.i64) 0, .str []])]⟩, i 36 (.mv (r 43)), i 44 (.extract (r
  36) 0), i 45 (.extract (r 36) 1), i0 (.store 3 (r 7) (r 44)), i 8 (.mv (r 45))]
def A_law10_step_6 : Row := [i 47 (.mv (r 1)), i 48 (.fieldAddr 1 (r 5)), i 49 (.load (some 2) (r 48)), i 50 (.fieldAddr 3 (r 5)), i 51 (.load (some 3) (r 50)), i 52 (.call
  (.func F_ref10_Tree_Move) [.tmp 47, .tmp 49, .tmp 51]), i 46 (.mv (r 52)), i 53 (.extract (r 46) 0), i 54 (.extract (r 46) 1), i 9 (.alloc [.int (.i64) 0, .int (.i64) 0,
  .str []]), i0 (.store 3 (r 9) (r 53)), i 10 (.mv (r 54))]
def A_law10_step_7 : Row := [i 55 (.load (some 3) (r 7)), i 56 (.load (some 3) (r 9)), ⟨a 57 (.call (.func F_law10_Own) [.tmp 56]), [a 55 (.load (some 3) (r 7))]⟩, i 58 (.eq
  false ⟨true, [.int (.i64), .int (.i64), .str]⟩ (r 55) (r 57)), i 59 (.mv (r 58)), g 60 (.mv (r 8)) 59 true, g 62 (.mv (r 10)) 59 true, g 61 (.call (.func F_law10_num)
  [.tmp 60]) 59 true, g 63 (.bin (.eql) (r 61) (r 62)) 59 true, i 64 (.pick (r 59) (r 63) (.const (.bool false))), i 6 (.mv (r 64))]
def A_law10_step_8 : Row := [i 66 (.bin (.eql) (r 16) (.const (.int (.i64) 2))), i 65 (.mv (r 66))]
def A_law10_step_9 : Row := [i 68 (.mv (r 0)), i 69 (.fieldAddr 1 (r 5)), i 70 (.load (some 2) (r 69)), i 71 (.call (.func F_tree_Tree_Drop) [.tmp 68, .tmp 70]), i 67 (.mv (r
  71)), i 72 (.extract (r 67) 0), i 73 (.extract (r 67) 1), i 11 (.alloc [.int (.i64) 0, .int (.i64) 0, .str []]), i0 (.store 3 (r 11) (r 72)), i 12 (.mv (r 73))]
def A_law10_step_10 : Row := [i 75 (.mv (r 1)), i 76 (.fieldAddr 1 (r 5)), i 77 (.load (some 2) (r 76)), i 78 (.call (.func F_ref10_Tree_Drop) [.tmp 75, .tmp 77]), i 74 (.mv
  (r 78)), i 79 (.extract (r 74) 0), i 80 (.extract (r 74) 1), i 13 (.alloc [.int (.i64) 0, .int (.i64) 0, .str []]), i0 (.store 3 (r 13) (r 79)), i 14 (.mv (r 80))]
def A_law10_step_11 : Row := [i 81 (.load (some 3) (r 11)), i 82 (.load (some 3) (r 13)), ⟨a 83 (.call (.func F_law10_Own) [.tmp 82]), [a 81 (.load (some 3) (r 11))]⟩, i 84
  (.eq false ⟨true, [.int (.i64), .int (.i64), .str]⟩ (r 81) (r 83)), i 85 (.mv (r 84)), g 86 (.mv (r 12)) 85 true, g 88 (.mv (r 14)) 85 true, g 87 (.call (.func
  F_law10_num) [.tmp 86]) 85 true, g 89 (.bin (.eql) (r 87) (r 88)) 85 true, i 90 (.pick (r 85) (r 89) (.const (.bool false))), i 6 (.mv (r 90))]
def A_law10_step_12 : Row := [i 6 (.mv (.const (.bool true)))]
/-- diorama/dioramalaw10.step -/
def A_law10_step : AFunc :=
 ⟨91, [.tmp 6], (.seq (.ops A_law10_step_0) (.seq (.seq (.ops A_law10_step_1) (.block 0 (.seq (.ops A_law10_step_2) (.cond (r 17) (.seq (.ops A_law10_step_3) .ret) (.seq
  (.ops A_law10_step_4) (.cond (r 34) (.seq (.ops A_law10_step_5) (.seq (.ops A_law10_step_6) (.seq (.ops A_law10_step_7) .ret))) (.seq (.ops A_law10_step_8) (.cond (r 65)
  (.seq (.ops A_law10_step_9) (.seq (.ops A_law10_step_10) (.seq (.ops A_law10_step_11) .ret))) .skip)))))))) (.seq (.ops A_law10_step_12) .ret)))⟩
/-! diorama/dioramalaw10.same -/
def A_law10_same_0 : Row := [i 6 (.box (r 2)), i 7 (.box (r 3)), i 8 (.mv (.const (.bool false)))]
def A_law10_same_1 : Row := [i 14 (.mv (r 0)), i 15 (.load (some 2) (r 6)), i 16 (.call (.func F_tree_Tree_Spot) [.tmp 14, .tmp 15]), i 13 (.mv (r 16)), i 17 (.extract (r 13)
  0), i 18 (.extract (r 13) 1), i 9 (.alloc [.int (.i64) 0, .int (.i64) 0, .str []]), i0 (.store 3 (r 9) (r 17)), i 10 (.mv (r 18))]
def A_law10_same_2 : Row := [i 20 (.mv (r 1)), i 21 (.load (some 2) (r 6)), i 22 (.call (.func F_ref10_Tree_Spot) [.tmp 20, .tmp 21]), i 19 (.mv (r 22)), i 23 (.extract (r 19)
  0), i 24 (.extract (r 19) 1), i 11 (.alloc [.int (.i64) 0, .int (.i64) 0, .str []]), i0 (.store 3 (r 11) (r 23)), i 12 (.mv (r 24))]
def A_law10_same_3 : Row := [i 25 (.load (some 3) (r 9)), i 26 (.load (some 3) (r 11)), ⟨a 27 (.call (.func F_law10_Own) [.tmp 26]), [a 25 (.load (some 3) (r 9))]⟩, i 28 (.eq
  false ⟨true, [.int (.i64), .int (.i64), .str]⟩ (r 25) (r 27)), i 29 (.mv (r 28)), g 30 (.mv (r 10)) 29 true, g 31 (.mv (r 12)) 29 true, g 32 (.eq false ⟨false, [.bool]⟩
  (r 30) (r 31)) 29 true, i 33 (.pick (r 29) (r 32) (.const (.bool false))), i 34 (.mv (r 33)), g 35 (.mv (r 0)) 34 true, g 36 (.load (some 2) (r 6)) 34 true, g 38 (.mv (r
  1)) 34 true, g 39 (.load (some 2) (r 6)) 34 true, ⟨⟨(some 37), .call (.func F_tree_Tree_Has) [.tmp 35, .tmp 36], (some (34, true))⟩, [⟨(some 39), .load (some 2) (r 6),
  (some (34, true))⟩]⟩, g 40 (.call (.func F_ref10_Tree_Has) [.tmp 38, .tmp 39]) 34 true, g 41 (.eq false ⟨false, [.bool]⟩ (r 37) (r 40)) 34 true, i 42 (.pick (r 34) (r
  41) (.const (.bool false))), i 43 (.mv (r 42)), g 44 (.mv (r 0)) 43 true, g 45 (.load (some 2) (r 6)) 43 true, g 47 (.mv (r 1)) 43 true, g 48 (.load (some 2) (r 6)) 43
  true, ⟨⟨(some 46), .call (.func F_tree_Tree_Below) [.tmp 44, .tmp 45], (some (43, true))⟩, [⟨(some 48), .load (some 2) (r 6), (some (43, true))⟩]⟩, g 49 (.call (.func
  F_ref10_Tree_Below) [.tmp 47, .tmp 48]) 43 true, g 50 (.call (.func F_law05_Same) [.tmp 46, .tmp 49]) 43 true, i 51 (.pick (r 43) (r 50) (.const (.bool false))), i 52
  (.mv (r 51)), g 53 (.mv (r 0)) 52 true, g 54 (.load (some 2) (r 6)) 52 true, g 56 (.mv (r 1)) 52 true, g 57 (.load (some 2) (r 6)) 52 true, ⟨⟨(some 55), .call (.func
  F_tree_Tree_Above) [.tmp 53, .tmp 54], (some (52, true))⟩, [⟨(some 57), .load (some 2) (r 6), (some (52, true))⟩]⟩, g 58 (.call (.func F_ref10_Tree_Above) [.tmp 56, .tmp
  57]) 52 true, g 59 (.call (.func F_law05_Same) [.tmp 55, .tmp 58]) 52 true, i 60 (.pick (r 52) (r 59) (.const (.bool false))), i 61 (.mv (r 60)), g 62 (.mv (r 0)) 61
  true, g 63 (.load (some 2) (r 7)) 61 true, g 64 (.load (some 2) (r 6)) 61 true, g 66 (.mv (r 1)) 61 true, g 67 (.load (some 2) (r 7)) 61 true, g 68 (.load (some 2) (r
  6)) 61 true, ⟨⟨(some 65), .call (.func F_tree_Tree_Within) [.tmp 62, .tmp 63, .tmp 64], (some (61, true))⟩, [⟨(some 68), .load (some 2) (r 6), (some (61, true))⟩, ⟨(some
  67), .load (some 2) (r 7), (some (61, true))⟩]⟩, g 69 (.call (.func F_ref10_Tree_Within) [.tmp 66, .tmp 67, .tmp 68]) 61 true, g 70 (.eq false ⟨false, [.bool]⟩ (r 65) (r
  69)) 61 true, i 71 (.pick (r 61) (r 70) (.const (.bool false))), i 8 (.mv (r 71))]
/-- diorama/dioramalaw10.same -/
def A_law10_same : AFunc :=
 ⟨72, [.tmp 8], (.seq (.ops A_law10_same_0) (.seq (.ops A_law10_same_1) (.seq (.ops A_law10_same_2) (.seq (.ops A_law10_same_3) .ret))))⟩
/-! diorama/dioramalaw05.Same -/
def A_law05_Same_0 : Row := [i 4 (.mv (.const (.bool false)))]
def A_law05_Same_1 : Row := [i 6 (.mv (r 0)), i 7 (.lenSlice (r 6)), i 8 (.mv (r 1)), i 9 (.lenSlice (r 8)), i 10 (.bin (.neq) (r 7) (r 9))]
def A_law05_Same_2 : Row := [i 4 (.mv (.const (.bool false)))]
def A_law05_Same_3 : Row := [i 5 (.mv (.const (.int (.i64) 0)))]
def A_law05_Same_4 : Row := [i 11 (.mv (r 5)), i 12 (.mv (r 0)), i 13 (.lenSlice (r 12)), i 14 (.bin (.lss) (r 11) (r 13))]
def A_law05_Same_5 : Row := [i 17 (.mv (r 0)), i 18 (.mv (r 5)), i 19 (.indexAddr 2 (r 17) (r 18)), i 20 (.load (some 2) (r 19)), i 21 (.mv (r 1)), i 22 (.mv (r 5)), i 23
  (.indexAddr 2 (r 21) (r 22)), i 24 (.load (some 2) (r 23)), i 25 (.eq true ⟨true, [.int (.i64), .int (.i64)]⟩ (r 20) (r 24))]
def A_law05_Same_6 : Row := [i 4 (.mv (.const (.bool false)))]
def A_law05_Same_7 : Row := [i 15 (.mv (r 5)), i 16 (.bin (.add) (r 15) (.const (.int (.i64) 1))), i 5 (.mv (r 16))]
def A_law05_Same_8 : ACode := (.seq (.seq (.ops A_law05_Same_4) (.cond (r 14) .skip (.exit 0))) (.seq (.block 1 (.seq (.ops A_law05_Same_5) (.cond (r 25) (.seq (.ops
  A_law05_Same_6) .ret) .skip))) (.ops A_law05_Same_7)))
def A_law05_Same_9 : Row := [i 4 (.mv (.const (.bool true)))]
/-- diorama/dioramalaw05.Same -/
def A_law05_Same : AFunc :=
 ⟨26, [.tmp 4], (.seq (.ops A_law05_Same_0) (.seq (.seq (.ops A_law05_Same_1) (.cond (r 10) (.seq (.ops A_law05_Same_2) .ret) .skip)) (.seq (.seq (.ops A_law05_Same_3)
  (.block 0 (.loop A_law05_Same_8))) (.seq (.ops A_law05_Same_9) .ret))))⟩
/-! diorama/dioramaref10.Same -/
def A_ref10_Same_0 : Row := [i 4 (.mv (.const (.bool false)))]
def A_ref10_Same_1 : Row := [i 6 (.mv (r 0)), i 7 (.nilCheck (r 6)), i 8 (.fieldAddr 0 (r 7)), i 9 (.load none (r 8)), i 10 (.lenSlice (r 9)), i 11 (.mv (r 1)), i 12
  (.nilCheck (r 11)), i 13 (.fieldAddr 0 (r 12)), i 14 (.load none (r 13)), i 15 (.lenSlice (r 14)), i 16 (.bin (.neq) (r 10) (r 15))]
def A_ref10_Same_2 : Row := [i 4 (.mv (.const (.bool false)))]
def A_ref10_Same_3 : Row := [i 5 (.mv (.const (.int (.i64) 0)))]
def A_ref10_Same_4 : Row := [i 17 (.mv (r 5)), i 18 (.mv (r 0)), i 19 (.nilCheck (r 18)), i 20 (.fieldAddr 0 (r 19)), i 21 (.load none (r 20)), i 22 (.lenSlice (r 21)), i 23
  (.bin (.lss) (r 17) (r 22))]
def A_ref10_Same_5 : Row := [i 26 (.mv (r 0)), i 27 (.nilCheck (r 26)), i 28 (.fieldAddr 0 (r 27)), i 29 (.load none (r 28)), i 30 (.mv (r 5)), i 31 (.indexAddr 5 (r 29) (r
  30)), i 32 (.load (some 5) (r 31)), i 33 (.mv (r 1)), i 34 (.nilCheck (r 33)), i 35 (.fieldAddr 0 (r 34)), i 36 (.load none (r 35)), i 37 (.mv (r 5)), i 38 (.indexAddr 5
  (r 36) (r 37)), i 39 (.load (some 5) (r 38)), i 40 (.eq true ⟨true, [.int (.i64), .int (.i64), .int (.i64), .int (.i64), .str]⟩ (r 32) (r 39))]
def A_ref10_Same_6 : Row := [i 4 (.mv (.const (.bool false)))]
def A_ref10_Same_7 : Row := [i 24 (.mv (r 5)), i 25 (.bin (.add) (r 24) (.const (.int (.i64) 1))), i 5 (.mv (r 25))]
def A_ref10_Same_8 : ACode := (.seq (.seq (.ops A_ref10_Same_4) (.cond (r 23) .skip (.exit 0))) (.seq (.block 1 (.seq (.ops A_ref10_Same_5) (.cond (r 40) (.seq (.ops
  A_ref10_Same_6) .ret) .skip))) (.ops A_ref10_Same_7)))
def A_ref10_Same_9 : Row := [i 4 (.mv (.const (.bool true)))]
/-- diorama/dioramaref10.Same -/
def A_ref10_Same : AFunc :=
 ⟨41, [.tmp 4], (.seq (.ops A_ref10_Same_0) (.seq (.seq (.ops A_ref10_Same_1) (.cond (r 16) (.seq (.ops A_ref10_Same_2) .ret) .skip)) (.seq (.seq (.ops A_ref10_Same_3)
  (.block 0 (.loop A_ref10_Same_8))) (.seq (.ops A_ref10_Same_9) .ret))))⟩
/-! (*diorama/tree.Tree).Has -/
def A_tree_Tree_Has_0 : Row := [i 3 (.box (r 1)), i 4 (.mv (.const (.bool false)))]
def A_tree_Tree_Has_1 : Row := [i 7 (.mv (r 0)), i 8 (.call (.func F_tree_Tree_none) [.tmp 7])]
def A_tree_Tree_Has_2 : Row := [i 4 (.mv (.const (.bool false)))]
def A_tree_Tree_Has_3 : Row := [i 10 (.mv (r 0)), i 11 (.nilCheck (r 10)), i 12 (.fieldAddr 0 (r 11)), i 13 (.load none (r 12)), i 14 (.load (some 2) (r 3)), i 15 (.lookup
  ⟨true, [.int (.i64), .int (.i64)]⟩ (.agg [.int (.i64) 0, .int (.i64) 0, .str []]) true (r 13) (r 14)), i 9 (.mv (r 15)), i 16 (.extract (r 9) 0), i 17 (.extract (r 9)
  1), i 5 (.alloc [.int (.i64) 0, .int (.i64) 0, .str []]), i0 (.store 3 (r 5) (r 16)), i 6 (.mv (r 17))]
def A_tree_Tree_Has_4 : Row := [i 18 (.mv (r 6)), i 19 (.mv (r 18)), g 20 (.load (some 2) (r 3)) 19 false, g 21 (.call (.func F_op_Place) [.tmp 20]) 19 false, g 22 (.mv (r
  21)) 19 false, g 23 (.load (some 2) (r 3)) 22 true, g 24 (.call (.func F_op_Node) [.tmp 23]) 22 true, g 25 (.un (.not) (r 24)) 22 true, g 26 (.pick (r 22) (r 25) (.const
  (.bool false))) 19 false, i 27 (.pick (r 19) (.const (.bool true)) (r 26)), i 4 (.mv (r 27))]
/-- (*diorama/tree.Tree).Has -/
def A_tree_Tree_Has : AFunc :=
 ⟨28, [.tmp 4], (.seq (.ops A_tree_Tree_Has_0) (.seq (.seq (.ops A_tree_Tree_Has_1) (.cond (r 8) (.seq (.ops A_tree_Tree_Has_2) .ret) .skip)) (.seq (.ops A_tree_Tree_Has_3)
  (.seq (.ops A_tree_Tree_Has_4) .ret))))⟩
/-! diorama/dioramalaw13.Light -/
def A_law13_Light_0 : Row := [i 2 (.mv (.const (.bool false)))]
def A_law13_Light_1 : Row := [i 3 (.mv (r 0)), i 4 (.call (.func F_law13_ref12Light) [.tmp 3]), i 5 (.mv (r 4)), g 6 (.mv (r 0)) 5 true, g 7 (.lenSlice (r 6)) 5 true, g 8
  (.bin (.leq) (r 7) (.const (.int (.i64) 40))) 5 true, i 9 (.pick (r 5) (r 8) (.const (.bool false))), i 2 (.mv (r 9))]
/-- diorama/dioramalaw13.Light -/
def A_law13_Light : AFunc :=
 ⟨10, [.tmp 2], (.seq (.ops A_law13_Light_0) (.seq (.ops A_law13_Light_1) .ret))⟩
/-! diorama/dioramalaw13.knows -/
def A_law13_knows_0 : Row := [i 0 (.mv (.const (.bool false)))]
def A_law13_knows_1 : Row := [i 15 (.call (.func F_graph_New) []), i 1 (.mv (r 15))]
def A_law13_knows_2 : Row := [i 16 (.build [.int (.i64) 0, .int (.i64) 0] [(0, 1, .const (.int (.i64) 1))]), i 2 (.alloc [.int (.i64) 0, .int (.i64) 0]), i0 (.store 2 (r 2) (r
  16))]
def A_law13_knows_3 : Row := [i 17 (.build [.int (.i64) 0, .int (.i64) 0] [(0, 1, .const (.int (.i64) 2))]), i 3 (.alloc [.int (.i64) 0, .int (.i64) 0]), i0 (.store 2 (r 3) (r
  17))]
def A_law13_knows_4 : Row := [i 19 (.mv (r 1)), i 20 (.load (some 2) (r 2)), i 21 (.build [.int (.i64) 0, .int (.i64) 0, .int (.i64) 0, .int (.i64) 0, .int (.i64) 0, .str [],
  .slice none 0 (.exact 0), .int (.i64) 0, .int (.i64) 0, .int (.i64) 0, .str [], .bool false] [(0, 1, .const (.int (.i64) 1)), (5, 1, .const (.str [97]))]), i 22 (.call
  (.func F_graph_Graph_Insert) [.tmp 19, .tmp 20, .tmp 21]), i 18 (.mv (r 22)), i 23 (.extract (r 18) 0), i 24 (.extract (r 18) 1), i 4 (.mv (r 23)), i 5 (.mv (r 24))]
def A_law13_knows_5 : Row := [i 26 (.mv (r 1)), i 27 (.load (some 2) (r 3)), i 28 (.build [.int (.i64) 0, .int (.i64) 0, .int (.i64) 0, .int (.i64) 0, .int (.i64) 0, .str [],
  .slice none 0 (.exact 0), .int (.i64) 0, .int (.i64) 0, .int (.i64) 0, .str [], .bool false] [(0, 1, .const (.int (.i64) 1)), (5, 1, .const (.str [98]))]), i 29 (.call
  (.func F_graph_Graph_Insert) [.tmp 26, .tmp 27, .tmp 28]), i 25 (.mv (r 29)), i 30 (.extract (r 25) 0), i 31 (.extract (r 25) 1), i 6 (.mv (r 30)), i 7 (.mv (r 31))]
def A_law13_knows_6 : Row := [i 33 (.mv (r 1)), i 34 (.build [.int (.i64) 0, .int (.i64) 0] [(0, 1, .const (.int (.i64) 9))]), i 35 (.load (some 2) (r 2)), i 36 (.load (some
  2) (r 3)), i 37 (.build [.int (.i64) 0, .int (.i64) 0, .int (.i64) 0, .int (.i64) 0, .int (.i64) 0, .str [], .slice none 0 (.exact 0), .int (.i64) 0, .int (.i64) 0, .int
  (.i64) 0, .str [], .bool false] [(0, 1, .const (.int (.i64) 2)), (1, 2, .tmp 35), (3, 2, .tmp 36), (5, 1, .const (.str [99]))]), i 38 (.call (.func F_graph_Graph_Insert)
  [.tmp 33, .tmp 34, .tmp 37]), i 32 (.mv (r 38)), i 39 (.extract (r 32) 0), i 40 (.extract (r 32) 1), i 8 (.mv (r 39)), i 9 (.mv (r 40))]
def A_law13_knows_7 : Row := [i 41 (.mv (r 1)), i 42 (.build [.int (.i64) 0, .int (.i64) 0] [(0, 1, .const (.int (.i64) 9))]), i 43 (.call (.func F_graph_Graph_Done) [.tmp 41,
  .tmp 42]), i 10 (.mv (r 43))]
def A_law13_knows_8 : Row := [i 45 (.mv (r 1)), i 46 (.build [.int (.i64) 0, .int (.i64) 0] [(0, 1, .const (.int (.i64) 5))]), i 47 (.load (some 2) (r 3)), i 48 (.load (some
  2) (r 2)), i 49 (.build [.int (.i64) 0, .int (.i64) 0, .int (.i64) 0, .int (.i64) 0, .int (.i64) 0, .str [], .slice none 0 (.exact 0), .int (.i64) 0, .int (.i64) 0, .int
  (.i64) 0, .str [], .bool false] [(0, 1, .const (.int (.i64) 2)), (1, 2, .tmp 47), (3, 2, .tmp 48), (5, 1, .const (.str [99]))]), i 50 (.call (.func F_graph_Graph_Insert)
  [.tmp 45, .tmp 46, .tmp 49]), i 44 (.mv (r 50)), i 51 (.extract (r 44) 0), i 52 (.extract (r 44) 1), i 11 (.mv (r 51)), i 12 (.mv (r 52))]
def A_law13_knows_9 : Row := [i 54 (.mv (r 1)), i 55 (.load (some 2) (r 2)), i 56 (.call (.func F_graph_Graph_Spot) [.tmp 54, .tmp 55]), i 53 (.mv (r 56)), i 57 (.extract (r
  53) 0), i 58 (.extract (r 53) 1), i 13 (.alloc [.int (.i64) 0, .int (.i64) 0, .str []]), i0 (.store 3 (r 13) (r 57)), i 14 (.mv (r 58))]
def A_law13_knows_10 : Row := [i 59 (.mv (r 5)), i 60 (.call (.func F_law13_num) [.tmp 59]), i 61 (.mv (r 7)), i 62 (.call (.func F_law13_num) [.tmp 61]), i 63 (.bin (.add) (r
  60) (r 62)), i 64 (.mv (r 9)), i 65 (.call (.func F_law13_num) [.tmp 64]), i 66 (.bin (.add) (r 63) (r 65)), i 67 (.mv (r 12)), i 68 (.call (.func F_law13_num) [.tmp
  67]), i 69 (.bin (.add) (r 66) (r 68)), i 70 (.bin (.eql) (r 69) (.const (.int (.i64) 0))), i 71 (.mv (r 70)), g 72 (.mv (r 11)) 71 true, g 73 (.bin (.eql) (r 72)
  (.const (.int (.i64) 1))) 71 true, i 74 (.pick (r 71) (r 73) (.const (.bool false))), i 75 (.mv (r 74)), g 76 (.mv (r 10)) 75 true, i 77 (.pick (r 75) (r 76) (.const
  (.bool false))), i 78 (.mv (r 77)), g 79 (.mv (r 1)) 78 true, g 80 (.build [.int (.i64) 0, .int (.i64) 0] [(0, 1, .const (.int (.i64) 9))]) 78 true, g 81 (.call (.func
  F_graph_Graph_Done) [.tmp 79, .tmp 80]) 78 true, g 82 (.un (.not) (r 81)) 78 true, i 83 (.pick (r 78) (r 82) (.const (.bool false))), i 84 (.mv (r 83)), g 85 (.mv (r
  14)) 84 true, i 86 (.pick (r 84) (r 85) (.const (.bool false))), i 87 (.mv (r 86)), g 88 (.fieldAddr 0 (r 13)) 87 true, g 89 (.load (some 2) (r 88)) 87 true, g 90
  (.build [.int (.i64) 0, .int (.i64) 0] []) 87 true, g 91 (.eq false ⟨true, [.int (.i64), .int (.i64)]⟩ (r 89) (r 90)) 87 true, i 92 (.pick (r 87) (r 91) (.const (.bool
  false))), i 93 (.mv (r 92)), g 94 (.mv (r 1)) 93 true, g 95 (.load (some 2) (r 3)) 93 true, g 96 (.load (some 2) (r 2)) 93 true, g 97 (.call (.func
  F_graph_Graph_Reaches) [.tmp 94, .tmp 95, .tmp 96, .const (.bool true)]) 93 true, i 98 (.pick (r 93) (r 97) (.const (.bool false))), i 99 (.mv (r 98)), g 100 (.mv (r 1))
  99 true, g 101 (.call (.func F_graph_Graph_Count) [.tmp 100]) 99 true, g 102 (.bin (.eql) (r 101) (.const (.int (.i64) 4))) 99 true, i 103 (.pick (r 99) (r 102) (.const
  (.bool false))), i 0 (.mv (r 103))]
/-- diorama/dioramalaw13.knows -/
def A_law13_knows : AFunc :=
 ⟨104, [.tmp 0], (.seq (.ops A_law13_knows_0) (.seq (.ops A_law13_knows_1) (.seq (.ops A_law13_knows_2) (.seq (.ops A_law13_knows_3) (.seq (.ops A_law13_knows_4) (.seq
  (.ops A_law13_knows_5) (.seq (.ops A_law13_knows_6) (.seq (.ops A_law13_knows_7) (.seq (.ops A_law13_knows_8) (.seq (.ops A_law13_knows_9) (.seq (.ops A_law13_knows_10)
  .ret)))))))))))⟩
/-! diorama/graph.New -/
def A_graph_New_0 : Row := [i 0 (.mv (.const (.ptr none)))]
def A_graph_New_1 : Row := [i 1 (.call (.func F_tree_New) []), i 2 (.makeMap), i 3 (.build [.slice none 0 (.exact 0), .ptr none, .map none] [(1, 1, .tmp 1), (2, 1, .tmp 2)]),
  i 4 (.box (r 3)), i 0 (.mv (r 4))]
/-- diorama/graph.New -/
def A_graph_New : AFunc :=
 ⟨5, [.tmp 0], (.seq (.ops A_graph_New_0) (.seq (.ops A_graph_New_1) .ret))⟩
/-! (*diorama/graph.Graph).Insert -/
def A_graph_Graph_Insert_0 : Row := [i 4 (.box (r 1)), i 5 (.box (r 2)), i 6 (.mv (.const (.int (.i64) 0))), i 7 (.mv (.const (.int (.i64) 0)))]
def A_graph_Graph_Insert_1 : Row := [i 13 (.mv (r 0)), i 14 (.call (.func F_graph_Graph_none) [.tmp 13]), i 15 (.mv (r 14)), g 16 (.load (some 2) (r 4)) 15 false, g 17 (.call
  (.func F_op_Node) [.tmp 16]) 15 false, g 18 (.un (.not) (r 17)) 15 false, i 19 (.pick (r 15) (.const (.bool true)) (r 18)), i 20 (.mv (r 19)), g 21 (.load (some 12) (r
  5)) 20 false, g 22 (.call (.func F_op_Right) [.tmp 21]) 20 false, g 23 (.un (.not) (r 22)) 20 false, i 24 (.pick (r 20) (.const (.bool true)) (r 23))]
def A_graph_Graph_Insert_2 : Row := [i 6 (.mv (.const (.int (.i64) 0))), i 7 (.mv (.const (.int (.i64) 1)))]
def A_graph_Graph_Insert_3 : Row := [i 26 (.mv (r 0)), i 27 (.load (some 2) (r 4)), i 28 (.call (.func F_graph_Graph_place) [.tmp 26, .tmp 27]), i 25 (.mv (r 28)), i 29
  (.extract (r 25) 0), i 30 (.extract (r 25) 1), i 8 (.mv (r 29)), i 9 (.mv (r 30))]
def A_graph_Graph_Insert_4 : Row := [i 32 (.fieldAddr 0 (r 5)), i 33 (.load none (r 32)), i 34 (.bin (.neq) (r 33) (.const (.int (.i64) 1))), i 35 (.mv (r 34)), g 36
  (.fieldAddr 0 (r 5)) 35 true, g 37 (.load none (r 36)) 35 true, g 38 (.bin (.neq) (r 37) (.const (.int (.i64) 2))) 35 true, i 39 (.pick (r 35) (r 38) (.const (.bool
  false))), i 40 (.mv (r 39)), g 41 (.fieldAddr 0 (r 5)) 40 true, g 42 (.load none (r 41)) 40 true, g 43 (.bin (.neq) (r 42) (.const (.int (.i64) 5))) 40 true, i 44 (.pick
  (r 40) (r 43) (.const (.bool false))), i 31 (.mv (r 44))]
def A_graph_Graph_Insert_5 : Row := [i 6 (.mv (.const (.int (.i64) 0))), i 7 (.mv (.const (.int (.i64) 42)))]
def A_graph_Graph_Insert_6 : Row := [i 46 (.mv (r 9)), i 45 (.mv (r 46))]
def A_graph_Graph_Insert_7 : Row := [i 6 (.mv (.const (.int (.i64) 0))), i 7 (.mv (.const (.int (.i64) 4)))]
def A_graph_Graph_Insert_8 : Row := [i 48 (.mv (r 0)), i 49 (.nilCheck (r 48)), i 50 (.fieldAddr 0 (r 49)), i 51 (.load none (r 50)), i 52 (.lenSlice (r 51)), i 53 (.bin
  (.geq) (r 52) (.const (.int (.i64) 65536))), i 47 (.mv (r 53))]
def A_graph_Graph_Insert_9 : Row := [i 6 (.mv (.const (.int (.i64) 0))), i 7 (.mv (.const (.int (.i64) 7)))]
def A_graph_Graph_Insert_10 : Row := [i 54 (.mv (r 0)), i 55 (.nilCheck (r 54)), i 56 (.fieldAddr 0 (r 55)), i 57 (.load none (r 56)), i 58 (.lenSlice (r 57)), i 59 (.bin
  (.sub) (r 58) (.const (.int (.i64) 1))), i 10 (.mv (r 59))]
def A_graph_Graph_Insert_11 : Row := [i 60 (.mv (r 10)), i 61 (.mv (r 8)), i 62 (.bin (.geq) (r 60) (r 61))]
def A_graph_Graph_Insert_12 : Row := [i 65 (.mv (r 0)), i 66 (.nilCheck (r 65)), i 67 (.fieldAddr 0 (r 66)), i 68 (.load none (r 67)), i 69 (.mv (r 10)), i 70 (.indexAddr 16
  (r 68) (r 69)), i 71 (.fieldAddr 15 (r 70)), i 72 (.load none (r 71)), i 11 (.mv (r 72))]
def A_graph_Graph_Insert_13 : Row := [i 73 (.mv (r 11)), i 74 (.eqNil true (.fn) (r 73) (.const (.nilFn)))]
def A_graph_Graph_Insert_14 : Row := [i 75 (.mv (r 11)), i 76 (.mv (r 0)), i 77 (.nilCheck (r 76)), i 78 (.fieldAddr 1 (r 77)), i 79 (.load none (r 78)), i 80 (.mv (r 0)), i
  81 (.nilCheck (r 80)), i 82 (.fieldAddr 2 (r 81)), i 83 (.load none (r 82)), i 84 (.call (r 75) [.tmp 79, .tmp 83])]
def A_graph_Graph_Insert_15 : Row := [i 63 (.mv (r 10)), i 64 (.bin (.sub) (r 63) (.const (.int (.i64) 1))), i 10 (.mv (r 64))]
def A_graph_Graph_Insert_16 : ACode := (.seq (.seq (.ops A_graph_Graph_Insert_11) (.cond (r 62) .skip (.exit 1))) (.seq (.block 2 (.seq (.ops A_graph_Graph_Insert_12) (.seq
  (.ops A_graph_Graph_Insert_13) (.cond (r 74) (.ops A_graph_Graph_Insert_14) .skip)))) (.ops A_graph_Graph_Insert_15)))
def A_graph_Graph_Insert_17 : Row := [i 85 (.mv (r 0)), i 86 (.mv (r 0)), i 87 (.nilCheck (r 86)), i 88 (.fieldAddr 0 (r 87)), i 89 (.load none (r 88)), i 90 (.mv (r 8)), i 91
  (.load (some 2) (r 4)), i 92 (.load (some 12) (r 5)), i 93 (.build [.int (.i64) 0, .int (.i64) 0, .int (.i64) 0, .int (.i64) 0, .int (.i64) 0, .int (.i64) 0, .int (.i64)
  0, .str [], .slice none 0 (.exact 0), .int (.i64) 0, .int (.i64) 0, .int (.i64) 0, .str [], .bool false, .bool false, .nilFn] [(0, 2, .tmp 91), (2, 12, .tmp 92)]), i 94
  (.buildSlice 1 [.int (.i64) 0, .int (.i64) 0, .int (.i64) 0, .int (.i64) 0, .int (.i64) 0, .int (.i64) 0, .int (.i64) 0, .str [], .slice none 0 (.exact 0), .int (.i64)
  0, .int (.i64) 0, .int (.i64) 0, .str [], .bool false, .bool false, .nilFn] [(0, 16, .tmp 93)]), i 95 (.call (.func F_slices_Insert_entry) [.tmp 89, .tmp 90, .tmp 94]),
  i 96 (.nilCheck (r 85)), i 97 (.fieldAddr 0 (r 96)), i0 (.store 1 (r 97) (r 95))]
def A_graph_Graph_Insert_18 : Row := [i 98 (.mv (r 8)), i 12 (.mv (r 98))]
def A_graph_Graph_Insert_19 : Row := [i 99 (.mv (r 12)), i 100 (.mv (r 0)), i 101 (.nilCheck (r 100)), i 102 (.fieldAddr 0 (r 101)), i 103 (.load none (r 102)), i 104
  (.lenSlice (r 103)), i 105 (.bin (.lss) (r 99) (r 104))]
def A_graph_Graph_Insert_20 : Row := [i 108 (.mv (r 0)), i 109 (.nilCheck (r 108)), i 110 (.fieldAddr 0 (r 109)), i 111 (.load none (r 110)), i 112 (.mv (r 12)), i 113
  (.indexAddr 16 (r 111) (r 112)), i 114 (.mv (r 0)), i 115 (.call (.func F_graph_entry_do) [.tmp 113, .tmp 114])]
def A_graph_Graph_Insert_21 : Row := [i 106 (.mv (r 12)), i 107 (.bin (.add) (r 106) (.const (.int (.i64) 1))), i 12 (.mv (r 107))]
def A_graph_Graph_Insert_22 : ACode := (.seq (.seq (.ops A_graph_Graph_Insert_19) (.cond (r 105) .skip (.exit 3))) (.seq (.block 4 (.ops A_graph_Graph_Insert_20)) (.ops
  A_graph_Graph_Insert_21)))
def A_graph_Graph_Insert_23 : Row := [i 116 (.mv (r 0)), i 117 (.nilCheck (r 116)), i 118 (.fieldAddr 0 (r 117)), i 119 (.load none (r 118)), i 120 (.lenSlice (r 119)), i 121
  (.mv (r 8)), i 122 (.bin (.sub) (r 120) (r 121)), i 123 (.bin (.sub) (r 122) (.const (.int (.i64) 1))), i 6 (.mv (r 123)), i 7 (.mv (.const (.int (.i64) 0)))]
/-- (*diorama/graph.Graph).Insert -/
def A_graph_Graph_Insert : AFunc :=
 ⟨124, [.tmp 6, .tmp 7], (.seq (.ops A_graph_Graph_Insert_0) (.seq (.seq (.ops A_graph_Graph_Insert_1) (.cond (r 24) (.seq (.ops A_graph_Graph_Insert_2) .ret) .skip)) (.seq
  (.ops A_graph_Graph_Insert_3) (.seq (.block 0 (.seq (.ops A_graph_Graph_Insert_4) (.cond (r 31) (.seq (.ops A_graph_Graph_Insert_5) .ret) (.seq (.ops
  A_graph_Graph_Insert_6) (.cond (r 45) (.seq (.ops A_graph_Graph_Insert_7) .ret) (.seq (.ops A_graph_Graph_Insert_8) (.cond (r 47) (.seq (.ops A_graph_Graph_Insert_9)
  .ret) .skip))))))) (.seq (.seq (.ops A_graph_Graph_Insert_10) (.block 1 (.loop A_graph_Graph_Insert_16))) (.seq (.ops A_graph_Graph_Insert_17) (.seq (.seq (.ops
  A_graph_Graph_Insert_18) (.block 3 (.loop A_graph_Graph_Insert_22))) (.seq (.ops A_graph_Graph_Insert_23) .ret))))))))⟩
/-! diorama/dioramalaw07.Own -/
def A_law07_Own_0 : Row := [i 1 (.box (r 0)), i 2 (.alloc [.int (.i64) 0, .int (.i64) 0, .int (.i64) 0, .int (.i64) 0, .int (.i64) 0, .str [], .slice none 0 (.exact 0), .int
  (.i64) 0, .int (.i64) 0, .int (.i64) 0, .str [], .bool false])]
def A_law07_Own_1 : Row := [i 3 (.fieldAddr 0 (r 1)), i 4 (.load none (r 3)), i 5 (.fieldAddr 1 (r 1)), i 6 (.load (some 2) (r 5)), i 7 (.fieldAddr 3 (r 1)), i 8 (.load (some
  2) (r 7)), i 9 (.fieldAddr 5 (r 1)), i 10 (.load none (r 9)), i 11 (.buildSlice 0 [] []), i 12 (.fieldAddr 6 (r 1)), i 13 (.load none (r 12)), i 15 (.fieldAddr 7 (r 1)),
  i 16 (.load none (r 15)), i 17 (.fieldAddr 8 (r 1)), i 18 (.load (some 3) (r 17)), i 19 (.fieldAddr 11 (r 1)), i 20 (.load none (r 19)), ⟨a 14 (.append 2 16 (r 11) (r
  13)), [a 20 (.load none (r 19)), a 18 (.load (some 3) (r 17)), a 16 (.load none (r 15)), a 10 (.load none (r 9)), a 8 (.load (some 2) (r 7)), a 6 (.load (some 2) (r 5)),
  a 4 (.load none (r 3))]⟩, i 21 (.build [.int (.i64) 0, .int (.i64) 0, .int (.i64) 0, .int (.i64) 0, .int (.i64) 0, .str [], .slice none 0 (.exact 0), .int (.i64) 0, .int
  (.i64) 0, .int (.i64) 0, .str [], .bool false] [(0, 1, .tmp 4), (1, 2, .tmp 6), (3, 2, .tmp 8), (5, 1, .tmp 10), (6, 1, .tmp 14), (7, 1, .tmp 16), (8, 3, .tmp 18), (11,
  1, .tmp 20)]), i0 (.store 12 (r 2) (r 21))]
/-- diorama/dioramalaw07.Own -/
def A_law07_Own : AFunc :=
 ⟨22, [.cell 2 (some 12)], (.seq (.ops A_law07_Own_0) (.seq (.ops A_law07_Own_1) .ret))⟩
/-! (*diorama/graph.Graph).Same -/
def A_graph_Graph_Same_0 : Row := [i 4 (.mv (.const (.bool false)))]
def A_graph_Graph_Same_1 : Row := [i 5 (.mv (r 0)), i 6 (.call (.func F_graph_Graph_none) [.tmp 5]), i 7 (.un (.not) (r 6)), i 8 (.mv (r 7)), g 9 (.mv (r 1)) 8 true, g 10
  (.call (.func F_graph_Graph_none) [.tmp 9]) 8 true, g 11 (.un (.not) (r 10)) 8 true, i 12 (.pick (r 8) (r 11) (.const (.bool false))), i 13 (.mv (r 12)), g 14 (.mv (r
  0)) 13 true, g 15 (.nilCheck (r 14)) 13 true, g 16 (.fieldAddr 1 (r 15)) 13 true, g 17 (.load none (r 16)) 13 true, g 18 (.mv (r 1)) 13 true, g 19 (.nilCheck (r 18)) 13
  true, g 20 (.fieldAddr 1 (r 19)) 13 true, g 21 (.load none (r 20)) 13 true, g 22 (.call (.func F_tree_Tree_Same) [.tmp 17, .tmp 21]) 13 true, i 23 (.pick (r 13) (r 22)
  (.const (.bool false))), i 24 (.mv (r 23)), g 25 (.mv (r 0)) 24 true, g 26 (.nilCheck (r 25)) 24 true, g 27 (.fieldAddr 2 (r 26)) 24 true, g 28 (.load none (r 27)) 24
  true, g 29 (.mv (r 1)) 24 true, g 30 (.nilCheck (r 29)) 24 true, g 31 (.fieldAddr 2 (r 30)) 24 true, g 32 (.load none (r 31)) 24 true, g 33 (.call (.func
  F_maps_Equal_Stamp) [.tmp 28, .tmp 32]) 24 true, i 34 (.pick (r 24) (r 33) (.const (.bool false))), i 4 (.mv (r 34))]
/-- (*diorama/graph.Graph).Same -/
def A_graph_Graph_Same : AFunc :=
 ⟨35, [.tmp 4], (.seq (.ops A_graph_Graph_Same_0) (.seq (.ops A_graph_Graph_Same_1) .ret))⟩
/-! (*diorama/graph.Graph).Count -/
def A_graph_Graph_Count_0 : Row := [i 2 (.mv (.const (.int (.i64) 0)))]
def A_graph_Graph_Count_1 : Row := [i 3 (.mv (r 0)), i 4 (.call (.func F_graph_Graph_none) [.tmp 3])]
def A_graph_Graph_Count_2 : Row := [i 2 (.mv (.const (.int (.i64) 0)))]
def A_graph_Graph_Count_3 : Row := [i 5 (.mv (r 0)), i 6 (.nilCheck (r 5)), i 7 (.fieldAddr 0 (r 6)), i 8 (.load none (r 7)), i 9 (.lenSlice (r 8)), i 2 (.mv (r 9))]
/-- (*diorama/graph.Graph).Count -/
def A_graph_Graph_Count : AFunc :=
 ⟨10, [.tmp 2], (.seq (.ops A_graph_Graph_Count_0) (.seq (.seq (.ops A_graph_Graph_Count_1) (.cond (r 4) (.seq (.ops A_graph_Graph_Count_2) .ret) .skip)) (.seq (.ops
  A_graph_Graph_Count_3) .ret)))⟩
/-! (*diorama/graph.Graph).Done -/
def A_graph_Graph_Done_0 : Row := [i 3 (.box (r 1)), i 4 (.mv (.const (.bool false)))]
def A_graph_Graph_Done_1 : Row := [i 7 (.mv (r 0)), i 8 (.call (.func F_graph_Graph_none) [.tmp 7])]
def A_graph_Graph_Done_2 : Row := [i 4 (.mv (.const (.bool false)))]
def A_graph_Graph_Done_3 : Row := [i 10 (.mv (r 0)), i 11 (.load (some 2) (r 3)), i 12 (.call (.func F_graph_Graph_place) [.tmp 10, .tmp 11]), i 9 (.mv (r 12)), i 13 (.extract
  (r 9) 0), i 14 (.extract (r 9) 1), i 5 (.mv (r 13)), i 6 (.mv (r 14))]
def A_graph_Graph_Done_4 : Row := [i 15 (.mv (r 6)), i 16 (.mv (r 15)), g 17 (.mv (r 0)) 16 true, g 18 (.nilCheck (r 17)) 16 true, g 19 (.fieldAddr 0 (r 18)) 16 true, g 20
  (.load none (r 19)) 16 true, g 21 (.mv (r 5)) 16 true, g 22 (.indexAddr 16 (r 20) (r 21)) 16 true, g 23 (.fieldAddr 14 (r 22)) 16 true, g 24 (.load none (r 23)) 16 true,
  i 25 (.pick (r 16) (r 24) (.const (.bool false))), i 4 (.mv (r 25))]
/-- (*diorama/graph.Graph).Done -/
def A_graph_Graph_Done : AFunc :=
 ⟨26, [.tmp 4], (.seq (.ops A_graph_Graph_Done_0) (.seq (.seq (.ops A_graph_Graph_Done_1) (.cond (r 8) (.seq (.ops A_graph_Graph_Done_2) .ret) .skip)) (.seq (.ops
  A_graph_Graph_Done_3) (.seq (.ops A_graph_Graph_Done_4) .ret))))⟩
/-! (*diorama/graph.Graph).Clone -/
def A_graph_Graph_Clone_0 : Row := [i 2 (.mv (.const (.ptr none)))]
def A_graph_Graph_Clone_1 : Row := [i 3 (.mv (r 0)), i 4 (.call (.func F_graph_Graph_none) [.tmp 3])]
def A_graph_Graph_Clone_2 : Row := [i 2 (.mv (.const (.ptr none)))]
def A_graph_Graph_Clone_3 : Row := [i 5 (.mv (r 0)), i 6 (.nilCheck (r 5)), i 7 (.fieldAddr 0 (r 6)), i 8 (.load none (r 7)), i 10 (.mv (r 0)), i 11 (.nilCheck (r 10)), i 12
  (.fieldAddr 1 (r 11)), i 13 (.load none (r 12)), i 15 (.mv (r 0)), i 16 (.nilCheck (r 15)), i 17 (.fieldAddr 2 (r 16)), i 18 (.load none (r 17)), ⟨a 9 (.call (.func
  F_slices_Clone_entry) [.tmp 8]), [a 18 (.load none (r 17)), a 13 (.load none (r 12))]⟩, ⟨a 14 (.call (.func F_tree_Tree_Clone) [.tmp 13]), [a 18 (.load none (r 17))]⟩, i
  19 (.call (.func F_maps_Clone_Stamp) [.tmp 18]), i 20 (.build [.slice none 0 (.exact 0), .ptr none, .map none] [(0, 1, .tmp 9), (1, 1, .tmp 14), (2, 1, .tmp 19)]), i 21
  (.box (r 20)), i 2 (.mv (r 21))]
/-- (*diorama/graph.Graph).Clone -/
def A_graph_Graph_Clone : AFunc :=
 ⟨22, [.tmp 2], (.seq (.ops A_graph_Graph_Clone_0) (.seq (.seq (.ops A_graph_Graph_Clone_1) (.cond (r 4) (.seq (.ops A_graph_Graph_Clone_2) .ret) .skip)) (.seq (.ops
  A_graph_Graph_Clone_3) .ret)))⟩
/-! diorama/dioramalaw13.num -/
def A_law13_num_0 : Row := [i 2 (.mv (.const (.int (.i64) 0)))]
def A_law13_num_1 : Row := [i 3 (.mv (r 0)), i 2 (.mv (r 3))]
/-- diorama/dioramalaw13.num -/
def A_law13_num : AFunc :=
 ⟨4, [.tmp 2], (.seq (.ops A_law13_num_0) (.seq (.ops A_law13_num_1) .ret))⟩
/-! (*diorama/graph.Graph).Spot -/
def A_graph_Graph_Spot_0 : Row := [i 3 (.box (r 1)), i 4 (.alloc [.int (.i64) 0, .int (.i64) 0, .str []]), i 5 (.mv (.const (.bool false)))]
def A_graph_Graph_Spot_1 : Row := [i 6 (.mv (r 0)), i 7 (.call (.func F_graph_Graph_none) [.tmp 6])]
def A_graph_Graph_Spot_2 : Row := [i 8 (.build [.int (.i64) 0, .int (.i64) 0, .str []] []), i0 (.store 3 (r 4) (r 8)), i 5 (.mv (.const (.bool false)))]
def A_graph_Graph_Spot_3 : Row := [i 9 (.mv (r 0)), i 10 (.nilCheck (r 9)), i 11 (.fieldAddr 1 (r 10)), i 12 (.load none (r 11)), i 13 (.load (some 2) (r 3)), i 14 (.call
  (.func F_tree_Tree_Spot) [.tmp 12, .tmp 13]), i 15 (.extract (r 14) 0), i 16 (.extract (r 14) 1), i0 (.store 3 (r 4) (r 15)), i 5 (.mv (r 16))]
/-- (*diorama/graph.Graph).Spot -/
def A_graph_Graph_Spot : AFunc :=
 ⟨17, [.cell 4 (some 3), .tmp 5], (.seq (.ops A_graph_Graph_Spot_0) (.seq (.seq (.ops A_graph_Graph_Spot_1) (.cond (r 7) (.seq (.ops A_graph_Graph_Spot_2) .ret) .skip))
  (.seq (.ops A_graph_Graph_Spot_3) .ret)))⟩
/-! (*diorama/graph.Graph).Has -/
def A_graph_Graph_Has_0 : Row := [i 3 (.box (r 1)), i 4 (.mv (.const (.bool false)))]
def A_graph_Graph_Has_1 : Row := [i 5 (.mv (r 0)), i 6 (.call (.func F_graph_Graph_none) [.tmp 5]), i 7 (.un (.not) (r 6)), i 8 (.mv (r 7)), g 9 (.mv (r 0)) 8 true, g 10
  (.nilCheck (r 9)) 8 true, g 11 (.fieldAddr 1 (r 10)) 8 true, g 12 (.load none (r 11)) 8 true, g 13 (.load (some 2) (r 3)) 8 true, g 14 (.call (.func F_tree_Tree_Has)
  [.tmp 12, .tmp 13]) 8 true, i 15 (.pick (r 8) (r 14) (.const (.bool false))), i 4 (.mv (r 15))]
/-- (*diorama/graph.Graph).Has -/
def A_graph_Graph_Has : AFunc :=
 ⟨16, [.tmp 4], (.seq (.ops A_graph_Graph_Has_0) (.seq (.ops A_graph_Graph_Has_1) .ret))⟩
/-! (*diorama/graph.Graph).Ref -/
def A_graph_Graph_Ref_0 : Row := [i 3 (.box (r 1)), i 4 (.alloc [.int (.i64) 0, .int (.i64) 0]), i 5 (.mv (.const (.bool false)))]
def A_graph_Graph_Ref_1 : Row := [i 8 (.mv (r 0)), i 9 (.call (.func F_graph_Graph_none) [.tmp 8])]
def A_graph_Graph_Ref_2 : Row := [i 10 (.build [.int (.i64) 0, .int (.i64) 0] []), i0 (.store 2 (r 4) (r 10)), i 5 (.mv (.const (.bool false)))]
def A_graph_Graph_Ref_3 : Row := [i 12 (.mv (r 0)), i 13 (.nilCheck (r 12)), i 14 (.fieldAddr 2 (r 13)), i 15 (.load none (r 14)), i 16 (.load (some 2) (r 3)), i 17 (.lookup
  ⟨true, [.int (.i64), .int (.i64)]⟩ (.agg [.int (.i64) 0, .int (.i64) 0]) true (r 15) (r 16)), i 11 (.mv (r 17)), i 18 (.extract (r 11) 0), i 19 (.extract (r 11) 1), i 6
  (.alloc [.int (.i64) 0, .int (.i64) 0]), i0 (.store 2 (r 6) (r 18)), i 7 (.mv (r 19))]
def A_graph_Graph_Ref_4 : Row := [i 20 (.load (some 2) (r 6)), i 21 (.mv (r 7)), i0 (.store 2 (r 4) (r 20)), i 5 (.mv (r 21))]
/-- (*diorama/graph.Graph).Ref -/
def A_graph_Graph_Ref : AFunc :=
 ⟨22, [.cell 4 (some 2), .tmp 5], (.seq (.ops A_graph_Graph_Ref_0) (.seq (.seq (.ops A_graph_Graph_Ref_1) (.cond (r 9) (.seq (.ops A_graph_Graph_Ref_2) .ret) .skip)) (.seq
  (.ops A_graph_Graph_Ref_3) (.seq (.ops A_graph_Graph_Ref_4) .ret))))⟩
/-! (*diorama/tree.Tree).none -/
def A_tree_Tree_none_0 : Row := [i 2 (.mv (.const (.bool false)))]
def A_tree_Tree_none_1 : Row := [i 3 (.mv (r 0)), i 4 (.eqNil false (.ptr) (r 3) (.const (.ptr none))), i 5 (.mv (r 4)), g 6 (.mv (r 0)) 5 false, g 7 (.nilCheck (r 6)) 5
  false, g 8 (.fieldAddr 0 (r 7)) 5 false, g 9 (.load none (r 8)) 5 false, g 10 (.eqNil false (.map) (r 9) (.const (.map none))) 5 false, i 11 (.pick (r 5) (.const (.bool
  true)) (r 10)), i 2 (.mv (r 11))]
/-- (*diorama/tree.Tree).none -/
def A_tree_Tree_none : AFunc :=
 ⟨12, [.tmp 2], (.seq (.ops A_tree_Tree_none_0) (.seq (.ops A_tree_Tree_none_1) .ret))⟩
/-! maps.Keys[map[diorama/api.Stamp]diorama/tree.Spot,diorama/api.Stamp,diorama/tree.Spot] -/
def A_maps_Keys_Stamp_Spot_0 : Row := [i 1 (.box (r 0)), i 2 (.mv (.const (.nilFn)))]
def A_maps_Keys_Stamp_Spot_1 : Row := [i 3 (.makeFunc F_maps_Keys_Stamp_Spot_c1 [] [.tmp 1]), i 2 (.mv (r 3))]
/-- maps.Keys[map[diorama/api.Stamp]diorama/tree.Spot,diorama/api.Stamp,diorama/tree.Spot] -/
def A_maps_Keys_Stamp_Spot : AFunc :=
 ⟨4, [.tmp 2], (.seq (.ops A_maps_Keys_Stamp_Spot_0) (.seq (.ops A_maps_Keys_Stamp_Spot_1) .ret))⟩
/-! diorama/stamp.Compare -/
def A_stamp_Compare_0 : Row := [i 2 (.box (r 0)), i 3 (.box (r 1)), i 4 (.mv (.const (.int (.i64) 0)))]
def A_stamp_Compare_1 : Row := [i 6 (.load (some 2) (r 2)), i 7 (.load (some 2) (r 3)), i 8 (.eq false ⟨true, [.int (.i64), .int (.i64)]⟩ (r 6) (r 7)), i 5 (.mv (r 8))]
def A_stamp_Compare_2 : Row := [i 4 (.mv (.const (.int (.i64) 0)))]
def A_stamp_Compare_3 : Row := [i 10 (.fieldAddr 0 (r 2)), i 11 (.load none (r 10)), i 12 (.fieldAddr 0 (r 3)), i 13 (.load none (r 12)), i 14 (.bin (.lss) (r 11) (r 13)), i
  15 (.mv (r 14)), g 16 (.fieldAddr 0 (r 2)) 15 false, g 17 (.load none (r 16)) 15 false, g 18 (.fieldAddr 0 (r 3)) 15 false, g 19 (.load none (r 18)) 15 false, g 20 (.bin
  (.eql) (r 17) (r 19)) 15 false, g 21 (.mv (r 20)) 15 false, g 22 (.fieldAddr 1 (r 2)) 21 true, g 23 (.load none (r 22)) 21 true, g 24 (.fieldAddr 1 (r 3)) 21 true, g 25
  (.load none (r 24)) 21 true, g 26 (.bin (.lss) (r 23) (r 25)) 21 true, g 27 (.pick (r 21) (r 26) (.const (.bool false))) 15 false, i 28 (.pick (r 15) (.const (.bool
  true)) (r 27)), i 9 (.mv (r 28))]
def A_stamp_Compare_4 : Row := [i 4 (.mv (.const (.int (.i64) (-1))))]
def A_stamp_Compare_5 : Row := [i 4 (.mv (.const (.int (.i64) 1)))]
/-- diorama/stamp.Compare -/
def A_stamp_Compare : AFunc :=
 ⟨29, [.tmp 4], (.seq (.ops A_stamp_Compare_0) (.seq (.block 0 (.seq (.ops A_stamp_Compare_1) (.cond (r 5) (.seq (.ops A_stamp_Compare_2) .ret) (.seq (.ops
  A_stamp_Compare_3) (.cond (r 9) (.seq (.ops A_stamp_Compare_4) .ret) .skip))))) (.seq (.ops A_stamp_Compare_5) .ret)))⟩
/-! (*diorama/tree.Tree).up -/
def A_tree_Tree_up_0 : Row := [i 2 (.box (r 0)), i 3 (.box (r 1)), i 4 (.mv (.const (.nilFn)))]
def A_tree_Tree_up_1 : Row := [i 5 (.makeFunc F_tree_Tree_up_c1 [] [.tmp 2, .tmp 3]), i 4 (.mv (r 5))]
/-- (*diorama/tree.Tree).up -/
def A_tree_Tree_up : AFunc :=
 ⟨6, [.tmp 4], (.seq (.ops A_tree_Tree_up_0) (.seq (.ops A_tree_Tree_up_1) .ret))⟩
/-! (*diorama/tree.Tree).node -/
def A_tree_Tree_node_0 : Row := [i 3 (.box (r 1)), i 4 (.mv (.const (.bool false)))]
def A_tree_Tree_node_1 : Row := [i 8 (.mv (r 0)), i 9 (.nilCheck (r 8)), i 10 (.fieldAddr 0 (r 9)), i 11 (.load none (r 10)), i 12 (.load (some 2) (r 3)), i 13 (.lookup ⟨true,
  [.int (.i64), .int (.i64)]⟩ (.agg [.int (.i64) 0, .int (.i64) 0, .str []]) true (r 11) (r 12)), i 7 (.mv (r 13)), i 14 (.extract (r 7) 0), i 15 (.extract (r 7) 1), i 5
  (.alloc [.int (.i64) 0, .int (.i64) 0, .str []]), i0 (.store 3 (r 5) (r 14)), i 6 (.mv (r 15))]
def A_tree_Tree_node_2 : Row := [i 16 (.mv (r 6)), i 4 (.mv (r 16))]
/-- (*diorama/tree.Tree).node -/
def A_tree_Tree_node : AFunc :=
 ⟨17, [.tmp 4], (.seq (.ops A_tree_Tree_node_0) (.seq (.ops A_tree_Tree_node_1) (.seq (.ops A_tree_Tree_node_2) .ret)))⟩
/-! diorama/op.Node -/
def A_op_Node_0 : Row := [i 1 (.box (r 0)), i 2 (.mv (.const (.bool false)))]
def A_op_Node_1 : Row := [i 3 (.load (some 2) (r 1)), i 4 (.call (.func F_stamp_Right) [.tmp 3]), i 5 (.mv (r 4)), g 6 (.fieldAddr 0 (r 1)) 5 true, g 7 (.load none (r 6)) 5
  true, g 8 (.bin (.gtr) (r 7) (.const (.int (.i64) 0))) 5 true, i 9 (.pick (r 5) (r 8) (.const (.bool false))), i 2 (.mv (r 9))]
/-- diorama/op.Node -/
def A_op_Node : AFunc :=
 ⟨10, [.tmp 2], (.seq (.ops A_op_Node_0) (.seq (.ops A_op_Node_1) .ret))⟩
/-! (diorama/tree.Spot).right -/
def A_tree_Spot_right_0 : Row := [i 1 (.box (r 0)), i 2 (.mv (.const (.bool false)))]
def A_tree_Spot_right_1 : Row := [i 3 (.fieldAddr 0 (r 1)), i 4 (.load (some 2) (r 3)), i 5 (.call (.func F_op_Place) [.tmp 4]), i 6 (.mv (r 5)), g 7 (.fieldAddr 2 (r 1)) 6
  true, g 8 (.load none (r 7)) 6 true, g 9 (.call (.func F_poskey_Right) [.tmp 8]) 6 true, i 10 (.pick (r 6) (r 9) (.const (.bool false))), i 2 (.mv (r 10))]
/-- (diorama/tree.Spot).right -/
def A_tree_Spot_right : AFunc :=
 ⟨11, [.tmp 2], (.seq (.ops A_tree_Spot_right_0) (.seq (.ops A_tree_Spot_right_1) .ret))⟩
/-! (*diorama/dioramaref10.Tree).Add -/
def A_ref10_Tree_Add_0 : Row := [i 4 (.box (r 1)), i 5 (.box (r 2)), i 6 (.mv (.const (.int (.i64) 0)))]
def A_ref10_Tree_Add_1 : Row := [i 10 (.mv (r 0)), i 11 (.load (some 2) (r 4)), i 12 (.call (.func F_ref10_Tree_find) [.tmp 10, .tmp 11]), i 9 (.mv (r 12)), i 13 (.extract (r
  9) 0), i 14 (.extract (r 9) 1), i 7 (.mv (r 13)), i 8 (.mv (r 14))]
def A_ref10_Tree_Add_2 : Row := [i 16 (.load (some 2) (r 4)), i 17 (.call (.func F_ref07_Node) [.tmp 16]), i 18 (.un (.not) (r 17)), i 19 (.mv (r 18)), g 20 (.load (some 3) (r
  5)) 19 false, g 21 (.call (.func F_ref10_Right) [.tmp 20]) 19 false, g 22 (.un (.not) (r 21)) 19 false, i 23 (.pick (r 19) (.const (.bool true)) (r 22)), i 15 (.mv (r
  23))]
def A_ref10_Tree_Add_3 : Row := [i 6 (.mv (.const (.int (.i64) 1)))]
def A_ref10_Tree_Add_4 : Row := [i 25 (.mv (r 8)), i 24 (.mv (r 25))]
def A_ref10_Tree_Add_5 : Row := [i 6 (.mv (.const (.int (.i64) 4)))]
def A_ref10_Tree_Add_6 : Row := [i 27 (.mv (r 0)), i 28 (.fieldAddr 0 (r 5)), i 29 (.load (some 2) (r 28)), i 30 (.call (.func F_ref10_Tree_Has) [.tmp 27, .tmp 29]), i 31 (.un
  (.not) (r 30)), i 26 (.mv (r 31))]
def A_ref10_Tree_Add_7 : Row := [i 6 (.mv (.const (.int (.i64) 3)))]
def A_ref10_Tree_Add_8 : Row := [i 33 (.mv (r 0)), i 34 (.nilCheck (r 33)), i 35 (.fieldAddr 0 (r 34)), i 36 (.load none (r 35)), i 37 (.lenSlice (r 36)), i 38 (.bin (.geq) (r
  37) (.const (.int (.i64) 65536))), i 32 (.mv (r 38))]
def A_ref10_Tree_Add_9 : Row := [i 6 (.mv (.const (.int (.i64) 7)))]
def A_ref10_Tree_Add_10 : Row := [i 39 (.mv (r 0)), i 40 (.buildSlice 0 [] []), i 41 (.mv (r 0)), i 42 (.nilCheck (r 41)), i 43 (.fieldAddr 0 (r 42)), i 44 (.load none (r
  43)), i 45 (.mv (r 7)), i 46 (.slice 5 (r 44) none (some (r 45)) none), i 48 (.load (some 2) (r 4)), i 49 (.load (some 3) (r 5)), i 50 (.build [.int (.i64) 0, .int
  (.i64) 0, .int (.i64) 0, .int (.i64) 0, .str []] [(0, 2, .tmp 48), (2, 3, .tmp 49)]), i 51 (.buildSlice 1 [.int (.i64) 0, .int (.i64) 0, .int (.i64) 0, .int (.i64) 0,
  .str []] [(0, 5, .tmp 50)]), i 53 (.mv (r 0)), i 54 (.nilCheck (r 53)), i 55 (.fieldAddr 0 (r 54)), i 56 (.load none (r 55)), i 57 (.mv (r 7)), i 58 (.slice 5 (r 56)
  (some (r 57)) none none), ⟨a 47 (.append 5 48 (r 40) (r 46)), [a 56 (.load none (r 55)), a 51 (.buildSlice 1 [.int (.i64) 0, .int (.i64) 0, .int (.i64) 0, .int (.i64) 0,
  .str []] [(0, 5, .tmp 50)]), a 49 (.load (some 3) (r 5)), a 48 (.load (some 2) (r 4))]⟩, ⟨a 52 (.append 5 48 (r 47) (r 51)), [a 56 (.load none (r 55))]⟩, i 59 (.append 5
  48 (r 52) (r 58)), i 60 (.nilCheck (r 39)), i 61 (.fieldAddr 0 (r 60)), i0 (.store 1 (r 61) (r 59))]
def A_ref10_Tree_Add_11 : Row := [i 6 (.mv (.const (.int (.i64) 0)))]
/-- (*diorama/dioramaref10.Tree).Add -/
def A_ref10_Tree_Add : AFunc :=
 ⟨62, [.tmp 6], (.seq (.ops A_ref10_Tree_Add_0) (.seq (.ops A_ref10_Tree_Add_1) (.seq (.block 0 (.seq (.ops A_ref10_Tree_Add_2) (.cond (r 15) (.seq (.ops
  A_ref10_Tree_Add_3) .ret) (.seq (.ops A_ref10_Tree_Add_4) (.cond (r 24) (.seq (.ops A_ref10_Tree_Add_5) .ret) (.seq (.ops A_ref10_Tree_Add_6) (.cond (r 26) (.seq (.ops
  A_ref10_Tree_Add_7) .ret) (.seq (.ops A_ref10_Tree_Add_8) (.cond (r 32) (.seq (.ops A_ref10_Tree_Add_9) .ret) .skip))))))))) (.seq (.ops A_ref10_Tree_Add_10) (.seq (.ops
  A_ref10_Tree_Add_11) .ret)))))⟩
/-! (*diorama/dioramaref10.Tree).Move -/
def A_ref10_Tree_Move_0 : Row := [i 4 (.box (r 1)), i 5 (.box (r 2)), i 6 (.alloc [.int (.i64) 0, .int (.i64) 0, .str []]), i 7 (.mv (.const (.int (.i64) 0)))]
def A_ref10_Tree_Move_1 : Row := [i 12 (.mv (r 0)), i 13 (.load (some 2) (r 4)), i 14 (.call (.func F_ref10_Tree_find) [.tmp 12, .tmp 13]), i 11 (.mv (r 14)), i 15 (.extract
  (r 11) 0), i 16 (.extract (r 11) 1), i 8 (.mv (r 15)), i 9 (.mv (r 16))]
def A_ref10_Tree_Move_2 : Row := [i 18 (.load (some 2) (r 4)), i 19 (.call (.func F_ref07_Node) [.tmp 18]), i 20 (.un (.not) (r 19)), i 21 (.mv (r 20)), g 22 (.load (some 3)
  (r 5)) 21 false, g 23 (.call (.func F_ref10_Right) [.tmp 22]) 21 false, g 24 (.un (.not) (r 23)) 21 false, i 25 (.pick (r 21) (.const (.bool true)) (r 24)), i 17 (.mv (r
  25))]
def A_ref10_Tree_Move_3 : Row := [i 26 (.build [.int (.i64) 0, .int (.i64) 0, .str []] []), i0 (.store 3 (r 6) (r 26)), i 7 (.mv (.const (.int (.i64) 1)))]
def A_ref10_Tree_Move_4 : Row := [i 28 (.mv (r 9)), i 29 (.un (.not) (r 28)), i 30 (.mv (r 29)), g 31 (.mv (r 0)) 30 false, g 32 (.fieldAddr 0 (r 5)) 30 false, g 33 (.load
  (some 2) (r 32)) 30 false, g 34 (.call (.func F_ref10_Tree_Has) [.tmp 31, .tmp 33]) 30 false, g 35 (.un (.not) (r 34)) 30 false, i 36 (.pick (r 30) (.const (.bool true))
  (r 35)), i 27 (.mv (r 36))]
def A_ref10_Tree_Move_5 : Row := [i 37 (.build [.int (.i64) 0, .int (.i64) 0, .str []] []), i0 (.store 3 (r 6) (r 37)), i 7 (.mv (.const (.int (.i64) 3)))]
def A_ref10_Tree_Move_6 : Row := [i 39 (.mv (r 0)), i 40 (.load (some 2) (r 4)), i 41 (.fieldAddr 0 (r 5)), i 42 (.load (some 2) (r 41)), i 43 (.call (.func
  F_ref10_Tree_Within) [.tmp 39, .tmp 40, .tmp 42]), i 38 (.mv (r 43))]
def A_ref10_Tree_Move_7 : Row := [i 44 (.build [.int (.i64) 0, .int (.i64) 0, .str []] []), i0 (.store 3 (r 6) (r 44)), i 7 (.mv (.const (.int (.i64) 41)))]
def A_ref10_Tree_Move_8 : Row := [i 45 (.mv (r 0)), i 46 (.nilCheck (r 45)), i 47 (.fieldAddr 0 (r 46)), i 48 (.load none (r 47)), i 49 (.mv (r 8)), i 50 (.indexAddr 5 (r 48)
  (r 49)), i 51 (.fieldAddr 2 (r 50)), i 52 (.load (some 3) (r 51)), i 10 (.alloc [.int (.i64) 0, .int (.i64) 0, .str []]), i0 (.store 3 (r 10) (r 52))]
def A_ref10_Tree_Move_9 : Row := [i 53 (.mv (r 0)), i 54 (.nilCheck (r 53)), i 55 (.fieldAddr 0 (r 54)), i 56 (.load none (r 55)), i 57 (.mv (r 8)), i 58 (.load (some 3) (r
  5)), i 59 (.indexAddr 5 (r 56) (r 57)), i 60 (.fieldAddr 2 (r 59)), i0 (.store 3 (r 60) (r 58))]
def A_ref10_Tree_Move_10 : Row := [i 61 (.load (some 3) (r 10)), i0 (.store 3 (r 6) (r 61)), i 7 (.mv (.const (.int (.i64) 0)))]
/-- (*diorama/dioramaref10.Tree).Move -/
def A_ref10_Tree_Move : AFunc :=
 ⟨62, [.cell 6 (some 3), .tmp 7], (.seq (.ops A_ref10_Tree_Move_0) (.seq (.ops A_ref10_Tree_Move_1) (.seq (.block 0 (.seq (.ops A_ref10_Tree_Move_2) (.cond (r 17) (.seq
  (.ops A_ref10_Tree_Move_3) .ret) (.seq (.ops A_ref10_Tree_Move_4) (.cond (r 27) (.seq (.ops A_ref10_Tree_Move_5) .ret) (.seq (.ops A_ref10_Tree_Move_6) (.cond (r 38)
  (.seq (.ops A_ref10_Tree_Move_7) .ret) .skip))))))) (.seq (.ops A_ref10_Tree_Move_8) (.seq (.ops A_ref10_Tree_Move_9) (.seq (.ops A_ref10_Tree_Move_10) .ret))))))⟩
/-! (*diorama/dioramaref10.Tree).Drop -/
def A_ref10_Tree_Drop_0 : Row := [i 3 (.box (r 1)), i 4 (.alloc [.int (.i64) 0, .int (.i64) 0, .str []]), i 5 (.mv (.const (.int (.i64) 0)))]
def A_ref10_Tree_Drop_1 : Row := [i 10 (.mv (r 0)), i 11 (.load (some 2) (r 3)), i 12 (.call (.func F_ref10_Tree_find) [.tmp 10, .tmp 11]), i 9 (.mv (r 12)), i 13 (.extract (r
  9) 0), i 14 (.extract (r 9) 1), i 6 (.mv (r 13)), i 7 (.mv (r 14))]
def A_ref10_Tree_Drop_2 : Row := [i 15 (.mv (r 7)), i 16 (.un (.not) (r 15))]
def A_ref10_Tree_Drop_3 : Row := [i 17 (.build [.int (.i64) 0, .int (.i64) 0, .str []] []), i0 (.store 3 (r 4) (r 17)), i 5 (.mv (.const (.int (.i64) 3)))]
def A_ref10_Tree_Drop_4 : Row := [i 18 (.mv (r 0)), i 19 (.load (some 2) (r 3)), i 20 (.call (.func F_ref10_Tree_Below) [.tmp 18, .tmp 19]), i 21 (.lenSlice (r 20)), i 22
  (.bin (.gtr) (r 21) (.const (.int (.i64) 0)))]
def A_ref10_Tree_Drop_5 : Row := [i 23 (.build [.int (.i64) 0, .int (.i64) 0, .str []] []), i0 (.store 3 (r 4) (r 23)), i 5 (.mv (.const (.int (.i64) 4)))]
def A_ref10_Tree_Drop_6 : Row := [i 24 (.mv (r 0)), i 25 (.nilCheck (r 24)), i 26 (.fieldAddr 0 (r 25)), i 27 (.load none (r 26)), i 28 (.mv (r 6)), i 29 (.indexAddr 5 (r 27)
  (r 28)), i 30 (.fieldAddr 2 (r 29)), i 31 (.load (some 3) (r 30)), i 8 (.alloc [.int (.i64) 0, .int (.i64) 0, .str []]), i0 (.store 3 (r 8) (r 31))]
def A_ref10_Tree_Drop_7 : Row := [i 32 (.mv (r 0)), i 33 (.buildSlice 0 [] []), i 34 (.mv (r 0)), i 35 (.nilCheck (r 34)), i 36 (.fieldAddr 0 (r 35)), i 37 (.load none (r
  36)), i 38 (.mv (r 6)), i 39 (.slice 5 (r 37) none (some (r 38)) none), i 41 (.mv (r 0)), i 42 (.nilCheck (r 41)), i 43 (.fieldAddr 0 (r 42)), i 44 (.load none (r 43)),
  i 45 (.mv (r 6)), i 46 (.bin (.add) (r 45) (.const (.int (.i64) 1))), i 47 (.slice 5 (r 44) (some (r 46)) none none), ⟨a 40 (.append 5 48 (r 33) (r 39)), [a 44 (.load
  none (r 43))]⟩, i 48 (.append 5 48 (r 40) (r 47)), i 49 (.nilCheck (r 32)), i 50 (.fieldAddr 0 (r 49)), i0 (.store 1 (r 50) (r 48))]
def A_ref10_Tree_Drop_8 : Row := [i 51 (.load (some 3) (r 8)), i0 (.store 3 (r 4) (r 51)), i 5 (.mv (.const (.int (.i64) 0)))]
/-- (*diorama/dioramaref10.Tree).Drop -/
def A_ref10_Tree_Drop : AFunc :=
 ⟨52, [.cell 4 (some 3), .tmp 5], (.seq (.ops A_ref10_Tree_Drop_0) (.seq (.ops A_ref10_Tree_Drop_1) (.seq (.seq (.ops A_ref10_Tree_Drop_2) (.cond (r 16) (.seq (.ops
  A_ref10_Tree_Drop_3) .ret) .skip)) (.seq (.seq (.ops A_ref10_Tree_Drop_4) (.cond (r 22) (.seq (.ops A_ref10_Tree_Drop_5) .ret) .skip)) (.seq (.ops A_ref10_Tree_Drop_6)
  (.seq (.ops A_ref10_Tree_Drop_7) (.seq (.ops A_ref10_Tree_Drop_8) .ret)))))))⟩
/-! (*diorama/dioramaref10.Tree).Spot -/
def A_ref10_Tree_Spot_0 : Row := [i 3 (.box (r 1)), i 4 (.alloc [.int (.i64) 0, .int (.i64) 0, .str []]), i 5 (.mv (.const (.bool false)))]
def A_ref10_Tree_Spot_1 : Row := [i 9 (.mv (r 0)), i 10 (.load (some 2) (r 3)), i 11 (.call (.func F_ref10_Tree_find) [.tmp 9, .tmp 10]), i 8 (.mv (r 11)), i 12 (.extract (r
  8) 0), i 13 (.extract (r 8) 1), i 6 (.mv (r 12)), i 7 (.mv (r 13))]
def A_ref10_Tree_Spot_2 : Row := [i 14 (.mv (r 7)), i 15 (.un (.not) (r 14))]
def A_ref10_Tree_Spot_3 : Row := [i 16 (.build [.int (.i64) 0, .int (.i64) 0, .str []] []), i0 (.store 3 (r 4) (r 16)), i 5 (.mv (.const (.bool false)))]
def A_ref10_Tree_Spot_4 : Row := [i 17 (.mv (r 0)), i 18 (.nilCheck (r 17)), i 19 (.fieldAddr 0 (r 18)), i 20 (.load none (r 19)), i 21 (.mv (r 6)), i 22 (.indexAddr 5 (r 20)
  (r 21)), i 23 (.fieldAddr 2 (r 22)), i 24 (.load (some 3) (r 23)), i0 (.store 3 (r 4) (r 24)), i 5 (.mv (.const (.bool true)))]
/-- (*diorama/dioramaref10.Tree).Spot -/
def A_ref10_Tree_Spot : AFunc :=
 ⟨25, [.cell 4 (some 3), .tmp 5], (.seq (.ops A_ref10_Tree_Spot_0) (.seq (.ops A_ref10_Tree_Spot_1) (.seq (.seq (.ops A_ref10_Tree_Spot_2) (.cond (r 15) (.seq (.ops
  A_ref10_Tree_Spot_3) .ret) .skip)) (.seq (.ops A_ref10_Tree_Spot_4) .ret))))⟩
/-! (*diorama/dioramaref10.Tree).Has -/
def A_ref10_Tree_Has_0 : Row := [i 3 (.box (r 1)), i 4 (.mv (.const (.bool false)))]
def A_ref10_Tree_Has_1 : Row := [i 8 (.mv (r 0)), i 9 (.load (some 2) (r 3)), i 10 (.call (.func F_ref10_Tree_find) [.tmp 8, .tmp 9]), i 7 (.mv (r 10)), i 11 (.extract (r 7)
  0), i 12 (.extract (r 7) 1), i 5 (.mv (r 11)), i 6 (.mv (r 12))]
def A_ref10_Tree_Has_2 : Row := [i 13 (.mv (r 6)), i 14 (.mv (r 13)), g 15 (.load (some 2) (r 3)) 14 false, ⟨⟨(some 16), .call (.func F_ref07_Root) [], (some (14, false))⟩,
  [⟨(some 15), .load (some 2) (r 3), (some (14, false))⟩]⟩, g 17 (.eq false ⟨true, [.int (.i64), .int (.i64)]⟩ (r 15) (r 16)) 14 false, i 18 (.pick (r 14) (.const (.bool
  true)) (r 17)), i 19 (.mv (r 18)), g 20 (.load (some 2) (r 3)) 19 false, ⟨⟨(some 21), .call (.func F_ref07_Trash) [], (some (19, false))⟩, [⟨(some 20), .load (some 2) (r
  3), (some (19, false))⟩]⟩, g 22 (.eq false ⟨true, [.int (.i64), .int (.i64)]⟩ (r 20) (r 21)) 19 false, i 23 (.pick (r 19) (.const (.bool true)) (r 22)), i 4 (.mv (r
  23))]
/-- (*diorama/dioramaref10.Tree).Has -/
def A_ref10_Tree_Has : AFunc :=
 ⟨24, [.tmp 4], (.seq (.ops A_ref10_Tree_Has_0) (.seq (.ops A_ref10_Tree_Has_1) (.seq (.ops A_ref10_Tree_Has_2) .ret)))⟩
/-! (*diorama/dioramaref10.Tree).Below -/
def A_ref10_Tree_Below_0 : Row := [i 3 (.box (r 1)), i 4 (.mv (.const (.slice none 0 (.exact 0))))]
def A_ref10_Tree_Below_1 : Row := [i 5 (.mv (.const (.slice none 0 (.exact 0))))]
def A_ref10_Tree_Below_2 : Row := [i 6 (.mv (.const (.int (.i64) 0)))]
def A_ref10_Tree_Below_3 : Row := [i 7 (.mv (r 6)), i 8 (.mv (r 0)), i 9 (.nilCheck (r 8)), i 10 (.fieldAddr 0 (r 9)), i 11 (.load none (r 10)), i 12 (.lenSlice (r 11)), i 13
  (.bin (.lss) (r 7) (r 12))]
def A_ref10_Tree_Below_4 : Row := [i 16 (.mv (r 0)), i 17 (.nilCheck (r 16)), i 18 (.fieldAddr 0 (r 17)), i 19 (.load none (r 18)), i 20 (.mv (r 6)), i 21 (.indexAddr 5 (r 19)
  (r 20)), i 22 (.fieldAddr 2 (r 21)), i 23 (.fieldAddr 0 (r 22)), i 24 (.load (some 2) (r 23)), i 25 (.load (some 2) (r 3)), i 26 (.eq false ⟨true, [.int (.i64), .int
  (.i64)]⟩ (r 24) (r 25))]
def A_ref10_Tree_Below_5 : Row := [i 27 (.mv (r 5)), i 28 (.mv (r 0)), i 29 (.nilCheck (r 28)), i 30 (.fieldAddr 0 (r 29)), i 31 (.load none (r 30)), i 32 (.mv (r 6)), i 33
  (.indexAddr 5 (r 31) (r 32)), i 34 (.fieldAddr 0 (r 33)), i 35 (.load (some 2) (r 34)), i 36 (.buildSlice 1 [.int (.i64) 0, .int (.i64) 0] [(0, 2, .tmp 35)]), i 37
  (.append 2 16 (r 27) (r 36)), i 5 (.mv (r 37))]
def A_ref10_Tree_Below_6 : Row := [i 14 (.mv (r 6)), i 15 (.bin (.add) (r 14) (.const (.int (.i64) 1))), i 6 (.mv (r 15))]
def A_ref10_Tree_Below_7 : ACode := (.seq (.seq (.ops A_ref10_Tree_Below_3) (.cond (r 13) .skip (.exit 0))) (.seq (.block 1 (.seq (.ops A_ref10_Tree_Below_4) (.cond (r 26)
  (.ops A_ref10_Tree_Below_5) .skip))) (.ops A_ref10_Tree_Below_6)))
def A_ref10_Tree_Below_8 : Row := [i 38 (.mv (r 5)), i 4 (.mv (r 38))]
/-- (*diorama/dioramaref10.Tree).Below -/
def A_ref10_Tree_Below : AFunc :=
 ⟨39, [.tmp 4], (.seq (.ops A_ref10_Tree_Below_0) (.seq (.ops A_ref10_Tree_Below_1) (.seq (.seq (.ops A_ref10_Tree_Below_2) (.block 0 (.loop A_ref10_Tree_Below_7))) (.seq
  (.ops A_ref10_Tree_Below_8) .ret))))⟩
/-! (*diorama/dioramaref10.Tree).Above -/
def A_ref10_Tree_Above_0 : Row := [i 3 (.box (r 1)), i 4 (.mv (.const (.slice none 0 (.exact 0))))]
def A_ref10_Tree_Above_1 : Row := [i 5 (.mv (.const (.slice none 0 (.exact 0))))]
def A_ref10_Tree_Above_2 : Row := [i 6 (.mv (.const (.int (.i64) 0)))]
def A_ref10_Tree_Above_3 : Row := [i 9 (.mv (r 6)), i 10 (.mv (r 0)), i 11 (.nilCheck (r 10)), i 12 (.fieldAddr 0 (r 11)), i 13 (.load none (r 12)), i 14 (.lenSlice (r 13)), i
  15 (.bin (.leq) (r 9) (r 14))]
def A_ref10_Tree_Above_4 : Row := [i 19 (.mv (r 0)), i 20 (.load (some 2) (r 3)), i 21 (.call (.func F_ref10_Tree_find) [.tmp 19, .tmp 20]), i 18 (.mv (r 21)), i 22 (.extract
  (r 18) 0), i 23 (.extract (r 18) 1), i 7 (.mv (r 22)), i 8 (.mv (r 23))]
def A_ref10_Tree_Above_5 : Row := [i 24 (.mv (r 8)), i 25 (.un (.not) (r 24))]
def A_ref10_Tree_Above_6 : Row := [i 26 (.mv (r 5)), i 4 (.mv (r 26))]
def A_ref10_Tree_Above_7 : Row := [i 27 (.mv (r 0)), i 28 (.nilCheck (r 27)), i 29 (.fieldAddr 0 (r 28)), i 30 (.load none (r 29)), i 31 (.mv (r 7)), i 32 (.indexAddr 5 (r 30)
  (r 31)), i 33 (.fieldAddr 2 (r 32)), i 34 (.fieldAddr 0 (r 33)), i 35 (.load (some 2) (r 34)), i0 (.store 2 (r 3) (r 35))]
def A_ref10_Tree_Above_8 : Row := [i 36 (.mv (r 5)), i 37 (.load (some 2) (r 3)), i 38 (.buildSlice 1 [.int (.i64) 0, .int (.i64) 0] [(0, 2, .tmp 37)]), i 39 (.append 2 16 (r
  36) (r 38)), i 5 (.mv (r 39))]
def A_ref10_Tree_Above_9 : Row := [i 16 (.mv (r 6)), i 17 (.bin (.add) (r 16) (.const (.int (.i64) 1))), i 6 (.mv (r 17))]
def A_ref10_Tree_Above_10 : ACode := (.seq (.seq (.ops A_ref10_Tree_Above_3) (.cond (r 15) .skip (.exit 0))) (.seq (.block 1 (.seq (.ops A_ref10_Tree_Above_4) (.seq (.seq
  (.ops A_ref10_Tree_Above_5) (.cond (r 25) (.seq (.ops A_ref10_Tree_Above_6) .ret) .skip)) (.seq (.ops A_ref10_Tree_Above_7) (.ops A_ref10_Tree_Above_8))))) (.ops
  A_ref10_Tree_Above_9)))
def A_ref10_Tree_Above_11 : Row := [i 40 (.mv (r 5)), i 4 (.mv (r 40))]
/-- (*diorama/dioramaref10.Tree).Above -/
def A_ref10_Tree_Above : AFunc :=
 ⟨41, [.tmp 4], (.seq (.ops A_ref10_Tree_Above_0) (.seq (.ops A_ref10_Tree_Above_1) (.seq (.seq (.ops A_ref10_Tree_Above_2) (.block 0 (.loop A_ref10_Tree_Above_10))) (.seq
  (.ops A_ref10_Tree_Above_11) .ret))))⟩
/-! (*diorama/dioramaref10.Tree).Within -/
def A_ref10_Tree_Within_0 : Row := [i 4 (.box (r 1)), i 5 (.box (r 2)), i 6 (.mv (.const (.bool false)))]
def A_ref10_Tree_Within_1 : Row := [i 12 (.mv (r 0)), i 13 (.load (some 2) (r 5)), i 14 (.call (.func F_ref10_Tree_find) [.tmp 12, .tmp 13]), i 11 (.mv (r 14)), i 15 (.extract
  (r 11) 0), i 16 (.extract (r 11) 1), i 7 (.mv (r 15)), i 8 (.mv (r 16))]
def A_ref10_Tree_Within_2 : Row := [i 17 (.mv (r 8)), i 18 (.un (.not) (r 17))]
def A_ref10_Tree_Within_3 : Row := [i 6 (.mv (.const (.bool false)))]
def A_ref10_Tree_Within_4 : Row := [i 19 (.load (some 2) (r 4)), i 20 (.load (some 2) (r 5)), i 21 (.eq false ⟨true, [.int (.i64), .int (.i64)]⟩ (r 19) (r 20))]
def A_ref10_Tree_Within_5 : Row := [i 6 (.mv (.const (.bool true)))]
def A_ref10_Tree_Within_6 : Row := [i 22 (.mv (r 0)), i 23 (.load (some 2) (r 5)), i 24 (.call (.func F_ref10_Tree_Above) [.tmp 22, .tmp 23]), i 9 (.mv (r 24))]
def A_ref10_Tree_Within_7 : Row := [i 10 (.mv (.const (.int (.i64) 0)))]
def A_ref10_Tree_Within_8 : Row := [i 25 (.mv (r 10)), i 26 (.mv (r 9)), i 27 (.lenSlice (r 26)), i 28 (.bin (.lss) (r 25) (r 27))]
def A_ref10_Tree_Within_9 : Row := [i 31 (.mv (r 9)), i 32 (.mv (r 10)), i 33 (.indexAddr 2 (r 31) (r 32)), i 34 (.load (some 2) (r 33)), i 35 (.load (some 2) (r 4)), i 36
  (.eq false ⟨true, [.int (.i64), .int (.i64)]⟩ (r 34) (r 35))]
def A_ref10_Tree_Within_10 : Row := [i 6 (.mv (.const (.bool true)))]
def A_ref10_Tree_Within_11 : Row := [i 29 (.mv (r 10)), i 30 (.bin (.add) (r 29) (.const (.int (.i64) 1))), i 10 (.mv (r 30))]
def A_ref10_Tree_Within_12 : ACode := (.seq (.seq (.ops A_ref10_Tree_Within_8) (.cond (r 28) .skip (.exit 0))) (.seq (.block 1 (.seq (.ops A_ref10_Tree_Within_9) (.cond (r 36)
  (.seq (.ops A_ref10_Tree_Within_10) .ret) .skip))) (.ops A_ref10_Tree_Within_11)))
def A_ref10_Tree_Within_13 : Row := [i 6 (.mv (.const (.bool false)))]
/-- (*diorama/dioramaref10.Tree).Within -/
def A_ref10_Tree_Within : AFunc :=
 ⟨37, [.tmp 6], (.seq (.ops A_ref10_Tree_Within_0) (.seq (.ops A_ref10_Tree_Within_1) (.seq (.seq (.ops A_ref10_Tree_Within_2) (.cond (r 18) (.seq (.ops
  A_ref10_Tree_Within_3) .ret) .skip)) (.seq (.seq (.ops A_ref10_Tree_Within_4) (.cond (r 21) (.seq (.ops A_ref10_Tree_Within_5) .ret) .skip)) (.seq (.ops
  A_ref10_Tree_Within_6) (.seq (.seq (.ops A_ref10_Tree_Within_7) (.block 0 (.loop A_ref10_Tree_Within_12))) (.seq (.ops A_ref10_Tree_Within_13) .ret)))))))⟩
/-! diorama/op.Place -/
def A_op_Place_0 : Row := [i 1 (.box (r 0)), i 2 (.mv (.const (.bool false)))]
def A_op_Place_1 : Row := [i 3 (.load (some 2) (r 1)), i 4 (.call (.func F_op_Node) [.tmp 3]), i 5 (.mv (r 4)), g 6 (.load (some 2) (r 1)) 5 false, g 7 (.load (some 2) (.const
  (.ptr (some (0, 0))))) 5 false, g 8 (.eq false ⟨true, [.int (.i64), .int (.i64)]⟩ (r 6) (r 7)) 5 false, i 9 (.pick (r 5) (.const (.bool true)) (r 8)), i 10 (.mv (r 9)),
  g 11 (.load (some 2) (r 1)) 10 false, g 12 (.load (some 2) (.const (.ptr (some (1, 0))))) 10 false, g 13 (.eq false ⟨true, [.int (.i64), .int (.i64)]⟩ (r 11) (r 12)) 10
  false, i 14 (.pick (r 10) (.const (.bool true)) (r 13)), i 2 (.mv (r 14))]
/-- diorama/op.Place -/
def A_op_Place : AFunc :=
 ⟨15, [.tmp 2], (.seq (.ops A_op_Place_0) (.seq (.ops A_op_Place_1) .ret))⟩
/-! diorama/dioramalaw13.ref12Light -/
def A_law13_ref12Light_0 : Row := [i 2 (.mv (.const (.bool false)))]
def A_law13_ref12Light_1 : Row := [i 3 (.mv (.const (.int (.i64) 0)))]
def A_law13_ref12Light_2 : Row := [i 4 (.mv (r 3)), i 5 (.mv (r 0)), i 6 (.lenSlice (r 5)), i 7 (.bin (.lss) (r 4) (r 6)), i 8 (.mv (r 7)), g 9 (.mv (r 3)) 8 true, g 10 (.bin
  (.lss) (r 9) (.const (.int (.i64) 50))) 8 true, i 11 (.pick (r 8) (r 10) (.const (.bool false)))]
def A_law13_ref12Light_3 : Row := [i 14 (.mv (r 0)), i 15 (.mv (r 3)), i 16 (.indexAddr 14 (r 14) (r 15)), i 17 (.fieldAddr 2 (r 16)), i 18 (.fieldAddr 6 (r 17)), i 19 (.load
  none (r 18)), i 20 (.lenSlice (r 19)), i 21 (.bin (.gtr) (r 20) (.const (.int (.i64) 20))), i 22 (.mv (r 21)), g 23 (.mv (r 0)) 22 false, g 24 (.mv (r 3)) 22 false, g 25
  (.indexAddr 14 (r 23) (r 24)) 22 false, g 26 (.fieldAddr 2 (r 25)) 22 false, g 27 (.fieldAddr 5 (r 26)) 22 false, g 28 (.load none (r 27)) 22 false, g 29 (.lenStr (r
  28)) 22 false, g 30 (.bin (.gtr) (r 29) (.const (.int (.i64) 100))) 22 false, i 31 (.pick (r 22) (.const (.bool true)) (r 30)), i 32 (.mv (r 31)), g 33 (.mv (r 0)) 32
  false, g 34 (.mv (r 3)) 32 false, g 35 (.indexAddr 14 (r 33) (r 34)) 32 false, g 36 (.fieldAddr 2 (r 35)) 32 false, g 37 (.fieldAddr 8 (r 36)) 32 false, g 38 (.fieldAddr
  2 (r 37)) 32 false, g 39 (.load none (r 38)) 32 false, g 40 (.lenStr (r 39)) 32 false, g 41 (.bin (.gtr) (r 40) (.const (.int (.i64) 200))) 32 false, i 42 (.pick (r 32)
  (.const (.bool true)) (r 41))]
def A_law13_ref12Light_4 : Row := [i 2 (.mv (.const (.bool false)))]
def A_law13_ref12Light_5 : Row := [i 12 (.mv (r 3)), i 13 (.bin (.add) (r 12) (.const (.int (.i64) 1))), i 3 (.mv (r 13))]
def A_law13_ref12Light_6 : ACode := (.seq (.seq (.ops A_law13_ref12Light_2) (.cond (r 11) .skip (.exit 0))) (.seq (.block 1 (.seq (.ops A_law13_ref12Light_3) (.cond (r 42)
  (.seq (.ops A_law13_ref12Light_4) .ret) .skip))) (.ops A_law13_ref12Light_5)))
def A_law13_ref12Light_7 : Row := [i 2 (.mv (.const (.bool true)))]
/-- diorama/dioramalaw13.ref12Light -/
def A_law13_ref12Light : AFunc :=
 ⟨43, [.tmp 2], (.seq (.ops A_law13_ref12Light_0) (.seq (.seq (.ops A_law13_ref12Light_1) (.block 0 (.loop A_law13_ref12Light_6))) (.seq (.ops A_law13_ref12Light_7)
  .ret)))⟩
/-! (*diorama/graph.Graph).Reaches -/
def A_graph_Graph_Reaches_0 : Row := [i 5 (.box (r 1)), i 6 (.box (r 2)), i 8 (.mv (.const (.bool false)))]
def A_graph_Graph_Reaches_1 : Row := [i 13 (.mv (r 0)), i 14 (.call (.func F_graph_Graph_none) [.tmp 13]), i 15 (.mv (r 14)), g 16 (.mv (r 0)) 15 false, g 17 (.load (some 2)
  (r 5)) 15 false, g 18 (.call (.func F_graph_Graph_Has) [.tmp 16, .tmp 17]) 15 false, g 19 (.un (.not) (r 18)) 15 false, i 20 (.pick (r 15) (.const (.bool true)) (r 19)),
  i 21 (.mv (r 20)), g 22 (.mv (r 0)) 21 false, g 23 (.load (some 2) (r 6)) 21 false, g 24 (.call (.func F_graph_Graph_Has) [.tmp 22, .tmp 23]) 21 false, g 25 (.un (.not)
  (r 24)) 21 false, i 26 (.pick (r 21) (.const (.bool true)) (r 25))]
def A_graph_Graph_Reaches_2 : Row := [i 8 (.mv (.const (.bool false)))]
def A_graph_Graph_Reaches_3 : Row := [i 27 (.load (some 2) (r 5)), i 28 (.buildSlice 1 [.int (.i64) 0, .int (.i64) 0] [(0, 2, .tmp 27)]), i 29 (.makeMap), i 9 (.mv (r 28)), i
  10 (.mv (r 29))]
def A_graph_Graph_Reaches_4 : Row := [i 30 (.mv (r 9)), i 31 (.lenSlice (r 30)), i 32 (.bin (.gtr) (r 31) (.const (.int (.i64) 0)))]
def A_graph_Graph_Reaches_5 : Row := [i 33 (.mv (r 9)), i 34 (.lenSlice (r 33)), i 35 (.bin (.sub) (r 34) (.const (.int (.i64) 1))), i 11 (.mv (r 35))]
def A_graph_Graph_Reaches_6 : Row := [i 36 (.mv (r 9)), i 37 (.mv (r 11)), i 38 (.indexAddr 2 (r 36) (r 37)), i 39 (.load (some 2) (r 38)), i 12 (.alloc [.int (.i64) 0, .int
  (.i64) 0]), i0 (.store 2 (r 12) (r 39))]
def A_graph_Graph_Reaches_7 : Row := [i 40 (.mv (r 9)), i 41 (.mv (r 11)), i 42 (.slice 2 (r 40) none (some (r 41)) none), i 9 (.mv (r 42))]
def A_graph_Graph_Reaches_8 : Row := [i 44 (.load (some 2) (r 12)), i 45 (.load (some 2) (r 6)), i 46 (.eq false ⟨true, [.int (.i64), .int (.i64)]⟩ (r 44) (r 45)), i 43 (.mv
  (r 46))]
def A_graph_Graph_Reaches_9 : Row := [i 8 (.mv (.const (.bool true)))]
def A_graph_Graph_Reaches_10 : Row := [i 48 (.mv (r 10)), i 49 (.load (some 2) (r 12)), i 50 (.lookup ⟨true, [.int (.i64), .int (.i64)]⟩ (.bool false) false (r 48) (r 49)), i
  47 (.mv (r 50))]
def A_graph_Graph_Reaches_11 : Row := [i 51 (.mv (r 10)), i 52 (.load (some 2) (r 12)), i0 (.mapUpdate ⟨true, [.int (.i64), .int (.i64)]⟩ (r 51) (r 52) (.const (.bool true)))]
def A_graph_Graph_Reaches_12 : Row := [i 53 (.mv (r 9)), i 54 (.mv (r 0)), i 55 (.load (some 2) (r 12)), i 56 (.mv (r 3)), i 57 (.call (.func F_graph_Graph_next) [.tmp 54,
  .tmp 55, .tmp 56]), i 58 (.append 2 16 (r 53) (r 57)), i 9 (.mv (r 58))]
def A_graph_Graph_Reaches_13 : ACode := (.seq (.seq (.ops A_graph_Graph_Reaches_4) (.cond (r 32) .skip (.exit 0))) (.block 1 (.seq (.ops A_graph_Graph_Reaches_5) (.seq (.ops
  A_graph_Graph_Reaches_6) (.seq (.ops A_graph_Graph_Reaches_7) (.seq (.block 2 (.seq (.ops A_graph_Graph_Reaches_8) (.cond (r 43) (.seq (.ops A_graph_Graph_Reaches_9)
  .ret) (.seq (.ops A_graph_Graph_Reaches_10) (.cond (r 47) (.exit 1) .skip))))) (.seq (.ops A_graph_Graph_Reaches_11) (.ops A_graph_Graph_Reaches_12))))))))
def A_graph_Graph_Reaches_14 : Row := [i 8 (.mv (.const (.bool false)))]
/-- (*diorama/graph.Graph).Reaches -/
def A_graph_Graph_Reaches : AFunc :=
 ⟨59, [.tmp 8], (.seq (.ops A_graph_Graph_Reaches_0) (.scope (.seq (.seq (.ops A_graph_Graph_Reaches_1) (.cond (r 26) (.seq (.ops A_graph_Graph_Reaches_2) .ret) .skip))
  (.seq (.ops A_graph_Graph_Reaches_3) (.seq .skip (.seq (.block 0 (.loop A_graph_Graph_Reaches_13)) (.seq (.ops A_graph_Graph_Reaches_14) .ret)))))))⟩
/-! (*diorama/graph.Graph).none -/
def A_graph_Graph_none_0 : Row := [i 2 (.mv (.const (.bool false)))]
def A_graph_Graph_none_1 : Row := [i 3 (.mv (r 0)), i 4 (.eqNil false (.ptr) (r 3) (.const (.ptr none))), i 5 (.mv (r 4)), g 6 (.mv (r 0)) 5 false, g 7 (.nilCheck (r 6)) 5
  false, g 8 (.fieldAddr 1 (r 7)) 5 false, g 9 (.load none (r 8)) 5 false, g 10 (.eqNil false (.ptr) (r 9) (.const (.ptr none))) 5 false, i 11 (.pick (r 5) (.const (.bool
  true)) (r 10)), i 2 (.mv (r 11))]
/-- (*diorama/graph.Graph).none -/
def A_graph_Graph_none : AFunc :=
 ⟨12, [.tmp 2], (.seq (.ops A_graph_Graph_none_0) (.seq (.ops A_graph_Graph_none_1) .ret))⟩
/-! diorama/op.Right -/
def A_op_Right_0 : Row := [i 1 (.box (r 0)), i 2 (.mv (.const (.bool false)))]
def A_op_Right_1 : Row := [i 13 (.fieldAddr 0 (r 1)), i 14 (.load none (r 13)), i 15 (.call (.func F_op_parts) [.tmp 14]), i 12 (.mv (r 15)), i 16 (.extract (r 12) 0), i 17
  (.extract (r 12) 1), i 18 (.extract (r 12) 2), i 19 (.extract (r 12) 3), i 20 (.extract (r 12) 4), i 21 (.extract (r 12) 5), i 3 (.mv (r 16)), i 4 (.mv (r 17)), i 5 (.mv
  (r 18)), i 6 (.mv (r 19)), i 7 (.mv (r 20)), i 8 (.mv (r 21))]
def A_op_Right_2 : Row := [i 9 (.mv (.func F_op_Right_c1))]
def A_op_Right_3 : Row := [i 22 (.fieldAddr 3 (r 1)), i 23 (.load (some 2) (r 22)), i 24 (.call (.func F_op_Place) [.tmp 23]), i 10 (.mv (r 24))]
def A_op_Right_4 : Row := [i 25 (.fieldAddr 0 (r 1)), i 26 (.load none (r 25)), i 27 (.bin (.eql) (r 26) (.const (.int (.i64) 5)))]
def A_op_Right_5 : Row := [i 28 (.fieldAddr 3 (r 1)), i 29 (.load (some 2) (r 28)), i 30 (.call (.func F_op_Node) [.tmp 29]), i 31 (.mv (r 30)), g 32 (.fieldAddr 3 (r 1)) 31
  false, g 33 (.load (some 2) (r 32)) 31 false, g 34 (.load (some 2) (.const (.ptr (some (0, 0))))) 31 false, g 35 (.eq false ⟨true, [.int (.i64), .int (.i64)]⟩ (r 33) (r
  34)) 31 false, i 36 (.pick (r 31) (.const (.bool true)) (r 35)), i 10 (.mv (r 36))]
def A_op_Right_6 : Row := [i 37 (.fieldAddr 6 (r 1)), i 38 (.load none (r 37)), i 39 (.lenSlice (r 38)), i 40 (.bin (.gtr) (r 39) (.const (.int (.i64) 0))), i 41 (.mv (r 40)),
  g 42 (.fieldAddr 6 (r 1)) 41 true, g 43 (.load none (r 42)) 41 true, g 44 (.lenSlice (r 43)) 41 true, g 45 (.bin (.leq) (r 44) (.const (.int (.i64) 8))) 41 true, i 46
  (.pick (r 41) (r 45) (.const (.bool false))), i 47 (.mv (r 46)), g 48 (.fieldAddr 6 (r 1)) 47 true, g 49 (.load none (r 48)) 47 true, g 50 (.call (.func
  F_slices_ContainsFunc_Stamp) [.tmp 49, .func F_op_Right_c2]) 47 true, g 51 (.un (.not) (r 50)) 47 true, i 52 (.pick (r 47) (r 51) (.const (.bool false))), i 11 (.mv (r
  52))]
def A_op_Right_7 : Row := [i 53 (.mv (r 3)), i 54 (.mv (r 53)), g 55 (.mv (r 4)) 54 false, i 56 (.pick (r 54) (.const (.bool true)) (r 55)), i 57 (.mv (r 56)), g 58 (.mv (r
  9)) 57 true, g 59 (.mv (r 3)) 57 true, g 60 (.fieldAddr 1 (r 1)) 57 true, g 61 (.load (some 2) (r 60)) 57 true, g 62 (.build [.int (.i64) 0, .int (.i64) 0] []) 57 true,
  g 63 (.eq false ⟨true, [.int (.i64), .int (.i64)]⟩ (r 61) (r 62)) 57 true, g 64 (.fieldAddr 1 (r 1)) 57 true, g 65 (.load (some 2) (r 64)) 57 true, ⟨⟨(some 66), .call
  (.func F_op_Node) [.tmp 65], (some (57, true))⟩, [⟨(some 61), .load (some 2) (r 60), (some (57, true))⟩]⟩, g 67 (.call (r 58) [.tmp 59, .tmp 63, .tmp 66]) 57 true, i 68
  (.pick (r 57) (r 67) (.const (.bool false))), i 69 (.mv (r 68)), g 70 (.mv (r 9)) 69 true, g 71 (.mv (r 4)) 69 true, g 72 (.fieldAddr 3 (r 1)) 69 true, g 73 (.load (some
  2) (r 72)) 69 true, g 74 (.build [.int (.i64) 0, .int (.i64) 0] []) 69 true, g 75 (.eq false ⟨true, [.int (.i64), .int (.i64)]⟩ (r 73) (r 74)) 69 true, g 76 (.mv (r 10))
  69 true, g 77 (.call (r 70) [.tmp 71, .tmp 75, .tmp 76]) 69 true, i 78 (.pick (r 69) (r 77) (.const (.bool false))), i 79 (.mv (r 78)), g 80 (.mv (r 9)) 79 true, g 81
  (.mv (r 5)) 79 true, g 82 (.fieldAddr 5 (r 1)) 79 true, g 83 (.load none (r 82)) 79 true, g 84 (.bin (.eql) (r 83) (.const (.str []))) 79 true, g 85 (.fieldAddr 5 (r 1))
  79 true, g 86 (.load none (r 85)) 79 true, ⟨⟨(some 87), .call (.func F_poskey_Right) [.tmp 86], (some (79, true))⟩, [⟨(some 83), .load none (r 82), (some (79, true))⟩]⟩,
  g 88 (.call (r 80) [.tmp 81, .tmp 84, .tmp 87]) 79 true, i 89 (.pick (r 79) (r 88) (.const (.bool false))), i 90 (.mv (r 89)), g 91 (.mv (r 9)) 90 true, g 92 (.mv (r 6))
  90 true, g 93 (.fieldAddr 6 (r 1)) 90 true, g 94 (.load none (r 93)) 90 true, g 95 (.lenSlice (r 94)) 90 true, g 96 (.bin (.eql) (r 95) (.const (.int (.i64) 0))) 90
  true, g 97 (.mv (r 11)) 90 true, g 98 (.call (r 91) [.tmp 92, .tmp 96, .tmp 97]) 90 true, i 99 (.pick (r 90) (r 98) (.const (.bool false))), i 100 (.mv (r 99)), g 101
  (.mv (r 9)) 100 true, g 102 (.mv (r 7)) 100 true, g 103 (.fieldAddr 7 (r 1)) 100 true, g 104 (.load none (r 103)) 100 true, g 105 (.bin (.eql) (r 104) (.const (.int
  (.i64) 0))) 100 true, g 106 (.mv (r 105)) 100 true, g 107 (.fieldAddr 8 (r 1)) 106 true, g 108 (.load (some 3) (r 107)) 106 true, g 109 (.build [.int (.i64) 0, .int
  (.i64) 0, .str []] []) 106 true, g 110 (.eq false ⟨true, [.int (.i64), .int (.i64), .str]⟩ (r 108) (r 109)) 106 true, g 111 (.pick (r 106) (r 110) (.const (.bool
  false))) 100 true, g 112 (.fieldAddr 7 (r 1)) 100 true, g 113 (.load none (r 112)) 100 true, g 114 (.fieldAddr 8 (r 1)) 100 true, g 115 (.load (some 3) (r 114)) 100
  true, ⟨⟨(some 116), .call (.func F_value_Right8) [.tmp 113, .tmp 115], (some (100, true))⟩, [⟨(some 108), .load (some 3) (r 107), (some (106, true))⟩]⟩, g 117 (.call (r
  101) [.tmp 102, .tmp 111, .tmp 116]) 100 true, i 118 (.pick (r 100) (r 117) (.const (.bool false))), i 119 (.mv (r 118)), g 120 (.mv (r 8)) 119 true, g 121 (.mv (r 120))
  119 true, g 122 (.fieldAddr 11 (r 1)) 121 false, g 123 (.load none (r 122)) 121 false, g 124 (.un (.not) (r 123)) 121 false, g 125 (.pick (r 121) (.const (.bool true))
  (r 124)) 119 true, i 126 (.pick (r 119) (r 125) (.const (.bool false))), i 2 (.mv (r 126))]
/-- diorama/op.Right -/
def A_op_Right : AFunc :=
 ⟨127, [.tmp 2], (.seq (.ops A_op_Right_0) (.seq (.ops A_op_Right_1) (.seq (.ops A_op_Right_2) (.seq (.ops A_op_Right_3) (.seq (.seq (.ops A_op_Right_4) (.cond (r 27) (.ops
  A_op_Right_5) .skip)) (.seq (.ops A_op_Right_6) (.seq (.ops A_op_Right_7) .ret)))))))⟩
/-! (*diorama/graph.Graph).place -/
def A_graph_Graph_place_0 : Row := [i 3 (.box (r 1)), i 4 (.mv (.const (.int (.i64) 0))), i 5 (.mv (.const (.bool false)))]
def A_graph_Graph_place_1 : Row := [i 6 (.mv (r 0)), i 7 (.nilCheck (r 6)), i 8 (.fieldAddr 0 (r 7)), i 9 (.load none (r 8)), i 10 (.load (some 2) (r 3)), i 11 (.call (.func
  F_slices_BinarySearchFunc_entry_Stamp) [.tmp 9, .tmp 10, .func F_graph_Graph_place_c1]), i 12 (.extract (r 11) 0), i 13 (.extract (r 11) 1), i 4 (.mv (r 12)), i 5 (.mv
  (r 13))]
/-- (*diorama/graph.Graph).place -/
def A_graph_Graph_place : AFunc :=
 ⟨14, [.tmp 4, .tmp 5], (.seq (.ops A_graph_Graph_place_0) (.seq (.ops A_graph_Graph_place_1) .ret))⟩
/-! (*diorama/graph.entry).do -/
def A_graph_entry_do_0 : Row := [i 16 (.mv (r 0)), i 17 (.mv (r 0)), i 18 (.nilCheck (r 16)), i 19 (.fieldAddr 14 (r 18)), i0 (.store 1 (r 19) (.const (.bool false))), i 20
  (.nilCheck (r 17)), i 21 (.fieldAddr 15 (r 20)), i0 (.store 1 (r 21) (.const (.nilFn)))]
def A_graph_entry_do_1 : Row := [i 22 (.mv (r 0)), i 23 (.nilCheck (r 22)), i 24 (.fieldAddr 2 (r 23)), i 25 (.load (some 12) (r 24)), i 4 (.alloc [.int (.i64) 0, .int (.i64)
  0, .int (.i64) 0, .int (.i64) 0, .int (.i64) 0, .str [], .slice none 0 (.exact 0), .int (.i64) 0, .int (.i64) 0, .int (.i64) 0, .str [], .bool false]), i0 (.store 12 (r
  4) (r 25))]
def A_graph_entry_do_2 : Row := [i 26 (.fieldAddr 0 (r 4)), i 27 (.load none (r 26))]
def A_graph_entry_do_3 : Row := [i 29 (.bin (.eql) (r 27) (.const (.int (.i64) 1))), i 28 (.mv (r 29))]
def A_graph_entry_do_4 : Row := [i 30 (.fieldAddr 3 (r 4)), i 31 (.load (some 2) (r 30)), i 32 (.fieldAddr 5 (r 4)), i 33 (.load none (r 32)), i 34 (.build [.int (.i64) 0,
  .int (.i64) 0, .str []] [(0, 2, .tmp 31), (2, 1, .tmp 33)]), i 5 (.alloc [.int (.i64) 0, .int (.i64) 0, .str []]), i0 (.store 3 (r 5) (r 34))]
def A_graph_entry_do_5 : Row := [i 35 (.mv (r 1)), i 36 (.fieldAddr 3 (r 4)), i 37 (.load (some 2) (r 36)), i 38 (.call (.func F_graph_Graph_Has) [.tmp 35, .tmp 37]), i 39
  (.un (.not) (r 38))]
def A_graph_entry_do_6 : Row := [i 40 (.build [.int (.i64) 0, .int (.i64) 0] [(1, 1, .const (.int (.i64) 1))]), i 41 (.fieldAddr 0 (r 5)), i0 (.store 2 (r 41) (r 40))]
def A_graph_entry_do_7 : Row := [i 42 (.mv (r 0)), i 43 (.nilCheck (r 42)), i 44 (.fieldAddr 0 (r 43)), i 45 (.load (some 2) (r 44)), i 6 (.alloc [.int (.i64) 0, .int (.i64)
  0]), i0 (.store 2 (r 6) (r 45))]
def A_graph_entry_do_8 : Row := [i 46 (.mv (r 1)), i 47 (.nilCheck (r 46)), i 48 (.fieldAddr 1 (r 47)), i 49 (.load none (r 48)), i 50 (.load (some 2) (r 6)), i 51 (.load
  (some 3) (r 5)), i 52 (.call (.func F_tree_Tree_Add) [.tmp 49, .tmp 50, .tmp 51])]
def A_graph_entry_do_9 : Row := [i 53 (.mv (r 0)), i 54 (.mv (r 0)), i 55 (.makeFunc F_graph_entry_do_c1 [] [.tmp 6]), i 56 (.nilCheck (r 53)), i 57 (.fieldAddr 14 (r 56)), i0
  (.store 1 (r 57) (.const (.bool true))), i 58 (.nilCheck (r 54)), i 59 (.fieldAddr 15 (r 58)), i0 (.store 1 (r 59) (r 55))]
def A_graph_entry_do_10 : Row := [i 61 (.bin (.eql) (r 27) (.const (.int (.i64) 2))), i 60 (.mv (r 61))]
def A_graph_entry_do_11 : Row := [i 63 (.mv (r 1)), i 64 (.nilCheck (r 63)), i 65 (.fieldAddr 1 (r 64)), i 66 (.load none (r 65)), i 67 (.fieldAddr 1 (r 4)), i 68 (.load (some
  2) (r 67)), i 69 (.fieldAddr 3 (r 4)), i 70 (.load (some 2) (r 69)), i 71 (.fieldAddr 5 (r 4)), i 72 (.load none (r 71)), i 73 (.build [.int (.i64) 0, .int (.i64) 0,
  .str []] [(0, 2, .tmp 70), (2, 1, .tmp 72)]), i 7 (.alloc [.int (.i64) 0, .int (.i64) 0, .str []]), ⟨a 74 (.call (.func F_tree_Tree_Move) [.tmp 66, .tmp 68, .tmp 73]),
  [a 7 (.alloc [.int (.i64) 0, .int (.i64) 0, .str []])]⟩, i 62 (.mv (r 74)), i 75 (.extract (r 62) 0), i 76 (.extract (r 62) 1), i0 (.store 3 (r 7) (r 75)), i 8 (.mv (r
  76))]
def A_graph_entry_do_12 : Row := [i 77 (.mv (r 8)), i 78 (.bin (.neq) (r 77) (.const (.int (.i64) 0)))]
def A_graph_entry_do_13 : Row := [i 79 (.makeFunc F_graph_entry_do_c2 [] [.tmp 4, .tmp 7]), i 9 (.mv (r 79))]
def A_graph_entry_do_14 : Row := [i 80 (.mv (r 1)), i 81 (.fieldAddr 1 (r 4)), i 82 (.load (some 2) (r 81)), i 83 (.call (.func F_graph_Graph_ring) [.tmp 80, .tmp 82])]
def A_graph_entry_do_15 : Row := [i 84 (.mv (r 9)), i 85 (.mv (r 1)), i 86 (.nilCheck (r 85)), i 87 (.fieldAddr 1 (r 86)), i 88 (.load none (r 87)), i 89 (.call (r 84) [.tmp
  88, .const (.map none)])]
def A_graph_entry_do_16 : Row := [i 90 (.mv (r 0)), i 91 (.mv (r 0)), i 92 (.mv (r 9)), i 93 (.nilCheck (r 90)), i 94 (.fieldAddr 14 (r 93)), i0 (.store 1 (r 94) (.const
  (.bool true))), i 95 (.nilCheck (r 91)), i 96 (.fieldAddr 15 (r 95)), i0 (.store 1 (r 96) (r 92))]
def A_graph_entry_do_17 : Row := [i 98 (.bin (.eql) (r 27) (.const (.int (.i64) 5))), i 97 (.mv (r 98))]
def A_graph_entry_do_18 : Row := [i 100 (.mv (r 1)), i 101 (.nilCheck (r 100)), i 102 (.fieldAddr 1 (r 101)), i 103 (.load none (r 102)), i 104 (.fieldAddr 1 (r 4)), i 105
  (.load (some 2) (r 104)), i 10 (.alloc [.int (.i64) 0, .int (.i64) 0, .str []]), ⟨a 106 (.call (.func F_tree_Tree_Spot) [.tmp 103, .tmp 105]), [a 10 (.alloc [.int (.i64)
  0, .int (.i64) 0, .str []])]⟩, i 99 (.mv (r 106)), i 107 (.extract (r 99) 0), i 108 (.extract (r 99) 1), i0 (.store 3 (r 10) (r 107)), i 11 (.mv (r 108))]
def A_graph_entry_do_19 : Row := [i 110 (.mv (r 1)), i 111 (.nilCheck (r 110)), i 112 (.fieldAddr 1 (r 111)), i 113 (.load none (r 112)), i 114 (.fieldAddr 3 (r 4)), i 115
  (.load (some 2) (r 114)), i 12 (.alloc [.int (.i64) 0, .int (.i64) 0, .str []]), ⟨a 116 (.call (.func F_tree_Tree_Spot) [.tmp 113, .tmp 115]), [a 12 (.alloc [.int (.i64)
  0, .int (.i64) 0, .str []])]⟩, i 109 (.mv (r 116)), i 117 (.extract (r 109) 0), i 118 (.extract (r 109) 1), i0 (.store 3 (r 12) (r 117)), i 13 (.mv (r 118))]
def A_graph_entry_do_20 : Row := [i 119 (.fieldAddr 3 (r 4)), i 120 (.load (some 2) (r 119)), i 121 (.build [.int (.i64) 0, .int (.i64) 0] []), i 122 (.eq false ⟨true, [.int
  (.i64), .int (.i64)]⟩ (r 120) (r 121)), i 14 (.mv (r 122))]
def A_graph_entry_do_21 : Row := [i 123 (.mv (r 11)), i 124 (.un (.not) (r 123)), i 125 (.mv (r 124)), g 126 (.mv (r 14)) 125 false, g 127 (.un (.not) (r 126)) 125 false, g
  128 (.mv (r 127)) 125 false, g 129 (.mv (r 13)) 128 true, g 130 (.un (.not) (r 129)) 128 true, g 131 (.pick (r 128) (r 130) (.const (.bool false))) 125 false, i 132
  (.pick (r 125) (.const (.bool true)) (r 131))]
def A_graph_entry_do_22 : Row := [i 133 (.mv (r 1)), i 134 (.fieldAddr 1 (r 4)), i 135 (.load (some 2) (r 134)), i 136 (.fieldAddr 3 (r 4)), i 137 (.load (some 2) (r 136)), i
  138 (.mv (r 14)), i 139 (.un (.not) (r 138)), i 140 (.call (.func F_graph_Graph_link) [.tmp 133, .tmp 135, .tmp 137, .tmp 139]), i 15 (.mv (r 140))]
def A_graph_entry_do_23 : Row := [i 141 (.mv (r 1)), i 142 (.fieldAddr 1 (r 4)), i 143 (.load (some 2) (r 142)), i 144 (.call (.func F_graph_Graph_ring) [.tmp 141, .tmp 143])]
def A_graph_entry_do_24 : Row := [i 145 (.mv (r 15)), i 146 (.mv (r 1)), i 147 (.nilCheck (r 146)), i 148 (.fieldAddr 1 (r 147)), i 149 (.load none (r 148)), i 150 (.mv (r
  1)), i 151 (.nilCheck (r 150)), i 152 (.fieldAddr 2 (r 151)), i 153 (.load none (r 152)), i 154 (.call (r 145) [.tmp 149, .tmp 153])]
def A_graph_entry_do_25 : Row := [i 155 (.mv (r 0)), i 156 (.mv (r 0)), i 157 (.mv (r 15)), i 158 (.nilCheck (r 155)), i 159 (.fieldAddr 14 (r 158)), i0 (.store 1 (r 159)
  (.const (.bool true))), i 160 (.nilCheck (r 156)), i 161 (.fieldAddr 15 (r 160)), i0 (.store 1 (r 161) (r 157))]
/-- (*diorama/graph.entry).do -/
def A_graph_entry_do : AFunc :=
 ⟨162, [], (.seq (.ops A_graph_entry_do_0) (.seq (.ops A_graph_entry_do_1) (.seq (.ops A_graph_entry_do_2) (.block 0 (.seq (.ops A_graph_entry_do_3) (.cond (r 28) (.seq
  (.ops A_graph_entry_do_4) (.seq (.seq (.ops A_graph_entry_do_5) (.cond (r 39) (.ops A_graph_entry_do_6) .skip)) (.seq (.ops A_graph_entry_do_7) (.seq (.ops
  A_graph_entry_do_8) (.ops A_graph_entry_do_9))))) (.seq (.ops A_graph_entry_do_10) (.cond (r 60) (.seq (.ops A_graph_entry_do_11) (.seq (.seq (.ops A_graph_entry_do_12)
  (.cond (r 78) .ret .skip)) (.seq (.ops A_graph_entry_do_13) (.seq (.seq (.ops A_graph_entry_do_14) (.cond (r 83) (.seq (.ops A_graph_entry_do_15) .ret) .skip)) (.ops
  A_graph_entry_do_16))))) (.seq (.ops A_graph_entry_do_17) (.cond (r 97) (.seq (.ops A_graph_entry_do_18) (.seq (.ops A_graph_entry_do_19) (.seq (.ops
  A_graph_entry_do_20) (.seq (.seq (.ops A_graph_entry_do_21) (.cond (r 132) .ret .skip)) (.seq (.ops A_graph_entry_do_22) (.seq (.seq (.ops A_graph_entry_do_23) (.cond (r
  144) (.seq (.ops A_graph_entry_do_24) .ret) .skip)) (.ops A_graph_entry_do_25))))))) .skip))))))))))⟩
/-! slices.Clone[[]diorama/graph.entry,diorama/graph.entry] -/
def A_slices_Clone_entry_0 : Row := [i 2 (.mv (.const (.slice none 0 (.exact 0))))]
def A_slices_Clone_entry_1 : Row := [i 3 (.mv (r 0)), i 4 (.eqNil false (.slice) (r 3) (.const (.slice none 0 (.exact 0))))]
def A_slices_Clone_entry_2 : Row := [i 2 (.mv (.const (.slice none 0 (.exact 0))))]
def A_slices_Clone_entry_3 : Row := [i 5 (.buildSlice 0 [] []), i 6 (.mv (r 0)), i 7 (.append 16 160 (r 5) (r 6)), i 2 (.mv (r 7))]
/-- slices.Clone[[]diorama/graph.entry,diorama/graph.entry] -/
def A_slices_Clone_entry : AFunc :=
 ⟨8, [.tmp 2], (.seq (.ops A_slices_Clone_entry_0) (.seq (.seq (.ops A_slices_Clone_entry_1) (.cond (r 4) (.seq (.ops A_slices_Clone_entry_2) .ret) .skip)) (.seq (.ops
  A_slices_Clone_entry_3) .ret)))⟩
/-! diorama/stamp.Right -/
def A_stamp_Right_0 : Row := [i 1 (.box (r 0)), i 2 (.mv (.const (.bool false)))]
def A_stamp_Right_1 : Row := [i 3 (.fieldAddr 0 (r 1)), i 4 (.load none (r 3)), i 5 (.bin (.geq) (r 4) (.const (.int (.i64) 0))), i 6 (.mv (r 5)), g 7 (.fieldAddr 0 (r 1)) 6
  true, g 8 (.load none (r 7)) 6 true, g 9 (.bin (.leq) (r 8) (.const (.int (.i64) 1099511627776))) 6 true, i 10 (.pick (r 6) (r 9) (.const (.bool false))), i 11 (.mv (r
  10)), g 12 (.fieldAddr 1 (r 1)) 11 true, g 13 (.load none (r 12)) 11 true, g 14 (.bin (.geq) (r 13) (.const (.int (.i64) 0))) 11 true, i 15 (.pick (r 11) (r 14) (.const
  (.bool false))), i 16 (.mv (r 15)), g 17 (.fieldAddr 1 (r 1)) 16 true, g 18 (.load none (r 17)) 16 true, g 19 (.bin (.lss) (r 18) (.const (.int (.i64) 16))) 16 true, i
  20 (.pick (r 16) (r 19) (.const (.bool false))), i 2 (.mv (r 20))]
/-- diorama/stamp.Right -/
def A_stamp_Right : AFunc :=
 ⟨21, [.tmp 2], (.seq (.ops A_stamp_Right_0) (.seq (.ops A_stamp_Right_1) .ret))⟩
/-! diorama/poskey.Right -/
def A_poskey_Right_0 : Row := [i 2 (.mv (.const (.bool false)))]
def A_poskey_Right_1 : Row := [i 3 (.mv (r 0)), i 4 (.bin (.neq) (r 3) (.const (.str []))), i 5 (.mv (r 4)), g 6 (.mv (r 0)) 5 true, g 7 (.lenStr (r 6)) 5 true, g 8 (.bin
  (.leq) (r 7) (.const (.int (.i64) 24))) 5 true, i 9 (.pick (r 5) (r 8) (.const (.bool false))), i 10 (.mv (r 9)), g 11 (.mv (r 0)) 10 true, g 12 (.mv (r 0)) 10 true, g
  13 (.lenStr (r 12)) 10 true, g 14 (.bin (.sub) (r 13) (.const (.int (.i64) 1))) 10 true, g 15 (.indexStr (r 11) (r 14)) 10 true, g 16 (.bin (.neq) (r 15) (.const (.int
  (.u8) 0))) 10 true, i 17 (.pick (r 10) (r 16) (.const (.bool false))), i 2 (.mv (r 17))]
/-- diorama/poskey.Right -/
def A_poskey_Right : AFunc :=
 ⟨18, [.tmp 2], (.seq (.ops A_poskey_Right_0) (.seq (.ops A_poskey_Right_1) .ret))⟩
/-! (*diorama/dioramaref10.Tree).find -/
def A_ref10_Tree_find_0 : Row := [i 3 (.box (r 1)), i 4 (.mv (.const (.int (.i64) 0))), i 5 (.mv (.const (.bool false)))]
def A_ref10_Tree_find_1 : Row := [i 6 (.mv (.const (.int (.i64) 0)))]
def A_ref10_Tree_find_2 : Row := [i 7 (.mv (r 6)), i 8 (.mv (r 0)), i 9 (.nilCheck (r 8)), i 10 (.fieldAddr 0 (r 9)), i 11 (.load none (r 10)), i 12 (.lenSlice (r 11)), i 13
  (.bin (.lss) (r 7) (r 12))]
def A_ref10_Tree_find_3 : Row := [i 16 (.mv (r 0)), i 17 (.nilCheck (r 16)), i 18 (.fieldAddr 0 (r 17)), i 19 (.load none (r 18)), i 20 (.mv (r 6)), i 21 (.indexAddr 5 (r 19)
  (r 20)), i 22 (.fieldAddr 0 (r 21)), i 23 (.load (some 2) (r 22)), i 24 (.load (some 2) (r 3)), i 25 (.call (.func F_ref02_Compare) [.tmp 23, .tmp 24]), i 26 (.bin
  (.geq) (r 25) (.const (.int (.i64) 0)))]
def A_ref10_Tree_find_4 : Row := [i 27 (.mv (r 6)), i 28 (.mv (r 0)), i 29 (.nilCheck (r 28)), i 30 (.fieldAddr 0 (r 29)), i 31 (.load none (r 30)), i 32 (.mv (r 6)), i 33
  (.indexAddr 5 (r 31) (r 32)), i 34 (.fieldAddr 0 (r 33)), i 35 (.load (some 2) (r 34)), i 36 (.load (some 2) (r 3)), i 37 (.eq false ⟨true, [.int (.i64), .int (.i64)]⟩
  (r 35) (r 36)), i 4 (.mv (r 27)), i 5 (.mv (r 37))]
def A_ref10_Tree_find_5 : Row := [i 14 (.mv (r 6)), i 15 (.bin (.add) (r 14) (.const (.int (.i64) 1))), i 6 (.mv (r 15))]
def A_ref10_Tree_find_6 : ACode := (.seq (.seq (.ops A_ref10_Tree_find_2) (.cond (r 13) .skip (.exit 0))) (.seq (.block 1 (.seq (.ops A_ref10_Tree_find_3) (.cond (r 26) (.seq
  (.ops A_ref10_Tree_find_4) .ret) .skip))) (.ops A_ref10_Tree_find_5)))
def A_ref10_Tree_find_7 : Row := [i 38 (.mv (r 0)), i 39 (.nilCheck (r 38)), i 40 (.fieldAddr 0 (r 39)), i 41 (.load none (r 40)), i 42 (.lenSlice (r 41)), i 4 (.mv (r 42)), i
  5 (.mv (.const (.bool false)))]
/-- (*diorama/dioramaref10.Tree).find -/
def A_ref10_Tree_find : AFunc :=
 ⟨43, [.tmp 4, .tmp 5], (.seq (.ops A_ref10_Tree_find_0) (.seq (.seq (.ops A_ref10_Tree_find_1) (.block 0 (.loop A_ref10_Tree_find_6))) (.seq (.ops A_ref10_Tree_find_7)
  .ret)))⟩
/-! diorama/dioramaref07.Node -/
def A_ref07_Node_0 : Row := [i 1 (.box (r 0)), i 2 (.mv (.const (.bool false)))]
def A_ref07_Node_1 : Row := [i 3 (.load (some 2) (r 1)), i 4 (.call (.func F_ref02_Right) [.tmp 3]), i 5 (.mv (r 4)), g 6 (.fieldAddr 0 (r 1)) 5 true, g 7 (.load none (r 6)) 5
  true, g 8 (.bin (.geq) (r 7) (.const (.int (.i64) 1))) 5 true, i 9 (.pick (r 5) (r 8) (.const (.bool false))), i 2 (.mv (r 9))]
/-- diorama/dioramaref07.Node -/
def A_ref07_Node : AFunc :=
 ⟨10, [.tmp 2], (.seq (.ops A_ref07_Node_0) (.seq (.ops A_ref07_Node_1) .ret))⟩
/-! diorama/dioramaref10.Right -/
def A_ref10_Right_0 : Row := [i 1 (.box (r 0)), i 2 (.mv (.const (.bool false)))]
def A_ref10_Right_1 : Row := [i 3 (.fieldAddr 0 (r 1)), i 4 (.load (some 2) (r 3)), i 5 (.call (.func F_ref07_Place) [.tmp 4]), i 6 (.mv (r 5)), g 7 (.fieldAddr 2 (r 1)) 6
  true, g 8 (.load none (r 7)) 6 true, g 9 (.call (.func F_ref04_Right) [.tmp 8]) 6 true, i 10 (.pick (r 6) (r 9) (.const (.bool false))), i 2 (.mv (r 10))]
/-- diorama/dioramaref10.Right -/
def A_ref10_Right : AFunc :=
 ⟨11, [.tmp 2], (.seq (.ops A_ref10_Right_0) (.seq (.ops A_ref10_Right_1) .ret))⟩
/-! diorama/dioramaref07.Root -/
def A_ref07_Root_0 : Row := [i 0 (.alloc [.int (.i64) 0, .int (.i64) 0])]
def A_ref07_Root_1 : Row := [i 1 (.build [.int (.i64) 0, .int (.i64) 0] []), i0 (.store 2 (r 0) (r 1))]
/-- diorama/dioramaref07.Root -/
def A_ref07_Root : AFunc :=
 ⟨2, [.cell 0 (some 2)], (.seq (.ops A_ref07_Root_0) (.seq (.ops A_ref07_Root_1) .ret))⟩
/-! diorama/dioramaref07.Trash -/
def A_ref07_Trash_0 : Row := [i 0 (.alloc [.int (.i64) 0, .int (.i64) 0])]
def A_ref07_Trash_1 : Row := [i 1 (.build [.int (.i64) 0, .int (.i64) 0] [(1, 1, .const (.int (.i64) 1))]), i0 (.store 2 (r 0) (r 1))]
/-- diorama/dioramaref07.Trash -/
def A_ref07_Trash : AFunc :=
 ⟨2, [.cell 0 (some 2)], (.seq (.ops A_ref07_Trash_0) (.seq (.ops A_ref07_Trash_1) .ret))⟩
/-! (*diorama/graph.Graph).next -/
def A_graph_Graph_next_0 : Row := [i 4 (.box (r 1)), i 6 (.mv (.const (.slice none 0 (.exact 0))))]
def A_graph_Graph_next_1 : Row := [i 12 (.mv (r 0)), i 13 (.nilCheck (r 12)), i 14 (.fieldAddr 1 (r 13)), i 15 (.load none (r 14)), i 16 (.load (some 2) (r 4)), i 7 (.alloc
  [.int (.i64) 0, .int (.i64) 0, .str []]), ⟨a 17 (.call (.func F_tree_Tree_Spot) [.tmp 15, .tmp 16]), [a 7 (.alloc [.int (.i64) 0, .int (.i64) 0, .str []])]⟩, i 11 (.mv
  (r 17)), i 18 (.extract (r 11) 0), i 19 (.extract (r 11) 1), i0 (.store 3 (r 7) (r 18)), i 8 (.mv (r 19))]
def A_graph_Graph_next_2 : Row := [i 20 (.mv (r 2)), i 21 (.mv (r 20)), g 22 (.mv (r 8)) 21 true, i 23 (.pick (r 21) (r 22) (.const (.bool false)))]
def A_graph_Graph_next_3 : Row := [i 24 (.mv (r 6)), i 25 (.fieldAddr 0 (r 7)), i 26 (.load (some 2) (r 25)), i 27 (.buildSlice 1 [.int (.i64) 0, .int (.i64) 0] [(0, 2, .tmp
  26)]), i 28 (.append 2 16 (r 24) (r 27)), i 6 (.mv (r 28))]
def A_graph_Graph_next_4 : Row := [i 29 (.mv (r 2)), i 30 (.un (.not) (r 29))]
def A_graph_Graph_next_5 : Row := [i 31 (.mv (r 0)), i 32 (.nilCheck (r 31)), i 33 (.fieldAddr 1 (r 32)), i 34 (.load none (r 33)), i 35 (.load (some 2) (r 4)), i 36 (.call
  (.func F_tree_Tree_Below) [.tmp 34, .tmp 35]), i 6 (.mv (r 36))]
def A_graph_Graph_next_6 : Row := [i 38 (.mv (r 0)), i 39 (.nilCheck (r 38)), i 40 (.fieldAddr 2 (r 39)), i 41 (.load none (r 40)), i 42 (.load (some 2) (r 4)), i 43 (.lookup
  ⟨true, [.int (.i64), .int (.i64)]⟩ (.agg [.int (.i64) 0, .int (.i64) 0]) true (r 41) (r 42)), i 37 (.mv (r 43)), i 44 (.extract (r 37) 0), i 45 (.extract (r 37) 1), i 9
  (.alloc [.int (.i64) 0, .int (.i64) 0]), i0 (.store 2 (r 9) (r 44)), i 10 (.mv (r 45))]
def A_graph_Graph_next_7 : Row := [i 46 (.mv (r 10))]
def A_graph_Graph_next_8 : Row := [i 47 (.mv (r 6)), i 48 (.load (some 2) (r 9)), i 49 (.buildSlice 1 [.int (.i64) 0, .int (.i64) 0] [(0, 2, .tmp 48)]), i 50 (.append 2 16 (r
  47) (r 49)), i 6 (.mv (r 50))]
def A_graph_Graph_next_9 : Row := [i 51 (.mv (r 6)), i 6 (.mv (r 51))]
/-- (*diorama/graph.Graph).next -/
def A_graph_Graph_next : AFunc :=
 ⟨52, [.tmp 6], (.seq (.ops A_graph_Graph_next_0) (.seq (.seq (.ops A_graph_Graph_next_1) (.seq (.ops A_graph_Graph_next_2) (.cond (r 23) (.ops A_graph_Graph_next_3) (.seq
  (.ops A_graph_Graph_next_4) (.cond (r 30) (.ops A_graph_Graph_next_5) .skip))))) (.seq (.seq (.ops A_graph_Graph_next_6) (.seq (.ops A_graph_Graph_next_7) (.cond (r 46)
  (.ops A_graph_Graph_next_8) .skip))) (.seq (.ops A_graph_Graph_next_9) .ret))))⟩
/-! diorama/op.parts -/
def A_op_parts_0 : Row := [i 2 (.mv (.const (.bool false))), i 3 (.mv (.const (.bool false))), i 4 (.mv (.const (.bool false))), i 5 (.mv (.const (.bool false))), i 6 (.mv
  (.const (.bool false))), i 7 (.mv (.const (.bool false)))]
def A_op_parts_1 : Row := [i 8 (.mv (r 0))]
def A_op_parts_2 : Row := [i 10 (.bin (.eql) (r 8) (.const (.int (.i64) 2))), i 9 (.mv (r 10))]
def A_op_parts_3 : Row := [i 12 (.bin (.eql) (r 8) (.const (.int (.i64) 1))), i 11 (.mv (r 12))]
def A_op_parts_4 : Row := [i 14 (.bin (.eql) (r 8) (.const (.int (.i64) 6))), i 13 (.mv (r 14))]
def A_op_parts_5 : Row := [i 16 (.bin (.eql) (r 8) (.const (.int (.i64) 3))), i 15 (.mv (r 16))]
def A_op_parts_6 : Row := [i 18 (.bin (.eql) (r 8) (.const (.int (.i64) 4))), i 17 (.mv (r 18))]
def A_op_parts_7 : Row := [i 20 (.bin (.eql) (r 8) (.const (.int (.i64) 5))), i 19 (.mv (r 20))]
def A_op_parts_8 : Row := [i 2 (.mv (.const (.bool true)))]
def A_op_parts_9 : Row := [i 3 (.mv (.const (.bool true))), i 4 (.mv (.const (.bool true)))]
def A_op_parts_10 : Row := [i 5 (.mv (.const (.bool true)))]
def A_op_parts_11 : Row := [i 2 (.mv (.const (.bool true))), i 6 (.mv (.const (.bool true)))]
def A_op_parts_12 : Row := [i 2 (.mv (.const (.bool true))), i 7 (.mv (.const (.bool true)))]
def A_op_parts_13 : Row := [i 2 (.mv (.const (.bool true))), i 3 (.mv (.const (.bool true)))]
def A_op_parts_14 : Row := [i 21 (.mv (r 2)), i 22 (.mv (r 3)), i 23 (.mv (r 4)), i 24 (.mv (r 5)), i 25 (.mv (r 6)), i 26 (.mv (r 7)), i 2 (.mv (r 21)), i 3 (.mv (r 22)), i 4
  (.mv (r 23)), i 5 (.mv (r 24)), i 6 (.mv (r 25)), i 7 (.mv (r 26))]
/-- diorama/op.parts -/
def A_op_parts : AFunc :=
 ⟨27, [.tmp 2, .tmp 3, .tmp 4, .tmp 5, .tmp 6, .tmp 7], (.seq (.ops A_op_parts_0) (.seq (.seq (.ops A_op_parts_1) (.block 0 (.seq (.block 6 (.seq (.block 5 (.seq (.block 4
  (.seq (.block 3 (.seq (.block 2 (.seq (.block 1 (.seq (.seq (.seq (.ops A_op_parts_2) (.cond (r 9) (.exit 1) .skip)) (.seq (.seq (.ops A_op_parts_3) (.cond (r 11) (.exit
  2) .skip)) (.seq (.seq (.ops A_op_parts_4) (.cond (r 13) (.exit 3) .skip)) (.seq (.seq (.ops A_op_parts_5) (.cond (r 15) (.exit 4) .skip)) (.seq (.seq (.ops
  A_op_parts_6) (.cond (r 17) (.exit 5) .skip)) (.seq (.ops A_op_parts_7) (.cond (r 19) (.exit 6) .skip))))))) (.exit 0))) (.ops A_op_parts_8))) (.seq (.ops A_op_parts_9)
  (.exit 0)))) (.ops A_op_parts_10))) (.seq (.ops A_op_parts_11) (.exit 0)))) (.seq (.ops A_op_parts_12) (.exit 0)))) (.seq (.ops A_op_parts_13) (.exit 0))))) (.seq (.ops
  A_op_parts_14) .ret)))⟩
/-! diorama/op.Right$1 -/
def A_op_Right_c1_0 : Row := [i 6 (.mv (.const (.bool false)))]
def A_op_Right_c1_1 : Row := [i 7 (.mv (r 0)), i 8 (.mv (r 7)), g 9 (.mv (r 2)) 8 true, i 10 (.pick (r 8) (r 9) (.const (.bool false))), i 11 (.mv (r 10)), g 12 (.mv (r 0)) 11
  false, g 13 (.un (.not) (r 12)) 11 false, g 14 (.mv (r 13)) 11 false, g 15 (.mv (r 1)) 14 true, g 16 (.pick (r 14) (r 15) (.const (.bool false))) 11 false, i 17 (.pick
  (r 11) (.const (.bool true)) (r 16)), i 6 (.mv (r 17))]
/-- diorama/op.Right$1 -/
def A_op_Right_c1 : AFunc :=
 ⟨18, [.tmp 6], (.seq (.ops A_op_Right_c1_0) (.seq (.ops A_op_Right_c1_1) .ret))⟩
/-! slices.ContainsFunc[[]diorama/api.Stamp,diorama/api.Stamp] -/
def A_slices_ContainsFunc_Stamp_0 : Row := [i 4 (.mv (.const (.bool false)))]
def A_slices_ContainsFunc_Stamp_1 : Row := [i 5 (.mv (r 0)), i 6 (.mv (r 1)), i 7 (.call (.func F_slices_IndexFunc_Stamp) [.tmp 5, .tmp 6]), i 8 (.bin (.geq) (r 7) (.const
  (.int (.i64) 0))), i 4 (.mv (r 8))]
/-- slices.ContainsFunc[[]diorama/api.Stamp,diorama/api.Stamp] -/
def A_slices_ContainsFunc_Stamp : AFunc :=
 ⟨9, [.tmp 4], (.seq (.ops A_slices_ContainsFunc_Stamp_0) (.seq (.ops A_slices_ContainsFunc_Stamp_1) .ret))⟩
/-! diorama/op.Right$2 -/
def A_op_Right_c2_0 : Row := [i 1 (.box (r 0)), i 2 (.mv (.const (.bool false)))]
def A_op_Right_c2_1 : Row := [i 3 (.load (some 2) (r 1)), i 4 (.call (.func F_op_Node) [.tmp 3]), i 5 (.un (.not) (r 4)), i 2 (.mv (r 5))]
/-- diorama/op.Right$2 -/
def A_op_Right_c2 : AFunc :=
 ⟨6, [.tmp 2], (.seq (.ops A_op_Right_c2_0) (.seq (.ops A_op_Right_c2_1) .ret))⟩
/-! diorama/value.Right8 -/
def A_value_Right8_0 : Row := [i 3 (.box (r 1)), i 4 (.mv (.const (.bool false)))]
def A_value_Right8_1 : Row := [i 5 (.mv (.const (.int (.i64) 0)))]
def A_value_Right8_2 : Row := [i 6 (.mv (r 0))]
def A_value_Right8_3 : Row := [i 8 (.bin (.eql) (r 6) (.const (.int (.i64) 1))), i 7 (.mv (r 8))]
def A_value_Right8_4 : Row := [i 9 (.bin (.eql) (r 6) (.const (.int (.i64) 2))), i 7 (.mv (r 9))]
def A_value_Right8_5 : Row := [i 5 (.mv (.const (.int (.i64) 4)))]
def A_value_Right8_6 : Row := [i 11 (.bin (.eql) (r 6) (.const (.int (.i64) 3))), i 10 (.mv (r 11))]
def A_value_Right8_7 : Row := [i 5 (.mv (.const (.int (.i64) 3)))]
def A_value_Right8_8 : Row := [i 13 (.bin (.eql) (r 6) (.const (.int (.i64) 4))), i 12 (.mv (r 13))]
def A_value_Right8_9 : Row := [i 14 (.bin (.eql) (r 6) (.const (.int (.i64) 5))), i 12 (.mv (r 14))]
def A_value_Right8_10 : Row := [i 15 (.bin (.eql) (r 6) (.const (.int (.i64) 6))), i 12 (.mv (r 15))]
def A_value_Right8_11 : Row := [i 16 (.bin (.eql) (r 6) (.const (.int (.i64) 7))), i 12 (.mv (r 16))]
def A_value_Right8_12 : Row := [i 5 (.mv (.const (.int (.i64) 2)))]
def A_value_Right8_13 : Row := [i 18 (.bin (.eql) (r 6) (.const (.int (.i64) 8))), i 17 (.mv (r 18))]
def A_value_Right8_14 : Row := [i 5 (.mv (.const (.int (.i64) 1)))]
def A_value_Right8_15 : Row := [i 4 (.mv (.const (.bool false)))]
def A_value_Right8_16 : Row := [i 19 (.load (some 3) (r 3)), i 20 (.call (.func F_value_Right) [.tmp 19]), i 21 (.mv (r 20)), g 22 (.fieldAddr 0 (r 3)) 21 true, g 23 (.load
  none (r 22)) 21 true, g 24 (.bin (.eql) (r 23) (.const (.int (.i64) 0))) 21 true, g 25 (.mv (r 24)) 21 true, g 26 (.fieldAddr 0 (r 3)) 25 false, g 27 (.load none (r 26))
  25 false, g 28 (.mv (r 5)) 25 false, g 29 (.bin (.eql) (r 27) (r 28)) 25 false, g 30 (.pick (r 25) (.const (.bool true)) (r 29)) 21 true, i 31 (.pick (r 21) (r 30)
  (.const (.bool false))), i 4 (.mv (r 31))]
/-- diorama/value.Right8 -/
def A_value_Right8 : AFunc :=
 ⟨32, [.tmp 4], (.seq (.ops A_value_Right8_0) (.seq (.ops A_value_Right8_1) (.seq (.seq (.ops A_value_Right8_2) (.block 0 (.seq (.seq (.ops A_value_Right8_3) (.cond (r 7)
  .skip (.ops A_value_Right8_4))) (.cond (r 7) (.ops A_value_Right8_5) (.seq (.ops A_value_Right8_6) (.cond (r 10) (.ops A_value_Right8_7) (.seq (.seq (.ops
  A_value_Right8_8) (.cond (r 12) .skip (.seq (.ops A_value_Right8_9) (.cond (r 12) .skip (.seq (.ops A_value_Right8_10) (.cond (r 12) .skip (.ops A_value_Right8_11)))))))
  (.cond (r 12) (.ops A_value_Right8_12) (.seq (.ops A_value_Right8_13) (.cond (r 17) (.ops A_value_Right8_14) (.seq (.ops A_value_Right8_15) .ret))))))))))) (.seq (.ops
  A_value_Right8_16) .ret))))⟩
/-! slices.BinarySearchFunc[[]diorama/graph.entry,diorama/graph.entry,diorama/api.Stamp] -/
def A_slices_BinarySearchFunc_entry_Stamp_0 : Row := [i 4 (.box (r 1)), i 6 (.mv (.const (.int (.i64) 0))), i 7 (.mv (.const (.bool false)))]
def A_slices_BinarySearchFunc_entry_Stamp_1 : Row := [i 12 (.mv (r 0)), i 13 (.lenSlice (r 12)), i 8 (.mv (r 13))]
def A_slices_BinarySearchFunc_entry_Stamp_2 : Row := [i 14 (.mv (r 8)), i 9 (.mv (.const (.int (.i64) 0))), i 10 (.mv (r 14))]
def A_slices_BinarySearchFunc_entry_Stamp_3 : Row := [i 15 (.mv (r 9)), i 16 (.mv (r 10)), i 17 (.bin (.lss) (r 15) (r 16))]
def A_slices_BinarySearchFunc_entry_Stamp_4 : Row := [i 18 (.mv (r 9)), i 19 (.mv (r 10)), i 20 (.bin (.add) (r 18) (r 19)), i 21 (.convInt (.u64) (r 20)), i 22 (.bin (.shr)
  (r 21) (.const (.int (.u64) 1))), i 23 (.convInt (.i64) (r 22)), i 11 (.mv (r 23))]
def A_slices_BinarySearchFunc_entry_Stamp_5 : Row := [i 24 (.mv (r 2)), i 25 (.mv (r 0)), i 26 (.mv (r 11)), i 27 (.indexAddr 16 (r 25) (r 26)), i 28 (.load (some 16) (r 27)),
  i 29 (.load (some 2) (r 4)), i 30 (.call (r 24) [.tmp 28, .tmp 29]), i 31 (.bin (.lss) (r 30) (.const (.int (.i64) 0)))]
def A_slices_BinarySearchFunc_entry_Stamp_6 : Row := [i 32 (.mv (r 11)), i 33 (.bin (.add) (r 32) (.const (.int (.i64) 1))), i 9 (.mv (r 33))]
def A_slices_BinarySearchFunc_entry_Stamp_7 : Row := [i 34 (.mv (r 11)), i 10 (.mv (r 34))]
def A_slices_BinarySearchFunc_entry_Stamp_8 : ACode := (.seq (.seq (.ops A_slices_BinarySearchFunc_entry_Stamp_3) (.cond (r 17) .skip (.exit 0))) (.block 1 (.seq (.ops
  A_slices_BinarySearchFunc_entry_Stamp_4) (.seq (.ops A_slices_BinarySearchFunc_entry_Stamp_5) (.cond (r 31) (.ops A_slices_BinarySearchFunc_entry_Stamp_6) (.ops
  A_slices_BinarySearchFunc_entry_Stamp_7))))))
def A_slices_BinarySearchFunc_entry_Stamp_9 : Row := [i 35 (.mv (r 9)), i 36 (.mv (r 9)), i 37 (.mv (r 8)), i 38 (.bin (.lss) (r 36) (r 37)), i 39 (.mv (r 38)), g 40 (.mv (r
  2)) 39 true, g 41 (.mv (r 0)) 39 true, g 42 (.mv (r 9)) 39 true, g 43 (.indexAddr 16 (r 41) (r 42)) 39 true, g 44 (.load (some 16) (r 43)) 39 true, g 45 (.load (some 2)
  (r 4)) 39 true, g 46 (.call (r 40) [.tmp 44, .tmp 45]) 39 true, g 47 (.bin (.eql) (r 46) (.const (.int (.i64) 0))) 39 true, i 48 (.pick (r 39) (r 47) (.const (.bool
  false))), i 6 (.mv (r 35)), i 7 (.mv (r 48))]
/-- slices.BinarySearchFunc[[]diorama/graph.entry,diorama/graph.entry,diorama/api.Stamp] -/
def A_slices_BinarySearchFunc_entry_Stamp : AFunc :=
 ⟨49, [.tmp 6, .tmp 7], (.seq (.ops A_slices_BinarySearchFunc_entry_Stamp_0) (.seq (.ops A_slices_BinarySearchFunc_entry_Stamp_1) (.seq (.ops
  A_slices_BinarySearchFunc_entry_Stamp_2) (.seq (.block 0 (.loop A_slices_BinarySearchFunc_entry_Stamp_8)) (.seq (.ops A_slices_BinarySearchFunc_entry_Stamp_9) .ret)))))⟩
/-! (*diorama/graph.Graph).place$1 -/
def A_graph_Graph_place_c1_0 : Row := [i 2 (.box (r 0)), i 3 (.box (r 1)), i 4 (.mv (.const (.int (.i64) 0)))]
def A_graph_Graph_place_c1_1 : Row := [i 5 (.fieldAddr 0 (r 2)), i 6 (.load (some 2) (r 5)), i 7 (.load (some 2) (r 3)), i 8 (.call (.func F_stamp_Compare) [.tmp 6, .tmp 7]),
  i 4 (.mv (r 8))]
/-- (*diorama/graph.Graph).place$1 -/
def A_graph_Graph_place_c1 : AFunc :=
 ⟨9, [.tmp 4], (.seq (.ops A_graph_Graph_place_c1_0) (.seq (.ops A_graph_Graph_place_c1_1) .ret))⟩
/-! (*diorama/graph.entry).do$1 -/
def A_graph_entry_do_c1_0 : Row := [i 5 (.mv (r 0)), i 6 (.load (some 2) (r 2)), i 7 (.call (.func F_tree_Tree_Drop) [.tmp 5, .tmp 6])]
/-- (*diorama/graph.entry).do$1 -/
def A_graph_entry_do_c1 : AFunc :=
 ⟨8, [], (.ops A_graph_entry_do_c1_0)⟩
/-! (*diorama/graph.entry).do$2 -/
def A_graph_entry_do_c2_0 : Row := [i 6 (.mv (r 0)), i 7 (.fieldAddr 1 (r 2)), i 8 (.load (some 2) (r 7)), i 9 (.load (some 3) (r 3)), i 10 (.call (.func F_tree_Tree_Move)
  [.tmp 6, .tmp 8, .tmp 9])]
/-- (*diorama/graph.entry).do$2 -/
def A_graph_entry_do_c2 : AFunc :=
 ⟨11, [], (.ops A_graph_entry_do_c2_0)⟩
/-! (*diorama/graph.Graph).ring -/
def A_graph_Graph_ring_0 : Row := [i 3 (.box (r 1)), i 4 (.mv (.const (.bool false)))]
def A_graph_Graph_ring_1 : Row := [i 9 (.buildSlice 2 [.bool false, .bool false] [(0, 1, .const (.bool true)), (1, 1, .const (.bool false))]), i 10 (.lenSlice (r 9)), i 11
  (.mv (.const (.int (.i64) 0)))]
def A_graph_Graph_ring_2 : Row := [i 12 (.bin (.lss) (r 11) (r 10))]
def A_graph_Graph_ring_3 : Row := [i 13 (.indexAddr 1 (r 9) (r 11)), i 14 (.load none (r 13)), i 6 (.mv (r 14))]
def A_graph_Graph_ring_4 : Row := [i 15 (.mv (r 0)), i 16 (.load (some 2) (r 3)), i 17 (.mv (r 6)), i 18 (.call (.func F_graph_Graph_next) [.tmp 15, .tmp 16, .tmp 17]), i 19
  (.lenSlice (r 18)), i 20 (.mv (.const (.int (.i64) 0)))]
def A_graph_Graph_ring_5 : Row := [i 21 (.bin (.lss) (r 20) (r 19))]
def A_graph_Graph_ring_6 : Row := [i 22 (.indexAddr 2 (r 18) (r 20)), i 23 (.load (some 2) (r 22)), i 8 (.alloc [.int (.i64) 0, .int (.i64) 0]), i0 (.store 2 (r 8) (r 23))]
def A_graph_Graph_ring_7 : Row := [i 24 (.mv (r 0)), i 25 (.load (some 2) (r 8)), i 26 (.load (some 2) (r 3)), i 27 (.mv (r 6)), i 28 (.call (.func F_graph_Graph_Reaches)
  [.tmp 24, .tmp 25, .tmp 26, .tmp 27])]
def A_graph_Graph_ring_8 : Row := [i 4 (.mv (.const (.bool true)))]
def A_graph_Graph_ring_9 : Row := [i 29 (.bin (.add) (r 20) (.const (.int (.i64) 1))), i 20 (.mv (r 29))]
def A_graph_Graph_ring_10 : ACode := (.seq (.ops A_graph_Graph_ring_5) (.seq (.cond (r 21) .skip (.exit 2)) (.seq (.block 3 (.seq (.ops A_graph_Graph_ring_6) (.seq (.ops
  A_graph_Graph_ring_7) (.cond (r 28) (.seq (.ops A_graph_Graph_ring_8) .ret) .skip)))) (.ops A_graph_Graph_ring_9))))
def A_graph_Graph_ring_11 : Row := [i 30 (.bin (.add) (r 11) (.const (.int (.i64) 1))), i 11 (.mv (r 30))]
def A_graph_Graph_ring_12 : ACode := (.seq (.ops A_graph_Graph_ring_2) (.seq (.cond (r 12) .skip (.exit 0)) (.seq (.block 1 (.seq (.ops A_graph_Graph_ring_3) (.seq (.ops
  A_graph_Graph_ring_4) (.block 2 (.loop A_graph_Graph_ring_10))))) (.ops A_graph_Graph_ring_11))))
def A_graph_Graph_ring_13 : Row := [i 4 (.mv (.const (.bool false)))]
/-- (*diorama/graph.Graph).ring -/
def A_graph_Graph_ring : AFunc :=
 ⟨31, [.tmp 4], (.seq (.ops A_graph_Graph_ring_0) (.seq (.seq (.ops A_graph_Graph_ring_1) (.block 0 (.loop A_graph_Graph_ring_12))) (.seq (.ops A_graph_Graph_ring_13)
  .ret)))⟩
/-! (*diorama/graph.Graph).link -/
def A_graph_Graph_link_0 : Row := [i 5 (.box (r 1)), i 6 (.box (r 2)), i 8 (.mv (.const (.nilFn)))]
def A_graph_Graph_link_1 : Row := [i 12 (.mv (r 0)), i 13 (.nilCheck (r 12)), i 14 (.fieldAddr 2 (r 13)), i 15 (.load none (r 14)), i 16 (.load (some 2) (r 5)), i 17 (.lookup
  ⟨true, [.int (.i64), .int (.i64)]⟩ (.agg [.int (.i64) 0, .int (.i64) 0]) true (r 15) (r 16)), i 11 (.mv (r 17)), i 18 (.extract (r 11) 0), i 19 (.extract (r 11) 1), i 9
  (.alloc [.int (.i64) 0, .int (.i64) 0]), i 10 (.alloc [.bool false]), i0 (.store 2 (r 9) (r 18)), i0 (.store 1 (r 10) (r 19))]
def A_graph_Graph_link_2 : Row := [i 20 (.mv (r 0)), i 21 (.nilCheck (r 20)), i 22 (.fieldAddr 2 (r 21)), i 23 (.load none (r 22)), i 24 (.load (some 2) (r 5)), i0 (.delete
  ⟨true, [.int (.i64), .int (.i64)]⟩ (r 23) (r 24))]
def A_graph_Graph_link_3 : Row := [i 25 (.mv (r 3))]
def A_graph_Graph_link_4 : Row := [i 26 (.mv (r 0)), i 27 (.nilCheck (r 26)), i 28 (.fieldAddr 2 (r 27)), i 29 (.load none (r 28)), i 30 (.load (some 2) (r 5)), i 31 (.load
  (some 2) (r 6)), i0 (.mapUpdate ⟨true, [.int (.i64), .int (.i64)]⟩ (r 29) (r 30) (r 31))]
def A_graph_Graph_link_5 : Row := [i 32 (.makeFunc F_graph_Graph_link_c1 [] [.tmp 5, .tmp 10, .tmp 9]), i 8 (.mv (r 32))]
/-- (*diorama/graph.Graph).link -/
def A_graph_Graph_link : AFunc :=
 ⟨33, [.tmp 8], (.seq (.ops A_graph_Graph_link_0) (.seq (.ops A_graph_Graph_link_1) (.seq (.seq (.ops A_graph_Graph_link_2) (.seq (.ops A_graph_Graph_link_3) (.cond (r 25)
  (.ops A_graph_Graph_link_4) .skip))) (.seq (.ops A_graph_Graph_link_5) .ret))))⟩
/-! diorama/dioramaref02.Compare -/
def A_ref02_Compare_0 : Row := [i 2 (.box (r 0)), i 3 (.box (r 1)), i 4 (.mv (.const (.int (.i64) 0)))]
def A_ref02_Compare_1 : Row := [i 7 (.fieldAddr 0 (r 2)), i 8 (.load none (r 7)), i 5 (.mv (r 8))]
def A_ref02_Compare_2 : Row := [i 9 (.fieldAddr 0 (r 3)), i 10 (.load none (r 9)), i 6 (.mv (r 10))]
def A_ref02_Compare_3 : Row := [i 11 (.mv (r 5)), i 12 (.mv (r 6)), i 13 (.bin (.eql) (r 11) (r 12))]
def A_ref02_Compare_4 : Row := [i 14 (.fieldAddr 1 (r 2)), i 15 (.load none (r 14)), i 5 (.mv (r 15))]
def A_ref02_Compare_5 : Row := [i 16 (.fieldAddr 1 (r 3)), i 17 (.load none (r 16)), i 6 (.mv (r 17))]
def A_ref02_Compare_6 : Row := [i 18 (.mv (r 5)), i 19 (.mv (r 6)), i 20 (.bin (.lss) (r 18) (r 19))]
def A_ref02_Compare_7 : Row := [i 4 (.mv (.const (.int (.i64) (-1))))]
def A_ref02_Compare_8 : Row := [i 21 (.mv (r 5)), i 22 (.mv (r 6)), i 23 (.bin (.gtr) (r 21) (r 22))]
def A_ref02_Compare_9 : Row := [i 4 (.mv (.const (.int (.i64) 1)))]
def A_ref02_Compare_10 : Row := [i 4 (.mv (.const (.int (.i64) 0)))]
/-- diorama/dioramaref02.Compare -/
def A_ref02_Compare : AFunc :=
 ⟨24, [.tmp 4], (.seq (.ops A_ref02_Compare_0) (.seq (.ops A_ref02_Compare_1) (.seq (.ops A_ref02_Compare_2) (.seq (.seq (.ops A_ref02_Compare_3) (.cond (r 13) (.seq (.ops
  A_ref02_Compare_4) (.ops A_ref02_Compare_5)) .skip)) (.seq (.seq (.ops A_ref02_Compare_6) (.cond (r 20) (.seq (.ops A_ref02_Compare_7) .ret) .skip)) (.seq (.seq (.ops
  A_ref02_Compare_8) (.cond (r 23) (.seq (.ops A_ref02_Compare_9) .ret) .skip)) (.seq (.ops A_ref02_Compare_10) .ret)))))))⟩
/-! diorama/dioramaref02.Right -/
def A_ref02_Right_0 : Row := [i 1 (.box (r 0)), i 2 (.mv (.const (.bool false)))]
def A_ref02_Right_1 : Row := [i 3 (.fieldAddr 0 (r 1)), i 4 (.load none (r 3)), i 5 (.bin (.geq) (r 4) (.const (.int (.i64) 0))), i 6 (.mv (r 5)), g 7 (.fieldAddr 0 (r 1)) 6
  true, g 8 (.load none (r 7)) 6 true, g 9 (.bin (.leq) (r 8) (.const (.int (.i64) 1099511627776))) 6 true, i 10 (.pick (r 6) (r 9) (.const (.bool false))), i 11 (.mv (r
  10)), g 12 (.fieldAddr 1 (r 1)) 11 true, g 13 (.load none (r 12)) 11 true, g 14 (.bin (.geq) (r 13) (.const (.int (.i64) 0))) 11 true, i 15 (.pick (r 11) (r 14) (.const
  (.bool false))), i 16 (.mv (r 15)), g 17 (.fieldAddr 1 (r 1)) 16 true, g 18 (.load none (r 17)) 16 true, g 19 (.bin (.lss) (r 18) (.const (.int (.i64) 16))) 16 true, i
  20 (.pick (r 16) (r 19) (.const (.bool false))), i 2 (.mv (r 20))]
/-- diorama/dioramaref02.Right -/
def A_ref02_Right : AFunc :=
 ⟨21, [.tmp 2], (.seq (.ops A_ref02_Right_0) (.seq (.ops A_ref02_Right_1) .ret))⟩
/-! diorama/dioramaref07.Place -/
def A_ref07_Place_0 : Row := [i 1 (.box (r 0)), i 2 (.mv (.const (.bool false)))]
def A_ref07_Place_1 : Row := [i 3 (.load (some 2) (r 1)), i 4 (.call (.func F_ref07_Node) [.tmp 3]), i 5 (.mv (r 4)), g 6 (.load (some 2) (r 1)) 5 false, ⟨⟨(some 7), .call
  (.func F_ref07_Root) [], (some (5, false))⟩, [⟨(some 6), .load (some 2) (r 1), (some (5, false))⟩]⟩, g 8 (.eq false ⟨true, [.int (.i64), .int (.i64)]⟩ (r 6) (r 7)) 5
  false, i 9 (.pick (r 5) (.const (.bool true)) (r 8)), i 10 (.mv (r 9)), g 11 (.load (some 2) (r 1)) 10 false, ⟨⟨(some 12), .call (.func F_ref07_Trash) [], (some (10,
  false))⟩, [⟨(some 11), .load (some 2) (r 1), (some (10, false))⟩]⟩, g 13 (.eq false ⟨true, [.int (.i64), .int (.i64)]⟩ (r 11) (r 12)) 10 false, i 14 (.pick (r 10)
  (.const (.bool true)) (r 13)), i 2 (.mv (r 14))]
/-- diorama/dioramaref07.Place -/
def A_ref07_Place : AFunc :=
 ⟨15, [.tmp 2], (.seq (.ops A_ref07_Place_0) (.seq (.ops A_ref07_Place_1) .ret))⟩
/-! diorama/dioramaref04.Right -/
def A_ref04_Right_0 : Row := [i 2 (.mv (.const (.bool false)))]
def A_ref04_Right_1 : Row := [i 3 (.mv (r 0)), i 4 (.lenStr (r 3)), i 5 (.bin (.geq) (r 4) (.const (.int (.i64) 1))), i 6 (.mv (r 5)), g 7 (.mv (r 0)) 6 true, g 8 (.lenStr (r
  7)) 6 true, g 9 (.bin (.leq) (r 8) (.const (.int (.i64) 24))) 6 true, i 10 (.pick (r 6) (r 9) (.const (.bool false))), i 11 (.mv (r 10)), g 12 (.mv (r 0)) 11 true, g 13
  (.mv (r 0)) 11 true, g 14 (.lenStr (r 13)) 11 true, g 15 (.bin (.sub) (r 14) (.const (.int (.i64) 1))) 11 true, g 16 (.indexStr (r 12) (r 15)) 11 true, g 17 (.bin (.neq)
  (r 16) (.const (.int (.u8) 0))) 11 true, i 18 (.pick (r 11) (r 17) (.const (.bool false))), i 2 (.mv (r 18))]
/-- diorama/dioramaref04.Right -/
def A_ref04_Right : AFunc :=
 ⟨19, [.tmp 2], (.seq (.ops A_ref04_Right_0) (.seq (.ops A_ref04_Right_1) .ret))⟩
/-! slices.IndexFunc[[]diorama/api.Stamp,diorama/api.Stamp] -/
def A_slices_IndexFunc_Stamp_0 : Row := [i 4 (.mv (.const (.int (.i64) 0)))]
def A_slices_IndexFunc_Stamp_1 : Row := [i 6 (.mv (r 0)), i 7 (.lenSlice (r 6)), i 8 (.mv (.const (.int (.i64) 0)))]
def A_slices_IndexFunc_Stamp_2 : Row := [i 9 (.bin (.lss) (r 8) (r 7))]
def A_slices_IndexFunc_Stamp_3 : Row := [i 10 (.mv (r 8)), i 5 (.mv (r 10))]
def A_slices_IndexFunc_Stamp_4 : Row := [i 11 (.mv (r 1)), i 12 (.mv (r 0)), i 13 (.mv (r 5)), i 14 (.indexAddr 2 (r 12) (r 13)), i 15 (.load (some 2) (r 14)), i 16 (.call (r
  11) [.tmp 15])]
def A_slices_IndexFunc_Stamp_5 : Row := [i 17 (.mv (r 5)), i 4 (.mv (r 17))]
def A_slices_IndexFunc_Stamp_6 : Row := [i 18 (.bin (.add) (r 8) (.const (.int (.i64) 1))), i 8 (.mv (r 18))]
def A_slices_IndexFunc_Stamp_7 : ACode := (.seq (.ops A_slices_IndexFunc_Stamp_2) (.seq (.cond (r 9) .skip (.exit 0)) (.seq (.block 1 (.seq (.ops A_slices_IndexFunc_Stamp_3)
  (.seq (.ops A_slices_IndexFunc_Stamp_4) (.cond (r 16) (.seq (.ops A_slices_IndexFunc_Stamp_5) .ret) .skip)))) (.ops A_slices_IndexFunc_Stamp_6))))
def A_slices_IndexFunc_Stamp_8 : Row := [i 4 (.mv (.const (.int (.i64) (-1))))]
/-- slices.IndexFunc[[]diorama/api.Stamp,diorama/api.Stamp] -/
def A_slices_IndexFunc_Stamp : AFunc :=
 ⟨19, [.tmp 4], (.seq (.ops A_slices_IndexFunc_Stamp_0) (.seq (.seq (.ops A_slices_IndexFunc_Stamp_1) (.block 0 (.loop A_slices_IndexFunc_Stamp_7))) (.seq (.ops
  A_slices_IndexFunc_Stamp_8) .ret)))⟩
/-! diorama/value.Right -/
def A_value_Right_0 : Row := [i 1 (.box (r 0)), i 2 (.mv (.const (.bool false)))]
def A_value_Right_1 : Row := [i 3 (.fieldAddr 0 (r 1)), i 4 (.load none (r 3))]
def A_value_Right_2 : Row := [i 6 (.bin (.eql) (r 4) (.const (.int (.i64) 0))), i 5 (.mv (r 6))]
def A_value_Right_3 : Row := [i 7 (.load (some 3) (r 1)), i 8 (.build [.int (.i64) 0, .int (.i64) 0, .str []] []), i 9 (.eq false ⟨true, [.int (.i64), .int (.i64), .str]⟩ (r
  7) (r 8)), i 2 (.mv (r 9))]
def A_value_Right_4 : Row := [i 11 (.bin (.eql) (r 4) (.const (.int (.i64) 1))), i 10 (.mv (r 11))]
def A_value_Right_5 : Row := [i 12 (.bin (.eql) (r 4) (.const (.int (.i64) 2))), i 10 (.mv (r 12))]
def A_value_Right_6 : Row := [i 13 (.fieldAddr 1 (r 1)), i 14 (.load none (r 13)), i 15 (.bin (.geq) (r 14) (.const (.int (.i64) (-1099511627776)))), i 16 (.mv (r 15)), g 17
  (.fieldAddr 1 (r 1)) 16 true, g 18 (.load none (r 17)) 16 true, g 19 (.bin (.leq) (r 18) (.const (.int (.i64) 1099511627776))) 16 true, i 20 (.pick (r 16) (r 19) (.const
  (.bool false))), i 21 (.mv (r 20)), g 22 (.fieldAddr 2 (r 1)) 21 true, g 23 (.load none (r 22)) 21 true, g 24 (.bin (.eql) (r 23) (.const (.str []))) 21 true, i 25
  (.pick (r 21) (r 24) (.const (.bool false))), i 2 (.mv (r 25))]
def A_value_Right_7 : Row := [i 27 (.bin (.eql) (r 4) (.const (.int (.i64) 3))), i 26 (.mv (r 27))]
def A_value_Right_8 : Row := [i 28 (.fieldAddr 1 (r 1)), i 29 (.load none (r 28)), i 30 (.bin (.eql) (r 29) (.const (.int (.i64) 0))), i 31 (.mv (r 30)), g 32 (.fieldAddr 2 (r
  1)) 31 true, g 33 (.load none (r 32)) 31 true, g 34 (.call (.func F_value_good) [.tmp 33]) 31 true, i 35 (.pick (r 31) (r 34) (.const (.bool false))), i 2 (.mv (r 35))]
def A_value_Right_9 : Row := [i 37 (.bin (.eql) (r 4) (.const (.int (.i64) 4))), i 36 (.mv (r 37))]
def A_value_Right_10 : Row := [i 38 (.fieldAddr 1 (r 1)), i 39 (.load none (r 38)), i 40 (.bin (.shr) (r 39) (.const (.int (.u64) 1))), i 41 (.bin (.eql) (r 40) (.const (.int
  (.i64) 0))), i 42 (.mv (r 41)), g 43 (.fieldAddr 2 (r 1)) 42 true, g 44 (.load none (r 43)) 42 true, g 45 (.bin (.eql) (r 44) (.const (.str []))) 42 true, i 46 (.pick (r
  42) (r 45) (.const (.bool false))), i 2 (.mv (r 46))]
def A_value_Right_11 : Row := [i 2 (.mv (.const (.bool false)))]
/-- diorama/value.Right -/
def A_value_Right : AFunc :=
 ⟨47, [.tmp 2], (.seq (.ops A_value_Right_0) (.seq (.seq (.ops A_value_Right_1) (.block 0 (.seq (.ops A_value_Right_2) (.cond (r 5) (.seq (.ops A_value_Right_3) .ret) (.seq
  (.seq (.ops A_value_Right_4) (.cond (r 10) .skip (.ops A_value_Right_5))) (.cond (r 10) (.seq (.ops A_value_Right_6) .ret) (.seq (.ops A_value_Right_7) (.cond (r 26)
  (.seq (.ops A_value_Right_8) .ret) (.seq (.ops A_value_Right_9) (.cond (r 36) (.seq (.ops A_value_Right_10) .ret) .skip)))))))))) (.seq (.ops A_value_Right_11) .ret)))⟩
/-! (*diorama/graph.Graph).link$1 -/
def A_graph_Graph_link_c1_0 : Row := [i 7 (.mv (r 1)), i 8 (.load (some 2) (r 2)), i0 (.delete ⟨true, [.int (.i64), .int (.i64)]⟩ (r 7) (r 8))]
def A_graph_Graph_link_c1_1 : Row := [i 9 (.load none (r 3))]
def A_graph_Graph_link_c1_2 : Row := [i 10 (.mv (r 1)), i 11 (.load (some 2) (r 2)), i 12 (.load (some 2) (r 4)), i0 (.mapUpdate ⟨true, [.int (.i64), .int (.i64)]⟩ (r 10) (r
  11) (r 12))]
/-- (*diorama/graph.Graph).link$1 -/
def A_graph_Graph_link_c1 : AFunc :=
 ⟨13, [], (.seq (.ops A_graph_Graph_link_c1_0) (.seq (.ops A_graph_Graph_link_c1_1) (.cond (r 9) (.ops A_graph_Graph_link_c1_2) .skip)))⟩
/-! diorama/value.good -/
def A_value_good_0 : Row := [i 2 (.mv (.const (.bool false)))]
def A_value_good_1 : Row := [i 5 (.mv (r 0)), i 6 (.strBytes (r 5)), i 7 (.lenSlice (r 6)), i 8 (.mv (.const (.int (.i64) 0)))]
def A_value_good_2 : Row := [i 9 (.bin (.lss) (r 8) (r 7))]
def A_value_good_3 : Row := [i 10 (.indexAddr 1 (r 6) (r 8)), i 11 (.load none (r 10)), i 4 (.mv (r 11))]
def A_value_good_4 : Row := [i 12 (.mv (r 4)), i 13 (.bin (.lss) (r 12) (.const (.int (.u8) 32))), i 14 (.mv (r 13)), g 15 (.mv (r 4)) 14 false, g 16 (.bin (.gtr) (r 15)
  (.const (.int (.u8) 126))) 14 false, i 17 (.pick (r 14) (.const (.bool true)) (r 16))]
def A_value_good_5 : Row := [i 2 (.mv (.const (.bool false)))]
def A_value_good_6 : Row := [i 18 (.bin (.add) (r 8) (.const (.int (.i64) 1))), i 8 (.mv (r 18))]
def A_value_good_7 : ACode := (.seq (.ops A_value_good_2) (.seq (.cond (r 9) .skip (.exit 0)) (.seq (.block 1 (.seq (.ops A_value_good_3) (.seq (.ops A_value_good_4) (.cond (r
  17) (.seq (.ops A_value_good_5) .ret) .skip)))) (.ops A_value_good_6))))
def A_value_good_8 : Row := [i 19 (.mv (r 0)), i 20 (.lenStr (r 19)), i 21 (.bin (.leq) (r 20) (.const (.int (.i64) 64))), i 2 (.mv (r 21))]
/-- diorama/value.good -/
def A_value_good : AFunc :=
 ⟨22, [.tmp 2], (.seq (.ops A_value_good_0) (.seq (.seq (.ops A_value_good_1) (.block 0 (.loop A_value_good_7))) (.seq (.ops A_value_good_8) .ret)))⟩
/-! (*diorama/tree.Tree).Above -/
def X_tree_Tree_Above_0 : List XItem := [⟨(some 3), .a (.box (r 1)), none⟩, ⟨(some 4), .a (.mv (.const (.slice none 0 (.exact 0)))), none⟩]
def X_tree_Tree_Above_1 : List XItem := [⟨(some 5), .a (.mv (r 0)), none⟩, ⟨(some 6), .a (.call (.func F_tree_Tree_none) [.tmp 5]), none⟩]
def X_tree_Tree_Above_2 : List XItem := [⟨(some 4), .a (.mv (.const (.slice none 0 (.exact 0)))), none⟩]
def X_tree_Tree_Above_3 : List XItem := [⟨(some 7), .a (.mv (r 0)), none⟩, ⟨(some 8), .a (.load (some 2) (r 3)), none⟩, ⟨(some 9), .a (.call (.func F_tree_Tree_up) [.tmp 7,
  .tmp 8]), none⟩, ⟨(some 10), .a (.call (.func F_slices_Collect_Stamp) [.tmp 9]), none⟩, ⟨(some 4), .a (.mv (r 10)), none⟩]
/-- (*diorama/tree.Tree).Above -/
def X_tree_Tree_Above : XCode :=
 (.seq (.ops X_tree_Tree_Above_0) (.seq (.seq (.ops X_tree_Tree_Above_1) (.cond (r 6) (.seq (.ops X_tree_Tree_Above_2) .ret) .skip)) (.seq (.ops X_tree_Tree_Above_3)
  .ret)))
/-! (*diorama/tree.Tree).Within -/
def X_tree_Tree_Within_0 : List XItem := [⟨(some 4), .a (.box (r 1)), none⟩, ⟨(some 5), .a (.box (r 2)), none⟩, ⟨(some 6), .a (.alloc [.bool false]), none⟩]
def X_tree_Tree_Within_1 : List XItem := [⟨(some 8), .a (.mv (r 0)), none⟩, ⟨(some 9), .a (.call (.func F_tree_Tree_none) [.tmp 8]), none⟩, ⟨(some 10), .a (.mv (r 9)), none⟩,
  ⟨(some 11), .a (.mv (r 0)), (some (10, false))⟩, ⟨(some 12), .a (.load (some 2) (r 5)), (some (10, false))⟩, ⟨(some 13), .a (.call (.func F_tree_Tree_node) [.tmp 11,
  .tmp 12]), (some (10, false))⟩, ⟨(some 14), .a (.un (.not) (r 13)), (some (10, false))⟩, ⟨(some 15), .a (.pick (r 10) (.const (.bool true)) (r 14)), none⟩]
def X_tree_Tree_Within_2 : List XItem := [⟨none, .a (.store 1 (r 6) (.const (.bool false))), none⟩]
def X_tree_Tree_Within_3 : List XItem := [⟨(some 16), .a (.mv (r 0)), none⟩, ⟨(some 17), .a (.load (some 2) (r 5)), none⟩, ⟨(some 18), .a (.call (.func F_tree_Tree_up) [.tmp
  16, .tmp 17]), none⟩]
def X_tree_Tree_Within_4 : List XItem := [⟨(some 7), .a (.alloc [.int (.i64) 0, .int (.i64) 0]), none⟩, ⟨none, .a (.store 2 (r 7) (r 19)), none⟩]
def X_tree_Tree_Within_5 : List XItem := [⟨(some 20), .a (.load (some 2) (r 7)), none⟩, ⟨(some 21), .a (.load (some 2) (r 4)), none⟩, ⟨(some 22), .a (.eq false ⟨true, [.int
  (.i64), .int (.i64)]⟩ (r 20) (r 21)), none⟩]
def X_tree_Tree_Within_6 : List XItem := [⟨none, .a (.store 1 (r 6) (.const (.bool true))), none⟩]
def X_tree_Tree_Within_7 : XCode := (.ops X_tree_Tree_Within_4)
def X_tree_Tree_Within_8 : XCode := (.block 1 (.seq (.ops X_tree_Tree_Within_5) (.cond (r 22) (.seq (.ops X_tree_Tree_Within_6) .ret) .skip)))
def X_tree_Tree_Within_9 : List XItem := [⟨(some 23), .a (.load (some 2) (r 4)), none⟩, ⟨(some 24), .a (.load (some 2) (r 5)), none⟩, ⟨(some 25), .a (.eq false ⟨true, [.int
  (.i64), .int (.i64)]⟩ (r 23) (r 24)), none⟩, ⟨none, .a (.store 1 (r 6) (r 25)), none⟩]
/-- (*diorama/tree.Tree).Within -/
def X_tree_Tree_Within : XCode :=
 (.seq (.ops X_tree_Tree_Within_0) (.seq (.seq (.ops X_tree_Tree_Within_1) (.cond (r 15) (.seq (.ops X_tree_Tree_Within_2) .ret) .skip)) (.seq (.seq (.ops
  X_tree_Tree_Within_3) (.block 0 (.range (r 18) [19] X_tree_Tree_Within_7 X_tree_Tree_Within_8))) (.seq (.ops X_tree_Tree_Within_9) .ret))))
/-! slices.SortedFunc[diorama/api.Stamp] -/
def X_slices_SortedFunc_Stamp_0 : List XItem := [⟨(some 4), .a (.mv (.const (.slice none 0 (.exact 0)))), none⟩]
def X_slices_SortedFunc_Stamp_1 : List XItem := [⟨(some 6), .a (.mv (r 0)), none⟩, ⟨(some 7), .a (.call (.func F_slices_Collect_Stamp) [.tmp 6]), none⟩, ⟨(some 5), .a (.mv (r
  7)), none⟩]
def X_slices_SortedFunc_Stamp_2 : List XItem := [⟨(some 8), .a (.mv (r 5)), none⟩, ⟨(some 9), .a (.mv (r 1)), none⟩, ⟨(some 10), .a (.call (.func F_slices_SortFunc_Stamp)
  [.tmp 8, .tmp 9]), none⟩]
def X_slices_SortedFunc_Stamp_3 : List XItem := [⟨(some 11), .a (.mv (r 5)), none⟩, ⟨(some 4), .a (.mv (r 11)), none⟩]
/-- slices.SortedFunc[diorama/api.Stamp] -/
def X_slices_SortedFunc_Stamp : XCode :=
 (.seq (.ops X_slices_SortedFunc_Stamp_0) (.seq (.ops X_slices_SortedFunc_Stamp_1) (.seq (.ops X_slices_SortedFunc_Stamp_2) (.seq (.ops X_slices_SortedFunc_Stamp_3)
  .ret))))
/-! slices.Collect[diorama/api.Stamp] -/
def X_slices_Collect_Stamp_0 : List XItem := [⟨(some 2), .a (.mv (.const (.slice none 0 (.exact 0)))), none⟩]
def X_slices_Collect_Stamp_1 : List XItem := [⟨(some 3), .a (.mv (r 0)), none⟩, ⟨(some 4), .a (.call (.func F_slices_AppendSeq_Stamp) [.const (.slice none 0 (.exact 0)), .tmp
  3]), none⟩, ⟨(some 2), .a (.mv (r 4)), none⟩]
/-- slices.Collect[diorama/api.Stamp] -/
def X_slices_Collect_Stamp : XCode :=
 (.seq (.ops X_slices_Collect_Stamp_0) (.seq (.ops X_slices_Collect_Stamp_1) .ret))
/-! maps.Equal[map[diorama/api.Stamp]diorama/tree.Spot,map[diorama/api.Stamp]diorama/tree.Spot,diorama/api.Stamp,diorama/tree.Spot] -/
def X_maps_Equal_Stamp_Spot_0 : List XItem := [⟨(some 4), .a (.mv (.const (.bool false))), none⟩]
def X_maps_Equal_Stamp_Spot_1 : List XItem := [⟨(some 9), .a (.mv (r 0)), none⟩, ⟨(some 10), .a (.lenMap (r 9)), none⟩, ⟨(some 11), .a (.mv (r 1)), none⟩, ⟨(some 12), .a
  (.lenMap (r 11)), none⟩, ⟨(some 13), .a (.bin (.neq) (r 10) (r 12)), none⟩]
def X_maps_Equal_Stamp_Spot_2 : List XItem := [⟨(some 4), .a (.mv (.const (.bool false))), none⟩]
def X_maps_Equal_Stamp_Spot_3 : List XItem := [⟨(some 14), .a (.mv (r 0)), none⟩, ⟨(some 15), .rangeMap (r 14), none⟩]
def X_maps_Equal_Stamp_Spot_4 : List XItem := [⟨(some 16), .nextMap (r 15), none⟩, ⟨(some 17), .a (.extract (r 16) 0), none⟩]
def X_maps_Equal_Stamp_Spot_5 : List XItem := [⟨(some 18), .entryMap (r 15), none⟩, ⟨(some 19), .a (.extract (r 18) 0), none⟩, ⟨(some 20), .a (.extract (r 18) 1), none⟩,
  ⟨(some 5), .a (.alloc [.int (.i64) 0, .int (.i64) 0]), none⟩, ⟨(some 6), .a (.alloc [.int (.i64) 0, .int (.i64) 0, .str []]), none⟩, ⟨none, .a (.store 2 (r 5) (r 19)),
  none⟩, ⟨none, .a (.store 3 (r 6) (r 20)), none⟩]
def X_maps_Equal_Stamp_Spot_6 : List XItem := [⟨(some 22), .a (.mv (r 1)), none⟩, ⟨(some 23), .a (.load (some 2) (r 5)), none⟩, ⟨(some 24), .a (.lookup ⟨true, [.int (.i64),
  .int (.i64)]⟩ (.agg [.int (.i64) 0, .int (.i64) 0, .str []]) true (r 22) (r 23)), none⟩, ⟨(some 21), .a (.mv (r 24)), none⟩, ⟨(some 25), .a (.extract (r 21) 0), none⟩,
  ⟨(some 26), .a (.extract (r 21) 1), none⟩, ⟨(some 7), .a (.alloc [.int (.i64) 0, .int (.i64) 0, .str []]), none⟩, ⟨none, .a (.store 3 (r 7) (r 25)), none⟩, ⟨(some 8), .a
  (.mv (r 26)), none⟩]
def X_maps_Equal_Stamp_Spot_7 : List XItem := [⟨(some 27), .a (.mv (r 8)), none⟩, ⟨(some 28), .a (.un (.not) (r 27)), none⟩, ⟨(some 29), .a (.mv (r 28)), none⟩, ⟨(some 30), .a
  (.load (some 3) (r 6)), (some (29, false))⟩, ⟨(some 31), .a (.load (some 3) (r 7)), (some (29, false))⟩, ⟨(some 32), .a (.eq true ⟨true, [.int (.i64), .int (.i64),
  .str]⟩ (r 30) (r 31)), (some (29, false))⟩, ⟨(some 33), .a (.pick (r 29) (.const (.bool true)) (r 32)), none⟩]
def X_maps_Equal_Stamp_Spot_8 : List XItem := [⟨(some 4), .a (.mv (.const (.bool false))), none⟩]
def X_maps_Equal_Stamp_Spot_9 : XCode := (.seq (.ops X_maps_Equal_Stamp_Spot_4) (.seq (.cond (r 17) .skip (.exit 0)) (.block 1 (.seq (.ops X_maps_Equal_Stamp_Spot_5) (.seq
  (.ops X_maps_Equal_Stamp_Spot_6) (.seq (.ops X_maps_Equal_Stamp_Spot_7) (.cond (r 33) (.seq (.ops X_maps_Equal_Stamp_Spot_8) .ret) .skip)))))))
def X_maps_Equal_Stamp_Spot_10 : List XItem := [⟨(some 4), .a (.mv (.const (.bool true))), none⟩]
/-- maps.Equal[map[diorama/api.Stamp]diorama/tree.Spot,map[diorama/api.Stamp]diorama/tree.Spot,diorama/api.Stamp,diorama/tree.Spot] -/
def X_maps_Equal_Stamp_Spot : XCode :=
 (.seq (.ops X_maps_Equal_Stamp_Spot_0) (.seq (.seq (.ops X_maps_Equal_Stamp_Spot_1) (.cond (r 13) (.seq (.ops X_maps_Equal_Stamp_Spot_2) .ret) .skip)) (.seq (.seq (.ops
  X_maps_Equal_Stamp_Spot_3) (.block 0 (.loop X_maps_Equal_Stamp_Spot_9))) (.seq (.ops X_maps_Equal_Stamp_Spot_10) .ret))))
/-! maps.Equal[map[diorama/api.Stamp]diorama/api.Stamp,map[diorama/api.Stamp]diorama/api.Stamp,diorama/api.Stamp,diorama/api.Stamp] -/
def X_maps_Equal_Stamp_0 : List XItem := [⟨(some 4), .a (.mv (.const (.bool false))), none⟩]
def X_maps_Equal_Stamp_1 : List XItem := [⟨(some 9), .a (.mv (r 0)), none⟩, ⟨(some 10), .a (.lenMap (r 9)), none⟩, ⟨(some 11), .a (.mv (r 1)), none⟩, ⟨(some 12), .a (.lenMap
  (r 11)), none⟩, ⟨(some 13), .a (.bin (.neq) (r 10) (r 12)), none⟩]
def X_maps_Equal_Stamp_2 : List XItem := [⟨(some 4), .a (.mv (.const (.bool false))), none⟩]
def X_maps_Equal_Stamp_3 : List XItem := [⟨(some 14), .a (.mv (r 0)), none⟩, ⟨(some 15), .rangeMap (r 14), none⟩]
def X_maps_Equal_Stamp_4 : List XItem := [⟨(some 16), .nextMap (r 15), none⟩, ⟨(some 17), .a (.extract (r 16) 0), none⟩]
def X_maps_Equal_Stamp_5 : List XItem := [⟨(some 18), .entryMap (r 15), none⟩, ⟨(some 19), .a (.extract (r 18) 0), none⟩, ⟨(some 20), .a (.extract (r 18) 1), none⟩, ⟨(some 5),
  .a (.alloc [.int (.i64) 0, .int (.i64) 0]), none⟩, ⟨(some 6), .a (.alloc [.int (.i64) 0, .int (.i64) 0]), none⟩, ⟨none, .a (.store 2 (r 5) (r 19)), none⟩, ⟨none, .a
  (.store 2 (r 6) (r 20)), none⟩]
def X_maps_Equal_Stamp_6 : List XItem := [⟨(some 22), .a (.mv (r 1)), none⟩, ⟨(some 23), .a (.load (some 2) (r 5)), none⟩, ⟨(some 24), .a (.lookup ⟨true, [.int (.i64), .int
  (.i64)]⟩ (.agg [.int (.i64) 0, .int (.i64) 0]) true (r 22) (r 23)), none⟩, ⟨(some 21), .a (.mv (r 24)), none⟩, ⟨(some 25), .a (.extract (r 21) 0), none⟩, ⟨(some 26), .a
  (.extract (r 21) 1), none⟩, ⟨(some 7), .a (.alloc [.int (.i64) 0, .int (.i64) 0]), none⟩, ⟨none, .a (.store 2 (r 7) (r 25)), none⟩, ⟨(some 8), .a (.mv (r 26)), none⟩]
def X_maps_Equal_Stamp_7 : List XItem := [⟨(some 27), .a (.mv (r 8)), none⟩, ⟨(some 28), .a (.un (.not) (r 27)), none⟩, ⟨(some 29), .a (.mv (r 28)), none⟩, ⟨(some 30), .a
  (.load (some 2) (r 6)), (some (29, false))⟩, ⟨(some 31), .a (.load (some 2) (r 7)), (some (29, false))⟩, ⟨(some 32), .a (.eq true ⟨true, [.int (.i64), .int (.i64)]⟩ (r
  30) (r 31)), (some (29, false))⟩, ⟨(some 33), .a (.pick (r 29) (.const (.bool true)) (r 32)), none⟩]
def X_maps_Equal_Stamp_8 : List XItem := [⟨(some 4), .a (.mv (.const (.bool false))), none⟩]
def X_maps_Equal_Stamp_9 : XCode := (.seq (.ops X_maps_Equal_Stamp_4) (.seq (.cond (r 17) .skip (.exit 0)) (.block 1 (.seq (.ops X_maps_Equal_Stamp_5) (.seq (.ops
  X_maps_Equal_Stamp_6) (.seq (.ops X_maps_Equal_Stamp_7) (.cond (r 33) (.seq (.ops X_maps_Equal_Stamp_8) .ret) .skip)))))))
def X_maps_Equal_Stamp_10 : List XItem := [⟨(some 4), .a (.mv (.const (.bool true))), none⟩]
/-- maps.Equal[map[diorama/api.Stamp]diorama/api.Stamp,map[diorama/api.Stamp]diorama/api.Stamp,diorama/api.Stamp,diorama/api.Stamp] -/
def X_maps_Equal_Stamp : XCode :=
 (.seq (.ops X_maps_Equal_Stamp_0) (.seq (.seq (.ops X_maps_Equal_Stamp_1) (.cond (r 13) (.seq (.ops X_maps_Equal_Stamp_2) .ret) .skip)) (.seq (.seq (.ops
  X_maps_Equal_Stamp_3) (.block 0 (.loop X_maps_Equal_Stamp_9))) (.seq (.ops X_maps_Equal_Stamp_10) .ret))))
/-! maps.Keys[map[diorama/api.Stamp]diorama/tree.Spot,diorama/api.Stamp,diorama/tree.Spot]$1 -/
def X_maps_Keys_Stamp_Spot_c1_0 : List XItem := [⟨(some 4), .a (.load none (r 1)), none⟩, ⟨(some 5), .rangeMap (r 4), none⟩]
def X_maps_Keys_Stamp_Spot_c1_1 : List XItem := [⟨(some 6), .nextMap (r 5), none⟩, ⟨(some 7), .a (.extract (r 6) 0), none⟩]
def X_maps_Keys_Stamp_Spot_c1_2 : List XItem := [⟨(some 8), .entryMap (r 5), none⟩, ⟨(some 9), .a (.extract (r 8) 0), none⟩, ⟨(some 3), .a (.alloc [.int (.i64) 0, .int (.i64)
  0]), none⟩, ⟨none, .a (.store 2 (r 3) (r 9)), none⟩]
def X_maps_Keys_Stamp_Spot_c1_3 : List XItem := [⟨(some 10), .a (.mv (r 0)), none⟩, ⟨(some 11), .a (.load (some 2) (r 3)), none⟩, ⟨(some 12), .a (.call (r 10) [.tmp 11]),
  none⟩, ⟨(some 13), .a (.un (.not) (r 12)), none⟩]
def X_maps_Keys_Stamp_Spot_c1_4 : XCode := (.seq (.ops X_maps_Keys_Stamp_Spot_c1_1) (.seq (.cond (r 7) .skip (.exit 0)) (.block 1 (.seq (.ops X_maps_Keys_Stamp_Spot_c1_2)
  (.seq (.ops X_maps_Keys_Stamp_Spot_c1_3) (.cond (r 13) .ret .skip))))))
/-- maps.Keys[map[diorama/api.Stamp]diorama/tree.Spot,diorama/api.Stamp,diorama/tree.Spot]$1 -/
def X_maps_Keys_Stamp_Spot_c1 : XCode :=
 (.seq (.ops X_maps_Keys_Stamp_Spot_c1_0) (.block 0 (.loop X_maps_Keys_Stamp_Spot_c1_4)))
/-! slices.AppendSeq[[]diorama/api.Stamp,diorama/api.Stamp] -/
def X_slices_AppendSeq_Stamp_0 : List XItem := [⟨(some 2), .a (.box (r 0)), none⟩, ⟨(some 4), .a (.mv (.const (.slice none 0 (.exact 0)))), none⟩]
def X_slices_AppendSeq_Stamp_1 : List XItem := [⟨(some 6), .a (.mv (r 1)), none⟩]
def X_slices_AppendSeq_Stamp_2 : List XItem := [⟨(some 5), .a (.alloc [.int (.i64) 0, .int (.i64) 0]), none⟩, ⟨none, .a (.store 2 (r 5) (r 7)), none⟩]
def X_slices_AppendSeq_Stamp_3 : List XItem := [⟨(some 8), .a (.load none (r 2)), none⟩, ⟨(some 9), .a (.load (some 2) (r 5)), none⟩, ⟨(some 10), .a (.buildSlice 1 [.int
  (.i64) 0, .int (.i64) 0] [(0, 2, .tmp 9)]), none⟩, ⟨(some 11), .a (.append 2 16 (r 8) (r 10)), none⟩, ⟨none, .a (.store 1 (r 2) (r 11)), none⟩]
def X_slices_AppendSeq_Stamp_4 : XCode := (.ops X_slices_AppendSeq_Stamp_2)
def X_slices_AppendSeq_Stamp_5 : XCode := (.block 1 (.ops X_slices_AppendSeq_Stamp_3))
def X_slices_AppendSeq_Stamp_6 : List XItem := [⟨(some 12), .a (.load none (r 2)), none⟩, ⟨(some 4), .a (.mv (r 12)), none⟩]
/-- slices.AppendSeq[[]diorama/api.Stamp,diorama/api.Stamp] -/
def X_slices_AppendSeq_Stamp : XCode :=
 (.seq (.ops X_slices_AppendSeq_Stamp_0) (.seq (.seq (.ops X_slices_AppendSeq_Stamp_1) (.block 0 (.range (r 6) [7] X_slices_AppendSeq_Stamp_4 X_slices_AppendSeq_Stamp_5)))
  (.seq (.ops X_slices_AppendSeq_Stamp_6) .ret)))
/-! (*diorama/tree.Tree).up$1 -/
def X_tree_Tree_up_c1_0 : Row := [i 7 (.load none (r 1)), i 8 (.nilCheck (r 7)), i 9 (.fieldAddr 0 (r 8)), i 10 (.load none (r 9)), i 11 (.load (some 2) (r 2)), i 12 (.lookup
  ⟨true, [.int (.i64), .int (.i64)]⟩ (.agg [.int (.i64) 0, .int (.i64) 0, .str []]) true (r 10) (r 11)), i 6 (.mv (r 12)), i 13 (.extract (r 6) 0), i 14 (.extract (r 6)
  1), i 4 (.alloc [.int (.i64) 0, .int (.i64) 0, .str []]), i0 (.store 3 (r 4) (r 13)), i 5 (.mv (r 14))]
def X_tree_Tree_up_c1_1 : List XItem := [⟨(some 15), .a (.mv (r 5)), none⟩]
def X_tree_Tree_up_c1_2 : List XItem := [⟨(some 26), .a (.mv (r 0)), none⟩, ⟨(some 27), .a (.fieldAddr 0 (r 4)), none⟩, ⟨(some 28), .a (.load (some 2) (r 27)), none⟩, ⟨(some
  29), .a (.call (r 26) [.tmp 28]), none⟩, ⟨(some 30), .a (.un (.not) (r 29)), none⟩]
def X_tree_Tree_up_c1_3 : List XItem := [⟨(some 31), .a (.load (some 3) (r 4)), none⟩]
def X_tree_Tree_up_c1_4 : List XItem := [⟨(some 4), .a (.alloc [.int (.i64) 0, .int (.i64) 0, .str []]), none⟩, ⟨none, .a (.store 3 (r 4) (r 31)), none⟩]
def X_tree_Tree_up_c1_5 : Row := [i 17 (.load none (r 1)), i 18 (.nilCheck (r 17)), i 19 (.fieldAddr 0 (r 18)), i 20 (.load none (r 19)), i 21 (.fieldAddr 0 (r 4)), i 22
  (.load (some 2) (r 21)), i 23 (.lookup ⟨true, [.int (.i64), .int (.i64)]⟩ (.agg [.int (.i64) 0, .int (.i64) 0, .str []]) true (r 20) (r 22)), i 16 (.mv (r 23)), i 24
  (.extract (r 16) 0), i 25 (.extract (r 16) 1), i0 (.store 3 (r 4) (r 24)), i 5 (.mv (r 25))]
def X_tree_Tree_up_c1_6 : XCode := (.seq (.seq (.ops X_tree_Tree_up_c1_1) (.cond (r 15) .skip (.exit 0))) (.seq (.block 1 (.seq (.ops X_tree_Tree_up_c1_2) (.cond (r 30) .ret
  .skip))) (.seq (.seq (.ops X_tree_Tree_up_c1_3) (.ops X_tree_Tree_up_c1_4)) (.dops X_tree_Tree_up_c1_5))))
/-- (*diorama/tree.Tree).up$1 -/
def X_tree_Tree_up_c1 : XCode :=
 (.seq (.dops X_tree_Tree_up_c1_0) (.block 0 (.loop X_tree_Tree_up_c1_6)))
def gl0 : Nat → Bool := fun g => Nat.ble (g + 1) 2
set_option maxRecDepth 100000
theorem c_law10_TreeReaches : cFunc Tryd.prog gl0 Tryd.f3 = some A_law10_TreeReaches := by kernel_rfl
theorem c_law10_TreeBelow : cFunc Tryd.prog gl0 Tryd.f4 = some A_law10_TreeBelow := by kernel_rfl
theorem c_law10_TreeBack : cFunc Tryd.prog gl0 Tryd.f5 = some A_law10_TreeBack := by kernel_rfl
theorem c_law10_TreePlays : cFunc Tryd.prog gl0 Tryd.f6 = some A_law10_TreePlays := by kernel_rfl
theorem c_law10_TreeNil : cFunc Tryd.prog gl0 Tryd.f7 = some A_law10_TreeNil := by kernel_rfl
theorem c_law13_GraphAnyOrder : cFunc Tryd.prog gl0 Tryd.f8 = some A_law13_GraphAnyOrder := by kernel_rfl
theorem c_law13_GraphPassed : cFunc Tryd.prog gl0 Tryd.f9 = some A_law13_GraphPassed := by kernel_rfl
theorem c_law10_Long : cFunc Tryd.prog gl0 Tryd.f10 = some A_law10_Long := by kernel_rfl
theorem c_law10_knows : cFunc Tryd.prog gl0 Tryd.f11 = some A_law10_knows := by kernel_rfl
theorem c_tree_New : cFunc Tryd.prog gl0 Tryd.f12 = some A_tree_New := by kernel_rfl
theorem c_law10_do : cFunc Tryd.prog gl0 Tryd.f13 = some A_law10_do := by kernel_rfl
theorem c_tree_Tree_Nodes : cFunc Tryd.prog gl0 Tryd.f14 = some A_tree_Tree_Nodes := by kernel_rfl
theorem c_tree_Tree_Below : cFunc Tryd.prog gl0 Tryd.f16 = some A_tree_Tree_Below := by kernel_rfl
theorem c_tree_Tree_Spot : cFunc Tryd.prog gl0 Tryd.f17 = some A_tree_Tree_Spot := by kernel_rfl
theorem c_tree_Tree_Clone : cFunc Tryd.prog gl0 Tryd.f19 = some A_tree_Tree_Clone := by kernel_rfl
theorem c_tree_Tree_Move : cFunc Tryd.prog gl0 Tryd.f20 = some A_tree_Tree_Move := by kernel_rfl
theorem c_law10_Own : cFunc Tryd.prog gl0 Tryd.f21 = some A_law10_Own := by kernel_rfl
theorem c_law10_num : cFunc Tryd.prog gl0 Tryd.f22 = some A_law10_num := by kernel_rfl
theorem c_tree_Tree_Same : cFunc Tryd.prog gl0 Tryd.f23 = some A_tree_Tree_Same := by kernel_rfl
theorem c_tree_Tree_Add : cFunc Tryd.prog gl0 Tryd.f24 = some A_tree_Tree_Add := by kernel_rfl
theorem c_tree_Tree_Drop : cFunc Tryd.prog gl0 Tryd.f25 = some A_tree_Tree_Drop := by kernel_rfl
theorem c_law10_step : cFunc Tryd.prog gl0 Tryd.f26 = some A_law10_step := by kernel_rfl
theorem c_law10_same : cFunc Tryd.prog gl0 Tryd.f27 = some A_law10_same := by kernel_rfl
theorem c_law05_Same : cFunc Tryd.prog gl0 Tryd.f28 = some A_law05_Same := by kernel_rfl
theorem c_ref10_Same : cFunc Tryd.prog gl0 Tryd.f29 = some A_ref10_Same := by kernel_rfl
theorem c_tree_Tree_Has : cFunc Tryd.prog gl0 Tryd.f30 = some A_tree_Tree_Has := by kernel_rfl
theorem c_law13_Light : cFunc Tryd.prog gl0 Tryd.f31 = some A_law13_Light := by kernel_rfl
theorem c_law13_knows : cFunc Tryd.prog gl0 Tryd.f32 = some A_law13_knows := by kernel_rfl
theorem c_graph_New : cFunc Tryd.prog gl0 Tryd.f33 = some A_graph_New := by kernel_rfl
theorem c_graph_Graph_Insert : cFunc Tryd.prog gl0 Tryd.f34 = some A_graph_Graph_Insert := by kernel_rfl
theorem c_law07_Own : cFunc Tryd.prog gl0 Tryd.f35 = some A_law07_Own := by kernel_rfl
theorem c_graph_Graph_Same : cFunc Tryd.prog gl0 Tryd.f36 = some A_graph_Graph_Same := by kernel_rfl
theorem c_graph_Graph_Count : cFunc Tryd.prog gl0 Tryd.f37 = some A_graph_Graph_Count := by kernel_rfl
theorem c_graph_Graph_Done : cFunc Tryd.prog gl0 Tryd.f38 = some A_graph_Graph_Done := by kernel_rfl
theorem c_graph_Graph_Clone : cFunc Tryd.prog gl0 Tryd.f39 = some A_graph_Graph_Clone := by kernel_rfl
theorem c_law13_num : cFunc Tryd.prog gl0 Tryd.f40 = some A_law13_num := by kernel_rfl
theorem c_graph_Graph_Spot : cFunc Tryd.prog gl0 Tryd.f41 = some A_graph_Graph_Spot := by kernel_rfl
theorem c_graph_Graph_Has : cFunc Tryd.prog gl0 Tryd.f42 = some A_graph_Graph_Has := by kernel_rfl
theorem c_graph_Graph_Ref : cFunc Tryd.prog gl0 Tryd.f43 = some A_graph_Graph_Ref := by kernel_rfl
theorem c_tree_Tree_none : cFunc Tryd.prog gl0 Tryd.f44 = some A_tree_Tree_none := by kernel_rfl
theorem c_maps_Keys_Stamp_Spot : cFunc Tryd.prog gl0 Tryd.f46 = some A_maps_Keys_Stamp_Spot := by kernel_rfl
theorem c_stamp_Compare : cFunc Tryd.prog gl0 Tryd.f47 = some A_stamp_Compare := by kernel_rfl
theorem c_tree_Tree_up : cFunc Tryd.prog gl0 Tryd.f49 = some A_tree_Tree_up := by kernel_rfl
theorem c_tree_Tree_node : cFunc Tryd.prog gl0 Tryd.f50 = some A_tree_Tree_node := by kernel_rfl
theorem c_op_Node : cFunc Tryd.prog gl0 Tryd.f52 = some A_op_Node := by kernel_rfl
theorem c_tree_Spot_right : cFunc Tryd.prog gl0 Tryd.f53 = some A_tree_Spot_right := by kernel_rfl
theorem c_ref10_Tree_Add : cFunc Tryd.prog gl0 Tryd.f55 = some A_ref10_Tree_Add := by kernel_rfl
theorem c_ref10_Tree_Move : cFunc Tryd.prog gl0 Tryd.f56 = some A_ref10_Tree_Move := by kernel_rfl
theorem c_ref10_Tree_Drop : cFunc Tryd.prog gl0 Tryd.f57 = some A_ref10_Tree_Drop := by kernel_rfl
theorem c_ref10_Tree_Spot : cFunc Tryd.prog gl0 Tryd.f58 = some A_ref10_Tree_Spot := by kernel_rfl
theorem c_ref10_Tree_Has : cFunc Tryd.prog gl0 Tryd.f59 = some A_ref10_Tree_Has := by kernel_rfl
theorem c_ref10_Tree_Below : cFunc Tryd.prog gl0 Tryd.f60 = some A_ref10_Tree_Below := by kernel_rfl
theorem c_ref10_Tree_Above : cFunc Tryd.prog gl0 Tryd.f61 = some A_ref10_Tree_Above := by kernel_rfl
theorem c_ref10_Tree_Within : cFunc Tryd.prog gl0 Tryd.f62 = some A_ref10_Tree_Within := by kernel_rfl
theorem c_op_Place : cFunc Tryd.prog gl0 Tryd.f63 = some A_op_Place := by kernel_rfl
theorem c_law13_ref12Light : cFunc Tryd.prog gl0 Tryd.f64 = some A_law13_ref12Light := by kernel_rfl
theorem c_graph_Graph_Reaches : cFunc Tryd.prog gl0 Tryd.f65 = some A_graph_Graph_Reaches := by kernel_rfl
theorem c_graph_Graph_none : cFunc Tryd.prog gl0 Tryd.f66 = some A_graph_Graph_none := by kernel_rfl
theorem c_op_Right : cFunc Tryd.prog gl0 Tryd.f67 = some A_op_Right := by kernel_rfl
theorem c_graph_Graph_place : cFunc Tryd.prog gl0 Tryd.f68 = some A_graph_Graph_place := by kernel_rfl
theorem c_graph_entry_do : cFunc Tryd.prog gl0 Tryd.f70 = some A_graph_entry_do := by kernel_rfl
theorem c_slices_Clone_entry : cFunc Tryd.prog gl0 Tryd.f72 = some A_slices_Clone_entry := by kernel_rfl
theorem c_stamp_Right : cFunc Tryd.prog gl0 Tryd.f79 = some A_stamp_Right := by kernel_rfl
theorem c_poskey_Right : cFunc Tryd.prog gl0 Tryd.f80 = some A_poskey_Right := by kernel_rfl
theorem c_ref10_Tree_find : cFunc Tryd.prog gl0 Tryd.f81 = some A_ref10_Tree_find := by kernel_rfl
theorem c_ref07_Node : cFunc Tryd.prog gl0 Tryd.f82 = some A_ref07_Node := by kernel_rfl
theorem c_ref10_Right : cFunc Tryd.prog gl0 Tryd.f83 = some A_ref10_Right := by kernel_rfl
theorem c_ref07_Root : cFunc Tryd.prog gl0 Tryd.f84 = some A_ref07_Root := by kernel_rfl
theorem c_ref07_Trash : cFunc Tryd.prog gl0 Tryd.f85 = some A_ref07_Trash := by kernel_rfl
theorem c_graph_Graph_next : cFunc Tryd.prog gl0 Tryd.f86 = some A_graph_Graph_next := by kernel_rfl
theorem c_op_parts : cFunc Tryd.prog gl0 Tryd.f87 = some A_op_parts := by kernel_rfl
theorem c_op_Right_c1 : cFunc Tryd.prog gl0 Tryd.f88 = some A_op_Right_c1 := by kernel_rfl
theorem c_slices_ContainsFunc_Stamp : cFunc Tryd.prog gl0 Tryd.f89 = some A_slices_ContainsFunc_Stamp := by kernel_rfl
theorem c_op_Right_c2 : cFunc Tryd.prog gl0 Tryd.f90 = some A_op_Right_c2 := by kernel_rfl
theorem c_value_Right8 : cFunc Tryd.prog gl0 Tryd.f91 = some A_value_Right8 := by kernel_rfl
theorem c_slices_BinarySearchFunc_entry_Stamp : cFunc Tryd.prog gl0 Tryd.f92 = some A_slices_BinarySearchFunc_entry_Stamp := by kernel_rfl
theorem c_graph_Graph_place_c1 : cFunc Tryd.prog gl0 Tryd.f93 = some A_graph_Graph_place_c1 := by kernel_rfl
theorem c_graph_entry_do_c1 : cFunc Tryd.prog gl0 Tryd.f96 = some A_graph_entry_do_c1 := by kernel_rfl
theorem c_graph_entry_do_c2 : cFunc Tryd.prog gl0 Tryd.f97 = some A_graph_entry_do_c2 := by kernel_rfl
theorem c_graph_Graph_ring : cFunc Tryd.prog gl0 Tryd.f98 = some A_graph_Graph_ring := by kernel_rfl
theorem c_graph_Graph_link : cFunc Tryd.prog gl0 Tryd.f99 = some A_graph_Graph_link := by kernel_rfl
theorem c_ref02_Compare : cFunc Tryd.prog gl0 Tryd.f102 = some A_ref02_Compare := by kernel_rfl
theorem c_ref02_Right : cFunc Tryd.prog gl0 Tryd.f103 = some A_ref02_Right := by kernel_rfl
theorem c_ref07_Place : cFunc Tryd.prog gl0 Tryd.f104 = some A_ref07_Place := by kernel_rfl
theorem c_ref04_Right : cFunc Tryd.prog gl0 Tryd.f105 = some A_ref04_Right := by kernel_rfl
theorem c_slices_IndexFunc_Stamp : cFunc Tryd.prog gl0 Tryd.f106 = some A_slices_IndexFunc_Stamp := by kernel_rfl
theorem c_value_Right : cFunc Tryd.prog gl0 Tryd.f107 = some A_value_Right := by kernel_rfl
theorem c_graph_Graph_link_c1 : cFunc Tryd.prog gl0 Tryd.f109 = some A_graph_Graph_link_c1 := by kernel_rfl
theorem c_value_good : cFunc Tryd.prog gl0 Tryd.f120 = some A_value_good := by kernel_rfl
theorem b_tree_Tree_Above : ∃ c, Tryd.f15.body = some c ∧ cX Tryd.prog gl0 c = X_tree_Tree_Above := ⟨_, rfl, by kernel_rfl⟩
theorem r_tree_Tree_Above : cRes Tryd.prog Tryd.f15.results.toList = some [.tmp 4] := by kernel_rfl
theorem n_tree_Tree_Above : Tryd.f15.ntmps = 11 ∧ (Tryd.f15.name == "runtime.NumGoroutine") = false := ⟨by kernel_rfl, by kernel_rfl⟩
theorem b_tree_Tree_Within : ∃ c, Tryd.f18.body = some c ∧ cX Tryd.prog gl0 c = X_tree_Tree_Within := ⟨_, rfl, by kernel_rfl⟩
theorem r_tree_Tree_Within : cRes Tryd.prog Tryd.f18.results.toList = some [.cell 6 none] := by kernel_rfl
theorem n_tree_Tree_Within : Tryd.f18.ntmps = 26 ∧ (Tryd.f18.name == "runtime.NumGoroutine") = false := ⟨by kernel_rfl, by kernel_rfl⟩
theorem b_slices_SortedFunc_Stamp : ∃ c, Tryd.f45.body = some c ∧ cX Tryd.prog gl0 c = X_slices_SortedFunc_Stamp := ⟨_, rfl, by kernel_rfl⟩
theorem r_slices_SortedFunc_Stamp : cRes Tryd.prog Tryd.f45.results.toList = some [.tmp 4] := by kernel_rfl
theorem n_slices_SortedFunc_Stamp : Tryd.f45.ntmps = 12 ∧ (Tryd.f45.name == "runtime.NumGoroutine") = false := ⟨by kernel_rfl, by kernel_rfl⟩
theorem b_slices_Collect_Stamp : ∃ c, Tryd.f48.body = some c ∧ cX Tryd.prog gl0 c = X_slices_Collect_Stamp := ⟨_, rfl, by kernel_rfl⟩
theorem r_slices_Collect_Stamp : cRes Tryd.prog Tryd.f48.results.toList = some [.tmp 2] := by kernel_rfl
theorem n_slices_Collect_Stamp : Tryd.f48.ntmps = 5 ∧ (Tryd.f48.name == "runtime.NumGoroutine") = false := ⟨by kernel_rfl, by kernel_rfl⟩
theorem b_maps_Equal_Stamp_Spot : ∃ c, Tryd.f54.body = some c ∧ cX Tryd.prog gl0 c = X_maps_Equal_Stamp_Spot := ⟨_, rfl, by kernel_rfl⟩
theorem r_maps_Equal_Stamp_Spot : cRes Tryd.prog Tryd.f54.results.toList = some [.tmp 4] := by kernel_rfl
theorem n_maps_Equal_Stamp_Spot : Tryd.f54.ntmps = 34 ∧ (Tryd.f54.name == "runtime.NumGoroutine") = false := ⟨by kernel_rfl, by kernel_rfl⟩
theorem b_maps_Equal_Stamp : ∃ c, Tryd.f71.body = some c ∧ cX Tryd.prog gl0 c = X_maps_Equal_Stamp := ⟨_, rfl, by kernel_rfl⟩
theorem r_maps_Equal_Stamp : cRes Tryd.prog Tryd.f71.results.toList = some [.tmp 4] := by kernel_rfl
theorem n_maps_Equal_Stamp : Tryd.f71.ntmps = 34 ∧ (Tryd.f71.name == "runtime.NumGoroutine") = false := ⟨by kernel_rfl, by kernel_rfl⟩
theorem b_maps_Keys_Stamp_Spot_c1 : ∃ c, Tryd.f75.body = some c ∧ cX Tryd.prog gl0 c = X_maps_Keys_Stamp_Spot_c1 := ⟨_, rfl, by kernel_rfl⟩
theorem r_maps_Keys_Stamp_Spot_c1 : cRes Tryd.prog Tryd.f75.results.toList = some [] := by kernel_rfl
theorem n_maps_Keys_Stamp_Spot_c1 : Tryd.f75.ntmps = 14 ∧ (Tryd.f75.name == "runtime.NumGoroutine") = false := ⟨by kernel_rfl, by kernel_rfl⟩
theorem b_slices_AppendSeq_Stamp : ∃ c, Tryd.f76.body = some c ∧ cX Tryd.prog gl0 c = X_slices_AppendSeq_Stamp := ⟨_, rfl, by kernel_rfl⟩
theorem r_slices_AppendSeq_Stamp : cRes Tryd.prog Tryd.f76.results.toList = some [.tmp 4] := by kernel_rfl
theorem n_slices_AppendSeq_Stamp : Tryd.f76.ntmps = 13 ∧ (Tryd.f76.name == "runtime.NumGoroutine") = false := ⟨by kernel_rfl, by kernel_rfl⟩
theorem b_tree_Tree_up_c1 : ∃ c, Tryd.f77.body = some c ∧ cX Tryd.prog gl0 c = X_tree_Tree_up_c1 := ⟨_, rfl, by kernel_rfl⟩
theorem r_tree_Tree_up_c1 : cRes Tryd.prog Tryd.f77.results.toList = some [] := by kernel_rfl
theorem n_tree_Tree_up_c1 : Tryd.f77.ntmps = 32 ∧ (Tryd.f77.name == "runtime.NumGoroutine") = false := ⟨by kernel_rfl, by kernel_rfl⟩
theorem mixed : Tryd.prog.follows .mixedOrders = true := by kernel_rfl
def codes0 : List (Nat × AFunc) := [(F_law10_TreeReaches, A_law10_TreeReaches), (F_law10_TreeBelow, A_law10_TreeBelow), (F_law10_TreeBack, A_law10_TreeBack), (F_law10_TreePlays, A_law10_TreePlays), (F_law10_TreeNil, A_law10_TreeNil), (F_law13_GraphAnyOrder, A_law13_GraphAnyOrder), (F_law13_GraphPassed, A_law13_GraphPassed), (F_law10_Long, A_law10_Long), (F_law10_knows, A_law10_knows), (F_tree_New, A_tree_New), (F_law10_do, A_law10_do), (F_tree_Tree_Nodes, A_tree_Tree_Nodes), (F_tree_Tree_Below, A_tree_Tree_Below), (F_tree_Tree_Spot, A_tree_Tree_Spot), (F_tree_Tree_Clone, A_tree_Tree_Clone), (F_tree_Tree_Move, A_tree_Tree_Move), (F_law10_Own, A_law10_Own), (F_law10_num, A_law10_num), (F_tree_Tree_Same, A_tree_Tree_Same), (F_tree_Tree_Add, A_tree_Tree_Add), (F_tree_Tree_Drop, A_tree_Tree_Drop), (F_law10_step, A_law10_step), (F_law10_same, A_law10_same), (F_law05_Same, A_law05_Same), (F_ref10_Same, A_ref10_Same), (F_tree_Tree_Has, A_tree_Tree_Has), (F_law13_Light, A_law13_Light), (F_law13_knows, A_law13_knows), (F_graph_New, A_graph_New), (F_graph_Graph_Insert, A_graph_Graph_Insert), (F_law07_Own, A_law07_Own), (F_graph_Graph_Same, A_graph_Graph_Same), (F_graph_Graph_Count, A_graph_Graph_Count), (F_graph_Graph_Done, A_graph_Graph_Done), (F_graph_Graph_Clone, A_graph_Graph_Clone), (F_law13_num, A_law13_num), (F_graph_Graph_Spot, A_graph_Graph_Spot), (F_graph_Graph_Has, A_graph_Graph_Has), (F_graph_Graph_Ref, A_graph_Graph_Ref), (F_tree_Tree_none, A_tree_Tree_none)]
theorem codes0_ok : ∀ x ∈ codes0, ∃ fn, Tryd.prog.funcs[x.1]? = some fn ∧ (fn.name == "runtime.NumGoroutine") = false ∧ cFunc Tryd.prog gl0 fn = some x.2 := by
  unfold codes0
  simp only [List.forall_mem_cons]
  exact ⟨⟨_, Tryd.func3, (by kernel_rfl), c_law10_TreeReaches⟩, ⟨_, Tryd.func4, (by kernel_rfl), c_law10_TreeBelow⟩, ⟨_, Tryd.func5, (by kernel_rfl), c_law10_TreeBack⟩, ⟨_, Tryd.func6, (by kernel_rfl), c_law10_TreePlays⟩, ⟨_, Tryd.func7, (by kernel_rfl), c_law10_TreeNil⟩, ⟨_, Tryd.func8, (by kernel_rfl), c_law13_GraphAnyOrder⟩, ⟨_, Tryd.func9, (by kernel_rfl), c_law13_GraphPassed⟩, ⟨_, Tryd.func10, (by kernel_rfl), c_law10_Long⟩, ⟨_, Tryd.func11, (by kernel_rfl), c_law10_knows⟩, ⟨_, Tryd.func12, (by kernel_rfl), c_tree_New⟩, ⟨_, Tryd.func13, (by kernel_rfl), c_law10_do⟩, ⟨_, Tryd.func14, (by kernel_rfl), c_tree_Tree_Nodes⟩, ⟨_, Tryd.func16, (by kernel_rfl), c_tree_Tree_Below⟩, ⟨_, Tryd.func17, (by kernel_rfl), c_tree_Tree_Spot⟩, ⟨_, Tryd.func19, (by kernel_rfl), c_tree_Tree_Clone⟩, ⟨_, Tryd.func20, (by kernel_rfl), c_tree_Tree_Move⟩, ⟨_, Tryd.func21, (by kernel_rfl), c_law10_Own⟩, ⟨_, Tryd.func22, (by kernel_rfl), c_law10_num⟩, ⟨_, Tryd.func23, (by kernel_rfl), c_tree_Tree_Same⟩, ⟨_, Tryd.func24, (by kernel_rfl), c_tree_Tree_Add⟩, ⟨_, Tryd.func25, (by kernel_rfl), c_tree_Tree_Drop⟩, ⟨_, Tryd.func26, (by kernel_rfl), c_law10_step⟩, ⟨_, Tryd.func27, (by kernel_rfl), c_law10_same⟩, ⟨_, Tryd.func28, (by kernel_rfl), c_law05_Same⟩, ⟨_, Tryd.func29, (by kernel_rfl), c_ref10_Same⟩, ⟨_, Tryd.func30, (by kernel_rfl), c_tree_Tree_Has⟩, ⟨_, Tryd.func31, (by kernel_rfl), c_law13_Light⟩, ⟨_, Tryd.func32, (by kernel_rfl), c_law13_knows⟩, ⟨_, Tryd.func33, (by kernel_rfl), c_graph_New⟩, ⟨_, Tryd.func34, (by kernel_rfl), c_graph_Graph_Insert⟩, ⟨_, Tryd.func35, (by kernel_rfl), c_law07_Own⟩, ⟨_, Tryd.func36, (by kernel_rfl), c_graph_Graph_Same⟩, ⟨_, Tryd.func37, (by kernel_rfl), c_graph_Graph_Count⟩, ⟨_, Tryd.func38, (by kernel_rfl), c_graph_Graph_Done⟩, ⟨_, Tryd.func39, (by kernel_rfl), c_graph_Graph_Clone⟩, ⟨_, Tryd.func40, (by kernel_rfl), c_law13_num⟩, ⟨_, Tryd.func41, (by kernel_rfl), c_graph_Graph_Spot⟩, ⟨_, Tryd.func42, (by kernel_rfl), c_graph_Graph_Has⟩, ⟨_, Tryd.func43, (by kernel_rfl), c_graph_Graph_Ref⟩, ⟨_, Tryd.func44, (by kernel_rfl), c_tree_Tree_none⟩, fun _ h => (by cases h)⟩
def codes1 : List (Nat × AFunc) := [(F_maps_Keys_Stamp_Spot, A_maps_Keys_Stamp_Spot), (F_stamp_Compare, A_stamp_Compare), (F_tree_Tree_up, A_tree_Tree_up), (F_tree_Tree_node, A_tree_Tree_node), (F_op_Node, A_op_Node), (F_tree_Spot_right, A_tree_Spot_right), (F_ref10_Tree_Add, A_ref10_Tree_Add), (F_ref10_Tree_Move, A_ref10_Tree_Move), (F_ref10_Tree_Drop, A_ref10_Tree_Drop), (F_ref10_Tree_Spot, A_ref10_Tree_Spot), (F_ref10_Tree_Has, A_ref10_Tree_Has), (F_ref10_Tree_Below, A_ref10_Tree_Below), (F_ref10_Tree_Above, A_ref10_Tree_Above), (F_ref10_Tree_Within, A_ref10_Tree_Within), (F_op_Place, A_op_Place), (F_law13_ref12Light, A_law13_ref12Light), (F_graph_Graph_Reaches, A_graph_Graph_Reaches), (F_graph_Graph_none, A_graph_Graph_none), (F_op_Right, A_op_Right), (F_graph_Graph_place, A_graph_Graph_place), (F_graph_entry_do, A_graph_entry_do), (F_slices_Clone_entry, A_slices_Clone_entry), (F_stamp_Right, A_stamp_Right), (F_poskey_Right, A_poskey_Right), (F_ref10_Tree_find, A_ref10_Tree_find), (F_ref07_Node, A_ref07_Node), (F_ref10_Right, A_ref10_Right), (F_ref07_Root, A_ref07_Root), (F_ref07_Trash, A_ref07_Trash), (F_graph_Graph_next, A_graph_Graph_next), (F_op_parts, A_op_parts), (F_op_Right_c1, A_op_Right_c1), (F_slices_ContainsFunc_Stamp, A_slices_ContainsFunc_Stamp), (F_op_Right_c2, A_op_Right_c2), (F_value_Right8, A_value_Right8), (F_slices_BinarySearchFunc_entry_Stamp, A_slices_BinarySearchFunc_entry_Stamp), (F_graph_Graph_place_c1, A_graph_Graph_place_c1), (F_graph_entry_do_c1, A_graph_entry_do_c1), (F_graph_entry_do_c2, A_graph_entry_do_c2), (F_graph_Graph_ring, A_graph_Graph_ring)]
theorem codes1_ok : ∀ x ∈ codes1, ∃ fn, Tryd.prog.funcs[x.1]? = some fn ∧ (fn.name == "runtime.NumGoroutine") = false ∧ cFunc Tryd.prog gl0 fn = some x.2 := by
  unfold codes1
  simp only [List.forall_mem_cons]
  exact ⟨⟨_, Tryd.func46, (by kernel_rfl), c_maps_Keys_Stamp_Spot⟩, ⟨_, Tryd.func47, (by kernel_rfl), c_stamp_Compare⟩, ⟨_, Tryd.func49, (by kernel_rfl), c_tree_Tree_up⟩, ⟨_, Tryd.func50, (by kernel_rfl), c_tree_Tree_node⟩, ⟨_, Tryd.func52, (by kernel_rfl), c_op_Node⟩, ⟨_, Tryd.func53, (by kernel_rfl), c_tree_Spot_right⟩, ⟨_, Tryd.func55, (by kernel_rfl), c_ref10_Tree_Add⟩, ⟨_, Tryd.func56, (by kernel_rfl), c_ref10_Tree_Move⟩, ⟨_, Tryd.func57, (by kernel_rfl), c_ref10_Tree_Drop⟩, ⟨_, Tryd.func58, (by kernel_rfl), c_ref10_Tree_Spot⟩, ⟨_, Tryd.func59, (by kernel_rfl), c_ref10_Tree_Has⟩, ⟨_, Tryd.func60, (by kernel_rfl), c_ref10_Tree_Below⟩, ⟨_, Tryd.func61, (by kernel_rfl), c_ref10_Tree_Above⟩, ⟨_, Tryd.func62, (by kernel_rfl), c_ref10_Tree_Within⟩, ⟨_, Tryd.func63, (by kernel_rfl), c_op_Place⟩, ⟨_, Tryd.func64, (by kernel_rfl), c_law13_ref12Light⟩, ⟨_, Tryd.func65, (by kernel_rfl), c_graph_Graph_Reaches⟩, ⟨_, Tryd.func66, (by kernel_rfl), c_graph_Graph_none⟩, ⟨_, Tryd.func67, (by kernel_rfl), c_op_Right⟩, ⟨_, Tryd.func68, (by kernel_rfl), c_graph_Graph_place⟩, ⟨_, Tryd.func70, (by kernel_rfl), c_graph_entry_do⟩, ⟨_, Tryd.func72, (by kernel_rfl), c_slices_Clone_entry⟩, ⟨_, Tryd.func79, (by kernel_rfl), c_stamp_Right⟩, ⟨_, Tryd.func80, (by kernel_rfl), c_poskey_Right⟩, ⟨_, Tryd.func81, (by kernel_rfl), c_ref10_Tree_find⟩, ⟨_, Tryd.func82, (by kernel_rfl), c_ref07_Node⟩, ⟨_, Tryd.func83, (by kernel_rfl), c_ref10_Right⟩, ⟨_, Tryd.func84, (by kernel_rfl), c_ref07_Root⟩, ⟨_, Tryd.func85, (by kernel_rfl), c_ref07_Trash⟩, ⟨_, Tryd.func86, (by kernel_rfl), c_graph_Graph_next⟩, ⟨_, Tryd.func87, (by kernel_rfl), c_op_parts⟩, ⟨_, Tryd.func88, (by kernel_rfl), c_op_Right_c1⟩, ⟨_, Tryd.func89, (by kernel_rfl), c_slices_ContainsFunc_Stamp⟩, ⟨_, Tryd.func90, (by kernel_rfl), c_op_Right_c2⟩, ⟨_, Tryd.func91, (by kernel_rfl), c_value_Right8⟩, ⟨_, Tryd.func92, (by kernel_rfl), c_slices_BinarySearchFunc_entry_Stamp⟩, ⟨_, Tryd.func93, (by kernel_rfl), c_graph_Graph_place_c1⟩, ⟨_, Tryd.func96, (by kernel_rfl), c_graph_entry_do_c1⟩, ⟨_, Tryd.func97, (by kernel_rfl), c_graph_entry_do_c2⟩, ⟨_, Tryd.func98, (by kernel_rfl), c_graph_Graph_ring⟩, fun _ h => (by cases h)⟩
def codes2 : List (Nat × AFunc) := [(F_graph_Graph_link, A_graph_Graph_link), (F_ref02_Compare, A_ref02_Compare), (F_ref02_Right, A_ref02_Right), (F_ref07_Place, A_ref07_Place), (F_ref04_Right, A_ref04_Right), (F_slices_IndexFunc_Stamp, A_slices_IndexFunc_Stamp), (F_value_Right, A_value_Right), (F_graph_Graph_link_c1, A_graph_Graph_link_c1), (F_value_good, A_value_good)]
theorem codes2_ok : ∀ x ∈ codes2, ∃ fn, Tryd.prog.funcs[x.1]? = some fn ∧ (fn.name == "runtime.NumGoroutine") = false ∧ cFunc Tryd.prog gl0 fn = some x.2 := by
  unfold codes2
  simp only [List.forall_mem_cons]
  exact ⟨⟨_, Tryd.func99, (by kernel_rfl), c_graph_Graph_link⟩, ⟨_, Tryd.func102, (by kernel_rfl), c_ref02_Compare⟩, ⟨_, Tryd.func103, (by kernel_rfl), c_ref02_Right⟩, ⟨_, Tryd.func104, (by kernel_rfl), c_ref07_Place⟩, ⟨_, Tryd.func105, (by kernel_rfl), c_ref04_Right⟩, ⟨_, Tryd.func106, (by kernel_rfl), c_slices_IndexFunc_Stamp⟩, ⟨_, Tryd.func107, (by kernel_rfl), c_value_Right⟩, ⟨_, Tryd.func109, (by kernel_rfl), c_graph_Graph_link_c1⟩, ⟨_, Tryd.func120, (by kernel_rfl), c_value_good⟩, fun _ h => (by cases h)⟩
def codes : List (Nat × AFunc) := codes0 ++ codes1 ++ codes2
theorem codes_ok : ∀ x ∈ codes, ∃ fn, Tryd.prog.funcs[x.1]? = some fn ∧ (fn.name == "runtime.NumGoroutine") = false ∧ cFunc Tryd.prog gl0 fn = some x.2 := by
  intro x hx
  simp only [codes, List.mem_append] at hx

  rcases hx with ((h | h) | h)
  · exact codes0_ok x h
  · exact codes1_ok x h
  · exact codes2_ok x h
end Go.Am.Tryd
