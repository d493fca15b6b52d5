/- The machine and what is proved of its runs, part 4: what each part says stands at its head. -/
import Derived.Test.YtefigbdkennhaaaDoorJ3
import Derived.Test.YtefigbdkennhaaaDoorChecked
import Derived.KernelRfl
import Derived.Shelf.SlSortCmp.NoneTotal
import Derived.Deep.Slices
import Derived.Below
import Derived.Shelf.SlGeneric
set_option linter.unusedSimpArgs false
set_option linter.unusedVariables false
set_option linter.unusedSectionVars false
/- What the machine runs: the code of the functions, by name, written by a program of mine, each tied to the given program by the kernel. -/
namespace Go.Am.Tryd
open Go Go.Am Go.Proofs
abbrev Row := List Go.Am.Item
abbrev r (t : Nat) : Opd := .tmp t
abbrev i (d : Nat) (op : AOp) : Go.Am.Item := ⟨⟨some d, op, none⟩, []⟩
abbrev i0 (op : AOp) : Go.Am.Item := ⟨⟨none, op, none⟩, []⟩
abbrev g (d : Nat) (op : AOp) (t : Nat) (b : Bool) : Go.Am.Item := ⟨⟨some d, op, some (t, b)⟩, []⟩
abbrev a (d : Nat) (op : AOp) : AOper := ⟨some d, op, none⟩
abbrev F_law10_TreePlays : Nat := 6
abbrev F_law10_Long : Nat := 10
abbrev F_law10_knows : Nat := 11
abbrev F_tree_New : Nat := 12
abbrev F_tree_Tree_Nodes : Nat := 14
abbrev F_tree_Tree_Above : Nat := 15
abbrev F_tree_Tree_Below : Nat := 16
abbrev F_tree_Tree_Spot : Nat := 17
abbrev F_tree_Tree_Within : Nat := 18
abbrev F_tree_Tree_Clone : Nat := 19
abbrev F_tree_Tree_Move : Nat := 20
abbrev F_law10_Own : Nat := 21
abbrev F_law10_num : Nat := 22
abbrev F_tree_Tree_Same : Nat := 23
abbrev F_tree_Tree_Add : Nat := 24
abbrev F_tree_Tree_Drop : Nat := 25
abbrev F_law10_step : Nat := 26
abbrev F_law10_same : Nat := 27
abbrev F_law05_Same : Nat := 28
abbrev F_ref10_Same : Nat := 29
abbrev F_tree_Tree_Has : Nat := 30
abbrev F_tree_Tree_none : Nat := 44
abbrev F_slices_SortedFunc_Stamp : Nat := 45
abbrev F_maps_Keys_Stamp_Spot : Nat := 46
abbrev F_stamp_Compare : Nat := 47
abbrev F_slices_Collect_Stamp : Nat := 48
abbrev F_tree_Tree_up : Nat := 49
abbrev F_tree_Tree_node : Nat := 50
abbrev F_maps_Clone_Stamp_Spot : Nat := 51
abbrev F_op_Node : Nat := 52
abbrev F_tree_Spot_right : Nat := 53
abbrev F_maps_Equal_Stamp_Spot : Nat := 54
abbrev F_ref10_Tree_Add : Nat := 55
abbrev F_ref10_Tree_Move : Nat := 56
abbrev F_ref10_Tree_Drop : Nat := 57
abbrev F_ref10_Tree_Spot : Nat := 58
abbrev F_ref10_Tree_Has : Nat := 59
abbrev F_ref10_Tree_Below : Nat := 60
abbrev F_ref10_Tree_Above : Nat := 61
abbrev F_ref10_Tree_Within : Nat := 62
abbrev F_op_Place : Nat := 63
abbrev F_slices_SortFunc_Stamp : Nat := 74
abbrev F_maps_Keys_Stamp_Spot_c1 : Nat := 75
abbrev F_slices_AppendSeq_Stamp : Nat := 76
abbrev F_tree_Tree_up_c1 : Nat := 77
abbrev F_stamp_Right : Nat := 79
abbrev F_poskey_Right : Nat := 80
abbrev F_ref10_Tree_find : Nat := 81
abbrev F_ref07_Node : Nat := 82
abbrev F_ref10_Right : Nat := 83
abbrev F_ref07_Root : Nat := 84
abbrev F_ref07_Trash : Nat := 85
abbrev F_ref02_Compare : Nat := 102
abbrev F_ref02_Right : Nat := 103
abbrev F_ref07_Place : Nat := 104
abbrev F_ref04_Right : Nat := 105
/-! diorama/dioramalaw10.TreeReaches -/
/-! diorama/dioramalaw10.TreeBelow -/
/-! diorama/dioramalaw10.TreeBack -/
/-! diorama/dioramalaw10.TreePlays -/
def A_law10_TreePlays_0 : Row := [i 4 (.mv (.const (.bool false)))]
def A_law10_TreePlays_1 : Row := [i 14 (.mv (r 0)), i 15 (.call (.func F_law10_Long) [.tmp 14]), i 16 (.mv (r 15)), g 17 (.mv (r 1)) 16 false, g 18 (.call (.func F_law10_Long)
  [.tmp 17]) 16 false, i 19 (.pick (r 16) (.const (.bool true)) (r 18)), i 20 (.mv (r 19)), g 21 (.mv (r 0)) 20 false, g 22 (.lenSlice (r 21)) 20 false, g 23 (.bin (.gtr)
  (r 22) (.const (.int (.i64) 50))) 20 false, i 24 (.pick (r 20) (.const (.bool true)) (r 23)), i 25 (.mv (r 24)), g 26 (.mv (r 1)) 25 false, g 27 (.lenSlice (r 26)) 25
  false, g 28 (.bin (.gtr) (r 27) (.const (.int (.i64) 50))) 25 false, i 29 (.pick (r 25) (.const (.bool true)) (r 28))]
def A_law10_TreePlays_2 : Row := [i 30 (.call (.func F_law10_knows) []), i 4 (.mv (r 30))]
def A_law10_TreePlays_3 : Row := [i 31 (.call (.func F_tree_New) []), i 5 (.mv (r 31))]
def A_law10_TreePlays_4 : Row := [i 32 (.call (.func F_tree_New) []), i 6 (.mv (r 32))]
def A_law10_TreePlays_5 : Row := [i 33 (.build [.slice none 0 (.exact 0)] []), i 34 (.box (r 33)), i 7 (.mv (r 34))]
def A_law10_TreePlays_6 : Row := [i 35 (.build [.slice none 0 (.exact 0)] []), i 36 (.box (r 35)), i 8 (.mv (r 36))]
def A_law10_TreePlays_7 : Row := [i 37 (.mv (r 5)), i 38 (.eqNil false (.ptr) (r 37) (.const (.ptr none))), i 39 (.mv (r 38)), g 40 (.mv (r 6)) 39 false, g 41 (.eqNil false
  (.ptr) (r 40) (.const (.ptr none))) 39 false, i 42 (.pick (r 39) (.const (.bool true)) (r 41)), i 43 (.mv (r 42)), g 44 (.call (.func F_law10_knows) []) 43 false, g 45
  (.un (.not) (r 44)) 43 false, i 46 (.pick (r 43) (.const (.bool true)) (r 45))]
def A_law10_TreePlays_8 : Row := [i 4 (.mv (.const (.bool false)))]
def A_law10_TreePlays_9 : Row := [i 9 (.mv (.const (.int (.i64) 0)))]
def A_law10_TreePlays_10 : Row := [i 47 (.mv (r 9)), i 48 (.mv (r 0)), i 49 (.lenSlice (r 48)), i 50 (.bin (.lss) (r 47) (r 49)), i 51 (.mv (r 50)), g 52 (.mv (r 9)) 51 false,
  g 53 (.mv (r 1)) 51 false, g 54 (.lenSlice (r 53)) 51 false, g 55 (.bin (.lss) (r 52) (r 54)) 51 false, i 56 (.pick (r 51) (.const (.bool true)) (r 55))]
def A_law10_TreePlays_11 : Row := [i 59 (.mv (r 9)), i 60 (.mv (r 0)), i 61 (.lenSlice (r 60)), i 62 (.bin (.lss) (r 59) (r 61))]
def A_law10_TreePlays_12 : Row := [i 63 (.mv (r 0)), i 64 (.mv (r 9)), i 65 (.indexAddr 6 (r 63) (r 64)), i 66 (.fieldAddr 0 (r 65)), i 67 (.load none (r 66)), i 68 (.bin
  (.eql) (r 67) (.const (.int (.i64) 3)))]
def A_law10_TreePlays_13 : Row := [i 69 (.mv (r 5)), i 70 (.call (.func F_tree_Tree_Clone) [.tmp 69]), i 10 (.mv (r 70))]
def A_law10_TreePlays_14 : Row := [i 71 (.mv (r 5)), i 72 (.build [.int (.i64) 0, .int (.i64) 0] [(0, 1, .const (.int (.i64) 549755813888))]), i 73 (.build [.int (.i64) 0,
  .int (.i64) 0, .str []] [(2, 1, .const (.str [122]))]), i 74 (.call (.func F_tree_Tree_Add) [.tmp 71, .tmp 72, .tmp 73])]
def A_law10_TreePlays_15 : Row := [i 75 (.mv (r 10)), i 5 (.mv (r 75))]
def A_law10_TreePlays_16 : Row := [i 76 (.mv (r 5)), i 77 (.eqNil false (.ptr) (r 76) (.const (.ptr none))), i 78 (.mv (r 77)), g 79 (.mv (r 5)) 78 false, g 80 (.mv (r 7)) 78
  false, g 81 (.mv (r 0)) 78 false, g 82 (.mv (r 9)) 78 false, g 83 (.indexAddr 6 (r 81) (r 82)) 78 false, g 84 (.load (some 6) (r 83)) 78 false, g 85 (.call (.func
  F_law10_step) [.tmp 79, .tmp 80, .tmp 84]) 78 false, g 86 (.un (.not) (r 85)) 78 false, i 87 (.pick (r 78) (.const (.bool true)) (r 86))]
def A_law10_TreePlays_17 : Row := [i 4 (.mv (.const (.bool false)))]
def A_law10_TreePlays_18 : Row := [i 88 (.mv (r 9)), i 89 (.mv (r 1)), i 90 (.lenSlice (r 89)), i 91 (.bin (.lss) (r 88) (r 90)), i 92 (.mv (r 91)), g 93 (.mv (r 6)) 92 true,
  g 94 (.mv (r 8)) 92 true, g 95 (.mv (r 1)) 92 true, g 96 (.mv (r 9)) 92 true, g 97 (.indexAddr 6 (r 95) (r 96)) 92 true, g 98 (.load (some 6) (r 97)) 92 true, g 99
  (.call (.func F_law10_step) [.tmp 93, .tmp 94, .tmp 98]) 92 true, g 100 (.un (.not) (r 99)) 92 true, i 101 (.pick (r 92) (r 100) (.const (.bool false)))]
def A_law10_TreePlays_19 : Row := [i 4 (.mv (.const (.bool false)))]
def A_law10_TreePlays_20 : Row := [i 11 (.mv (.const (.int (.i64) 0)))]
def A_law10_TreePlays_21 : Row := [i 102 (.mv (r 11)), i 103 (.mv (r 0)), i 104 (.lenSlice (r 103)), i 105 (.bin (.lss) (r 102) (r 104))]
def A_law10_TreePlays_22 : Row := [i 108 (.mv (r 5)), i 109 (.mv (r 7)), i 110 (.mv (r 0)), i 111 (.mv (r 11)), i 112 (.indexAddr 6 (r 110) (r 111)), i 113 (.fieldAddr 1 (r
  112)), i 114 (.load (some 2) (r 113)), i 115 (.mv (r 0)), i 116 (.mv (r 11)), i 117 (.indexAddr 6 (r 115) (r 116)), i 118 (.fieldAddr 3 (r 117)), i 119 (.fieldAddr 0 (r
  118)), i 120 (.load (some 2) (r 119)), i 121 (.call (.func F_law10_same) [.tmp 108, .tmp 109, .tmp 114, .tmp 120]), i 122 (.un (.not) (r 121))]
def A_law10_TreePlays_23 : Row := [i 4 (.mv (.const (.bool false)))]
def A_law10_TreePlays_24 : Row := [i 106 (.mv (r 11)), i 107 (.bin (.add) (r 106) (.const (.int (.i64) 1))), i 11 (.mv (r 107))]
def A_law10_TreePlays_25 : ACode := (.seq (.seq (.ops A_law10_TreePlays_21) (.cond (r 105) .skip (.exit 2))) (.seq (.block 3 (.seq (.ops A_law10_TreePlays_22) (.cond (r 122)
  (.seq (.ops A_law10_TreePlays_23) .ret) .skip))) (.ops A_law10_TreePlays_24)))
def A_law10_TreePlays_26 : Row := [i 57 (.mv (r 9)), i 58 (.bin (.add) (r 57) (.const (.int (.i64) 1))), i 9 (.mv (r 58))]
def A_law10_TreePlays_27 : ACode := (.seq (.seq (.ops A_law10_TreePlays_10) (.cond (r 56) .skip (.exit 0))) (.seq (.block 1 (.seq (.seq (.ops A_law10_TreePlays_11) (.cond (r
  62) (.seq (.seq (.ops A_law10_TreePlays_12) (.cond (r 68) (.seq (.ops A_law10_TreePlays_13) (.seq (.ops A_law10_TreePlays_14) (.ops A_law10_TreePlays_15))) .skip)) (.seq
  (.ops A_law10_TreePlays_16) (.cond (r 87) (.seq (.ops A_law10_TreePlays_17) .ret) .skip))) .skip)) (.seq (.seq (.ops A_law10_TreePlays_18) (.cond (r 101) (.seq (.ops
  A_law10_TreePlays_19) .ret) .skip)) (.seq (.ops A_law10_TreePlays_20) (.block 2 (.loop A_law10_TreePlays_25)))))) (.ops A_law10_TreePlays_26)))
def A_law10_TreePlays_28 : Row := [i 12 (.mv (.const (.slice none 0 (.exact 0))))]
def A_law10_TreePlays_29 : Row := [i 13 (.mv (.const (.int (.i64) 0)))]
def A_law10_TreePlays_30 : Row := [i 123 (.mv (r 13)), i 124 (.mv (r 7)), i 125 (.nilCheck (r 124)), i 126 (.fieldAddr 0 (r 125)), i 127 (.load none (r 126)), i 128 (.lenSlice
  (r 127)), i 129 (.bin (.lss) (r 123) (r 128))]
def A_law10_TreePlays_31 : Row := [i 132 (.mv (r 12)), i 133 (.mv (r 7)), i 134 (.nilCheck (r 133)), i 135 (.fieldAddr 0 (r 134)), i 136 (.load none (r 135)), i 137 (.mv (r
  13)), i 138 (.indexAddr 5 (r 136) (r 137)), i 139 (.fieldAddr 0 (r 138)), i 140 (.load (some 2) (r 139)), i 141 (.buildSlice 1 [.int (.i64) 0, .int (.i64) 0] [(0, 2,
  .tmp 140)]), i 142 (.append 2 16 (r 132) (r 141)), i 12 (.mv (r 142))]
def A_law10_TreePlays_32 : Row := [i 130 (.mv (r 13)), i 131 (.bin (.add) (r 130) (.const (.int (.i64) 1))), i 13 (.mv (r 131))]
def A_law10_TreePlays_33 : ACode := (.seq (.seq (.ops A_law10_TreePlays_30) (.cond (r 129) .skip (.exit 4))) (.seq (.block 5 (.ops A_law10_TreePlays_31)) (.ops
  A_law10_TreePlays_32)))
def A_law10_TreePlays_34 : Row := [i 143 (.mv (r 5)), i 144 (.call (.func F_tree_Tree_Nodes) [.tmp 143]), i 145 (.mv (r 12)), i 146 (.call (.func F_law05_Same) [.tmp 144, .tmp
  145]), i 147 (.mv (r 146)), g 148 (.mv (r 5)) 147 true, g 149 (.mv (r 6)) 147 true, g 150 (.call (.func F_tree_Tree_Same) [.tmp 148, .tmp 149]) 147 true, g 151 (.mv (r
  7)) 147 true, g 152 (.mv (r 8)) 147 true, g 153 (.call (.func F_ref10_Same) [.tmp 151, .tmp 152]) 147 true, g 154 (.eq false ⟨false, [.bool]⟩ (r 150) (r 153)) 147 true,
  i 155 (.pick (r 147) (r 154) (.const (.bool false))), i 156 (.mv (r 155)), g 157 (.mv (r 5)) 156 true, g 158 (.mv (r 5)) 156 true, g 159 (.call (.func F_tree_Tree_Clone)
  [.tmp 158]) 156 true, g 160 (.call (.func F_tree_Tree_Same) [.tmp 157, .tmp 159]) 156 true, i 161 (.pick (r 156) (r 160) (.const (.bool false))), i 4 (.mv (r 161))]
/-- diorama/dioramalaw10.TreePlays -/
def A_law10_TreePlays : AFunc :=
 ⟨162, [.tmp 4], (.seq (.ops A_law10_TreePlays_0) (.seq (.seq (.ops A_law10_TreePlays_1) (.cond (r 29) (.seq (.ops A_law10_TreePlays_2) .ret) .skip)) (.seq (.ops
  A_law10_TreePlays_3) (.seq (.ops A_law10_TreePlays_4) (.seq (.ops A_law10_TreePlays_5) (.seq (.ops A_law10_TreePlays_6) (.seq (.seq (.ops A_law10_TreePlays_7) (.cond (r
  46) (.seq (.ops A_law10_TreePlays_8) .ret) .skip)) (.seq (.seq (.ops A_law10_TreePlays_9) (.block 0 (.loop A_law10_TreePlays_27))) (.seq (.ops A_law10_TreePlays_28)
  (.seq (.seq (.ops A_law10_TreePlays_29) (.block 4 (.loop A_law10_TreePlays_33))) (.seq (.ops A_law10_TreePlays_34) .ret)))))))))))⟩
/-! diorama/dioramalaw10.TreeNil -/
/-! diorama/dioramalaw13.GraphAnyOrder -/
/-! diorama/dioramalaw13.GraphPassed -/
/-! diorama/dioramalaw10.Long -/
def A_law10_Long_0 : Row := [i 2 (.mv (.const (.bool false)))]
def A_law10_Long_1 : Row := [i 3 (.mv (.const (.int (.i64) 0)))]
def A_law10_Long_2 : Row := [i 4 (.mv (r 3)), i 5 (.mv (r 0)), i 6 (.lenSlice (r 5)), i 7 (.bin (.lss) (r 4) (r 6)), i 8 (.mv (r 7)), g 9 (.mv (r 3)) 8 true, g 10 (.bin (.lss)
  (r 9) (.const (.int (.i64) 300))) 8 true, i 11 (.pick (r 8) (r 10) (.const (.bool false)))]
def A_law10_Long_3 : Row := [i 14 (.mv (r 0)), i 15 (.mv (r 3)), i 16 (.indexAddr 6 (r 14) (r 15)), i 17 (.fieldAddr 3 (r 16)), i 18 (.fieldAddr 2 (r 17)), i 19 (.load none (r
  18)), i 20 (.lenStr (r 19)), i 21 (.bin (.gtr) (r 20) (.const (.int (.i64) 500)))]
def A_law10_Long_4 : Row := [i 2 (.mv (.const (.bool true)))]
def A_law10_Long_5 : Row := [i 12 (.mv (r 3)), i 13 (.bin (.add) (r 12) (.const (.int (.i64) 1))), i 3 (.mv (r 13))]
def A_law10_Long_6 : ACode := (.seq (.seq (.ops A_law10_Long_2) (.cond (r 11) .skip (.exit 0))) (.seq (.block 1 (.seq (.ops A_law10_Long_3) (.cond (r 21) (.seq (.ops
  A_law10_Long_4) .ret) .skip))) (.ops A_law10_Long_5)))
def A_law10_Long_7 : Row := [i 22 (.mv (r 0)), i 23 (.lenSlice (r 22)), i 24 (.bin (.gtr) (r 23) (.const (.int (.i64) 150))), i 2 (.mv (r 24))]
/-- diorama/dioramalaw10.Long -/
def A_law10_Long : AFunc :=
 ⟨25, [.tmp 2], (.seq (.ops A_law10_Long_0) (.seq (.seq (.ops A_law10_Long_1) (.block 0 (.loop A_law10_Long_6))) (.seq (.ops A_law10_Long_7) .ret)))⟩
/-! diorama/dioramalaw10.knows -/
def A_law10_knows_0 : Row := [i 0 (.mv (.const (.bool false)))]
def A_law10_knows_1 : Row := [i 10 (.call (.func F_tree_New) []), i 1 (.mv (r 10))]
def A_law10_knows_2 : Row := [i 11 (.build [.int (.i64) 0, .int (.i64) 0] [(0, 1, .const (.int (.i64) 1))]), i 2 (.alloc [.int (.i64) 0, .int (.i64) 0]), i0 (.store 2 (r 2) (r
  11))]
def A_law10_knows_3 : Row := [i 12 (.build [.int (.i64) 0, .int (.i64) 0] [(0, 1, .const (.int (.i64) 2))]), i 3 (.alloc [.int (.i64) 0, .int (.i64) 0]), i0 (.store 2 (r 3) (r
  12))]
def A_law10_knows_4 : Row := [i 13 (.mv (r 1)), i 14 (.load (some 2) (r 2)), i 15 (.build [.int (.i64) 0, .int (.i64) 0, .str []] [(2, 1, .const (.str [97]))]), i 16 (.call
  (.func F_tree_Tree_Add) [.tmp 13, .tmp 14, .tmp 15]), i 4 (.mv (r 16))]
def A_law10_knows_5 : Row := [i 17 (.mv (r 1)), i 18 (.load (some 2) (r 3)), i 19 (.load (some 2) (r 2)), i 20 (.build [.int (.i64) 0, .int (.i64) 0, .str []] [(0, 2, .tmp
  19), (2, 1, .const (.str [97]))]), i 21 (.call (.func F_tree_Tree_Add) [.tmp 17, .tmp 18, .tmp 20]), i 5 (.mv (r 21))]
def A_law10_knows_6 : Row := [i 23 (.mv (r 1)), i 24 (.load (some 2) (r 2)), i 25 (.load (some 2) (r 3)), i 26 (.build [.int (.i64) 0, .int (.i64) 0, .str []] [(0, 2, .tmp
  25), (2, 1, .const (.str [97]))]), i 27 (.call (.func F_tree_Tree_Move) [.tmp 23, .tmp 24, .tmp 26]), i 22 (.mv (r 27)), i 28 (.extract (r 22) 0), i 29 (.extract (r 22)
  1), i 6 (.alloc [.int (.i64) 0, .int (.i64) 0, .str []]), i0 (.store 3 (r 6) (r 28)), i 7 (.mv (r 29))]
def A_law10_knows_7 : Row := [i 31 (.mv (r 1)), i 32 (.load (some 2) (r 3)), i 33 (.build [.int (.i64) 0, .int (.i64) 0] [(1, 1, .const (.int (.i64) 1))]), i 34 (.build [.int
  (.i64) 0, .int (.i64) 0, .str []] [(0, 2, .tmp 33), (2, 1, .const (.str [98]))]), i 35 (.call (.func F_tree_Tree_Move) [.tmp 31, .tmp 32, .tmp 34]), i 30 (.mv (r 35)), i
  36 (.extract (r 30) 0), i 37 (.extract (r 30) 1), i 8 (.alloc [.int (.i64) 0, .int (.i64) 0, .str []]), i0 (.store 3 (r 8) (r 36)), i 9 (.mv (r 37))]
def A_law10_knows_8 : Row := [i 38 (.mv (r 4)), i 39 (.call (.func F_law10_num) [.tmp 38]), i 40 (.mv (r 5)), i 41 (.call (.func F_law10_num) [.tmp 40]), i 42 (.bin (.add) (r
  39) (r 41)), i 43 (.mv (r 9)), i 44 (.call (.func F_law10_num) [.tmp 43]), i 45 (.bin (.add) (r 42) (r 44)), i 46 (.bin (.eql) (r 45) (.const (.int (.i64) 0))), i 47
  (.mv (r 46)), g 48 (.mv (r 7)) 47 true, g 49 (.call (.func F_law10_num) [.tmp 48]) 47 true, g 50 (.bin (.eql) (r 49) (.const (.int (.i64) 41))) 47 true, i 51 (.pick (r
  47) (r 50) (.const (.bool false))), i 52 (.mv (r 51)), g 53 (.mv (r 1)) 52 true, g 54 (.load (some 2) (r 2)) 52 true, g 55 (.load (some 2) (r 2)) 52 true, g 56 (.call
  (.func F_tree_Tree_Within) [.tmp 53, .tmp 54, .tmp 55]) 52 true, i 57 (.pick (r 52) (r 56) (.const (.bool false))), i 58 (.mv (r 57)), g 59 (.mv (r 1)) 58 true, g 60
  (.load (some 2) (r 2)) 58 true, g 61 (.load (some 2) (r 3)) 58 true, g 62 (.call (.func F_tree_Tree_Within) [.tmp 59, .tmp 60, .tmp 61]) 58 true, g 63 (.un (.not) (r
  62)) 58 true, i 64 (.pick (r 58) (r 63) (.const (.bool false))), i 65 (.mv (r 64)), g 66 (.mv (r 1)) 65 true, g 67 (.call (.func F_tree_Tree_Nodes) [.tmp 66]) 65 true, g
  68 (.lenSlice (r 67)) 65 true, g 69 (.bin (.eql) (r 68) (.const (.int (.i64) 2))) 65 true, i 70 (.pick (r 65) (r 69) (.const (.bool false))), i 0 (.mv (r 70))]
/-- diorama/dioramalaw10.knows -/
def A_law10_knows : AFunc :=
 ⟨71, [.tmp 0], (.seq (.ops A_law10_knows_0) (.seq (.ops A_law10_knows_1) (.seq (.ops A_law10_knows_2) (.seq (.ops A_law10_knows_3) (.seq (.ops A_law10_knows_4) (.seq (.ops
  A_law10_knows_5) (.seq (.ops A_law10_knows_6) (.seq (.ops A_law10_knows_7) (.seq (.ops A_law10_knows_8) .ret)))))))))⟩
/-! diorama/tree.New -/
def A_tree_New_0 : Row := [i 0 (.mv (.const (.ptr none)))]
def A_tree_New_1 : Row := [i 1 (.makeMap), i 2 (.build [.map none] [(0, 1, .tmp 1)]), i 3 (.box (r 2)), i 0 (.mv (r 3))]
/-- diorama/tree.New -/
def A_tree_New : AFunc :=
 ⟨4, [.tmp 0], (.seq (.ops A_tree_New_0) (.seq (.ops A_tree_New_1) .ret))⟩
/-! diorama/dioramalaw10.do -/
/-! (*diorama/tree.Tree).Nodes -/
def A_tree_Tree_Nodes_0 : Row := [i 2 (.mv (.const (.slice none 0 (.exact 0))))]
def A_tree_Tree_Nodes_1 : Row := [i 3 (.mv (r 0)), i 4 (.call (.func F_tree_Tree_none) [.tmp 3])]
def A_tree_Tree_Nodes_2 : Row := [i 2 (.mv (.const (.slice none 0 (.exact 0))))]
def A_tree_Tree_Nodes_3 : Row := [i 5 (.mv (r 0)), i 6 (.nilCheck (r 5)), i 7 (.fieldAddr 0 (r 6)), i 8 (.load none (r 7)), i 9 (.call (.func F_maps_Keys_Stamp_Spot) [.tmp
  8]), i 10 (.call (.func F_slices_SortedFunc_Stamp) [.tmp 9, .func F_stamp_Compare]), i 2 (.mv (r 10))]
/-- (*diorama/tree.Tree).Nodes -/
def A_tree_Tree_Nodes : AFunc :=
 ⟨11, [.tmp 2], (.seq (.ops A_tree_Tree_Nodes_0) (.seq (.seq (.ops A_tree_Tree_Nodes_1) (.cond (r 4) (.seq (.ops A_tree_Tree_Nodes_2) .ret) .skip)) (.seq (.ops
  A_tree_Tree_Nodes_3) .ret)))⟩
/-! (*diorama/tree.Tree).Below -/
def A_tree_Tree_Below_0 : Row := [i 3 (.box (r 1)), i 4 (.mv (.const (.slice none 0 (.exact 0))))]
def A_tree_Tree_Below_1 : Row := [i 5 (.mv (.const (.slice none 0 (.exact 0))))]
def A_tree_Tree_Below_2 : Row := [i 8 (.mv (r 0)), i 9 (.call (.func F_tree_Tree_Nodes) [.tmp 8]), i 10 (.lenSlice (r 9)), i 11 (.mv (.const (.int (.i64) 0)))]
def A_tree_Tree_Below_3 : Row := [i 12 (.bin (.lss) (r 11) (r 10))]
def A_tree_Tree_Below_4 : Row := [i 13 (.indexAddr 2 (r 9) (r 11)), i 14 (.load (some 2) (r 13)), i 7 (.alloc [.int (.i64) 0, .int (.i64) 0]), i0 (.store 2 (r 7) (r 14))]
def A_tree_Tree_Below_5 : Row := [i 15 (.mv (r 0)), i 16 (.nilCheck (r 15)), i 17 (.fieldAddr 0 (r 16)), i 18 (.load none (r 17)), i 19 (.load (some 2) (r 7)), i 20 (.lookup
  ⟨true, [.int (.i64), .int (.i64)]⟩ (.agg [.int (.i64) 0, .int (.i64) 0, .str []]) false (r 18) (r 19)), i 21 (.field 0 (some 2) (r 20)), i 22 (.load (some 2) (r 3)), i
  23 (.eq false ⟨true, [.int (.i64), .int (.i64)]⟩ (r 21) (r 22))]
def A_tree_Tree_Below_6 : Row := [i 24 (.mv (r 5)), i 25 (.load (some 2) (r 7)), i 26 (.buildSlice 1 [.int (.i64) 0, .int (.i64) 0] [(0, 2, .tmp 25)]), i 27 (.append 2 16 (r
  24) (r 26)), i 5 (.mv (r 27))]
def A_tree_Tree_Below_7 : Row := [i 28 (.bin (.add) (r 11) (.const (.int (.i64) 1))), i 11 (.mv (r 28))]
def A_tree_Tree_Below_8 : ACode := (.seq (.ops A_tree_Tree_Below_3) (.seq (.cond (r 12) .skip (.exit 0)) (.seq (.block 1 (.seq (.ops A_tree_Tree_Below_4) (.seq (.ops
  A_tree_Tree_Below_5) (.cond (r 23) (.ops A_tree_Tree_Below_6) .skip)))) (.ops A_tree_Tree_Below_7))))
def A_tree_Tree_Below_9 : Row := [i 29 (.mv (r 5)), i 4 (.mv (r 29))]
/-- (*diorama/tree.Tree).Below -/
def A_tree_Tree_Below : AFunc :=
 ⟨30, [.tmp 4], (.seq (.ops A_tree_Tree_Below_0) (.seq (.ops A_tree_Tree_Below_1) (.seq (.seq (.ops A_tree_Tree_Below_2) (.block 0 (.loop A_tree_Tree_Below_8))) (.seq (.ops
  A_tree_Tree_Below_9) .ret))))⟩
/-! (*diorama/tree.Tree).Spot -/
def A_tree_Tree_Spot_0 : Row := [i 3 (.box (r 1)), i 4 (.alloc [.int (.i64) 0, .int (.i64) 0, .str []]), i 5 (.mv (.const (.bool false)))]
def A_tree_Tree_Spot_1 : Row := [i 8 (.mv (r 0)), i 9 (.call (.func F_tree_Tree_none) [.tmp 8])]
def A_tree_Tree_Spot_2 : Row := [i 10 (.build [.int (.i64) 0, .int (.i64) 0, .str []] []), i0 (.store 3 (r 4) (r 10)), i 5 (.mv (.const (.bool false)))]
def A_tree_Tree_Spot_3 : Row := [i 12 (.mv (r 0)), i 13 (.nilCheck (r 12)), i 14 (.fieldAddr 0 (r 13)), i 15 (.load none (r 14)), i 16 (.load (some 2) (r 3)), i 17 (.lookup
  ⟨true, [.int (.i64), .int (.i64)]⟩ (.agg [.int (.i64) 0, .int (.i64) 0, .str []]) true (r 15) (r 16)), i 11 (.mv (r 17)), i 18 (.extract (r 11) 0), i 19 (.extract (r 11)
  1), i 6 (.alloc [.int (.i64) 0, .int (.i64) 0, .str []]), i0 (.store 3 (r 6) (r 18)), i 7 (.mv (r 19))]
def A_tree_Tree_Spot_4 : Row := [i 20 (.load (some 3) (r 6)), i 21 (.mv (r 7)), i0 (.store 3 (r 4) (r 20)), i 5 (.mv (r 21))]
/-- (*diorama/tree.Tree).Spot -/
def A_tree_Tree_Spot : AFunc :=
 ⟨22, [.cell 4 (some 3), .tmp 5], (.seq (.ops A_tree_Tree_Spot_0) (.seq (.seq (.ops A_tree_Tree_Spot_1) (.cond (r 9) (.seq (.ops A_tree_Tree_Spot_2) .ret) .skip)) (.seq
  (.ops A_tree_Tree_Spot_3) (.seq (.ops A_tree_Tree_Spot_4) .ret))))⟩
/-! (*diorama/tree.Tree).Clone -/
def A_tree_Tree_Clone_0 : Row := [i 2 (.mv (.const (.ptr none)))]
def A_tree_Tree_Clone_1 : Row := [i 3 (.mv (r 0)), i 4 (.call (.func F_tree_Tree_none) [.tmp 3])]
def A_tree_Tree_Clone_2 : Row := [i 2 (.mv (.const (.ptr none)))]
def A_tree_Tree_Clone_3 : Row := [i 5 (.mv (r 0)), i 6 (.nilCheck (r 5)), i 7 (.fieldAddr 0 (r 6)), i 8 (.load none (r 7)), i 9 (.call (.func F_maps_Clone_Stamp_Spot) [.tmp
  8]), i 10 (.build [.map none] [(0, 1, .tmp 9)]), i 11 (.box (r 10)), i 2 (.mv (r 11))]
/-- (*diorama/tree.Tree).Clone -/
def A_tree_Tree_Clone : AFunc :=
 ⟨12, [.tmp 2], (.seq (.ops A_tree_Tree_Clone_0) (.seq (.seq (.ops A_tree_Tree_Clone_1) (.cond (r 4) (.seq (.ops A_tree_Tree_Clone_2) .ret) .skip)) (.seq (.ops
  A_tree_Tree_Clone_3) .ret)))⟩
/-! (*diorama/tree.Tree).Move -/
def A_tree_Tree_Move_0 : Row := [i 4 (.box (r 1)), i 5 (.box (r 2)), i 6 (.alloc [.int (.i64) 0, .int (.i64) 0, .str []]), i 7 (.mv (.const (.int (.i64) 0)))]
def A_tree_Tree_Move_1 : Row := [i 9 (.mv (r 0)), i 10 (.call (.func F_tree_Tree_none) [.tmp 9]), i 11 (.mv (r 10)), g 12 (.load (some 2) (r 4)) 11 false, g 13 (.call (.func
  F_op_Node) [.tmp 12]) 11 false, g 14 (.un (.not) (r 13)) 11 false, i 15 (.pick (r 11) (.const (.bool true)) (r 14)), i 16 (.mv (r 15)), g 17 (.load (some 3) (r 5)) 16
  false, g 18 (.call (.func F_tree_Spot_right) [.tmp 17]) 16 false, g 19 (.un (.not) (r 18)) 16 false, i 20 (.pick (r 16) (.const (.bool true)) (r 19)), i 8 (.mv (r 20))]
def A_tree_Tree_Move_2 : Row := [i 21 (.load (some 3) (r 6)), i0 (.store 3 (r 6) (r 21)), i 7 (.mv (.const (.int (.i64) 1)))]
def A_tree_Tree_Move_3 : Row := [i 23 (.mv (r 0)), i 24 (.load (some 2) (r 4)), i 25 (.call (.func F_tree_Tree_node) [.tmp 23, .tmp 24]), i 26 (.un (.not) (r 25)), i 27 (.mv
  (r 26)), g 28 (.mv (r 0)) 27 false, g 29 (.fieldAddr 0 (r 5)) 27 false, g 30 (.load (some 2) (r 29)) 27 false, g 31 (.call (.func F_tree_Tree_Has) [.tmp 28, .tmp 30]) 27
  false, g 32 (.un (.not) (r 31)) 27 false, i 33 (.pick (r 27) (.const (.bool true)) (r 32)), i 22 (.mv (r 33))]
def A_tree_Tree_Move_4 : Row := [i 34 (.load (some 3) (r 6)), i0 (.store 3 (r 6) (r 34)), i 7 (.mv (.const (.int (.i64) 3)))]
def A_tree_Tree_Move_5 : Row := [i 36 (.mv (r 0)), i 37 (.load (some 2) (r 4)), i 38 (.fieldAddr 0 (r 5)), i 39 (.load (some 2) (r 38)), i 40 (.call (.func F_tree_Tree_Within)
  [.tmp 36, .tmp 37, .tmp 39]), i 35 (.mv (r 40))]
def A_tree_Tree_Move_6 : Row := [i 41 (.load (some 3) (r 6)), i0 (.store 3 (r 6) (r 41)), i 7 (.mv (.const (.int (.i64) 41)))]
def A_tree_Tree_Move_7 : Row := [i 42 (.mv (r 0)), i 43 (.nilCheck (r 42)), i 44 (.fieldAddr 0 (r 43)), i 45 (.load none (r 44)), i 46 (.load (some 2) (r 4)), i 47 (.lookup
  ⟨true, [.int (.i64), .int (.i64)]⟩ (.agg [.int (.i64) 0, .int (.i64) 0, .str []]) false (r 45) (r 46)), i0 (.store 3 (r 6) (r 47))]
def A_tree_Tree_Move_8 : Row := [i 48 (.mv (r 0)), i 49 (.nilCheck (r 48)), i 50 (.fieldAddr 0 (r 49)), i 51 (.load none (r 50)), i 52 (.load (some 2) (r 4)), i 53 (.load
  (some 3) (r 5)), i0 (.mapUpdate ⟨true, [.int (.i64), .int (.i64)]⟩ (r 51) (r 52) (r 53))]
def A_tree_Tree_Move_9 : Row := [i 54 (.load (some 3) (r 6)), i0 (.store 3 (r 6) (r 54)), i 7 (.mv (.const (.int (.i64) 0)))]
/-- (*diorama/tree.Tree).Move -/
def A_tree_Tree_Move : AFunc :=
 ⟨55, [.cell 6 (some 3), .tmp 7], (.seq (.ops A_tree_Tree_Move_0) (.seq (.block 0 (.seq (.ops A_tree_Tree_Move_1) (.cond (r 8) (.seq (.ops A_tree_Tree_Move_2) .ret) (.seq
  (.ops A_tree_Tree_Move_3) (.cond (r 22) (.seq (.ops A_tree_Tree_Move_4) .ret) (.seq (.ops A_tree_Tree_Move_5) (.cond (r 35) (.seq (.ops A_tree_Tree_Move_6) .ret)
  .skip))))))) (.seq (.ops A_tree_Tree_Move_7) (.seq (.ops A_tree_Tree_Move_8) (.seq (.ops A_tree_Tree_Move_9) .ret)))))⟩
/-! diorama/dioramalaw10.Own -/
def A_law10_Own_0 : Row := [i 1 (.box (r 0)), i 2 (.alloc [.int (.i64) 0, .int (.i64) 0, .str []])]
def A_law10_Own_1 : Row := [i 3 (.fieldAddr 0 (r 1)), i 4 (.load (some 2) (r 3)), i 5 (.fieldAddr 2 (r 1)), i 6 (.load none (r 5)), i 7 (.build [.int (.i64) 0, .int (.i64) 0,
  .str []] [(0, 2, .tmp 4), (2, 1, .tmp 6)]), i0 (.store 3 (r 2) (r 7))]
/-- diorama/dioramalaw10.Own -/
def A_law10_Own : AFunc :=
 ⟨8, [.cell 2 (some 3)], (.seq (.ops A_law10_Own_0) (.seq (.ops A_law10_Own_1) .ret))⟩
/-! diorama/dioramalaw10.num -/
def A_law10_num_0 : Row := [i 2 (.mv (.const (.int (.i64) 0)))]
def A_law10_num_1 : Row := [i 3 (.mv (r 0)), i 2 (.mv (r 3))]
/-- diorama/dioramalaw10.num -/
def A_law10_num : AFunc :=
 ⟨4, [.tmp 2], (.seq (.ops A_law10_num_0) (.seq (.ops A_law10_num_1) .ret))⟩
/-! (*diorama/tree.Tree).Same -/
def A_tree_Tree_Same_0 : Row := [i 4 (.mv (.const (.bool false)))]
def A_tree_Tree_Same_1 : Row := [i 5 (.mv (r 0)), i 6 (.call (.func F_tree_Tree_none) [.tmp 5]), i 7 (.un (.not) (r 6)), i 8 (.mv (r 7)), g 9 (.mv (r 1)) 8 true, g 10 (.call
  (.func F_tree_Tree_none) [.tmp 9]) 8 true, g 11 (.un (.not) (r 10)) 8 true, i 12 (.pick (r 8) (r 11) (.const (.bool false))), i 13 (.mv (r 12)), g 14 (.mv (r 0)) 13
  true, g 15 (.nilCheck (r 14)) 13 true, g 16 (.fieldAddr 0 (r 15)) 13 true, g 17 (.load none (r 16)) 13 true, g 18 (.mv (r 1)) 13 true, g 19 (.nilCheck (r 18)) 13 true, g
  20 (.fieldAddr 0 (r 19)) 13 true, g 21 (.load none (r 20)) 13 true, g 22 (.call (.func F_maps_Equal_Stamp_Spot) [.tmp 17, .tmp 21]) 13 true, i 23 (.pick (r 13) (r 22)
  (.const (.bool false))), i 4 (.mv (r 23))]
/-- (*diorama/tree.Tree).Same -/
def A_tree_Tree_Same : AFunc :=
 ⟨24, [.tmp 4], (.seq (.ops A_tree_Tree_Same_0) (.seq (.ops A_tree_Tree_Same_1) .ret))⟩
/-! (*diorama/tree.Tree).Add -/
def A_tree_Tree_Add_0 : Row := [i 4 (.box (r 1)), i 5 (.box (r 2)), i 6 (.mv (.const (.int (.i64) 0)))]
def A_tree_Tree_Add_1 : Row := [i 8 (.mv (r 0)), i 9 (.call (.func F_tree_Tree_none) [.tmp 8]), i 10 (.mv (r 9)), g 11 (.load (some 2) (r 4)) 10 false, g 12 (.call (.func
  F_op_Node) [.tmp 11]) 10 false, g 13 (.un (.not) (r 12)) 10 false, i 14 (.pick (r 10) (.const (.bool true)) (r 13)), i 15 (.mv (r 14)), g 16 (.load (some 3) (r 5)) 15
  false, g 17 (.call (.func F_tree_Spot_right) [.tmp 16]) 15 false, g 18 (.un (.not) (r 17)) 15 false, i 19 (.pick (r 15) (.const (.bool true)) (r 18)), i 7 (.mv (r 19))]
def A_tree_Tree_Add_2 : Row := [i 6 (.mv (.const (.int (.i64) 1)))]
def A_tree_Tree_Add_3 : Row := [i 21 (.mv (r 0)), i 22 (.load (some 2) (r 4)), i 23 (.call (.func F_tree_Tree_node) [.tmp 21, .tmp 22]), i 20 (.mv (r 23))]
def A_tree_Tree_Add_4 : Row := [i 6 (.mv (.const (.int (.i64) 4)))]
def A_tree_Tree_Add_5 : Row := [i 25 (.mv (r 0)), i 26 (.fieldAddr 0 (r 5)), i 27 (.load (some 2) (r 26)), i 28 (.call (.func F_tree_Tree_Has) [.tmp 25, .tmp 27]), i 29 (.un
  (.not) (r 28)), i 24 (.mv (r 29))]
def A_tree_Tree_Add_6 : Row := [i 6 (.mv (.const (.int (.i64) 3)))]
def A_tree_Tree_Add_7 : Row := [i 31 (.mv (r 0)), i 32 (.nilCheck (r 31)), i 33 (.fieldAddr 0 (r 32)), i 34 (.load none (r 33)), i 35 (.lenMap (r 34)), i 36 (.bin (.geq) (r
  35) (.const (.int (.i64) 65536))), i 30 (.mv (r 36))]
def A_tree_Tree_Add_8 : Row := [i 6 (.mv (.const (.int (.i64) 7)))]
def A_tree_Tree_Add_9 : Row := [i 37 (.mv (r 0)), i 38 (.nilCheck (r 37)), i 39 (.fieldAddr 0 (r 38)), i 40 (.load none (r 39)), i 41 (.load (some 2) (r 4)), i 42 (.load (some
  3) (r 5)), i0 (.mapUpdate ⟨true, [.int (.i64), .int (.i64)]⟩ (r 40) (r 41) (r 42))]
def A_tree_Tree_Add_10 : Row := [i 6 (.mv (.const (.int (.i64) 0)))]
/-- (*diorama/tree.Tree).Add -/
def A_tree_Tree_Add : AFunc :=
 ⟨43, [.tmp 6], (.seq (.ops A_tree_Tree_Add_0) (.seq (.block 0 (.seq (.ops A_tree_Tree_Add_1) (.cond (r 7) (.seq (.ops A_tree_Tree_Add_2) .ret) (.seq (.ops
  A_tree_Tree_Add_3) (.cond (r 20) (.seq (.ops A_tree_Tree_Add_4) .ret) (.seq (.ops A_tree_Tree_Add_5) (.cond (r 24) (.seq (.ops A_tree_Tree_Add_6) .ret) (.seq (.ops
  A_tree_Tree_Add_7) (.cond (r 30) (.seq (.ops A_tree_Tree_Add_8) .ret) .skip))))))))) (.seq (.ops A_tree_Tree_Add_9) (.seq (.ops A_tree_Tree_Add_10) .ret))))⟩
/-! (*diorama/tree.Tree).Drop -/
def A_tree_Tree_Drop_0 : Row := [i 3 (.box (r 1)), i 4 (.alloc [.int (.i64) 0, .int (.i64) 0, .str []]), i 5 (.mv (.const (.int (.i64) 0)))]
def A_tree_Tree_Drop_1 : Row := [i 7 (.mv (r 0)), i 8 (.call (.func F_tree_Tree_none) [.tmp 7]), i 6 (.mv (r 8))]
def A_tree_Tree_Drop_2 : Row := [i 9 (.load (some 3) (r 4)), i0 (.store 3 (r 4) (r 9)), i 5 (.mv (.const (.int (.i64) 1)))]
def A_tree_Tree_Drop_3 : Row := [i 11 (.mv (r 0)), i 12 (.load (some 2) (r 3)), i 13 (.call (.func F_tree_Tree_node) [.tmp 11, .tmp 12]), i 14 (.un (.not) (r 13)), i 10 (.mv
  (r 14))]
def A_tree_Tree_Drop_4 : Row := [i 15 (.load (some 3) (r 4)), i0 (.store 3 (r 4) (r 15)), i 5 (.mv (.const (.int (.i64) 3)))]
def A_tree_Tree_Drop_5 : Row := [i 17 (.mv (r 0)), i 18 (.load (some 2) (r 3)), i 19 (.call (.func F_tree_Tree_Below) [.tmp 17, .tmp 18]), i 20 (.lenSlice (r 19)), i 21 (.bin
  (.gtr) (r 20) (.const (.int (.i64) 0))), i 16 (.mv (r 21))]
def A_tree_Tree_Drop_6 : Row := [i 22 (.load (some 3) (r 4)), i0 (.store 3 (r 4) (r 22)), i 5 (.mv (.const (.int (.i64) 4)))]
def A_tree_Tree_Drop_7 : Row := [i 23 (.mv (r 0)), i 24 (.nilCheck (r 23)), i 25 (.fieldAddr 0 (r 24)), i 26 (.load none (r 25)), i 27 (.load (some 2) (r 3)), i 28 (.lookup
  ⟨true, [.int (.i64), .int (.i64)]⟩ (.agg [.int (.i64) 0, .int (.i64) 0, .str []]) false (r 26) (r 27)), i0 (.store 3 (r 4) (r 28))]
def A_tree_Tree_Drop_8 : Row := [i 29 (.mv (r 0)), i 30 (.nilCheck (r 29)), i 31 (.fieldAddr 0 (r 30)), i 32 (.load none (r 31)), i 33 (.load (some 2) (r 3)), i0 (.delete
  ⟨true, [.int (.i64), .int (.i64)]⟩ (r 32) (r 33))]
def A_tree_Tree_Drop_9 : Row := [i 34 (.load (some 3) (r 4)), i0 (.store 3 (r 4) (r 34)), i 5 (.mv (.const (.int (.i64) 0)))]
/-- (*diorama/tree.Tree).Drop -/
def A_tree_Tree_Drop : AFunc :=
 ⟨35, [.cell 4 (some 3), .tmp 5], (.seq (.ops A_tree_Tree_Drop_0) (.seq (.block 0 (.seq (.ops A_tree_Tree_Drop_1) (.cond (r 6) (.seq (.ops A_tree_Tree_Drop_2) .ret) (.seq
  (.ops A_tree_Tree_Drop_3) (.cond (r 10) (.seq (.ops A_tree_Tree_Drop_4) .ret) (.seq (.ops A_tree_Tree_Drop_5) (.cond (r 16) (.seq (.ops A_tree_Tree_Drop_6) .ret)
  .skip))))))) (.seq (.ops A_tree_Tree_Drop_7) (.seq (.ops A_tree_Tree_Drop_8) (.seq (.ops A_tree_Tree_Drop_9) .ret)))))⟩
/-! diorama/dioramalaw10.step -/
def A_law10_step_0 : Row := [i 5 (.box (r 2)), i 6 (.mv (.const (.bool false)))]
def A_law10_step_1 : Row := [i 15 (.fieldAddr 0 (r 5)), i 16 (.load none (r 15))]
def A_law10_step_2 : Row := [i 18 (.bin (.eql) (r 16) (.const (.int (.i64) 0))), i 17 (.mv (r 18))]
def A_law10_step_3 : Row := [i 19 (.mv (r 0)), i 20 (.fieldAddr 1 (r 5)), i 21 (.load (some 2) (r 20)), i 22 (.fieldAddr 3 (r 5)), i 23 (.load (some 3) (r 22)), i 27 (.mv (r
  1)), i 28 (.fieldAddr 1 (r 5)), i 29 (.load (some 2) (r 28)), i 30 (.fieldAddr 3 (r 5)), i 31 (.load (some 3) (r 30)), ⟨a 24 (.call (.func F_law10_Own) [.tmp 23]), [a 31
  (.load (some 3) (r 30)), a 29 (.load (some 2) (r 28)), a 21 (.load (some 2) (r 20))]⟩, ⟨a 25 (.call (.func F_tree_Tree_Add) [.tmp 19, .tmp 21, .tmp 24]), [a 31 (.load
  (some 3) (r 30)), a 29 (.load (some 2) (r 28))]⟩, ⟨a 26 (.call (.func F_law10_num) [.tmp 25]), [a 31 (.load (some 3) (r 30)), a 29 (.load (some 2) (r 28))]⟩, i 32 (.call
  (.func F_ref10_Tree_Add) [.tmp 27, .tmp 29, .tmp 31]), i 33 (.bin (.eql) (r 26) (r 32)), i 6 (.mv (r 33))]
def A_law10_step_4 : Row := [i 35 (.bin (.eql) (r 16) (.const (.int (.i64) 1))), i 34 (.mv (r 35))]
def A_law10_step_5 : Row := [i 37 (.mv (r 0)), i 38 (.fieldAddr 1 (r 5)), i 39 (.load (some 2) (r 38)), i 40 (.fieldAddr 3 (r 5)), i 41 (.load (some 3) (r 40)), i 7 (.alloc
  [.int (.i64) 0, .int (.i64) 0, .str []]), ⟨a 42 (.call (.func F_law10_Own) [.tmp 41]), [a 7 (.alloc [.int (.i64) 0, .int (.i64) 0, .str []]), a 39 (.load (some 2) (r
  38))]⟩, ⟨a 43 (.call (.func F_tree_Tree_Move) [.tmp 37, .tmp 39, .tmp 42]), [a 7 (.alloc [.int (.i64) 0, .int (.i64) 0, .str []])]⟩, i 36 (.mv (r 43)), i 44 (.extract (r
  36) 0), i 45 (.extract (r 36) 1), i0 (.store 3 (r 7) (r 44)), i 8 (.mv (r 45))]
def A_law10_step_6 : Row := [i 47 (.mv (r 1)), i 48 (.fieldAddr 1 (r 5)), i 49 (.load (some 2) (r 48)), i 50 (.fieldAddr 3 (r 5)), i 51 (.load (some 3) (r 50)), i 52 (.call
  (.func F_ref10_Tree_Move) [.tmp 47, .tmp 49, .tmp 51]), i 46 (.mv (r 52)), i 53 (.extract (r 46) 0), i 54 (.extract (r 46) 1), i 9 (.alloc [.int (.i64) 0, .int (.i64) 0,
  .str []]), i0 (.store 3 (r 9) (r 53)), i 10 (.mv (r 54))]
def A_law10_step_7 : Row := [i 55 (.load (some 3) (r 7)), i 56 (.load (some 3) (r 9)), ⟨a 57 (.call (.func F_law10_Own) [.tmp 56]), [a 55 (.load (some 3) (r 7))]⟩, i 58 (.eq
  false ⟨true, [.int (.i64), .int (.i64), .str]⟩ (r 55) (r 57)), i 59 (.mv (r 58)), g 60 (.mv (r 8)) 59 true, g 62 (.mv (r 10)) 59 true, g 61 (.call (.func F_law10_num)
  [.tmp 60]) 59 true, g 63 (.bin (.eql) (r 61) (r 62)) 59 true, i 64 (.pick (r 59) (r 63) (.const (.bool false))), i 6 (.mv (r 64))]
def A_law10_step_8 : Row := [i 66 (.bin (.eql) (r 16) (.const (.int (.i64) 2))), i 65 (.mv (r 66))]
def A_law10_step_9 : Row := [i 68 (.mv (r 0)), i 69 (.fieldAddr 1 (r 5)), i 70 (.load (some 2) (r 69)), i 71 (.call (.func F_tree_Tree_Drop) [.tmp 68, .tmp 70]), i 67 (.mv (r
  71)), i 72 (.extract (r 67) 0), i 73 (.extract (r 67) 1), i 11 (.alloc [.int (.i64) 0, .int (.i64) 0, .str []]), i0 (.store 3 (r 11) (r 72)), i 12 (.mv (r 73))]
def A_law10_step_10 : Row := [i 75 (.mv (r 1)), i 76 (.fieldAddr 1 (r 5)), i 77 (.load (some 2) (r 76)), i 78 (.call (.func F_ref10_Tree_Drop) [.tmp 75, .tmp 77]), i 74 (.mv
  (r 78)), i 79 (.extract (r 74) 0), i 80 (.extract (r 74) 1), i 13 (.alloc [.int (.i64) 0, .int (.i64) 0, .str []]), i0 (.store 3 (r 13) (r 79)), i 14 (.mv (r 80))]
def A_law10_step_11 : Row := [i 81 (.load (some 3) (r 11)), i 82 (.load (some 3) (r 13)), ⟨a 83 (.call (.func F_law10_Own) [.tmp 82]), [a 81 (.load (some 3) (r 11))]⟩, i 84
  (.eq false ⟨true, [.int (.i64), .int (.i64), .str]⟩ (r 81) (r 83)), i 85 (.mv (r 84)), g 86 (.mv (r 12)) 85 true, g 88 (.mv (r 14)) 85 true, g 87 (.call (.func
  F_law10_num) [.tmp 86]) 85 true, g 89 (.bin (.eql) (r 87) (r 88)) 85 true, i 90 (.pick (r 85) (r 89) (.const (.bool false))), i 6 (.mv (r 90))]
def A_law10_step_12 : Row := [i 6 (.mv (.const (.bool true)))]
/-- diorama/dioramalaw10.step -/
def A_law10_step : AFunc :=
 ⟨91, [.tmp 6], (.seq (.ops A_law10_step_0) (.seq (.seq (.ops A_law10_step_1) (.block 0 (.seq (.ops A_law10_step_2) (.cond (r 17) (.seq (.ops A_law10_step_3) .ret) (.seq
  (.ops A_law10_step_4) (.cond (r 34) (.seq (.ops A_law10_step_5) (.seq (.ops A_law10_step_6) (.seq (.ops A_law10_step_7) .ret))) (.seq (.ops A_law10_step_8) (.cond (r 65)
  (.seq (.ops A_law10_step_9) (.seq (.ops A_law10_step_10) (.seq (.ops A_law10_step_11) .ret))) .skip)))))))) (.seq (.ops A_law10_step_12) .ret)))⟩
/-! diorama/dioramalaw10.same -/
def A_law10_same_0 : Row := [i 6 (.box (r 2)), i 7 (.box (r 3)), i 8 (.mv (.const (.bool false)))]
def A_law10_same_1 : Row := [i 14 (.mv (r 0)), i 15 (.load (some 2) (r 6)), i 16 (.call (.func F_tree_Tree_Spot) [.tmp 14, .tmp 15]), i 13 (.mv (r 16)), i 17 (.extract (r 13)
  0), i 18 (.extract (r 13) 1), i 9 (.alloc [.int (.i64) 0, .int (.i64) 0, .str []]), i0 (.store 3 (r 9) (r 17)), i 10 (.mv (r 18))]
def A_law10_same_2 : Row := [i 20 (.mv (r 1)), i 21 (.load (some 2) (r 6)), i 22 (.call (.func F_ref10_Tree_Spot) [.tmp 20, .tmp 21]), i 19 (.mv (r 22)), i 23 (.extract (r 19)
  0), i 24 (.extract (r 19) 1), i 11 (.alloc [.int (.i64) 0, .int (.i64) 0, .str []]), i0 (.store 3 (r 11) (r 23)), i 12 (.mv (r 24))]
def A_law10_same_3 : Row := [i 25 (.load (some 3) (r 9)), i 26 (.load (some 3) (r 11)), ⟨a 27 (.call (.func F_law10_Own) [.tmp 26]), [a 25 (.load (some 3) (r 9))]⟩, i 28 (.eq
  false ⟨true, [.int (.i64), .int (.i64), .str]⟩ (r 25) (r 27)), i 29 (.mv (r 28)), g 30 (.mv (r 10)) 29 true, g 31 (.mv (r 12)) 29 true, g 32 (.eq false ⟨false, [.bool]⟩
  (r 30) (r 31)) 29 true, i 33 (.pick (r 29) (r 32) (.const (.bool false))), i 34 (.mv (r 33)), g 35 (.mv (r 0)) 34 true, g 36 (.load (some 2) (r 6)) 34 true, g 38 (.mv (r
  1)) 34 true, g 39 (.load (some 2) (r 6)) 34 true, ⟨⟨(some 37), .call (.func F_tree_Tree_Has) [.tmp 35, .tmp 36], (some (34, true))⟩, [⟨(some 39), .load (some 2) (r 6),
  (some (34, true))⟩]⟩, g 40 (.call (.func F_ref10_Tree_Has) [.tmp 38, .tmp 39]) 34 true, g 41 (.eq false ⟨false, [.bool]⟩ (r 37) (r 40)) 34 true, i 42 (.pick (r 34) (r
  41) (.const (.bool false))), i 43 (.mv (r 42)), g 44 (.mv (r 0)) 43 true, g 45 (.load (some 2) (r 6)) 43 true, g 47 (.mv (r 1)) 43 true, g 48 (.load (some 2) (r 6)) 43
  true, ⟨⟨(some 46), .call (.func F_tree_Tree_Below) [.tmp 44, .tmp 45], (some (43, true))⟩, [⟨(some 48), .load (some 2) (r 6), (some (43, true))⟩]⟩, g 49 (.call (.func
  F_ref10_Tree_Below) [.tmp 47, .tmp 48]) 43 true, g 50 (.call (.func F_law05_Same) [.tmp 46, .tmp 49]) 43 true, i 51 (.pick (r 43) (r 50) (.const (.bool false))), i 52
  (.mv (r 51)), g 53 (.mv (r 0)) 52 true, g 54 (.load (some 2) (r 6)) 52 true, g 56 (.mv (r 1)) 52 true, g 57 (.load (some 2) (r 6)) 52 true, ⟨⟨(some 55), .call (.func
  F_tree_Tree_Above) [.tmp 53, .tmp 54], (some (52, true))⟩, [⟨(some 57), .load (some 2) (r 6), (some (52, true))⟩]⟩, g 58 (.call (.func F_ref10_Tree_Above) [.tmp 56, .tmp
  57]) 52 true, g 59 (.call (.func F_law05_Same) [.tmp 55, .tmp 58]) 52 true, i 60 (.pick (r 52) (r 59) (.const (.bool false))), i 61 (.mv (r 60)), g 62 (.mv (r 0)) 61
  true, g 63 (.load (some 2) (r 7)) 61 true, g 64 (.load (some 2) (r 6)) 61 true, g 66 (.mv (r 1)) 61 true, g 67 (.load (some 2) (r 7)) 61 true, g 68 (.load (some 2) (r
  6)) 61 true, ⟨⟨(some 65), .call (.func F_tree_Tree_Within) [.tmp 62, .tmp 63, .tmp 64], (some (61, true))⟩, [⟨(some 68), .load (some 2) (r 6), (some (61, true))⟩, ⟨(some
  67), .load (some 2) (r 7), (some (61, true))⟩]⟩, g 69 (.call (.func F_ref10_Tree_Within) [.tmp 66, .tmp 67, .tmp 68]) 61 true, g 70 (.eq false ⟨false, [.bool]⟩ (r 65) (r
  69)) 61 true, i 71 (.pick (r 61) (r 70) (.const (.bool false))), i 8 (.mv (r 71))]
/-- diorama/dioramalaw10.same -/
def A_law10_same : AFunc :=
 ⟨72, [.tmp 8], (.seq (.ops A_law10_same_0) (.seq (.ops A_law10_same_1) (.seq (.ops A_law10_same_2) (.seq (.ops A_law10_same_3) .ret))))⟩
/-! diorama/dioramalaw05.Same -/
def A_law05_Same_0 : Row := [i 4 (.mv (.const (.bool false)))]
def A_law05_Same_1 : Row := [i 6 (.mv (r 0)), i 7 (.lenSlice (r 6)), i 8 (.mv (r 1)), i 9 (.lenSlice (r 8)), i 10 (.bin (.neq) (r 7) (r 9))]
def A_law05_Same_2 : Row := [i 4 (.mv (.const (.bool false)))]
def A_law05_Same_3 : Row := [i 5 (.mv (.const (.int (.i64) 0)))]
def A_law05_Same_4 : Row := [i 11 (.mv (r 5)), i 12 (.mv (r 0)), i 13 (.lenSlice (r 12)), i 14 (.bin (.lss) (r 11) (r 13))]
def A_law05_Same_5 : Row := [i 17 (.mv (r 0)), i 18 (.mv (r 5)), i 19 (.indexAddr 2 (r 17) (r 18)), i 20 (.load (some 2) (r 19)), i 21 (.mv (r 1)), i 22 (.mv (r 5)), i 23
  (.indexAddr 2 (r 21) (r 22)), i 24 (.load (some 2) (r 23)), i 25 (.eq true ⟨true, [.int (.i64), .int (.i64)]⟩ (r 20) (r 24))]
def A_law05_Same_6 : Row := [i 4 (.mv (.const (.bool false)))]
def A_law05_Same_7 : Row := [i 15 (.mv (r 5)), i 16 (.bin (.add) (r 15) (.const (.int (.i64) 1))), i 5 (.mv (r 16))]
def A_law05_Same_8 : ACode := (.seq (.seq (.ops A_law05_Same_4) (.cond (r 14) .skip (.exit 0))) (.seq (.block 1 (.seq (.ops A_law05_Same_5) (.cond (r 25) (.seq (.ops
  A_law05_Same_6) .ret) .skip))) (.ops A_law05_Same_7)))
def A_law05_Same_9 : Row := [i 4 (.mv (.const (.bool true)))]
/-- diorama/dioramalaw05.Same -/
def A_law05_Same : AFunc :=
 ⟨26, [.tmp 4], (.seq (.ops A_law05_Same_0) (.seq (.seq (.ops A_law05_Same_1) (.cond (r 10) (.seq (.ops A_law05_Same_2) .ret) .skip)) (.seq (.seq (.ops A_law05_Same_3)
  (.block 0 (.loop A_law05_Same_8))) (.seq (.ops A_law05_Same_9) .ret))))⟩
/-! diorama/dioramaref10.Same -/
def A_ref10_Same_0 : Row := [i 4 (.mv (.const (.bool false)))]
def A_ref10_Same_1 : Row := [i 6 (.mv (r 0)), i 7 (.nilCheck (r 6)), i 8 (.fieldAddr 0 (r 7)), i 9 (.load none (r 8)), i 10 (.lenSlice (r 9)), i 11 (.mv (r 1)), i 12
  (.nilCheck (r 11)), i 13 (.fieldAddr 0 (r 12)), i 14 (.load none (r 13)), i 15 (.lenSlice (r 14)), i 16 (.bin (.neq) (r 10) (r 15))]
def A_ref10_Same_2 : Row := [i 4 (.mv (.const (.bool false)))]
def A_ref10_Same_3 : Row := [i 5 (.mv (.const (.int (.i64) 0)))]
def A_ref10_Same_4 : Row := [i 17 (.mv (r 5)), i 18 (.mv (r 0)), i 19 (.nilCheck (r 18)), i 20 (.fieldAddr 0 (r 19)), i 21 (.load none (r 20)), i 22 (.lenSlice (r 21)), i 23
  (.bin (.lss) (r 17) (r 22))]
def A_ref10_Same_5 : Row := [i 26 (.mv (r 0)), i 27 (.nilCheck (r 26)), i 28 (.fieldAddr 0 (r 27)), i 29 (.load none (r 28)), i 30 (.mv (r 5)), i 31 (.indexAddr 5 (r 29) (r
  30)), i 32 (.load (some 5) (r 31)), i 33 (.mv (r 1)), i 34 (.nilCheck (r 33)), i 35 (.fieldAddr 0 (r 34)), i 36 (.load none (r 35)), i 37 (.mv (r 5)), i 38 (.indexAddr 5
  (r 36) (r 37)), i 39 (.load (some 5) (r 38)), i 40 (.eq true ⟨true, [.int (.i64), .int (.i64), .int (.i64), .int (.i64), .str]⟩ (r 32) (r 39))]
def A_ref10_Same_6 : Row := [i 4 (.mv (.const (.bool false)))]
def A_ref10_Same_7 : Row := [i 24 (.mv (r 5)), i 25 (.bin (.add) (r 24) (.const (.int (.i64) 1))), i 5 (.mv (r 25))]
def A_ref10_Same_8 : ACode := (.seq (.seq (.ops A_ref10_Same_4) (.cond (r 23) .skip (.exit 0))) (.seq (.block 1 (.seq (.ops A_ref10_Same_5) (.cond (r 40) (.seq (.ops
  A_ref10_Same_6) .ret) .skip))) (.ops A_ref10_Same_7)))
def A_ref10_Same_9 : Row := [i 4 (.mv (.const (.bool true)))]
/-- diorama/dioramaref10.Same -/
def A_ref10_Same : AFunc :=
 ⟨41, [.tmp 4], (.seq (.ops A_ref10_Same_0) (.seq (.seq (.ops A_ref10_Same_1) (.cond (r 16) (.seq (.ops A_ref10_Same_2) .ret) .skip)) (.seq (.seq (.ops A_ref10_Same_3)
  (.block 0 (.loop A_ref10_Same_8))) (.seq (.ops A_ref10_Same_9) .ret))))⟩
/-! (*diorama/tree.Tree).Has -/
def A_tree_Tree_Has_0 : Row := [i 3 (.box (r 1)), i 4 (.mv (.const (.bool false)))]
def A_tree_Tree_Has_1 : Row := [i 7 (.mv (r 0)), i 8 (.call (.func F_tree_Tree_none) [.tmp 7])]
def A_tree_Tree_Has_2 : Row := [i 4 (.mv (.const (.bool false)))]
def A_tree_Tree_Has_3 : Row := [i 10 (.mv (r 0)), i 11 (.nilCheck (r 10)), i 12 (.fieldAddr 0 (r 11)), i 13 (.load none (r 12)), i 14 (.load (some 2) (r 3)), i 15 (.lookup
  ⟨true, [.int (.i64), .int (.i64)]⟩ (.agg [.int (.i64) 0, .int (.i64) 0, .str []]) true (r 13) (r 14)), i 9 (.mv (r 15)), i 16 (.extract (r 9) 0), i 17 (.extract (r 9)
  1), i 5 (.alloc [.int (.i64) 0, .int (.i64) 0, .str []]), i0 (.store 3 (r 5) (r 16)), i 6 (.mv (r 17))]
def A_tree_Tree_Has_4 : Row := [i 18 (.mv (r 6)), i 19 (.mv (r 18)), g 20 (.load (some 2) (r 3)) 19 false, g 21 (.call (.func F_op_Place) [.tmp 20]) 19 false, g 22 (.mv (r
  21)) 19 false, g 23 (.load (some 2) (r 3)) 22 true, g 24 (.call (.func F_op_Node) [.tmp 23]) 22 true, g 25 (.un (.not) (r 24)) 22 true, g 26 (.pick (r 22) (r 25) (.const
  (.bool false))) 19 false, i 27 (.pick (r 19) (.const (.bool true)) (r 26)), i 4 (.mv (r 27))]
/-- (*diorama/tree.Tree).Has -/
def A_tree_Tree_Has : AFunc :=
 ⟨28, [.tmp 4], (.seq (.ops A_tree_Tree_Has_0) (.seq (.seq (.ops A_tree_Tree_Has_1) (.cond (r 8) (.seq (.ops A_tree_Tree_Has_2) .ret) .skip)) (.seq (.ops A_tree_Tree_Has_3)
  (.seq (.ops A_tree_Tree_Has_4) .ret))))⟩
/-! diorama/dioramalaw13.Light -/
/-! diorama/dioramalaw13.knows -/
/-! diorama/graph.New -/
/-! (*diorama/graph.Graph).Insert -/
/-! diorama/dioramalaw07.Own -/
/-! (*diorama/graph.Graph).Same -/
/-! (*diorama/graph.Graph).Count -/
/-! (*diorama/graph.Graph).Done -/
/-! (*diorama/graph.Graph).Clone -/
/-! diorama/dioramalaw13.num -/
/-! (*diorama/graph.Graph).Spot -/
/-! (*diorama/graph.Graph).Has -/
/-! (*diorama/graph.Graph).Ref -/
/-! (*diorama/tree.Tree).none -/
def A_tree_Tree_none_0 : Row := [i 2 (.mv (.const (.bool false)))]
def A_tree_Tree_none_1 : Row := [i 3 (.mv (r 0)), i 4 (.eqNil false (.ptr) (r 3) (.const (.ptr none))), i 5 (.mv (r 4)), g 6 (.mv (r 0)) 5 false, g 7 (.nilCheck (r 6)) 5
  false, g 8 (.fieldAddr 0 (r 7)) 5 false, g 9 (.load none (r 8)) 5 false, g 10 (.eqNil false (.map) (r 9) (.const (.map none))) 5 false, i 11 (.pick (r 5) (.const (.bool
  true)) (r 10)), i 2 (.mv (r 11))]
/-- (*diorama/tree.Tree).none -/
def A_tree_Tree_none : AFunc :=
 ⟨12, [.tmp 2], (.seq (.ops A_tree_Tree_none_0) (.seq (.ops A_tree_Tree_none_1) .ret))⟩
/-! maps.Keys[map[diorama/api.Stamp]diorama/tree.Spot,diorama/api.Stamp,diorama/tree.Spot] -/
def A_maps_Keys_Stamp_Spot_0 : Row := [i 1 (.box (r 0)), i 2 (.mv (.const (.nilFn)))]
def A_maps_Keys_Stamp_Spot_1 : Row := [i 3 (.makeFunc F_maps_Keys_Stamp_Spot_c1 [] [.tmp 1]), i 2 (.mv (r 3))]
/-- maps.Keys[map[diorama/api.Stamp]diorama/tree.Spot,diorama/api.Stamp,diorama/tree.Spot] -/
def A_maps_Keys_Stamp_Spot : AFunc :=
 ⟨4, [.tmp 2], (.seq (.ops A_maps_Keys_Stamp_Spot_0) (.seq (.ops A_maps_Keys_Stamp_Spot_1) .ret))⟩
/-! diorama/stamp.Compare -/
def A_stamp_Compare_0 : Row := [i 2 (.box (r 0)), i 3 (.box (r 1)), i 4 (.mv (.const (.int (.i64) 0)))]
def A_stamp_Compare_1 : Row := [i 6 (.load (some 2) (r 2)), i 7 (.load (some 2) (r 3)), i 8 (.eq false ⟨true, [.int (.i64), .int (.i64)]⟩ (r 6) (r 7)), i 5 (.mv (r 8))]
def A_stamp_Compare_2 : Row := [i 4 (.mv (.const (.int (.i64) 0)))]
def A_stamp_Compare_3 : Row := [i 10 (.fieldAddr 0 (r 2)), i 11 (.load none (r 10)), i 12 (.fieldAddr 0 (r 3)), i 13 (.load none (r 12)), i 14 (.bin (.lss) (r 11) (r 13)), i
  15 (.mv (r 14)), g 16 (.fieldAddr 0 (r 2)) 15 false, g 17 (.load none (r 16)) 15 false, g 18 (.fieldAddr 0 (r 3)) 15 false, g 19 (.load none (r 18)) 15 false, g 20 (.bin
  (.eql) (r 17) (r 19)) 15 false, g 21 (.mv (r 20)) 15 false, g 22 (.fieldAddr 1 (r 2)) 21 true, g 23 (.load none (r 22)) 21 true, g 24 (.fieldAddr 1 (r 3)) 21 true, g 25
  (.load none (r 24)) 21 true, g 26 (.bin (.lss) (r 23) (r 25)) 21 true, g 27 (.pick (r 21) (r 26) (.const (.bool false))) 15 false, i 28 (.pick (r 15) (.const (.bool
  true)) (r 27)), i 9 (.mv (r 28))]
def A_stamp_Compare_4 : Row := [i 4 (.mv (.const (.int (.i64) (-1))))]
def A_stamp_Compare_5 : Row := [i 4 (.mv (.const (.int (.i64) 1)))]
/-- diorama/stamp.Compare -/
def A_stamp_Compare : AFunc :=
 ⟨29, [.tmp 4], (.seq (.ops A_stamp_Compare_0) (.seq (.block 0 (.seq (.ops A_stamp_Compare_1) (.cond (r 5) (.seq (.ops A_stamp_Compare_2) .ret) (.seq (.ops
  A_stamp_Compare_3) (.cond (r 9) (.seq (.ops A_stamp_Compare_4) .ret) .skip))))) (.seq (.ops A_stamp_Compare_5) .ret)))⟩
/-! (*diorama/tree.Tree).up -/
def A_tree_Tree_up_0 : Row := [i 2 (.box (r 0)), i 3 (.box (r 1)), i 4 (.mv (.const (.nilFn)))]
def A_tree_Tree_up_1 : Row := [i 5 (.makeFunc F_tree_Tree_up_c1 [] [.tmp 2, .tmp 3]), i 4 (.mv (r 5))]
/-- (*diorama/tree.Tree).up -/
def A_tree_Tree_up : AFunc :=
 ⟨6, [.tmp 4], (.seq (.ops A_tree_Tree_up_0) (.seq (.ops A_tree_Tree_up_1) .ret))⟩
/-! (*diorama/tree.Tree).node -/
def A_tree_Tree_node_0 : Row := [i 3 (.box (r 1)), i 4 (.mv (.const (.bool false)))]
def A_tree_Tree_node_1 : Row := [i 8 (.mv (r 0)), i 9 (.nilCheck (r 8)), i 10 (.fieldAddr 0 (r 9)), i 11 (.load none (r 10)), i 12 (.load (some 2) (r 3)), i 13 (.lookup ⟨true,
  [.int (.i64), .int (.i64)]⟩ (.agg [.int (.i64) 0, .int (.i64) 0, .str []]) true (r 11) (r 12)), i 7 (.mv (r 13)), i 14 (.extract (r 7) 0), i 15 (.extract (r 7) 1), i 5
  (.alloc [.int (.i64) 0, .int (.i64) 0, .str []]), i0 (.store 3 (r 5) (r 14)), i 6 (.mv (r 15))]
def A_tree_Tree_node_2 : Row := [i 16 (.mv (r 6)), i 4 (.mv (r 16))]
/-- (*diorama/tree.Tree).node -/
def A_tree_Tree_node : AFunc :=
 ⟨17, [.tmp 4], (.seq (.ops A_tree_Tree_node_0) (.seq (.ops A_tree_Tree_node_1) (.seq (.ops A_tree_Tree_node_2) .ret)))⟩
/-! diorama/op.Node -/
def A_op_Node_0 : Row := [i 1 (.box (r 0)), i 2 (.mv (.const (.bool false)))]
def A_op_Node_1 : Row := [i 3 (.load (some 2) (r 1)), i 4 (.call (.func F_stamp_Right) [.tmp 3]), i 5 (.mv (r 4)), g 6 (.fieldAddr 0 (r 1)) 5 true, g 7 (.load none (r 6)) 5
  true, g 8 (.bin (.gtr) (r 7) (.const (.int (.i64) 0))) 5 true, i 9 (.pick (r 5) (r 8) (.const (.bool false))), i 2 (.mv (r 9))]
/-- diorama/op.Node -/
def A_op_Node : AFunc :=
 ⟨10, [.tmp 2], (.seq (.ops A_op_Node_0) (.seq (.ops A_op_Node_1) .ret))⟩
/-! (diorama/tree.Spot).right -/
def A_tree_Spot_right_0 : Row := [i 1 (.box (r 0)), i 2 (.mv (.const (.bool false)))]
def A_tree_Spot_right_1 : Row := [i 3 (.fieldAddr 0 (r 1)), i 4 (.load (some 2) (r 3)), i 5 (.call (.func F_op_Place) [.tmp 4]), i 6 (.mv (r 5)), g 7 (.fieldAddr 2 (r 1)) 6
  true, g 8 (.load none (r 7)) 6 true, g 9 (.call (.func F_poskey_Right) [.tmp 8]) 6 true, i 10 (.pick (r 6) (r 9) (.const (.bool false))), i 2 (.mv (r 10))]
/-- (diorama/tree.Spot).right -/
def A_tree_Spot_right : AFunc :=
 ⟨11, [.tmp 2], (.seq (.ops A_tree_Spot_right_0) (.seq (.ops A_tree_Spot_right_1) .ret))⟩
/-! (*diorama/dioramaref10.Tree).Add -/
def A_ref10_Tree_Add_0 : Row := [i 4 (.box (r 1)), i 5 (.box (r 2)), i 6 (.mv (.const (.int (.i64) 0)))]
def A_ref10_Tree_Add_1 : Row := [i 10 (.mv (r 0)), i 11 (.load (some 2) (r 4)), i 12 (.call (.func F_ref10_Tree_find) [.tmp 10, .tmp 11]), i 9 (.mv (r 12)), i 13 (.extract (r
  9) 0), i 14 (.extract (r 9) 1), i 7 (.mv (r 13)), i 8 (.mv (r 14))]
def A_ref10_Tree_Add_2 : Row := [i 16 (.load (some 2) (r 4)), i 17 (.call (.func F_ref07_Node) [.tmp 16]), i 18 (.un (.not) (r 17)), i 19 (.mv (r 18)), g 20 (.load (some 3) (r
  5)) 19 false, g 21 (.call (.func F_ref10_Right) [.tmp 20]) 19 false, g 22 (.un (.not) (r 21)) 19 false, i 23 (.pick (r 19) (.const (.bool true)) (r 22)), i 15 (.mv (r
  23))]
def A_ref10_Tree_Add_3 : Row := [i 6 (.mv (.const (.int (.i64) 1)))]
def A_ref10_Tree_Add_4 : Row := [i 25 (.mv (r 8)), i 24 (.mv (r 25))]
def A_ref10_Tree_Add_5 : Row := [i 6 (.mv (.const (.int (.i64) 4)))]
def A_ref10_Tree_Add_6 : Row := [i 27 (.mv (r 0)), i 28 (.fieldAddr 0 (r 5)), i 29 (.load (some 2) (r 28)), i 30 (.call (.func F_ref10_Tree_Has) [.tmp 27, .tmp 29]), i 31 (.un
  (.not) (r 30)), i 26 (.mv (r 31))]
def A_ref10_Tree_Add_7 : Row := [i 6 (.mv (.const (.int (.i64) 3)))]
def A_ref10_Tree_Add_8 : Row := [i 33 (.mv (r 0)), i 34 (.nilCheck (r 33)), i 35 (.fieldAddr 0 (r 34)), i 36 (.load none (r 35)), i 37 (.lenSlice (r 36)), i 38 (.bin (.geq) (r
  37) (.const (.int (.i64) 65536))), i 32 (.mv (r 38))]
def A_ref10_Tree_Add_9 : Row := [i 6 (.mv (.const (.int (.i64) 7)))]
def A_ref10_Tree_Add_10 : Row := [i 39 (.mv (r 0)), i 40 (.buildSlice 0 [] []), i 41 (.mv (r 0)), i 42 (.nilCheck (r 41)), i 43 (.fieldAddr 0 (r 42)), i 44 (.load none (r
  43)), i 45 (.mv (r 7)), i 46 (.slice 5 (r 44) none (some (r 45)) none), i 48 (.load (some 2) (r 4)), i 49 (.load (some 3) (r 5)), i 50 (.build [.int (.i64) 0, .int
  (.i64) 0, .int (.i64) 0, .int (.i64) 0, .str []] [(0, 2, .tmp 48), (2, 3, .tmp 49)]), i 51 (.buildSlice 1 [.int (.i64) 0, .int (.i64) 0, .int (.i64) 0, .int (.i64) 0,
  .str []] [(0, 5, .tmp 50)]), i 53 (.mv (r 0)), i 54 (.nilCheck (r 53)), i 55 (.fieldAddr 0 (r 54)), i 56 (.load none (r 55)), i 57 (.mv (r 7)), i 58 (.slice 5 (r 56)
  (some (r 57)) none none), ⟨a 47 (.append 5 48 (r 40) (r 46)), [a 56 (.load none (r 55)), a 51 (.buildSlice 1 [.int (.i64) 0, .int (.i64) 0, .int (.i64) 0, .int (.i64) 0,
  .str []] [(0, 5, .tmp 50)]), a 49 (.load (some 3) (r 5)), a 48 (.load (some 2) (r 4))]⟩, ⟨a 52 (.append 5 48 (r 47) (r 51)), [a 56 (.load none (r 55))]⟩, i 59 (.append 5
  48 (r 52) (r 58)), i 60 (.nilCheck (r 39)), i 61 (.fieldAddr 0 (r 60)), i0 (.store 1 (r 61) (r 59))]
def A_ref10_Tree_Add_11 : Row := [i 6 (.mv (.const (.int (.i64) 0)))]
/-- (*diorama/dioramaref10.Tree).Add -/
def A_ref10_Tree_Add : AFunc :=
 ⟨62, [.tmp 6], (.seq (.ops A_ref10_Tree_Add_0) (.seq (.ops A_ref10_Tree_Add_1) (.seq (.block 0 (.seq (.ops A_ref10_Tree_Add_2) (.cond (r 15) (.seq (.ops
  A_ref10_Tree_Add_3) .ret) (.seq (.ops A_ref10_Tree_Add_4) (.cond (r 24) (.seq (.ops A_ref10_Tree_Add_5) .ret) (.seq (.ops A_ref10_Tree_Add_6) (.cond (r 26) (.seq (.ops
  A_ref10_Tree_Add_7) .ret) (.seq (.ops A_ref10_Tree_Add_8) (.cond (r 32) (.seq (.ops A_ref10_Tree_Add_9) .ret) .skip))))))))) (.seq (.ops A_ref10_Tree_Add_10) (.seq (.ops
  A_ref10_Tree_Add_11) .ret)))))⟩
/-! (*diorama/dioramaref10.Tree).Move -/
def A_ref10_Tree_Move_0 : Row := [i 4 (.box (r 1)), i 5 (.box (r 2)), i 6 (.alloc [.int (.i64) 0, .int (.i64) 0, .str []]), i 7 (.mv (.const (.int (.i64) 0)))]
def A_ref10_Tree_Move_1 : Row := [i 12 (.mv (r 0)), i 13 (.load (some 2) (r 4)), i 14 (.call (.func F_ref10_Tree_find) [.tmp 12, .tmp 13]), i 11 (.mv (r 14)), i 15 (.extract
  (r 11) 0), i 16 (.extract (r 11) 1), i 8 (.mv (r 15)), i 9 (.mv (r 16))]
def A_ref10_Tree_Move_2 : Row := [i 18 (.load (some 2) (r 4)), i 19 (.call (.func F_ref07_Node) [.tmp 18]), i 20 (.un (.not) (r 19)), i 21 (.mv (r 20)), g 22 (.load (some 3)
  (r 5)) 21 false, g 23 (.call (.func F_ref10_Right) [.tmp 22]) 21 false, g 24 (.un (.not) (r 23)) 21 false, i 25 (.pick (r 21) (.const (.bool true)) (r 24)), i 17 (.mv (r
  25))]
def A_ref10_Tree_Move_3 : Row := [i 26 (.build [.int (.i64) 0, .int (.i64) 0, .str []] []), i0 (.store 3 (r 6) (r 26)), i 7 (.mv (.const (.int (.i64) 1)))]
def A_ref10_Tree_Move_4 : Row := [i 28 (.mv (r 9)), i 29 (.un (.not) (r 28)), i 30 (.mv (r 29)), g 31 (.mv (r 0)) 30 false, g 32 (.fieldAddr 0 (r 5)) 30 false, g 33 (.load
  (some 2) (r 32)) 30 false, g 34 (.call (.func F_ref10_Tree_Has) [.tmp 31, .tmp 33]) 30 false, g 35 (.un (.not) (r 34)) 30 false, i 36 (.pick (r 30) (.const (.bool true))
  (r 35)), i 27 (.mv (r 36))]
def A_ref10_Tree_Move_5 : Row := [i 37 (.build [.int (.i64) 0, .int (.i64) 0, .str []] []), i0 (.store 3 (r 6) (r 37)), i 7 (.mv (.const (.int (.i64) 3)))]
def A_ref10_Tree_Move_6 : Row := [i 39 (.mv (r 0)), i 40 (.load (some 2) (r 4)), i 41 (.fieldAddr 0 (r 5)), i 42 (.load (some 2) (r 41)), i 43 (.call (.func
  F_ref10_Tree_Within) [.tmp 39, .tmp 40, .tmp 42]), i 38 (.mv (r 43))]
def A_ref10_Tree_Move_7 : Row := [i 44 (.build [.int (.i64) 0, .int (.i64) 0, .str []] []), i0 (.store 3 (r 6) (r 44)), i 7 (.mv (.const (.int (.i64) 41)))]
def A_ref10_Tree_Move_8 : Row := [i 45 (.mv (r 0)), i 46 (.nilCheck (r 45)), i 47 (.fieldAddr 0 (r 46)), i 48 (.load none (r 47)), i 49 (.mv (r 8)), i 50 (.indexAddr 5 (r 48)
  (r 49)), i 51 (.fieldAddr 2 (r 50)), i 52 (.load (some 3) (r 51)), i 10 (.alloc [.int (.i64) 0, .int (.i64) 0, .str []]), i0 (.store 3 (r 10) (r 52))]
def A_ref10_Tree_Move_9 : Row := [i 53 (.mv (r 0)), i 54 (.nilCheck (r 53)), i 55 (.fieldAddr 0 (r 54)), i 56 (.load none (r 55)), i 57 (.mv (r 8)), i 58 (.load (some 3) (r
  5)), i 59 (.indexAddr 5 (r 56) (r 57)), i 60 (.fieldAddr 2 (r 59)), i0 (.store 3 (r 60) (r 58))]
def A_ref10_Tree_Move_10 : Row := [i 61 (.load (some 3) (r 10)), i0 (.store 3 (r 6) (r 61)), i 7 (.mv (.const (.int (.i64) 0)))]
/-- (*diorama/dioramaref10.Tree).Move -/
def A_ref10_Tree_Move : AFunc :=
 ⟨62, [.cell 6 (some 3), .tmp 7], (.seq (.ops A_ref10_Tree_Move_0) (.seq (.ops A_ref10_Tree_Move_1) (.seq (.block 0 (.seq (.ops A_ref10_Tree_Move_2) (.cond (r 17) (.seq
  (.ops A_ref10_Tree_Move_3) .ret) (.seq (.ops A_ref10_Tree_Move_4) (.cond (r 27) (.seq (.ops A_ref10_Tree_Move_5) .ret) (.seq (.ops A_ref10_Tree_Move_6) (.cond (r 38)
  (.seq (.ops A_ref10_Tree_Move_7) .ret) .skip))))))) (.seq (.ops A_ref10_Tree_Move_8) (.seq (.ops A_ref10_Tree_Move_9) (.seq (.ops A_ref10_Tree_Move_10) .ret))))))⟩
/-! (*diorama/dioramaref10.Tree).Drop -/
def A_ref10_Tree_Drop_0 : Row := [i 3 (.box (r 1)), i 4 (.alloc [.int (.i64) 0, .int (.i64) 0, .str []]), i 5 (.mv (.const (.int (.i64) 0)))]
def A_ref10_Tree_Drop_1 : Row := [i 10 (.mv (r 0)), i 11 (.load (some 2) (r 3)), i 12 (.call (.func F_ref10_Tree_find) [.tmp 10, .tmp 11]), i 9 (.mv (r 12)), i 13 (.extract (r
  9) 0), i 14 (.extract (r 9) 1), i 6 (.mv (r 13)), i 7 (.mv (r 14))]
def A_ref10_Tree_Drop_2 : Row := [i 15 (.mv (r 7)), i 16 (.un (.not) (r 15))]
def A_ref10_Tree_Drop_3 : Row := [i 17 (.build [.int (.i64) 0, .int (.i64) 0, .str []] []), i0 (.store 3 (r 4) (r 17)), i 5 (.mv (.const (.int (.i64) 3)))]
def A_ref10_Tree_Drop_4 : Row := [i 18 (.mv (r 0)), i 19 (.load (some 2) (r 3)), i 20 (.call (.func F_ref10_Tree_Below) [.tmp 18, .tmp 19]), i 21 (.lenSlice (r 20)), i 22
  (.bin (.gtr) (r 21) (.const (.int (.i64) 0)))]
def A_ref10_Tree_Drop_5 : Row := [i 23 (.build [.int (.i64) 0, .int (.i64) 0, .str []] []), i0 (.store 3 (r 4) (r 23)), i 5 (.mv (.const (.int (.i64) 4)))]
def A_ref10_Tree_Drop_6 : Row := [i 24 (.mv (r 0)), i 25 (.nilCheck (r 24)), i 26 (.fieldAddr 0 (r 25)), i 27 (.load none (r 26)), i 28 (.mv (r 6)), i 29 (.indexAddr 5 (r 27)
  (r 28)), i 30 (.fieldAddr 2 (r 29)), i 31 (.load (some 3) (r 30)), i 8 (.alloc [.int (.i64) 0, .int (.i64) 0, .str []]), i0 (.store 3 (r 8) (r 31))]
def A_ref10_Tree_Drop_7 : Row := [i 32 (.mv (r 0)), i 33 (.buildSlice 0 [] []), i 34 (.mv (r 0)), i 35 (.nilCheck (r 34)), i 36 (.fieldAddr 0 (r 35)), i 37 (.load none (r
  36)), i 38 (.mv (r 6)), i 39 (.slice 5 (r 37) none (some (r 38)) none), i 41 (.mv (r 0)), i 42 (.nilCheck (r 41)), i 43 (.fieldAddr 0 (r 42)), i 44 (.load none (r 43)),
  i 45 (.mv (r 6)), i 46 (.bin (.add) (r 45) (.const (.int (.i64) 1))), i 47 (.slice 5 (r 44) (some (r 46)) none none), ⟨a 40 (.append 5 48 (r 33) (r 39)), [a 44 (.load
  none (r 43))]⟩, i 48 (.append 5 48 (r 40) (r 47)), i 49 (.nilCheck (r 32)), i 50 (.fieldAddr 0 (r 49)), i0 (.store 1 (r 50) (r 48))]
def A_ref10_Tree_Drop_8 : Row := [i 51 (.load (some 3) (r 8)), i0 (.store 3 (r 4) (r 51)), i 5 (.mv (.const (.int (.i64) 0)))]
/-- (*diorama/dioramaref10.Tree).Drop -/
def A_ref10_Tree_Drop : AFunc :=
 ⟨52, [.cell 4 (some 3), .tmp 5], (.seq (.ops A_ref10_Tree_Drop_0) (.seq (.ops A_ref10_Tree_Drop_1) (.seq (.seq (.ops A_ref10_Tree_Drop_2) (.cond (r 16) (.seq (.ops
  A_ref10_Tree_Drop_3) .ret) .skip)) (.seq (.seq (.ops A_ref10_Tree_Drop_4) (.cond (r 22) (.seq (.ops A_ref10_Tree_Drop_5) .ret) .skip)) (.seq (.ops A_ref10_Tree_Drop_6)
  (.seq (.ops A_ref10_Tree_Drop_7) (.seq (.ops A_ref10_Tree_Drop_8) .ret)))))))⟩
/-! (*diorama/dioramaref10.Tree).Spot -/
def A_ref10_Tree_Spot_0 : Row := [i 3 (.box (r 1)), i 4 (.alloc [.int (.i64) 0, .int (.i64) 0, .str []]), i 5 (.mv (.const (.bool false)))]
def A_ref10_Tree_Spot_1 : Row := [i 9 (.mv (r 0)), i 10 (.load (some 2) (r 3)), i 11 (.call (.func F_ref10_Tree_find) [.tmp 9, .tmp 10]), i 8 (.mv (r 11)), i 12 (.extract (r
  8) 0), i 13 (.extract (r 8) 1), i 6 (.mv (r 12)), i 7 (.mv (r 13))]
def A_ref10_Tree_Spot_2 : Row := [i 14 (.mv (r 7)), i 15 (.un (.not) (r 14))]
def A_ref10_Tree_Spot_3 : Row := [i 16 (.build [.int (.i64) 0, .int (.i64) 0, .str []] []), i0 (.store 3 (r 4) (r 16)), i 5 (.mv (.const (.bool false)))]
def A_ref10_Tree_Spot_4 : Row := [i 17 (.mv (r 0)), i 18 (.nilCheck (r 17)), i 19 (.fieldAddr 0 (r 18)), i 20 (.load none (r 19)), i 21 (.mv (r 6)), i 22 (.indexAddr 5 (r 20)
  (r 21)), i 23 (.fieldAddr 2 (r 22)), i 24 (.load (some 3) (r 23)), i0 (.store 3 (r 4) (r 24)), i 5 (.mv (.const (.bool true)))]
/-- (*diorama/dioramaref10.Tree).Spot -/
def A_ref10_Tree_Spot : AFunc :=
 ⟨25, [.cell 4 (some 3), .tmp 5], (.seq (.ops A_ref10_Tree_Spot_0) (.seq (.ops A_ref10_Tree_Spot_1) (.seq (.seq (.ops A_ref10_Tree_Spot_2) (.cond (r 15) (.seq (.ops
  A_ref10_Tree_Spot_3) .ret) .skip)) (.seq (.ops A_ref10_Tree_Spot_4) .ret))))⟩
/-! (*diorama/dioramaref10.Tree).Has -/
def A_ref10_Tree_Has_0 : Row := [i 3 (.box (r 1)), i 4 (.mv (.const (.bool false)))]
def A_ref10_Tree_Has_1 : Row := [i 8 (.mv (r 0)), i 9 (.load (some 2) (r 3)), i 10 (.call (.func F_ref10_Tree_find) [.tmp 8, .tmp 9]), i 7 (.mv (r 10)), i 11 (.extract (r 7)
  0), i 12 (.extract (r 7) 1), i 5 (.mv (r 11)), i 6 (.mv (r 12))]
def A_ref10_Tree_Has_2 : Row := [i 13 (.mv (r 6)), i 14 (.mv (r 13)), g 15 (.load (some 2) (r 3)) 14 false, ⟨⟨(some 16), .call (.func F_ref07_Root) [], (some (14, false))⟩,
  [⟨(some 15), .load (some 2) (r 3), (some (14, false))⟩]⟩, g 17 (.eq false ⟨true, [.int (.i64), .int (.i64)]⟩ (r 15) (r 16)) 14 false, i 18 (.pick (r 14) (.const (.bool
  true)) (r 17)), i 19 (.mv (r 18)), g 20 (.load (some 2) (r 3)) 19 false, ⟨⟨(some 21), .call (.func F_ref07_Trash) [], (some (19, false))⟩, [⟨(some 20), .load (some 2) (r
  3), (some (19, false))⟩]⟩, g 22 (.eq false ⟨true, [.int (.i64), .int (.i64)]⟩ (r 20) (r 21)) 19 false, i 23 (.pick (r 19) (.const (.bool true)) (r 22)), i 4 (.mv (r
  23))]
/-- (*diorama/dioramaref10.Tree).Has -/
def A_ref10_Tree_Has : AFunc :=
 ⟨24, [.tmp 4], (.seq (.ops A_ref10_Tree_Has_0) (.seq (.ops A_ref10_Tree_Has_1) (.seq (.ops A_ref10_Tree_Has_2) .ret)))⟩
/-! (*diorama/dioramaref10.Tree).Below -/
def A_ref10_Tree_Below_0 : Row := [i 3 (.box (r 1)), i 4 (.mv (.const (.slice none 0 (.exact 0))))]
def A_ref10_Tree_Below_1 : Row := [i 5 (.mv (.const (.slice none 0 (.exact 0))))]
def A_ref10_Tree_Below_2 : Row := [i 6 (.mv (.const (.int (.i64) 0)))]
def A_ref10_Tree_Below_3 : Row := [i 7 (.mv (r 6)), i 8 (.mv (r 0)), i 9 (.nilCheck (r 8)), i 10 (.fieldAddr 0 (r 9)), i 11 (.load none (r 10)), i 12 (.lenSlice (r 11)), i 13
  (.bin (.lss) (r 7) (r 12))]
def A_ref10_Tree_Below_4 : Row := [i 16 (.mv (r 0)), i 17 (.nilCheck (r 16)), i 18 (.fieldAddr 0 (r 17)), i 19 (.load none (r 18)), i 20 (.mv (r 6)), i 21 (.indexAddr 5 (r 19)
  (r 20)), i 22 (.fieldAddr 2 (r 21)), i 23 (.fieldAddr 0 (r 22)), i 24 (.load (some 2) (r 23)), i 25 (.load (some 2) (r 3)), i 26 (.eq false ⟨true, [.int (.i64), .int
  (.i64)]⟩ (r 24) (r 25))]
def A_ref10_Tree_Below_5 : Row := [i 27 (.mv (r 5)), i 28 (.mv (r 0)), i 29 (.nilCheck (r 28)), i 30 (.fieldAddr 0 (r 29)), i 31 (.load none (r 30)), i 32 (.mv (r 6)), i 33
  (.indexAddr 5 (r 31) (r 32)), i 34 (.fieldAddr 0 (r 33)), i 35 (.load (some 2) (r 34)), i 36 (.buildSlice 1 [.int (.i64) 0, .int (.i64) 0] [(0, 2, .tmp 35)]), i 37
  (.append 2 16 (r 27) (r 36)), i 5 (.mv (r 37))]
def A_ref10_Tree_Below_6 : Row := [i 14 (.mv (r 6)), i 15 (.bin (.add) (r 14) (.const (.int (.i64) 1))), i 6 (.mv (r 15))]
def A_ref10_Tree_Below_7 : ACode := (.seq (.seq (.ops A_ref10_Tree_Below_3) (.cond (r 13) .skip (.exit 0))) (.seq (.block 1 (.seq (.ops A_ref10_Tree_Below_4) (.cond (r 26)
  (.ops A_ref10_Tree_Below_5) .skip))) (.ops A_ref10_Tree_Below_6)))
def A_ref10_Tree_Below_8 : Row := [i 38 (.mv (r 5)), i 4 (.mv (r 38))]
/-- (*diorama/dioramaref10.Tree).Below -/
def A_ref10_Tree_Below : AFunc :=
 ⟨39, [.tmp 4], (.seq (.ops A_ref10_Tree_Below_0) (.seq (.ops A_ref10_Tree_Below_1) (.seq (.seq (.ops A_ref10_Tree_Below_2) (.block 0 (.loop A_ref10_Tree_Below_7))) (.seq
  (.ops A_ref10_Tree_Below_8) .ret))))⟩
/-! (*diorama/dioramaref10.Tree).Above -/
def A_ref10_Tree_Above_0 : Row := [i 3 (.box (r 1)), i 4 (.mv (.const (.slice none 0 (.exact 0))))]
def A_ref10_Tree_Above_1 : Row := [i 5 (.mv (.const (.slice none 0 (.exact 0))))]
def A_ref10_Tree_Above_2 : Row := [i 6 (.mv (.const (.int (.i64) 0)))]
def A_ref10_Tree_Above_3 : Row := [i 9 (.mv (r 6)), i 10 (.mv (r 0)), i 11 (.nilCheck (r 10)), i 12 (.fieldAddr 0 (r 11)), i 13 (.load none (r 12)), i 14 (.lenSlice (r 13)), i
  15 (.bin (.leq) (r 9) (r 14))]
def A_ref10_Tree_Above_4 : Row := [i 19 (.mv (r 0)), i 20 (.load (some 2) (r 3)), i 21 (.call (.func F_ref10_Tree_find) [.tmp 19, .tmp 20]), i 18 (.mv (r 21)), i 22 (.extract
  (r 18) 0), i 23 (.extract (r 18) 1), i 7 (.mv (r 22)), i 8 (.mv (r 23))]
def A_ref10_Tree_Above_5 : Row := [i 24 (.mv (r 8)), i 25 (.un (.not) (r 24))]
def A_ref10_Tree_Above_6 : Row := [i 26 (.mv (r 5)), i 4 (.mv (r 26))]
def A_ref10_Tree_Above_7 : Row := [i 27 (.mv (r 0)), i 28 (.nilCheck (r 27)), i 29 (.fieldAddr 0 (r 28)), i 30 (.load none (r 29)), i 31 (.mv (r 7)), i 32 (.indexAddr 5 (r 30)
  (r 31)), i 33 (.fieldAddr 2 (r 32)), i 34 (.fieldAddr 0 (r 33)), i 35 (.load (some 2) (r 34)), i0 (.store 2 (r 3) (r 35))]
def A_ref10_Tree_Above_8 : Row := [i 36 (.mv (r 5)), i 37 (.load (some 2) (r 3)), i 38 (.buildSlice 1 [.int (.i64) 0, .int (.i64) 0] [(0, 2, .tmp 37)]), i 39 (.append 2 16 (r
  36) (r 38)), i 5 (.mv (r 39))]
def A_ref10_Tree_Above_9 : Row := [i 16 (.mv (r 6)), i 17 (.bin (.add) (r 16) (.const (.int (.i64) 1))), i 6 (.mv (r 17))]
def A_ref10_Tree_Above_10 : ACode := (.seq (.seq (.ops A_ref10_Tree_Above_3) (.cond (r 15) .skip (.exit 0))) (.seq (.block 1 (.seq (.ops A_ref10_Tree_Above_4) (.seq (.seq
  (.ops A_ref10_Tree_Above_5) (.cond (r 25) (.seq (.ops A_ref10_Tree_Above_6) .ret) .skip)) (.seq (.ops A_ref10_Tree_Above_7) (.ops A_ref10_Tree_Above_8))))) (.ops
  A_ref10_Tree_Above_9)))
def A_ref10_Tree_Above_11 : Row := [i 40 (.mv (r 5)), i 4 (.mv (r 40))]
/-- (*diorama/dioramaref10.Tree).Above -/
def A_ref10_Tree_Above : AFunc :=
 ⟨41, [.tmp 4], (.seq (.ops A_ref10_Tree_Above_0) (.seq (.ops A_ref10_Tree_Above_1) (.seq (.seq (.ops A_ref10_Tree_Above_2) (.block 0 (.loop A_ref10_Tree_Above_10))) (.seq
  (.ops A_ref10_Tree_Above_11) .ret))))⟩
/-! (*diorama/dioramaref10.Tree).Within -/
def A_ref10_Tree_Within_0 : Row := [i 4 (.box (r 1)), i 5 (.box (r 2)), i 6 (.mv (.const (.bool false)))]
def A_ref10_Tree_Within_1 : Row := [i 12 (.mv (r 0)), i 13 (.load (some 2) (r 5)), i 14 (.call (.func F_ref10_Tree_find) [.tmp 12, .tmp 13]), i 11 (.mv (r 14)), i 15 (.extract
  (r 11) 0), i 16 (.extract (r 11) 1), i 7 (.mv (r 15)), i 8 (.mv (r 16))]
def A_ref10_Tree_Within_2 : Row := [i 17 (.mv (r 8)), i 18 (.un (.not) (r 17))]
def A_ref10_Tree_Within_3 : Row := [i 6 (.mv (.const (.bool false)))]
def A_ref10_Tree_Within_4 : Row := [i 19 (.load (some 2) (r 4)), i 20 (.load (some 2) (r 5)), i 21 (.eq false ⟨true, [.int (.i64), .int (.i64)]⟩ (r 19) (r 20))]
def A_ref10_Tree_Within_5 : Row := [i 6 (.mv (.const (.bool true)))]
def A_ref10_Tree_Within_6 : Row := [i 22 (.mv (r 0)), i 23 (.load (some 2) (r 5)), i 24 (.call (.func F_ref10_Tree_Above) [.tmp 22, .tmp 23]), i 9 (.mv (r 24))]
def A_ref10_Tree_Within_7 : Row := [i 10 (.mv (.const (.int (.i64) 0)))]
def A_ref10_Tree_Within_8 : Row := [i 25 (.mv (r 10)), i 26 (.mv (r 9)), i 27 (.lenSlice (r 26)), i 28 (.bin (.lss) (r 25) (r 27))]
def A_ref10_Tree_Within_9 : Row := [i 31 (.mv (r 9)), i 32 (.mv (r 10)), i 33 (.indexAddr 2 (r 31) (r 32)), i 34 (.load (some 2) (r 33)), i 35 (.load (some 2) (r 4)), i 36
  (.eq false ⟨true, [.int (.i64), .int (.i64)]⟩ (r 34) (r 35))]
def A_ref10_Tree_Within_10 : Row := [i 6 (.mv (.const (.bool true)))]
def A_ref10_Tree_Within_11 : Row := [i 29 (.mv (r 10)), i 30 (.bin (.add) (r 29) (.const (.int (.i64) 1))), i 10 (.mv (r 30))]
def A_ref10_Tree_Within_12 : ACode := (.seq (.seq (.ops A_ref10_Tree_Within_8) (.cond (r 28) .skip (.exit 0))) (.seq (.block 1 (.seq (.ops A_ref10_Tree_Within_9) (.cond (r 36)
  (.seq (.ops A_ref10_Tree_Within_10) .ret) .skip))) (.ops A_ref10_Tree_Within_11)))
def A_ref10_Tree_Within_13 : Row := [i 6 (.mv (.const (.bool false)))]
/-- (*diorama/dioramaref10.Tree).Within -/
def A_ref10_Tree_Within : AFunc :=
 ⟨37, [.tmp 6], (.seq (.ops A_ref10_Tree_Within_0) (.seq (.ops A_ref10_Tree_Within_1) (.seq (.seq (.ops A_ref10_Tree_Within_2) (.cond (r 18) (.seq (.ops
  A_ref10_Tree_Within_3) .ret) .skip)) (.seq (.seq (.ops A_ref10_Tree_Within_4) (.cond (r 21) (.seq (.ops A_ref10_Tree_Within_5) .ret) .skip)) (.seq (.ops
  A_ref10_Tree_Within_6) (.seq (.seq (.ops A_ref10_Tree_Within_7) (.block 0 (.loop A_ref10_Tree_Within_12))) (.seq (.ops A_ref10_Tree_Within_13) .ret)))))))⟩
/-! diorama/op.Place -/
def A_op_Place_0 : Row := [i 1 (.box (r 0)), i 2 (.mv (.const (.bool false)))]
def A_op_Place_1 : Row := [i 3 (.load (some 2) (r 1)), i 4 (.call (.func F_op_Node) [.tmp 3]), i 5 (.mv (r 4)), g 6 (.load (some 2) (r 1)) 5 false, g 7 (.load (some 2) (.const
  (.ptr (some (0, 0))))) 5 false, g 8 (.eq false ⟨true, [.int (.i64), .int (.i64)]⟩ (r 6) (r 7)) 5 false, i 9 (.pick (r 5) (.const (.bool true)) (r 8)), i 10 (.mv (r 9)),
  g 11 (.load (some 2) (r 1)) 10 false, g 12 (.load (some 2) (.const (.ptr (some (1, 0))))) 10 false, g 13 (.eq false ⟨true, [.int (.i64), .int (.i64)]⟩ (r 11) (r 12)) 10
  false, i 14 (.pick (r 10) (.const (.bool true)) (r 13)), i 2 (.mv (r 14))]
/-- diorama/op.Place -/
def A_op_Place : AFunc :=
 ⟨15, [.tmp 2], (.seq (.ops A_op_Place_0) (.seq (.ops A_op_Place_1) .ret))⟩
/-! diorama/dioramalaw13.ref12Light -/
/-! (*diorama/graph.Graph).Reaches -/
/-! (*diorama/graph.Graph).none -/
/-! diorama/op.Right -/
/-! (*diorama/graph.Graph).place -/
/-! (*diorama/graph.entry).do -/
/-! slices.Clone[[]diorama/graph.entry,diorama/graph.entry] -/
/-! diorama/stamp.Right -/
def A_stamp_Right_0 : Row := [i 1 (.box (r 0)), i 2 (.mv (.const (.bool false)))]
def A_stamp_Right_1 : Row := [i 3 (.fieldAddr 0 (r 1)), i 4 (.load none (r 3)), i 5 (.bin (.geq) (r 4) (.const (.int (.i64) 0))), i 6 (.mv (r 5)), g 7 (.fieldAddr 0 (r 1)) 6
  true, g 8 (.load none (r 7)) 6 true, g 9 (.bin (.leq) (r 8) (.const (.int (.i64) 1099511627776))) 6 true, i 10 (.pick (r 6) (r 9) (.const (.bool false))), i 11 (.mv (r
  10)), g 12 (.fieldAddr 1 (r 1)) 11 true, g 13 (.load none (r 12)) 11 true, g 14 (.bin (.geq) (r 13) (.const (.int (.i64) 0))) 11 true, i 15 (.pick (r 11) (r 14) (.const
  (.bool false))), i 16 (.mv (r 15)), g 17 (.fieldAddr 1 (r 1)) 16 true, g 18 (.load none (r 17)) 16 true, g 19 (.bin (.lss) (r 18) (.const (.int (.i64) 16))) 16 true, i
  20 (.pick (r 16) (r 19) (.const (.bool false))), i 2 (.mv (r 20))]
/-- diorama/stamp.Right -/
def A_stamp_Right : AFunc :=
 ⟨21, [.tmp 2], (.seq (.ops A_stamp_Right_0) (.seq (.ops A_stamp_Right_1) .ret))⟩
/-! diorama/poskey.Right -/
def A_poskey_Right_0 : Row := [i 2 (.mv (.const (.bool false)))]
def A_poskey_Right_1 : Row := [i 3 (.mv (r 0)), i 4 (.bin (.neq) (r 3) (.const (.str []))), i 5 (.mv (r 4)), g 6 (.mv (r 0)) 5 true, g 7 (.lenStr (r 6)) 5 true, g 8 (.bin
  (.leq) (r 7) (.const (.int (.i64) 24))) 5 true, i 9 (.pick (r 5) (r 8) (.const (.bool false))), i 10 (.mv (r 9)), g 11 (.mv (r 0)) 10 true, g 12 (.mv (r 0)) 10 true, g
  13 (.lenStr (r 12)) 10 true, g 14 (.bin (.sub) (r 13) (.const (.int (.i64) 1))) 10 true, g 15 (.indexStr (r 11) (r 14)) 10 true, g 16 (.bin (.neq) (r 15) (.const (.int
  (.u8) 0))) 10 true, i 17 (.pick (r 10) (r 16) (.const (.bool false))), i 2 (.mv (r 17))]
/-- diorama/poskey.Right -/
def A_poskey_Right : AFunc :=
 ⟨18, [.tmp 2], (.seq (.ops A_poskey_Right_0) (.seq (.ops A_poskey_Right_1) .ret))⟩
/-! (*diorama/dioramaref10.Tree).find -/
def A_ref10_Tree_find_0 : Row := [i 3 (.box (r 1)), i 4 (.mv (.const (.int (.i64) 0))), i 5 (.mv (.const (.bool false)))]
def A_ref10_Tree_find_1 : Row := [i 6 (.mv (.const (.int (.i64) 0)))]
def A_ref10_Tree_find_2 : Row := [i 7 (.mv (r 6)), i 8 (.mv (r 0)), i 9 (.nilCheck (r 8)), i 10 (.fieldAddr 0 (r 9)), i 11 (.load none (r 10)), i 12 (.lenSlice (r 11)), i 13
  (.bin (.lss) (r 7) (r 12))]
def A_ref10_Tree_find_3 : Row := [i 16 (.mv (r 0)), i 17 (.nilCheck (r 16)), i 18 (.fieldAddr 0 (r 17)), i 19 (.load none (r 18)), i 20 (.mv (r 6)), i 21 (.indexAddr 5 (r 19)
  (r 20)), i 22 (.fieldAddr 0 (r 21)), i 23 (.load (some 2) (r 22)), i 24 (.load (some 2) (r 3)), i 25 (.call (.func F_ref02_Compare) [.tmp 23, .tmp 24]), i 26 (.bin
  (.geq) (r 25) (.const (.int (.i64) 0)))]
def A_ref10_Tree_find_4 : Row := [i 27 (.mv (r 6)), i 28 (.mv (r 0)), i 29 (.nilCheck (r 28)), i 30 (.fieldAddr 0 (r 29)), i 31 (.load none (r 30)), i 32 (.mv (r 6)), i 33
  (.indexAddr 5 (r 31) (r 32)), i 34 (.fieldAddr 0 (r 33)), i 35 (.load (some 2) (r 34)), i 36 (.load (some 2) (r 3)), i 37 (.eq false ⟨true, [.int (.i64), .int (.i64)]⟩
  (r 35) (r 36)), i 4 (.mv (r 27)), i 5 (.mv (r 37))]
def A_ref10_Tree_find_5 : Row := [i 14 (.mv (r 6)), i 15 (.bin (.add) (r 14) (.const (.int (.i64) 1))), i 6 (.mv (r 15))]
def A_ref10_Tree_find_6 : ACode := (.seq (.seq (.ops A_ref10_Tree_find_2) (.cond (r 13) .skip (.exit 0))) (.seq (.block 1 (.seq (.ops A_ref10_Tree_find_3) (.cond (r 26) (.seq
  (.ops A_ref10_Tree_find_4) .ret) .skip))) (.ops A_ref10_Tree_find_5)))
def A_ref10_Tree_find_7 : Row := [i 38 (.mv (r 0)), i 39 (.nilCheck (r 38)), i 40 (.fieldAddr 0 (r 39)), i 41 (.load none (r 40)), i 42 (.lenSlice (r 41)), i 4 (.mv (r 42)), i
  5 (.mv (.const (.bool false)))]
/-- (*diorama/dioramaref10.Tree).find -/
def A_ref10_Tree_find : AFunc :=
 ⟨43, [.tmp 4, .tmp 5], (.seq (.ops A_ref10_Tree_find_0) (.seq (.seq (.ops A_ref10_Tree_find_1) (.block 0 (.loop A_ref10_Tree_find_6))) (.seq (.ops A_ref10_Tree_find_7)
  .ret)))⟩
/-! diorama/dioramaref07.Node -/
def A_ref07_Node_0 : Row := [i 1 (.box (r 0)), i 2 (.mv (.const (.bool false)))]
def A_ref07_Node_1 : Row := [i 3 (.load (some 2) (r 1)), i 4 (.call (.func F_ref02_Right) [.tmp 3]), i 5 (.mv (r 4)), g 6 (.fieldAddr 0 (r 1)) 5 true, g 7 (.load none (r 6)) 5
  true, g 8 (.bin (.geq) (r 7) (.const (.int (.i64) 1))) 5 true, i 9 (.pick (r 5) (r 8) (.const (.bool false))), i 2 (.mv (r 9))]
/-- diorama/dioramaref07.Node -/
def A_ref07_Node : AFunc :=
 ⟨10, [.tmp 2], (.seq (.ops A_ref07_Node_0) (.seq (.ops A_ref07_Node_1) .ret))⟩
/-! diorama/dioramaref10.Right -/
def A_ref10_Right_0 : Row := [i 1 (.box (r 0)), i 2 (.mv (.const (.bool false)))]
def A_ref10_Right_1 : Row := [i 3 (.fieldAddr 0 (r 1)), i 4 (.load (some 2) (r 3)), i 5 (.call (.func F_ref07_Place) [.tmp 4]), i 6 (.mv (r 5)), g 7 (.fieldAddr 2 (r 1)) 6
  true, g 8 (.load none (r 7)) 6 true, g 9 (.call (.func F_ref04_Right) [.tmp 8]) 6 true, i 10 (.pick (r 6) (r 9) (.const (.bool false))), i 2 (.mv (r 10))]
/-- diorama/dioramaref10.Right -/
def A_ref10_Right : AFunc :=
 ⟨11, [.tmp 2], (.seq (.ops A_ref10_Right_0) (.seq (.ops A_ref10_Right_1) .ret))⟩
/-! diorama/dioramaref07.Root -/
def A_ref07_Root_0 : Row := [i 0 (.alloc [.int (.i64) 0, .int (.i64) 0])]
def A_ref07_Root_1 : Row := [i 1 (.build [.int (.i64) 0, .int (.i64) 0] []), i0 (.store 2 (r 0) (r 1))]
/-- diorama/dioramaref07.Root -/
def A_ref07_Root : AFunc :=
 ⟨2, [.cell 0 (some 2)], (.seq (.ops A_ref07_Root_0) (.seq (.ops A_ref07_Root_1) .ret))⟩
/-! diorama/dioramaref07.Trash -/
def A_ref07_Trash_0 : Row := [i 0 (.alloc [.int (.i64) 0, .int (.i64) 0])]
def A_ref07_Trash_1 : Row := [i 1 (.build [.int (.i64) 0, .int (.i64) 0] [(1, 1, .const (.int (.i64) 1))]), i0 (.store 2 (r 0) (r 1))]
/-- diorama/dioramaref07.Trash -/
def A_ref07_Trash : AFunc :=
 ⟨2, [.cell 0 (some 2)], (.seq (.ops A_ref07_Trash_0) (.seq (.ops A_ref07_Trash_1) .ret))⟩
/-! (*diorama/graph.Graph).next -/
/-! diorama/op.parts -/
/-! diorama/op.Right$1 -/
/-! slices.ContainsFunc[[]diorama/api.Stamp,diorama/api.Stamp] -/
/-! diorama/op.Right$2 -/
/-! diorama/value.Right8 -/
/-! slices.BinarySearchFunc[[]diorama/graph.entry,diorama/graph.entry,diorama/api.Stamp] -/
/-! (*diorama/graph.Graph).place$1 -/
/-! (*diorama/graph.entry).do$1 -/
/-! (*diorama/graph.entry).do$2 -/
/-! (*diorama/graph.Graph).ring -/
/-! (*diorama/graph.Graph).link -/
/-! diorama/dioramaref02.Compare -/
def A_ref02_Compare_0 : Row := [i 2 (.box (r 0)), i 3 (.box (r 1)), i 4 (.mv (.const (.int (.i64) 0)))]
def A_ref02_Compare_1 : Row := [i 7 (.fieldAddr 0 (r 2)), i 8 (.load none (r 7)), i 5 (.mv (r 8))]
def A_ref02_Compare_2 : Row := [i 9 (.fieldAddr 0 (r 3)), i 10 (.load none (r 9)), i 6 (.mv (r 10))]
def A_ref02_Compare_3 : Row := [i 11 (.mv (r 5)), i 12 (.mv (r 6)), i 13 (.bin (.eql) (r 11) (r 12))]
def A_ref02_Compare_4 : Row := [i 14 (.fieldAddr 1 (r 2)), i 15 (.load none (r 14)), i 5 (.mv (r 15))]
def A_ref02_Compare_5 : Row := [i 16 (.fieldAddr 1 (r 3)), i 17 (.load none (r 16)), i 6 (.mv (r 17))]
def A_ref02_Compare_6 : Row := [i 18 (.mv (r 5)), i 19 (.mv (r 6)), i 20 (.bin (.lss) (r 18) (r 19))]
def A_ref02_Compare_7 : Row := [i 4 (.mv (.const (.int (.i64) (-1))))]
def A_ref02_Compare_8 : Row := [i 21 (.mv (r 5)), i 22 (.mv (r 6)), i 23 (.bin (.gtr) (r 21) (r 22))]
def A_ref02_Compare_9 : Row := [i 4 (.mv (.const (.int (.i64) 1)))]
def A_ref02_Compare_10 : Row := [i 4 (.mv (.const (.int (.i64) 0)))]
/-- diorama/dioramaref02.Compare -/
def A_ref02_Compare : AFunc :=
 ⟨24, [.tmp 4], (.seq (.ops A_ref02_Compare_0) (.seq (.ops A_ref02_Compare_1) (.seq (.ops A_ref02_Compare_2) (.seq (.seq (.ops A_ref02_Compare_3) (.cond (r 13) (.seq (.ops
  A_ref02_Compare_4) (.ops A_ref02_Compare_5)) .skip)) (.seq (.seq (.ops A_ref02_Compare_6) (.cond (r 20) (.seq (.ops A_ref02_Compare_7) .ret) .skip)) (.seq (.seq (.ops
  A_ref02_Compare_8) (.cond (r 23) (.seq (.ops A_ref02_Compare_9) .ret) .skip)) (.seq (.ops A_ref02_Compare_10) .ret)))))))⟩
/-! diorama/dioramaref02.Right -/
def A_ref02_Right_0 : Row := [i 1 (.box (r 0)), i 2 (.mv (.const (.bool false)))]
def A_ref02_Right_1 : Row := [i 3 (.fieldAddr 0 (r 1)), i 4 (.load none (r 3)), i 5 (.bin (.geq) (r 4) (.const (.int (.i64) 0))), i 6 (.mv (r 5)), g 7 (.fieldAddr 0 (r 1)) 6
  true, g 8 (.load none (r 7)) 6 true, g 9 (.bin (.leq) (r 8) (.const (.int (.i64) 1099511627776))) 6 true, i 10 (.pick (r 6) (r 9) (.const (.bool false))), i 11 (.mv (r
  10)), g 12 (.fieldAddr 1 (r 1)) 11 true, g 13 (.load none (r 12)) 11 true, g 14 (.bin (.geq) (r 13) (.const (.int (.i64) 0))) 11 true, i 15 (.pick (r 11) (r 14) (.const
  (.bool false))), i 16 (.mv (r 15)), g 17 (.fieldAddr 1 (r 1)) 16 true, g 18 (.load none (r 17)) 16 true, g 19 (.bin (.lss) (r 18) (.const (.int (.i64) 16))) 16 true, i
  20 (.pick (r 16) (r 19) (.const (.bool false))), i 2 (.mv (r 20))]
/-- diorama/dioramaref02.Right -/
def A_ref02_Right : AFunc :=
 ⟨21, [.tmp 2], (.seq (.ops A_ref02_Right_0) (.seq (.ops A_ref02_Right_1) .ret))⟩
/-! diorama/dioramaref07.Place -/
def A_ref07_Place_0 : Row := [i 1 (.box (r 0)), i 2 (.mv (.const (.bool false)))]
def A_ref07_Place_1 : Row := [i 3 (.load (some 2) (r 1)), i 4 (.call (.func F_ref07_Node) [.tmp 3]), i 5 (.mv (r 4)), g 6 (.load (some 2) (r 1)) 5 false, ⟨⟨(some 7), .call
  (.func F_ref07_Root) [], (some (5, false))⟩, [⟨(some 6), .load (some 2) (r 1), (some (5, false))⟩]⟩, g 8 (.eq false ⟨true, [.int (.i64), .int (.i64)]⟩ (r 6) (r 7)) 5
  false, i 9 (.pick (r 5) (.const (.bool true)) (r 8)), i 10 (.mv (r 9)), g 11 (.load (some 2) (r 1)) 10 false, ⟨⟨(some 12), .call (.func F_ref07_Trash) [], (some (10,
  false))⟩, [⟨(some 11), .load (some 2) (r 1), (some (10, false))⟩]⟩, g 13 (.eq false ⟨true, [.int (.i64), .int (.i64)]⟩ (r 11) (r 12)) 10 false, i 14 (.pick (r 10)
  (.const (.bool true)) (r 13)), i 2 (.mv (r 14))]
/-- diorama/dioramaref07.Place -/
def A_ref07_Place : AFunc :=
 ⟨15, [.tmp 2], (.seq (.ops A_ref07_Place_0) (.seq (.ops A_ref07_Place_1) .ret))⟩
/-! diorama/dioramaref04.Right -/
def A_ref04_Right_0 : Row := [i 2 (.mv (.const (.bool false)))]
def A_ref04_Right_1 : Row := [i 3 (.mv (r 0)), i 4 (.lenStr (r 3)), i 5 (.bin (.geq) (r 4) (.const (.int (.i64) 1))), i 6 (.mv (r 5)), g 7 (.mv (r 0)) 6 true, g 8 (.lenStr (r
  7)) 6 true, g 9 (.bin (.leq) (r 8) (.const (.int (.i64) 24))) 6 true, i 10 (.pick (r 6) (r 9) (.const (.bool false))), i 11 (.mv (r 10)), g 12 (.mv (r 0)) 11 true, g 13
  (.mv (r 0)) 11 true, g 14 (.lenStr (r 13)) 11 true, g 15 (.bin (.sub) (r 14) (.const (.int (.i64) 1))) 11 true, g 16 (.indexStr (r 12) (r 15)) 11 true, g 17 (.bin (.neq)
  (r 16) (.const (.int (.u8) 0))) 11 true, i 18 (.pick (r 11) (r 17) (.const (.bool false))), i 2 (.mv (r 18))]
/-- diorama/dioramaref04.Right -/
def A_ref04_Right : AFunc :=
 ⟨19, [.tmp 2], (.seq (.ops A_ref04_Right_0) (.seq (.ops A_ref04_Right_1) .ret))⟩
/-! slices.IndexFunc[[]diorama/api.Stamp,diorama/api.Stamp] -/
/-! diorama/value.Right -/
/-! (*diorama/graph.Graph).link$1 -/
/-! diorama/value.good -/
/-! (*diorama/tree.Tree).Above -/
def X_tree_Tree_Above_0 : List XItem := [⟨(some 3), .a (.box (r 1)), none⟩, ⟨(some 4), .a (.mv (.const (.slice none 0 (.exact 0)))), none⟩]
def X_tree_Tree_Above_1 : List XItem := [⟨(some 5), .a (.mv (r 0)), none⟩, ⟨(some 6), .a (.call (.func F_tree_Tree_none) [.tmp 5]), none⟩]
def X_tree_Tree_Above_2 : List XItem := [⟨(some 4), .a (.mv (.const (.slice none 0 (.exact 0)))), none⟩]
def X_tree_Tree_Above_3 : List XItem := [⟨(some 7), .a (.mv (r 0)), none⟩, ⟨(some 8), .a (.load (some 2) (r 3)), none⟩, ⟨(some 9), .a (.call (.func F_tree_Tree_up) [.tmp 7,
  .tmp 8]), none⟩, ⟨(some 10), .a (.call (.func F_slices_Collect_Stamp) [.tmp 9]), none⟩, ⟨(some 4), .a (.mv (r 10)), none⟩]
/-- (*diorama/tree.Tree).Above -/
def X_tree_Tree_Above : XCode :=
 (.seq (.ops X_tree_Tree_Above_0) (.seq (.seq (.ops X_tree_Tree_Above_1) (.cond (r 6) (.seq (.ops X_tree_Tree_Above_2) .ret) .skip)) (.seq (.ops X_tree_Tree_Above_3)
  .ret)))
/-! (*diorama/tree.Tree).Within -/
def X_tree_Tree_Within_0 : List XItem := [⟨(some 4), .a (.box (r 1)), none⟩, ⟨(some 5), .a (.box (r 2)), none⟩, ⟨(some 6), .a (.alloc [.bool false]), none⟩]
def X_tree_Tree_Within_1 : List XItem := [⟨(some 8), .a (.mv (r 0)), none⟩, ⟨(some 9), .a (.call (.func F_tree_Tree_none) [.tmp 8]), none⟩, ⟨(some 10), .a (.mv (r 9)), none⟩,
  ⟨(some 11), .a (.mv (r 0)), (some (10, false))⟩, ⟨(some 12), .a (.load (some 2) (r 5)), (some (10, false))⟩, ⟨(some 13), .a (.call (.func F_tree_Tree_node) [.tmp 11,
  .tmp 12]), (some (10, false))⟩, ⟨(some 14), .a (.un (.not) (r 13)), (some (10, false))⟩, ⟨(some 15), .a (.pick (r 10) (.const (.bool true)) (r 14)), none⟩]
def X_tree_Tree_Within_2 : List XItem := [⟨none, .a (.store 1 (r 6) (.const (.bool false))), none⟩]
def X_tree_Tree_Within_3 : List XItem := [⟨(some 16), .a (.mv (r 0)), none⟩, ⟨(some 17), .a (.load (some 2) (r 5)), none⟩, ⟨(some 18), .a (.call (.func F_tree_Tree_up) [.tmp
  16, .tmp 17]), none⟩]
def X_tree_Tree_Within_4 : List XItem := [⟨(some 7), .a (.alloc [.int (.i64) 0, .int (.i64) 0]), none⟩, ⟨none, .a (.store 2 (r 7) (r 19)), none⟩]
def X_tree_Tree_Within_5 : List XItem := [⟨(some 20), .a (.load (some 2) (r 7)), none⟩, ⟨(some 21), .a (.load (some 2) (r 4)), none⟩, ⟨(some 22), .a (.eq false ⟨true, [.int
  (.i64), .int (.i64)]⟩ (r 20) (r 21)), none⟩]
def X_tree_Tree_Within_6 : List XItem := [⟨none, .a (.store 1 (r 6) (.const (.bool true))), none⟩]
def X_tree_Tree_Within_7 : XCode := (.ops X_tree_Tree_Within_4)
def X_tree_Tree_Within_8 : XCode := (.block 1 (.seq (.ops X_tree_Tree_Within_5) (.cond (r 22) (.seq (.ops X_tree_Tree_Within_6) .ret) .skip)))
def X_tree_Tree_Within_9 : List XItem := [⟨(some 23), .a (.load (some 2) (r 4)), none⟩, ⟨(some 24), .a (.load (some 2) (r 5)), none⟩, ⟨(some 25), .a (.eq false ⟨true, [.int
  (.i64), .int (.i64)]⟩ (r 23) (r 24)), none⟩, ⟨none, .a (.store 1 (r 6) (r 25)), none⟩]
/-- (*diorama/tree.Tree).Within -/
def X_tree_Tree_Within : XCode :=
 (.seq (.ops X_tree_Tree_Within_0) (.seq (.seq (.ops X_tree_Tree_Within_1) (.cond (r 15) (.seq (.ops X_tree_Tree_Within_2) .ret) .skip)) (.seq (.seq (.ops
  X_tree_Tree_Within_3) (.block 0 (.range (r 18) [19] X_tree_Tree_Within_7 X_tree_Tree_Within_8))) (.seq (.ops X_tree_Tree_Within_9) .ret))))
/-! slices.SortedFunc[diorama/api.Stamp] -/
def X_slices_SortedFunc_Stamp_0 : List XItem := [⟨(some 4), .a (.mv (.const (.slice none 0 (.exact 0)))), none⟩]
def X_slices_SortedFunc_Stamp_1 : List XItem := [⟨(some 6), .a (.mv (r 0)), none⟩, ⟨(some 7), .a (.call (.func F_slices_Collect_Stamp) [.tmp 6]), none⟩, ⟨(some 5), .a (.mv (r
  7)), none⟩]
def X_slices_SortedFunc_Stamp_2 : List XItem := [⟨(some 8), .a (.mv (r 5)), none⟩, ⟨(some 9), .a (.mv (r 1)), none⟩, ⟨(some 10), .a (.call (.func F_slices_SortFunc_Stamp)
  [.tmp 8, .tmp 9]), none⟩]
def X_slices_SortedFunc_Stamp_3 : List XItem := [⟨(some 11), .a (.mv (r 5)), none⟩, ⟨(some 4), .a (.mv (r 11)), none⟩]
/-- slices.SortedFunc[diorama/api.Stamp] -/
def X_slices_SortedFunc_Stamp : XCode :=
 (.seq (.ops X_slices_SortedFunc_Stamp_0) (.seq (.ops X_slices_SortedFunc_Stamp_1) (.seq (.ops X_slices_SortedFunc_Stamp_2) (.seq (.ops X_slices_SortedFunc_Stamp_3)
  .ret))))
/-! slices.Collect[diorama/api.Stamp] -/
def X_slices_Collect_Stamp_0 : List XItem := [⟨(some 2), .a (.mv (.const (.slice none 0 (.exact 0)))), none⟩]
def X_slices_Collect_Stamp_1 : List XItem := [⟨(some 3), .a (.mv (r 0)), none⟩, ⟨(some 4), .a (.call (.func F_slices_AppendSeq_Stamp) [.const (.slice none 0 (.exact 0)), .tmp
  3]), none⟩, ⟨(some 2), .a (.mv (r 4)), none⟩]
/-- slices.Collect[diorama/api.Stamp] -/
def X_slices_Collect_Stamp : XCode :=
 (.seq (.ops X_slices_Collect_Stamp_0) (.seq (.ops X_slices_Collect_Stamp_1) .ret))
/-! maps.Equal[map[diorama/api.Stamp]diorama/tree.Spot,map[diorama/api.Stamp]diorama/tree.Spot,diorama/api.Stamp,diorama/tree.Spot] -/
def X_maps_Equal_Stamp_Spot_0 : List XItem := [⟨(some 4), .a (.mv (.const (.bool false))), none⟩]
def X_maps_Equal_Stamp_Spot_1 : List XItem := [⟨(some 9), .a (.mv (r 0)), none⟩, ⟨(some 10), .a (.lenMap (r 9)), none⟩, ⟨(some 11), .a (.mv (r 1)), none⟩, ⟨(some 12), .a
  (.lenMap (r 11)), none⟩, ⟨(some 13), .a (.bin (.neq) (r 10) (r 12)), none⟩]
def X_maps_Equal_Stamp_Spot_2 : List XItem := [⟨(some 4), .a (.mv (.const (.bool false))), none⟩]
def X_maps_Equal_Stamp_Spot_3 : List XItem := [⟨(some 14), .a (.mv (r 0)), none⟩, ⟨(some 15), .rangeMap (r 14), none⟩]
def X_maps_Equal_Stamp_Spot_4 : List XItem := [⟨(some 16), .nextMap (r 15), none⟩, ⟨(some 17), .a (.extract (r 16) 0), none⟩]
def X_maps_Equal_Stamp_Spot_5 : List XItem := [⟨(some 18), .entryMap (r 15), none⟩, ⟨(some 19), .a (.extract (r 18) 0), none⟩, ⟨(some 20), .a (.extract (r 18) 1), none⟩,
  ⟨(some 5), .a (.alloc [.int (.i64) 0, .int (.i64) 0]), none⟩, ⟨(some 6), .a (.alloc [.int (.i64) 0, .int (.i64) 0, .str []]), none⟩, ⟨none, .a (.store 2 (r 5) (r 19)),
  none⟩, ⟨none, .a (.store 3 (r 6) (r 20)), none⟩]
def X_maps_Equal_Stamp_Spot_6 : List XItem := [⟨(some 22), .a (.mv (r 1)), none⟩, ⟨(some 23), .a (.load (some 2) (r 5)), none⟩, ⟨(some 24), .a (.lookup ⟨true, [.int (.i64),
  .int (.i64)]⟩ (.agg [.int (.i64) 0, .int (.i64) 0, .str []]) true (r 22) (r 23)), none⟩, ⟨(some 21), .a (.mv (r 24)), none⟩, ⟨(some 25), .a (.extract (r 21) 0), none⟩,
  ⟨(some 26), .a (.extract (r 21) 1), none⟩, ⟨(some 7), .a (.alloc [.int (.i64) 0, .int (.i64) 0, .str []]), none⟩, ⟨none, .a (.store 3 (r 7) (r 25)), none⟩, ⟨(some 8), .a
  (.mv (r 26)), none⟩]
def X_maps_Equal_Stamp_Spot_7 : List XItem := [⟨(some 27), .a (.mv (r 8)), none⟩, ⟨(some 28), .a (.un (.not) (r 27)), none⟩, ⟨(some 29), .a (.mv (r 28)), none⟩, ⟨(some 30), .a
  (.load (some 3) (r 6)), (some (29, false))⟩, ⟨(some 31), .a (.load (some 3) (r 7)), (some (29, false))⟩, ⟨(some 32), .a (.eq true ⟨true, [.int (.i64), .int (.i64),
  .str]⟩ (r 30) (r 31)), (some (29, false))⟩, ⟨(some 33), .a (.pick (r 29) (.const (.bool true)) (r 32)), none⟩]
def X_maps_Equal_Stamp_Spot_8 : List XItem := [⟨(some 4), .a (.mv (.const (.bool false))), none⟩]
def X_maps_Equal_Stamp_Spot_9 : XCode := (.seq (.ops X_maps_Equal_Stamp_Spot_4) (.seq (.cond (r 17) .skip (.exit 0)) (.block 1 (.seq (.ops X_maps_Equal_Stamp_Spot_5) (.seq
  (.ops X_maps_Equal_Stamp_Spot_6) (.seq (.ops X_maps_Equal_Stamp_Spot_7) (.cond (r 33) (.seq (.ops X_maps_Equal_Stamp_Spot_8) .ret) .skip)))))))
def X_maps_Equal_Stamp_Spot_10 : List XItem := [⟨(some 4), .a (.mv (.const (.bool true))), none⟩]
/-- maps.Equal[map[diorama/api.Stamp]diorama/tree.Spot,map[diorama/api.Stamp]diorama/tree.Spot,diorama/api.Stamp,diorama/tree.Spot] -/
def X_maps_Equal_Stamp_Spot : XCode :=
 (.seq (.ops X_maps_Equal_Stamp_Spot_0) (.seq (.seq (.ops X_maps_Equal_Stamp_Spot_1) (.cond (r 13) (.seq (.ops X_maps_Equal_Stamp_Spot_2) .ret) .skip)) (.seq (.seq (.ops
  X_maps_Equal_Stamp_Spot_3) (.block 0 (.loop X_maps_Equal_Stamp_Spot_9))) (.seq (.ops X_maps_Equal_Stamp_Spot_10) .ret))))
/-! maps.Equal[map[diorama/api.Stamp]diorama/api.Stamp,map[diorama/api.Stamp]diorama/api.Stamp,diorama/api.Stamp,diorama/api.Stamp] -/
/-! maps.Keys[map[diorama/api.Stamp]diorama/tree.Spot,diorama/api.Stamp,diorama/tree.Spot]$1 -/
def X_maps_Keys_Stamp_Spot_c1_0 : List XItem := [⟨(some 4), .a (.load none (r 1)), none⟩, ⟨(some 5), .rangeMap (r 4), none⟩]
def X_maps_Keys_Stamp_Spot_c1_1 : List XItem := [⟨(some 6), .nextMap (r 5), none⟩, ⟨(some 7), .a (.extract (r 6) 0), none⟩]
def X_maps_Keys_Stamp_Spot_c1_2 : List XItem := [⟨(some 8), .entryMap (r 5), none⟩, ⟨(some 9), .a (.extract (r 8) 0), none⟩, ⟨(some 3), .a (.alloc [.int (.i64) 0, .int (.i64)
  0]), none⟩, ⟨none, .a (.store 2 (r 3) (r 9)), none⟩]
def X_maps_Keys_Stamp_Spot_c1_3 : List XItem := [⟨(some 10), .a (.mv (r 0)), none⟩, ⟨(some 11), .a (.load (some 2) (r 3)), none⟩, ⟨(some 12), .a (.call (r 10) [.tmp 11]),
  none⟩, ⟨(some 13), .a (.un (.not) (r 12)), none⟩]
def X_maps_Keys_Stamp_Spot_c1_4 : XCode := (.seq (.ops X_maps_Keys_Stamp_Spot_c1_1) (.seq (.cond (r 7) .skip (.exit 0)) (.block 1 (.seq (.ops X_maps_Keys_Stamp_Spot_c1_2)
  (.seq (.ops X_maps_Keys_Stamp_Spot_c1_3) (.cond (r 13) .ret .skip))))))
/-- maps.Keys[map[diorama/api.Stamp]diorama/tree.Spot,diorama/api.Stamp,diorama/tree.Spot]$1 -/
def X_maps_Keys_Stamp_Spot_c1 : XCode :=
 (.seq (.ops X_maps_Keys_Stamp_Spot_c1_0) (.block 0 (.loop X_maps_Keys_Stamp_Spot_c1_4)))
/-! slices.AppendSeq[[]diorama/api.Stamp,diorama/api.Stamp] -/
def X_slices_AppendSeq_Stamp_0 : List XItem := [⟨(some 2), .a (.box (r 0)), none⟩, ⟨(some 4), .a (.mv (.const (.slice none 0 (.exact 0)))), none⟩]
def X_slices_AppendSeq_Stamp_1 : List XItem := [⟨(some 6), .a (.mv (r 1)), none⟩]
def X_slices_AppendSeq_Stamp_2 : List XItem := [⟨(some 5), .a (.alloc [.int (.i64) 0, .int (.i64) 0]), none⟩, ⟨none, .a (.store 2 (r 5) (r 7)), none⟩]
def X_slices_AppendSeq_Stamp_3 : List XItem := [⟨(some 8), .a (.load none (r 2)), none⟩, ⟨(some 9), .a (.load (some 2) (r 5)), none⟩, ⟨(some 10), .a (.buildSlice 1 [.int
  (.i64) 0, .int (.i64) 0] [(0, 2, .tmp 9)]), none⟩, ⟨(some 11), .a (.append 2 16 (r 8) (r 10)), none⟩, ⟨none, .a (.store 1 (r 2) (r 11)), none⟩]
def X_slices_AppendSeq_Stamp_4 : XCode := (.ops X_slices_AppendSeq_Stamp_2)
def X_slices_AppendSeq_Stamp_5 : XCode := (.block 1 (.ops X_slices_AppendSeq_Stamp_3))
def X_slices_AppendSeq_Stamp_6 : List XItem := [⟨(some 12), .a (.load none (r 2)), none⟩, ⟨(some 4), .a (.mv (r 12)), none⟩]
/-- slices.AppendSeq[[]diorama/api.Stamp,diorama/api.Stamp] -/
def X_slices_AppendSeq_Stamp : XCode :=
 (.seq (.ops X_slices_AppendSeq_Stamp_0) (.seq (.seq (.ops X_slices_AppendSeq_Stamp_1) (.block 0 (.range (r 6) [7] X_slices_AppendSeq_Stamp_4 X_slices_AppendSeq_Stamp_5)))
  (.seq (.ops X_slices_AppendSeq_Stamp_6) .ret)))
/-! (*diorama/tree.Tree).up$1 -/
def X_tree_Tree_up_c1_0 : Row := [i 7 (.load none (r 1)), i 8 (.nilCheck (r 7)), i 9 (.fieldAddr 0 (r 8)), i 10 (.load none (r 9)), i 11 (.load (some 2) (r 2)), i 12 (.lookup
  ⟨true, [.int (.i64), .int (.i64)]⟩ (.agg [.int (.i64) 0, .int (.i64) 0, .str []]) true (r 10) (r 11)), i 6 (.mv (r 12)), i 13 (.extract (r 6) 0), i 14 (.extract (r 6)
  1), i 4 (.alloc [.int (.i64) 0, .int (.i64) 0, .str []]), i0 (.store 3 (r 4) (r 13)), i 5 (.mv (r 14))]
def X_tree_Tree_up_c1_1 : List XItem := [⟨(some 15), .a (.mv (r 5)), none⟩]
def X_tree_Tree_up_c1_2 : List XItem := [⟨(some 26), .a (.mv (r 0)), none⟩, ⟨(some 27), .a (.fieldAddr 0 (r 4)), none⟩, ⟨(some 28), .a (.load (some 2) (r 27)), none⟩, ⟨(some
  29), .a (.call (r 26) [.tmp 28]), none⟩, ⟨(some 30), .a (.un (.not) (r 29)), none⟩]
def X_tree_Tree_up_c1_3 : List XItem := [⟨(some 31), .a (.load (some 3) (r 4)), none⟩]
def X_tree_Tree_up_c1_4 : List XItem := [⟨(some 4), .a (.alloc [.int (.i64) 0, .int (.i64) 0, .str []]), none⟩, ⟨none, .a (.store 3 (r 4) (r 31)), none⟩]
def X_tree_Tree_up_c1_5 : Row := [i 17 (.load none (r 1)), i 18 (.nilCheck (r 17)), i 19 (.fieldAddr 0 (r 18)), i 20 (.load none (r 19)), i 21 (.fieldAddr 0 (r 4)), i 22
  (.load (some 2) (r 21)), i 23 (.lookup ⟨true, [.int (.i64), .int (.i64)]⟩ (.agg [.int (.i64) 0, .int (.i64) 0, .str []]) true (r 20) (r 22)), i 16 (.mv (r 23)), i 24
  (.extract (r 16) 0), i 25 (.extract (r 16) 1), i0 (.store 3 (r 4) (r 24)), i 5 (.mv (r 25))]
def X_tree_Tree_up_c1_6 : XCode := (.seq (.seq (.ops X_tree_Tree_up_c1_1) (.cond (r 15) .skip (.exit 0))) (.seq (.block 1 (.seq (.ops X_tree_Tree_up_c1_2) (.cond (r 30) .ret
  .skip))) (.seq (.seq (.ops X_tree_Tree_up_c1_3) (.ops X_tree_Tree_up_c1_4)) (.dops X_tree_Tree_up_c1_5))))
/-- (*diorama/tree.Tree).up$1 -/
def X_tree_Tree_up_c1 : XCode :=
 (.seq (.dops X_tree_Tree_up_c1_0) (.block 0 (.loop X_tree_Tree_up_c1_6)))
def gl0 : Nat → Bool := fun g => Nat.ble (g + 1) 2
set_option maxRecDepth 100000
theorem c_law10_TreePlays : cFunc Tryd.prog gl0 Tryd.f6 = some A_law10_TreePlays := by kernel_rfl
theorem c_law10_Long : cFunc Tryd.prog gl0 Tryd.f10 = some A_law10_Long := by kernel_rfl
theorem c_law10_knows : cFunc Tryd.prog gl0 Tryd.f11 = some A_law10_knows := by kernel_rfl
theorem c_tree_New : cFunc Tryd.prog gl0 Tryd.f12 = some A_tree_New := by kernel_rfl
theorem c_tree_Tree_Nodes : cFunc Tryd.prog gl0 Tryd.f14 = some A_tree_Tree_Nodes := by kernel_rfl
theorem c_tree_Tree_Below : cFunc Tryd.prog gl0 Tryd.f16 = some A_tree_Tree_Below := by kernel_rfl
theorem c_tree_Tree_Spot : cFunc Tryd.prog gl0 Tryd.f17 = some A_tree_Tree_Spot := by kernel_rfl
theorem c_tree_Tree_Clone : cFunc Tryd.prog gl0 Tryd.f19 = some A_tree_Tree_Clone := by kernel_rfl
theorem c_tree_Tree_Move : cFunc Tryd.prog gl0 Tryd.f20 = some A_tree_Tree_Move := by kernel_rfl
theorem c_law10_Own : cFunc Tryd.prog gl0 Tryd.f21 = some A_law10_Own := by kernel_rfl
theorem c_law10_num : cFunc Tryd.prog gl0 Tryd.f22 = some A_law10_num := by kernel_rfl
theorem c_tree_Tree_Same : cFunc Tryd.prog gl0 Tryd.f23 = some A_tree_Tree_Same := by kernel_rfl
theorem c_tree_Tree_Add : cFunc Tryd.prog gl0 Tryd.f24 = some A_tree_Tree_Add := by kernel_rfl
theorem c_tree_Tree_Drop : cFunc Tryd.prog gl0 Tryd.f25 = some A_tree_Tree_Drop := by kernel_rfl
theorem c_law10_step : cFunc Tryd.prog gl0 Tryd.f26 = some A_law10_step := by kernel_rfl
theorem c_law10_same : cFunc Tryd.prog gl0 Tryd.f27 = some A_law10_same := by kernel_rfl
theorem c_law05_Same : cFunc Tryd.prog gl0 Tryd.f28 = some A_law05_Same := by kernel_rfl
theorem c_ref10_Same : cFunc Tryd.prog gl0 Tryd.f29 = some A_ref10_Same := by kernel_rfl
theorem c_tree_Tree_Has : cFunc Tryd.prog gl0 Tryd.f30 = some A_tree_Tree_Has := by kernel_rfl
theorem c_tree_Tree_none : cFunc Tryd.prog gl0 Tryd.f44 = some A_tree_Tree_none := by kernel_rfl
theorem c_maps_Keys_Stamp_Spot : cFunc Tryd.prog gl0 Tryd.f46 = some A_maps_Keys_Stamp_Spot := by kernel_rfl
theorem c_stamp_Compare : cFunc Tryd.prog gl0 Tryd.f47 = some A_stamp_Compare := by kernel_rfl
theorem c_tree_Tree_up : cFunc Tryd.prog gl0 Tryd.f49 = some A_tree_Tree_up := by kernel_rfl
theorem c_tree_Tree_node : cFunc Tryd.prog gl0 Tryd.f50 = some A_tree_Tree_node := by kernel_rfl
theorem c_op_Node : cFunc Tryd.prog gl0 Tryd.f52 = some A_op_Node := by kernel_rfl
theorem c_tree_Spot_right : cFunc Tryd.prog gl0 Tryd.f53 = some A_tree_Spot_right := by kernel_rfl
theorem c_ref10_Tree_Add : cFunc Tryd.prog gl0 Tryd.f55 = some A_ref10_Tree_Add := by kernel_rfl
theorem c_ref10_Tree_Move : cFunc Tryd.prog gl0 Tryd.f56 = some A_ref10_Tree_Move := by kernel_rfl
theorem c_ref10_Tree_Drop : cFunc Tryd.prog gl0 Tryd.f57 = some A_ref10_Tree_Drop := by kernel_rfl
theorem c_ref10_Tree_Spot : cFunc Tryd.prog gl0 Tryd.f58 = some A_ref10_Tree_Spot := by kernel_rfl
theorem c_ref10_Tree_Has : cFunc Tryd.prog gl0 Tryd.f59 = some A_ref10_Tree_Has := by kernel_rfl
theorem c_ref10_Tree_Below : cFunc Tryd.prog gl0 Tryd.f60 = some A_ref10_Tree_Below := by kernel_rfl
theorem c_ref10_Tree_Above : cFunc Tryd.prog gl0 Tryd.f61 = some A_ref10_Tree_Above := by kernel_rfl
theorem c_ref10_Tree_Within : cFunc Tryd.prog gl0 Tryd.f62 = some A_ref10_Tree_Within := by kernel_rfl
theorem c_op_Place : cFunc Tryd.prog gl0 Tryd.f63 = some A_op_Place := by kernel_rfl
theorem c_stamp_Right : cFunc Tryd.prog gl0 Tryd.f79 = some A_stamp_Right := by kernel_rfl
theorem c_poskey_Right : cFunc Tryd.prog gl0 Tryd.f80 = some A_poskey_Right := by kernel_rfl
theorem c_ref10_Tree_find : cFunc Tryd.prog gl0 Tryd.f81 = some A_ref10_Tree_find := by kernel_rfl
theorem c_ref07_Node : cFunc Tryd.prog gl0 Tryd.f82 = some A_ref07_Node := by kernel_rfl
theorem c_ref10_Right : cFunc Tryd.prog gl0 Tryd.f83 = some A_ref10_Right := by kernel_rfl
theorem c_ref07_Root : cFunc Tryd.prog gl0 Tryd.f84 = some A_ref07_Root := by kernel_rfl
theorem c_ref07_Trash : cFunc Tryd.prog gl0 Tryd.f85 = some A_ref07_Trash := by kernel_rfl
theorem c_ref02_Compare : cFunc Tryd.prog gl0 Tryd.f102 = some A_ref02_Compare := by kernel_rfl
theorem c_ref02_Right : cFunc Tryd.prog gl0 Tryd.f103 = some A_ref02_Right := by kernel_rfl
theorem c_ref07_Place : cFunc Tryd.prog gl0 Tryd.f104 = some A_ref07_Place := by kernel_rfl
theorem c_ref04_Right : cFunc Tryd.prog gl0 Tryd.f105 = some A_ref04_Right := by kernel_rfl
theorem b_tree_Tree_Above : ∃ c, Tryd.f15.body = some c ∧ cX Tryd.prog gl0 c = X_tree_Tree_Above := ⟨_, rfl, by kernel_rfl⟩
theorem r_tree_Tree_Above : cRes Tryd.prog Tryd.f15.results.toList = some [.tmp 4] := by kernel_rfl
theorem n_tree_Tree_Above : Tryd.f15.ntmps = 11 ∧ (Tryd.f15.name == "runtime.NumGoroutine") = false := ⟨by kernel_rfl, by kernel_rfl⟩
theorem b_tree_Tree_Within : ∃ c, Tryd.f18.body = some c ∧ cX Tryd.prog gl0 c = X_tree_Tree_Within := ⟨_, rfl, by kernel_rfl⟩
theorem r_tree_Tree_Within : cRes Tryd.prog Tryd.f18.results.toList = some [.cell 6 none] := by kernel_rfl
theorem n_tree_Tree_Within : Tryd.f18.ntmps = 26 ∧ (Tryd.f18.name == "runtime.NumGoroutine") = false := ⟨by kernel_rfl, by kernel_rfl⟩
theorem b_slices_SortedFunc_Stamp : ∃ c, Tryd.f45.body = some c ∧ cX Tryd.prog gl0 c = X_slices_SortedFunc_Stamp := ⟨_, rfl, by kernel_rfl⟩
theorem r_slices_SortedFunc_Stamp : cRes Tryd.prog Tryd.f45.results.toList = some [.tmp 4] := by kernel_rfl
theorem n_slices_SortedFunc_Stamp : Tryd.f45.ntmps = 12 ∧ (Tryd.f45.name == "runtime.NumGoroutine") = false := ⟨by kernel_rfl, by kernel_rfl⟩
theorem b_slices_Collect_Stamp : ∃ c, Tryd.f48.body = some c ∧ cX Tryd.prog gl0 c = X_slices_Collect_Stamp := ⟨_, rfl, by kernel_rfl⟩
theorem r_slices_Collect_Stamp : cRes Tryd.prog Tryd.f48.results.toList = some [.tmp 2] := by kernel_rfl
theorem n_slices_Collect_Stamp : Tryd.f48.ntmps = 5 ∧ (Tryd.f48.name == "runtime.NumGoroutine") = false := ⟨by kernel_rfl, by kernel_rfl⟩
theorem b_maps_Equal_Stamp_Spot : ∃ c, Tryd.f54.body = some c ∧ cX Tryd.prog gl0 c = X_maps_Equal_Stamp_Spot := ⟨_, rfl, by kernel_rfl⟩
theorem r_maps_Equal_Stamp_Spot : cRes Tryd.prog Tryd.f54.results.toList = some [.tmp 4] := by kernel_rfl
theorem n_maps_Equal_Stamp_Spot : Tryd.f54.ntmps = 34 ∧ (Tryd.f54.name == "runtime.NumGoroutine") = false := ⟨by kernel_rfl, by kernel_rfl⟩
theorem b_maps_Keys_Stamp_Spot_c1 : ∃ c, Tryd.f75.body = some c ∧ cX Tryd.prog gl0 c = X_maps_Keys_Stamp_Spot_c1 := ⟨_, rfl, by kernel_rfl⟩
theorem r_maps_Keys_Stamp_Spot_c1 : cRes Tryd.prog Tryd.f75.results.toList = some [] := by kernel_rfl
theorem n_maps_Keys_Stamp_Spot_c1 : Tryd.f75.ntmps = 14 ∧ (Tryd.f75.name == "runtime.NumGoroutine") = false := ⟨by kernel_rfl, by kernel_rfl⟩
theorem b_slices_AppendSeq_Stamp : ∃ c, Tryd.f76.body = some c ∧ cX Tryd.prog gl0 c = X_slices_AppendSeq_Stamp := ⟨_, rfl, by kernel_rfl⟩
theorem r_slices_AppendSeq_Stamp : cRes Tryd.prog Tryd.f76.results.toList = some [.tmp 4] := by kernel_rfl
theorem n_slices_AppendSeq_Stamp : Tryd.f76.ntmps = 13 ∧ (Tryd.f76.name == "runtime.NumGoroutine") = false := ⟨by kernel_rfl, by kernel_rfl⟩
theorem b_tree_Tree_up_c1 : ∃ c, Tryd.f77.body = some c ∧ cX Tryd.prog gl0 c = X_tree_Tree_up_c1 := ⟨_, rfl, by kernel_rfl⟩
theorem r_tree_Tree_up_c1 : cRes Tryd.prog Tryd.f77.results.toList = some [] := by kernel_rfl
theorem n_tree_Tree_up_c1 : Tryd.f77.ntmps = 32 ∧ (Tryd.f77.name == "runtime.NumGoroutine") = false := ⟨by kernel_rfl, by kernel_rfl⟩
theorem mixed : Tryd.prog.follows .mixedOrders = true := by kernel_rfl
def codes0 : List (Nat × AFunc) := [(F_law10_TreePlays, A_law10_TreePlays), (F_law10_Long, A_law10_Long), (F_law10_knows, A_law10_knows), (F_tree_New, A_tree_New), (F_tree_Tree_Nodes, A_tree_Tree_Nodes), (F_tree_Tree_Below, A_tree_Tree_Below), (F_tree_Tree_Spot, A_tree_Tree_Spot), (F_tree_Tree_Clone, A_tree_Tree_Clone), (F_tree_Tree_Move, A_tree_Tree_Move), (F_law10_Own, A_law10_Own), (F_law10_num, A_law10_num), (F_tree_Tree_Same, A_tree_Tree_Same), (F_tree_Tree_Add, A_tree_Tree_Add), (F_tree_Tree_Drop, A_tree_Tree_Drop), (F_law10_step, A_law10_step), (F_law10_same, A_law10_same), (F_law05_Same, A_law05_Same), (F_ref10_Same, A_ref10_Same), (F_tree_Tree_Has, A_tree_Tree_Has), (F_tree_Tree_none, A_tree_Tree_none)]
theorem codes0_ok : ∀ x ∈ codes0, ∃ fn, Tryd.prog.funcs[x.1]? = some fn ∧ (fn.name == "runtime.NumGoroutine") = false ∧ cFunc Tryd.prog gl0 fn = some x.2 := by
  unfold codes0
  simp only [List.forall_mem_cons]
  exact ⟨⟨_, Tryd.func6, (by kernel_rfl), c_law10_TreePlays⟩, ⟨_, Tryd.func10, (by kernel_rfl), c_law10_Long⟩, ⟨_, Tryd.func11, (by kernel_rfl), c_law10_knows⟩, ⟨_, Tryd.func12, (by kernel_rfl), c_tree_New⟩, ⟨_, Tryd.func14, (by kernel_rfl), c_tree_Tree_Nodes⟩, ⟨_, Tryd.func16, (by kernel_rfl), c_tree_Tree_Below⟩, ⟨_, Tryd.func17, (by kernel_rfl), c_tree_Tree_Spot⟩, ⟨_, Tryd.func19, (by kernel_rfl), c_tree_Tree_Clone⟩, ⟨_, Tryd.func20, (by kernel_rfl), c_tree_Tree_Move⟩, ⟨_, Tryd.func21, (by kernel_rfl), c_law10_Own⟩, ⟨_, Tryd.func22, (by kernel_rfl), c_law10_num⟩, ⟨_, Tryd.func23, (by kernel_rfl), c_tree_Tree_Same⟩, ⟨_, Tryd.func24, (by kernel_rfl), c_tree_Tree_Add⟩, ⟨_, Tryd.func25, (by kernel_rfl), c_tree_Tree_Drop⟩, ⟨_, Tryd.func26, (by kernel_rfl), c_law10_step⟩, ⟨_, Tryd.func27, (by kernel_rfl), c_law10_same⟩, ⟨_, Tryd.func28, (by kernel_rfl), c_law05_Same⟩, ⟨_, Tryd.func29, (by kernel_rfl), c_ref10_Same⟩, ⟨_, Tryd.func30, (by kernel_rfl), c_tree_Tree_Has⟩, ⟨_, Tryd.func44, (by kernel_rfl), c_tree_Tree_none⟩, fun _ h => (by cases h)⟩
def codes1 : List (Nat × AFunc) := [(F_maps_Keys_Stamp_Spot, A_maps_Keys_Stamp_Spot), (F_stamp_Compare, A_stamp_Compare), (F_tree_Tree_up, A_tree_Tree_up), (F_tree_Tree_node, A_tree_Tree_node), (F_op_Node, A_op_Node), (F_tree_Spot_right, A_tree_Spot_right), (F_ref10_Tree_Add, A_ref10_Tree_Add), (F_ref10_Tree_Move, A_ref10_Tree_Move), (F_ref10_Tree_Drop, A_ref10_Tree_Drop), (F_ref10_Tree_Spot, A_ref10_Tree_Spot), (F_ref10_Tree_Has, A_ref10_Tree_Has), (F_ref10_Tree_Below, A_ref10_Tree_Below), (F_ref10_Tree_Above, A_ref10_Tree_Above), (F_ref10_Tree_Within, A_ref10_Tree_Within), (F_op_Place, A_op_Place), (F_stamp_Right, A_stamp_Right), (F_poskey_Right, A_poskey_Right), (F_ref10_Tree_find, A_ref10_Tree_find), (F_ref07_Node, A_ref07_Node), (F_ref10_Right, A_ref10_Right), (F_ref07_Root, A_ref07_Root), (F_ref07_Trash, A_ref07_Trash)]
theorem codes1_ok : ∀ x ∈ codes1, ∃ fn, Tryd.prog.funcs[x.1]? = some fn ∧ (fn.name == "runtime.NumGoroutine") = false ∧ cFunc Tryd.prog gl0 fn = some x.2 := by
  unfold codes1
  simp only [List.forall_mem_cons]
  exact ⟨⟨_, Tryd.func46, (by kernel_rfl), c_maps_Keys_Stamp_Spot⟩, ⟨_, Tryd.func47, (by kernel_rfl), c_stamp_Compare⟩, ⟨_, Tryd.func49, (by kernel_rfl), c_tree_Tree_up⟩, ⟨_, Tryd.func50, (by kernel_rfl), c_tree_Tree_node⟩, ⟨_, Tryd.func52, (by kernel_rfl), c_op_Node⟩, ⟨_, Tryd.func53, (by kernel_rfl), c_tree_Spot_right⟩, ⟨_, Tryd.func55, (by kernel_rfl), c_ref10_Tree_Add⟩, ⟨_, Tryd.func56, (by kernel_rfl), c_ref10_Tree_Move⟩, ⟨_, Tryd.func57, (by kernel_rfl), c_ref10_Tree_Drop⟩, ⟨_, Tryd.func58, (by kernel_rfl), c_ref10_Tree_Spot⟩, ⟨_, Tryd.func59, (by kernel_rfl), c_ref10_Tree_Has⟩, ⟨_, Tryd.func60, (by kernel_rfl), c_ref10_Tree_Below⟩, ⟨_, Tryd.func61, (by kernel_rfl), c_ref10_Tree_Above⟩, ⟨_, Tryd.func62, (by kernel_rfl), c_ref10_Tree_Within⟩, ⟨_, Tryd.func63, (by kernel_rfl), c_op_Place⟩, ⟨_, Tryd.func79, (by kernel_rfl), c_stamp_Right⟩, ⟨_, Tryd.func80, (by kernel_rfl), c_poskey_Right⟩, ⟨_, Tryd.func81, (by kernel_rfl), c_ref10_Tree_find⟩, ⟨_, Tryd.func82, (by kernel_rfl), c_ref07_Node⟩, ⟨_, Tryd.func83, (by kernel_rfl), c_ref10_Right⟩, ⟨_, Tryd.func84, (by kernel_rfl), c_ref07_Root⟩, ⟨_, Tryd.func85, (by kernel_rfl), c_ref07_Trash⟩, fun _ h => (by cases h)⟩
def codes2 : List (Nat × AFunc) := [(F_ref02_Compare, A_ref02_Compare), (F_ref02_Right, A_ref02_Right), (F_ref07_Place, A_ref07_Place), (F_ref04_Right, A_ref04_Right)]
theorem codes2_ok : ∀ x ∈ codes2, ∃ fn, Tryd.prog.funcs[x.1]? = some fn ∧ (fn.name == "runtime.NumGoroutine") = false ∧ cFunc Tryd.prog gl0 fn = some x.2 := by
  unfold codes2
  simp only [List.forall_mem_cons]
  exact ⟨⟨_, Tryd.func102, (by kernel_rfl), c_ref02_Compare⟩, ⟨_, Tryd.func103, (by kernel_rfl), c_ref02_Right⟩, ⟨_, Tryd.func104, (by kernel_rfl), c_ref07_Place⟩, ⟨_, Tryd.func105, (by kernel_rfl), c_ref04_Right⟩, fun _ h => (by cases h)⟩
def codes : List (Nat × AFunc) := codes0 ++ codes1 ++ codes2
theorem codes_ok : ∀ x ∈ codes, ∃ fn, Tryd.prog.funcs[x.1]? = some fn ∧ (fn.name == "runtime.NumGoroutine") = false ∧ cFunc Tryd.prog gl0 fn = some x.2 := by
  intro x hx
  simp only [codes, List.mem_append] at hx

  rcases hx with ((h | h) | h)
  · exact codes0_ok x h
  · exact codes1_ok x h
  · exact codes2_ok x h
end Go.Am.Tryd


/- slices.SortFunc as a part of the machine: by the kit's contract, at elements of some cells. -/
namespace Go.Am
open Go Go.RowKit Go.Sort

/-- How elements stand in cells. -/
structure Elem (α : Type) where
  k : Nat
  cv : α → List V
  enc : α → List Value
  dec : List V → Option α
  k_pos : 0 < k
  len : ∀ x, (cv x).length = k
  elen : ∀ x, (enc x).length = k
  dec_some : ∀ cs x, dec cs = some x → cs = cv x
  dec_cv : ∀ x, dec (cv x) = some x
  rel : ∀ E x, VRs E (cv x) (enc x)
  rel_eq : ∀ E x us, VRs E (cv x) us → us = enc x
  one : ∀ x, ∀ v ∈ enc x, v.oneCell' = true
  one' : ∀ x, allOne (cv x) = true
  flat : ∀ x, V.flats (cv x) = true

section
variable {α : Type} (e : Elem α)
def Elem.all (l : List α) : List V := l.flatMap e.cv
def Elem.encs (l : List α) : List Value := l.flatMap e.enc
def Elem.decs : Nat → List V → Option (List α)
  | 0, [] => some []
  | 0, _ :: _ => none
  | n + 1, cs => (e.dec (cs.take e.k)).bind fun x => (Elem.decs n (cs.drop e.k)).map (x :: ·)
theorem Elem.all_len (l : List α) : (e.all l).length = l.length * e.k := by
  induction l with
  | nil => simp [Elem.all]
  | cons x l ih => simp only [Elem.all, List.flatMap_cons, List.length_append, List.length_cons, e.len, Nat.add_mul, Nat.one_mul] at ih ⊢; omega
theorem Elem.encs_len (l : List α) : (e.encs l).length = l.length * e.k := by
  induction l with
  | nil => simp [Elem.encs]
  | cons x l ih => simp only [Elem.encs, List.flatMap_cons, List.length_append, List.length_cons, e.elen, Nat.add_mul, Nat.one_mul] at ih ⊢; omega
theorem Elem.decs_some : ∀ {n : Nat} {cs : List V} {l : List α}, e.decs n cs = some l → l.length = n ∧ cs = e.all l
  | 0, [], l, h => by cases h; exact ⟨rfl, rfl⟩
  | 0, _ :: _, l, h => by cases h
  | n + 1, cs, l, h => by
    simp only [Elem.decs, Option.bind_eq_some_iff, Option.map_eq_some_iff] at h
    obtain ⟨x, hx, l', hl, rfl⟩ := h
    obtain ⟨h1, h2⟩ := Elem.decs_some hl
    refine ⟨by simp [h1], ?_⟩
    show cs = e.cv x ++ l'.flatMap e.cv
    rw [← e.dec_some _ _ hx, show l'.flatMap e.cv = e.all l' from rfl, ← h2, List.take_append_drop]
theorem Elem.decs_all : ∀ (l : List α), e.decs l.length (e.all l) = some l
  | [] => rfl
  | x :: l => by
    have h1 : (e.all (x :: l)).take e.k = e.cv x := by
      show (e.cv x ++ l.flatMap e.cv).take e.k = _
      rw [← e.len x, List.take_left]
    have h2 : (e.all (x :: l)).drop e.k = e.all l := by
      show (e.cv x ++ l.flatMap e.cv).drop e.k = _
      rw [← e.len x, List.drop_left]; rfl
    simp only [List.length_cons, Elem.decs, h1, h2, e.dec_cv, Option.bind_some, Elem.decs_all l, Option.map_some]
theorem Elem.rels (E : Emb) : ∀ l : List α, VRs E (e.all l) (e.encs l)
  | [] => .nil
  | x :: l => (e.rel E x).app (Elem.rels E l)
theorem VRs.split {E : Emb} : ∀ {xs ys : List V} {us : List Value}, VRs E (xs ++ ys) us → ∃ u1 u2, us = u1 ++ u2 ∧ VRs E xs u1 ∧ VRs E ys u2
  | [], ys, us, h => ⟨[], us, rfl, .nil, h⟩
  | x :: xs, ys, _, .cons h t => by
    obtain ⟨u1, u2, rfl, h1, h2⟩ := VRs.split t
    exact ⟨_ :: u1, u2, rfl, .cons h h1, h2⟩
theorem Elem.rels_eq (E : Emb) : ∀ (l : List α) (us : List Value), VRs E (e.all l) us → us = e.encs l
  | [], us, h => by cases h; rfl
  | x :: l, us, h => by
    obtain ⟨u1, u2, rfl, h1, h2⟩ := VRs.split h
    rw [e.rel_eq E x u1 h1, Elem.rels_eq E l u2 h2]
    rfl
theorem Elem.all_one : ∀ l : List α, allOne (e.all l) = true
  | [] => rfl
  | x :: l => by
    have : ∀ (a b : List V), allOne a = true → allOne b = true → allOne (a ++ b) = true := by
      intro a b ha hb
      induction a with
      | nil => exact hb
      | cons v a ih =>
        simp only [allOne, cond_true_iff] at ha
        simp only [List.cons_append, allOne, ha.1, cond_true]
        exact ih ha.2
    exact this _ _ (e.one' x) (Elem.all_one l)
theorem Elem.all_flat : ∀ l : List α, V.flats (e.all l) = true
  | [] => rfl
  | x :: l => by
    have : ∀ (a b : List V), V.flats a = true → V.flats b = true → V.flats (a ++ b) = true := by
      intro a b ha hb
      induction a with
      | nil => exact hb
      | cons v a ih =>
        simp only [V.flats, Bool.and_eq_true] at ha
        simp only [List.cons_append, V.flats, ha.1, Bool.true_and]
        exact ih ha.2
    exact this _ _ (e.flat x) (Elem.all_flat l)

/-- A slice that is read: its elements. -/
def SlR (M : Mem) (s : V) (xs : List α) : Prop := ∃ a cap, s = .slice a xs.length cap ∧ (xs = [] ∨ ∃ b o cs ro, a = some (b, o) ∧ M.get b = some (.cells cs ro) ∧ ∀ (i : Nat) (h : i < xs.length), rdCells cs (o + i * e.k) e.k = some (e.cv xs[i]))
theorem SlR.keep {e : Elem α} {M M' : Mem} {s : V} {xs : List α} (h : SlR e M s xs) (hk : ∀ b, s.blk = some b → M'.get b = M.get b) : SlR e M' s xs := by
  obtain ⟨a, cap, rfl, h⟩ := h
  refine ⟨a, cap, rfl, ?_⟩
  rcases h with h | ⟨b, o, cs, ro, rfl, h1, h2⟩
  · exact .inl h
  · exact .inr ⟨b, o, cs, ro, rfl, (hk b rfl).trans h1, h2⟩
theorem Elem.rd (e : Elem α) : ∀ (xs : List α) (i : Nat) (h : i < xs.length), rdCells (e.all xs) (i * e.k) e.k = some (e.cv xs[i])
  | [], i, h => by simp at h
  | x :: xs, 0, h => by
    simp only [Nat.zero_mul, rdCells, Nat.zero_add, ble_iff]
    have hl : (e.all (x :: xs)) = e.cv x ++ e.all xs := rfl
    rw [hl, List.length_append, e.len, decide_eq_true (by omega)]
    simp only [cond_true, List.drop_zero, List.getElem_cons_zero, Option.some.injEq]
    rw [← e.len x, List.take_left]
  | x :: xs, i + 1, h => by
    have ih := Elem.rd e xs i (by simpa using h)
    have hl : (e.all (x :: xs)) = e.cv x ++ e.all xs := rfl
    simp only [rdCells, ble_iff] at ih ⊢
    have hlen := e.all_len xs
    have hi : i < xs.length := by simpa using h
    have h1 : i * e.k + e.k ≤ (e.all xs).length := by
      rw [hlen]
      have := Nat.mul_le_mul_right e.k (show i + 1 ≤ xs.length from hi)
      rw [Nat.add_mul, Nat.one_mul] at this
      exact this
    rw [decide_eq_true h1] at ih
    simp only [cond_true, Option.some.injEq] at ih
    have h2 : (i + 1) * e.k + e.k ≤ (e.all (x :: xs)).length := by
      rw [hl, List.length_append, e.len, Nat.add_mul, Nat.one_mul]
      omega
    rw [decide_eq_true h2]
    simp only [cond_true, Option.some.injEq, List.getElem_cons_succ]
    rw [hl, Nat.add_mul, Nat.one_mul, Nat.add_comm (i * e.k) e.k, ← List.drop_drop, show e.k = (e.cv x).length from (e.len x).symm, List.drop_left]
    rw [e.len]
    exact ih
theorem Hold.slR {e : Elem α} {lo : Nat} {M : Mem} {s : V} {xs : List α} (h : Hold lo M e.k s xs.length (e.all xs)) : SlR e M s xs := by
  generalize hn : xs.length = n at h
  generalize hc : e.all xs = cs at h
  cases h with
  | nil => exact ⟨_, _, by rw [hn], .inl (List.eq_nil_of_length_eq_zero hn)⟩
  | row h1 h2 h3 h4 => exact ⟨_, _, by rw [hn], .inr ⟨_, 0, cs, false, rfl, h1, fun i hi => by rw [← hc, Nat.zero_add]; exact e.rd xs i hi⟩⟩
theorem rd_cell {cs l : List V} {p k : Nat} (h : rdCells cs p k = some l) (j : Nat) (hj : j < k) : cs[p + j]? = l[j]? := by
  unfold rdCells at h
  obtain ⟨h1, h⟩ := cond_some h
  rw [ble_iff, decide_eq_true_eq] at h1
  cases h
  rw [List.getElem?_take, if_pos hj, List.getElem?_drop]
theorem rd_part {cs l : List V} {p k : Nat} (h : rdCells cs p k = some l) (j m : Nat) (hj : j + m ≤ k) : rdCells cs (p + j) m = some ((l.drop j).take m) := by
  unfold rdCells at h ⊢
  obtain ⟨h1, h⟩ := cond_some h
  rw [ble_iff, decide_eq_true_eq] at h1
  cases h
  rw [ble_iff, decide_eq_true (by omega)]
  simp only [cond_true, Option.some.injEq]
  rw [List.drop_take, List.take_take, List.drop_drop, Nat.min_eq_left (by omega)]
/-! ### sorting -/
def ins (lt : α → α → Bool) (x : α) : List α → List α
  | [] => [x]
  | y :: l => cond (lt y x) (y :: ins lt x l) (x :: y :: l)
def isort (lt : α → α → Bool) : List α → List α
  | [] => []
  | x :: l => ins lt x (isort lt l)
theorem ins_perm (lt : α → α → Bool) (x : α) : ∀ l : List α, (ins lt x l).Perm (x :: l)
  | [] => .refl _
  | y :: l => by
    simp only [ins]
    cases lt y x
    · exact .refl _
    · exact ((ins_perm lt x l).cons y).trans (.swap x y l)
theorem isort_perm (lt : α → α → Bool) : ∀ l : List α, (isort lt l).Perm l
  | [] => .refl _
  | x :: l => (ins_perm lt x _).trans ((isort_perm lt l).cons x)
theorem isort_len (lt : α → α → Bool) (l : List α) : (isort lt l).length = l.length := (isort_perm lt l).length_eq
variable [Inhabited α]
theorem ins_sorted {lt : α → α → Bool} (hO : SWO lt) (x : α) : ∀ l : List α, l.Pairwise (fun a b => lt b a = false) → (ins lt x l).Pairwise (fun a b => lt b a = false)
  | [], _ => by simp [ins]
  | y :: l, h => by
    rw [List.pairwise_cons] at h
    simp only [ins]
    cases hxy : lt y x with
    | true =>
      simp only [cond_true]
      rw [List.pairwise_cons]
      refine ⟨fun z hz => ?_, ins_sorted hO x l h.2⟩
      rcases List.mem_cons.1 ((ins_perm lt x l).mem_iff.1 hz) with rfl | hz
      · cases hq : lt z y with
        | false => rfl
        | true => have := hO.trans _ _ _ hq hxy; rw [hO.irrefl] at this; cases this
      · exact h.1 z hz
    | false =>
      simp only [cond_false]
      rw [List.pairwise_cons]
      refine ⟨fun z hz => ?_, List.pairwise_cons.2 h⟩
      rcases List.mem_cons.1 hz with rfl | hz
      · exact hxy
      · exact hO.ntrans _ _ _ (h.1 z hz) hxy
theorem isort_sorted {lt : α → α → Bool} (hO : SWO lt) : ∀ l : List α, (isort lt l).Pairwise (fun a b => lt b a = false)
  | [] => .nil
  | x :: l => ins_sorted hO x _ (isort_sorted hO l)
theorem sorted_is_isort {lt : α → α → Bool} (hO : SWO lt) (hT : ∀ x y, lt x y = false → lt y x = false → x = y) {l : List α} {d' : Array α} (hp : PermIn 0 l.toArray.size l.toArray d') (hs : SortedIn lt 0 l.toArray.size d') : d' = (isort lt l).toArray := by
  have h1 := sorted_unique_holds hO hT l.toArray d' hp hs
  have h2 := sorted_unique_holds hO hT l.toArray (isort lt l).toArray
    ⟨by simp [isort_len], fun i hi => by
      rcases hi with hi | hi
      · omega
      · rw [getElem!_neg _ _ (by simp [isort_len]; simpa using hi), getElem!_neg _ _ (by simpa using hi)], by
      have e1 : (isort lt l).toArray.extract 0 l.toArray.size = (isort lt l).toArray := by
        rw [show l.toArray.size = (isort lt l).toArray.size by simp [isort_len]]; exact Array.extract_size
      rw [e1, Array.extract_size]
      exact isort_perm lt l⟩
    (fun i j _ hij hj => by
      have := isort_sorted hO l
      rw [List.pairwise_iff_getElem] at this
      have hj' : j < (isort lt l).length := by rw [isort_len]; simpa using hj
      have := this i j (by omega) hj' hij
      simpa [hj', show i < (isort lt l).length by omega] using this)
  exact Array.toList_inj.1 (h1.trans h2.symm)
end
end Go.Am


/- slices.SortFunc as a part of the machine. -/
namespace Go.Am
open Go Go.RowKit Go.Sort Go.Proofs Go.Shelf

section
variable {P : Program} {gl : Nat → Bool} {α : Type} [Inhabited α]

theorem flatK_encs (e : Elem α) (l : List α) : (flatK e.enc e.k l.toArray).toList = e.encs l := by
  apply List.ext_getElem?
  intro t
  by_cases ht : t < l.length * e.k
  · have hk := e.k_pos
    have hq : t / e.k < l.length := (Nat.div_lt_iff_lt_mul hk).2 ht
    have hr : t % e.k < e.k := Nat.mod_lt _ hk
    have h1 : (flatK e.enc e.k l.toArray)[t]! = (e.enc l.toArray[t / e.k]!)[t % e.k]! := get_flatK _ _ _ _ (by simpa using ht)
    have hsz : t < (flatK e.enc e.k l.toArray).size := by simpa using ht
    rw [getElem!_pos (flatK e.enc e.k l.toArray) t hsz] at h1
    have h2 : l.toArray[t / e.k]! = l[t / e.k] := by simp [hq]
    rw [h2] at h1
    have h3 : (e.enc l[t / e.k])[t % e.k]! = (e.enc l[t / e.k])[t % e.k]'(by rw [e.elen]; exact hr) := by rw [getElem!_pos]
    rw [h3] at h1
    rw [Array.getElem?_toList, Array.getElem?_eq_getElem hsz, h1]
    -- the flat list at t
    have key : ∀ (l : List α) (t : Nat) (hq : t / e.k < l.length), (e.encs l)[t]? = some ((e.enc l[t / e.k])[t % e.k]'(by rw [e.elen]; exact Nat.mod_lt _ hk)) := by
      intro l
      induction l with
      | nil => intro t hq; simp at hq
      | cons x l ih =>
        intro t hq
        show (e.enc x ++ e.encs l)[t]? = _
        by_cases hlt : t < e.k
        · have h0 : t / e.k = 0 := Nat.div_eq_of_lt hlt
          have hm : t % e.k = t := Nat.mod_eq_of_lt hlt
          rw [List.getElem?_append_left (by rw [e.elen]; exact hlt)]
          simp [h0, hm, e.elen, hlt]
        · obtain ⟨u, rfl⟩ : ∃ u, t = u + e.k := ⟨t - e.k, by omega⟩
          have h0 : (u + e.k) / e.k = u / e.k + 1 := Nat.add_div_right u hk
          have hm : (u + e.k) % e.k = u % e.k := Nat.add_mod_right u e.k
          rw [List.getElem?_append_right (by rw [e.elen]; omega), e.elen, Nat.add_sub_cancel]
          have := ih u (by rw [h0] at hq; simpa using hq)
          rw [this]
          simp [h0, hm]
    exact (key l t hq).symm
  · rw [Array.getElem?_toList, Array.getElem?_eq_none (by simp; omega), List.getElem?_eq_none (by rw [e.encs_len]; omega)]

/-- What the sort does to a row. -/
def sortP (e : Elem α) (g : FuncId) (lt : α → α → Bool) (args : List V) (M : Mem) : Option (V × Mem) :=
  match args with
  | [.slice none 0 (.exact 0), .fn g' [] []] => cond (Nat.beq g' g) (some (.tup [], M)) none
  | [.slice (some (b, 0)) n _, .fn g' [] []] => cond (Nat.beq g' g) (cond (Nat.ble n maxRoom) (match M.get b with
      | some (.cells cs false) => (e.decs n cs).map fun l => (.tup [], M.set b (.cells (e.all (isort lt l)) false))
      | _ => none) none) none
  | _ => none

theorem Rel.heapEq {E : Emb} {M : Mem} {w w' : World} (h : Rel E M w) (hh : w'.heap = w.heap) : Rel E M w' := ⟨fun b c d k hb => by rw [hh]; exact h.at_ b c d k hb, fun b c d k hb => by rw [hh]; exact h.lt b c d k hb, h.inj, h.wf⟩
theorem Rel.grow {E : Emb} {M : Mem} {w : World} (h : Rel E M w) (os : Array Obj) : Rel E M (Go.Sort.grow w os) ∧ Ext E M w E M (Go.Sort.grow w os) := by
  have hk : ∀ c, c < w.heap.size → (w.heap ++ os)[c]? = w.heap[c]? := fun c hc => Array.getElem?_append_left hc
  refine ⟨⟨fun b c d k hb => ?_, fun b c d k hb => ?_, h.inj, h.wf⟩, ⟨Emb.le_refl E, rfl, rfl, rfl, ?_, Nat.le_refl _, fun c hc _ => hk c hc, fun b c d k h1 h2 => by (rw [h1] at h2; cases h2), fun _ _ => rfl, Nat.le_refl _⟩⟩
  · obtain ⟨o, ho, hr⟩ := h.at_ b c d k hb
    exact ⟨o, ho, by show OR E o (w.heap ++ os)[c]? d k; rw [hk c (h.lt b c d k hb)]; exact hr⟩
  · show c < (w.heap ++ os).size
    have := h.lt b c d k hb
    simp
    omega
  · show w.heap.size ≤ (w.heap ++ os).size
    simp

theorem sort_callOK {ρ : Ren} (L : SlLaysF0.n6 P ρ) (e : Elem α) (aE : ∀ w, (isAgg (ρ.t 24)).run P w = .ok true w) (zE : ∀ w, (Go.sizeOf (ρ.t 24)).run P w = .ok e.k w) (cf : α → α → Int) (hO : SWO (ltOf cf)) (hT : ∀ x y, (ltOf cf) x y = false → (ltOf cf) y x = false → x = y) (g : FuncId)
    (hg : Callable P g) (hc : Callable P (ρ.f 6))
    (hcmp : ∀ (x y : α) (w : World), Calls P g #[.agg (e.enc x).toArray, .agg (e.enc y).toArray] w fun r w' => r = .returned (.int .i64 (cf x y)) ∧ ∃ q os, w' = Go.Sort.grow (w.drewN q) os) :
    CallOK P gl fun f' args M => if f' = ρ.f 6 then sortP e g (ltOf cf) args M else none := by
  intro f' args M v M' he
  simp only at he
  split at he
  · rename_i ef
    subst ef
    refine ⟨hc, fun E w args' hR hG hA => ?_⟩
    unfold sortP at he
    split at he
    · rename_i g'
      obtain ⟨h1, he⟩ := cond_some he
      cases he
      have : ∃ fv, args' = #[.slice none 0 0, fv] := by
        obtain ⟨l⟩ := args'
        simp only at hA
        cases hA with
        | cons h1 t => cases h1 with | sliceNil => cases t with | cons h2 t => cases t; exact ⟨_, rfl⟩
      obtain ⟨fv, rfl⟩ := this
      refine (AnyF.slices_SortFunc_none L none 0 fv w).mono ?_
      rintro r w' ⟨rfl, rfl⟩
      exact ⟨E, _, rfl, .tup (cs' := #[]) .nil, hR, Ext.refl E M w'⟩
    · rename_i b n cap g'
      obtain ⟨h1, he1⟩ := cond_some he
      clear he
      have : g' = g := Nat.eq_of_beq_eq_true h1
      subst this
      obtain ⟨h2, he⟩ := cond_some he1
      have hn : n ≤ maxRoom := Nat.le_of_ble_eq_true h2
      split at he
      · rename_i cs hM
        simp only [Option.map_eq_some_iff] at he
        obtain ⟨l, hl, he⟩ := he
        cases he
        obtain ⟨hln, rfl⟩ := e.decs_some hl
        -- the arguments
        have : ∃ sv, args' = #[sv, .func (.func g') #[] #[]] ∧ VR E (.slice (some (b, 0)) n cap) sv := by
          obtain ⟨l⟩ := args'
          simp only at hA
          cases hA with
          | cons h1 t => cases t with
            | cons h2 t => cases t; cases h2 with
              | fn ha hb =>
                rename_i a' b'
                cases ha' : a' with | mk la => cases hb' : b' with | mk lb =>
                rw [ha'] at ha; rw [hb'] at hb
                cases ha; cases hb
                exact ⟨_, rfl, h1⟩
        obtain ⟨sv, rfl, hsv⟩ := this
        have hown : own M b := by unfold own; rw [hM]; trivial
        by_cases hn0 : n = 0
        · have hl0 : l = [] := List.eq_nil_of_length_eq_zero (by omega)
          subst hl0
          subst hn0
          have : ∃ p c, sv = .slice p 0 c := by
            cases hsv with
            | slice => exact ⟨_, _, rfl⟩
            | sliceZero => exact ⟨_, _, rfl⟩
          obtain ⟨p, c, rfl⟩ := this
          refine (AnyF.slices_SortFunc_none L p c _ w).mono ?_
          rintro r w' ⟨rfl, rfl⟩
          cases hsv with
          | slice hE _ _ =>
            obtain ⟨o, ho, hor⟩ := hR.at_ b _ _ _ hE
            rw [hM] at ho
            cases ho
            obtain ⟨arr, elem, fz, hx, hrest⟩ := hor
            obtain ⟨p1, p2⟩ := hR.setBlock (o' := .cells (e.all (isort (ltOf cf) [])) false) (w' := w') hE hown trivial rfl rfl rfl (Nat.le_refl _) rfl hx (fun _ _ => rfl) ⟨arr, elem, fz, rfl, hrest⟩
            exact ⟨E, _, rfl, .tup (cs' := #[]) .nil, p1, p2⟩
          | sliceZero hE _ _ =>
            obtain ⟨o, ho, hor⟩ := hR.at_ b _ _ _ hE
            rw [hM] at ho
            cases ho
            obtain ⟨arr, elem, fz, hx, hrest⟩ := hor
            obtain ⟨p1, p2⟩ := hR.setBlock (o' := .cells (e.all (isort (ltOf cf) [])) false) (w' := w') hE hown trivial rfl rfl rfl (Nat.le_refl _) rfl hx (fun _ _ => rfl) ⟨arr, elem, fz, rfl, hrest⟩
            exact ⟨E, _, rfl, .tup (cs' := #[]) .nil, p1, p2⟩
        · cases hsv with
          | sliceZero => exact absurd rfl hn0
          | slice hE hcap hnc =>
            rename_i c d kk c'
            obtain ⟨o, ho, hor⟩ := hR.at_ b c d kk hE
            rw [hM] at ho
            cases ho
            obtain ⟨arr, elem, fz, hx, hcr, hk, hfree⟩ := hor
            have hfree := hfree rfl
            have hlen := e.all_len l
            have hcell : ∀ t, t < l.length * e.k → ∃ u, arr[d + t]? = some u ∧ (e.encs l)[t]? = some u := by
              intro t ht
              have hv : (e.all l)[t]? = some (e.all l)[t] := List.getElem?_eq_getElem (by omega)
              obtain ⟨u, hu, hvu⟩ := hcr t _ hv
              obtain ⟨u2, hu2, hvu2⟩ := (e.rels E l).get t _ hv
              refine ⟨u, hu, ?_⟩
              -- both stand for the one cell
              have hF := (e.all_flat l)
              have hone : ∀ {x : V} {y z : Value}, x.flat = true → VR E x y → VR E x z → (∃ q : V, True) := fun _ _ _ => ⟨.nilFn, trivial⟩
              have : u2 = u := by
                have hall : VRs E (e.all l) ((e.encs l).set t u) := by
                  refine VRs.of_get (by rw [List.length_set]; exact (e.rels E l).length) fun i v hi => ?_
                  obtain ⟨y, hy, hvy⟩ := (e.rels E l).get i v hi
                  by_cases hit : i = t
                  · subst hit
                    rw [hv] at hi
                    cases hi
                    exact ⟨u, by rw [List.getElem?_set_self (by rw [e.encs_len]; exact ht)], hvu⟩
                  · exact ⟨y, by rw [List.getElem?_set_ne (Ne.symm hit)]; exact hy, hvy⟩
                have := e.rels_eq E l _ hall
                have h3 : ((e.encs l).set t u)[t]? = some u := List.getElem?_set_self (by rw [e.encs_len]; exact ht)
                rw [this, hu2] at h3
                exact Option.some.inj h3
              rw [← this]; exact hu2
            have hsz : ∀ t, t < l.length * e.k → d + t < arr.size := fun t ht => by
              obtain ⟨u, hu, _⟩ := hcell t ht
              exact (Array.getElem?_eq_some_iff.1 hu).1
            have hflat := flatK_encs e l
            have hH : HoldsK e.enc e.k w c d l.toArray := by
              intro j hj
              have hj' : j < l.length * e.k := by simpa using hj
              obtain ⟨u, hu, hu2⟩ := hcell j hj'
              rw [← hflat, Array.getElem?_toList] at hu2
              have hq : (flatK e.enc e.k l.toArray)[j]! = u := by
                rw [getElem!_pos (flatK e.enc e.k l.toArray) j hj]
                rw [Array.getElem?_eq_getElem hj] at hu2
                exact Option.some.inj hu2
              refine ⟨?_, ?_⟩
              · rw [hq]
                simp only [World.cell?, hx]
                exact hu
              · simp only [World.frozen?, hx]
                have := hfree (d + j) (hsz j hj')
                simpa using this
            have hclt := hR.lt b c d kk hE
            have hgE : ∀ args w, (callFunc g' args).run P w = .ok (.enter g' args) w := fun args w => run_callFunc hg args w
            have hcl : CmpLays P g' #[] e.enc e.k cf c d l.toArray.size w := fun m os dk _ x y => by
              have := hcmp x y (sortWorldK e.enc e.k w c d m dk os)
              simpa using this
            have hcall := AnyQ.slices_SortFunc L e.k aE zE e.enc e.elen e.one cf hO g' #[] c d c' l.toArray w hgE hcl hH hclt (by simp; unfold maxRoom at hn; omega)
            rw [show (⟨c, d + 0, none⟩ : Addr) = ⟨c, d, none⟩ from rfl, show n = l.toArray.size by simp [hln]]
            refine hcall.mono ?_
            rintro r w' ⟨rfl, d', q, os, hp, hs, rfl⟩
            have hd' := sorted_is_isort hO hT hp hs
            subst hd'
            -- the row laid anew
            have hR1 : Rel E M (Go.Sort.ahead w q) := hR.heapEq rfl
            have hX1 : Ext E M w E M (Go.Sort.ahead w q) := ⟨Emb.le_refl E, rfl, rfl, rfl, Nat.le_refl _, Nat.le_refl _, fun _ _ _ => rfl, fun b c d k h1 h2 => by (rw [h1] at h2; cases h2), fun _ _ => rfl, Nat.le_add_right _ _⟩
            have hflat2 := flatK_encs e (isort (ltOf cf) l)
            have hl2 := isort_len (ltOf cf) l
            generalize isort (ltOf cf) l = l2 at *
            have hx2 : (putRowK e.enc e.k (Go.Sort.ahead w q) c d l2.toArray).heap[c]? = some (.cells (putCells id d (flatK e.enc e.k l2.toArray) arr) elem fz) := by
              show (w.heap.modify c _)[c]? = _
              rw [Array.getElem?_modify, if_pos rfl, hx]
              rfl
            have hoth : ∀ i, i ≠ c → (putRowK e.enc e.k (Go.Sort.ahead w q) c d l2.toArray).heap[i]? = (Go.Sort.ahead w q).heap[i]? := by
              intro i hi
              show (w.heap.modify c _)[i]? = _
              rw [Array.getElem?_modify, if_neg (Ne.symm hi)]
              rfl
            have hps : (putCells id d (flatK e.enc e.k l2.toArray) arr).size = arr.size := by simp [putCells]
            obtain ⟨p1, p2⟩ := hR1.setBlock (o' := .cells (e.all l2) false) (w' := putRowK e.enc e.k (Go.Sort.ahead w q) c d l2.toArray) hE hown trivial rfl rfl rfl (Nat.le_refl _) (by simp [putRowK]) hx2 hoth
              ⟨_, elem, fz, rfl, fun i v hi => by
                have hil := (List.getElem?_eq_some_iff.1 hi).1
                rw [e.all_len] at hil
                obtain ⟨u, hu, hvu⟩ := (e.rels E l2).get i v hi
                refine ⟨u, ?_, hvu⟩
                have hii := hsz i (by rw [← hl2]; exact hil)
                rw [← hflat2, Array.getElem?_toList] at hu
                have hF : i < (flatK e.enc e.k l2.toArray).size := by simpa using hil
                simp only [putCells, Array.getElem?_mapIdx, Array.getElem?_eq_getElem hii, Option.map_some, id]
                rw [if_pos ⟨by omega, by omega⟩, Nat.add_sub_cancel_left, getElem!_pos (flatK e.enc e.k l2.toArray) i hF]
                rw [Array.getElem?_eq_getElem hF] at hu
                exact hu, by rw [hps]; exact hk, fun _ => by rw [hps]; exact hfree⟩
            obtain ⟨p3, p4⟩ := p1.grow os
            exact ⟨E, _, rfl, .tup (cs' := #[]) .nil, p3, (hX1.trans p2).trans p4⟩
      · cases he
    · cases he
  · cases he
end
end Go.Am


/- The row: slices of flat elements handed in; a law's run from memory in which they stand. -/
namespace Go.Am
open Go Go.RowKit Go.ChangeShapes Go.WideShapes

/-! ### memory that is only read -/
/-- Blocks only read: their cells; where they stand in the world. -/
abbrev Env := List (List V × Nat × Nat × Nat)
def Env.mem : Env → Mem
  | l => l.foldl (fun M x => M.push (.cells x.1 true)) mem0
def Env.emb (l : Env) : Emb := fun b => l[b]?.map (·.2)
def Env.ok (l : Env) (w : World) : Prop := ∀ x ∈ l, ∃ arr elem fz, w.heap[x.2.1]? = some (.cells arr elem fz) ∧ (∀ E, CR E x.1 arr x.2.2.1) ∧ x.2.2.1 + x.2.2.2 = arr.size

theorem env_fold : ∀ (l : Env) (M : Mem), (∀ b, M.next ≤ b → M.get b = none) →
    (l.foldl (fun M x => M.push (.cells x.1 true)) M).next = M.next + l.length ∧ (∀ b, b < M.next → (l.foldl (fun M x => M.push (.cells x.1 true)) M).get b = M.get b) ∧
    (∀ i, (l.foldl (fun M x => M.push (.cells x.1 true)) M).get (M.next + i) = l[i]?.map fun x => .cells x.1 true)
  | [], M, hM => ⟨rfl, fun _ _ => rfl, fun i => by simpa using hM _ (by omega)⟩
  | x :: l, M, hM => by
    have h1 : ∀ b, (M.push (.cells x.1 true)).next ≤ b → (M.push (.cells x.1 true)).get b = none := fun b hb => by
      rw [Mem.next_push] at hb
      rw [Mem.get_push_ne _ _ (by omega)]
      exact hM b (by omega)
    obtain ⟨a, b, c⟩ := env_fold l (M.push (.cells x.1 true)) h1
    simp only [List.foldl_cons]
    refine ⟨by rw [a, Mem.next_push, List.length_cons]; omega, fun d hd => ?_, fun i => ?_⟩
    · rw [b d (by rw [Mem.next_push]; omega), Mem.get_push_ne _ _ (by omega)]
    · cases i with
      | zero => rw [Nat.add_zero, b _ (by rw [Mem.next_push]; omega), Mem.get_push_same]; rfl
      | succ i =>
        have := c i
        rw [Mem.next_push] at this
        rw [show M.next + (i + 1) = M.next + 1 + i from by omega, this]
        rfl
theorem Env.next_mem (l : Env) : l.mem.next = l.length := by
  have := (env_fold l mem0 (fun b _ => rfl)).1
  simpa [Env.mem, mem0] using this
theorem Env.get_mem (l : Env) (i : Nat) : l.mem.get i = l[i]?.map fun x => .cells x.1 true := by
  have := (env_fold l mem0 (fun b _ => rfl)).2.2 i
  simpa [Env.mem, mem0] using this

theorem Env.rel {l : Env} {w : World} (h : l.ok w) : Rel l.emb l.mem w := by
  have hat : ∀ b c d k, l.emb b = some (c, d, k) → ∃ x, l[b]? = some x ∧ x.2 = (c, d, k) := fun b c d k hb => by
    simp only [Env.emb, Option.map_eq_some_iff] at hb
    exact hb
  refine ⟨fun b c d k hb => ?_, fun b c d k hb => ?_, fun b b' c d k d' k' hb _ ho _ => ?_, fun b hb => ?_⟩
  · obtain ⟨⟨cs, c', d', k'⟩, hx, he⟩ := hat b c d k hb
    cases he
    obtain ⟨arr, elem, fz, h1, h2, h3⟩ := h _ (List.mem_of_getElem? hx)
    exact ⟨.cells cs true, by rw [l.get_mem, hx]; rfl, arr, elem, fz, h1, h2 _, h3, fun hf => by cases hf⟩
  · obtain ⟨⟨cs, c', d', k'⟩, hx, he⟩ := hat b c d k hb
    cases he
    obtain ⟨arr, elem, fz, h1, _⟩ := h _ (List.mem_of_getElem? hx)
    exact (Array.getElem?_eq_some_iff.mp h1).1
  · obtain ⟨x, hx, _⟩ := hat b c d k hb
    have : l.mem.get b = some (.cells x.1 true) := by rw [l.get_mem, hx]; rfl
    simp only [own, this] at ho
  · rw [l.next_mem] at hb
    rw [l.get_mem, List.getElem?_eq_none hb]
    rfl

/-! ### what is read of a slice -/
theorem flat_at {arr : Array Value} {es : Nat} : ∀ (rows : List (List Value)) (off : Nat), (∀ r ∈ rows, r.length = es) → (∀ i (h : i < rows.length), ∀ j, j < es → arr[off + i * es + j]? = rows[i][j]?) → ∀ (j : Nat) (u : Value), rows.flatten[j]? = some u → arr[off + j]? = some u
  | [], _, _, _, j, u, h => by simp at h
  | r :: rs, off, hr, ha, j, u, h => by
    have hrl := hr r (List.mem_cons_self ..)
    rw [List.flatten_cons] at h
    rcases Nat.lt_or_ge j es with hj | hj
    · rw [List.getElem?_append_left (by omega)] at h
      have := ha 0 (by simp) j hj
      rw [Nat.zero_mul, Nat.add_zero] at this
      rw [this]
      exact h
    · rw [List.getElem?_append_right (by omega), hrl] at h
      have := flat_at rs (off + es) (fun r hr' => hr r (List.mem_cons_of_mem _ hr')) (fun i hi j hj => by
        have := ha (i + 1) (by simp; omega) j hj
        rw [List.getElem_cons_succ] at this
        rw [← this]
        congr 1
        rw [Nat.add_mul]; omega) (j - es) u h
      rw [← this]
      congr 1
      omega

section
variable {H : Type} {enc : TypeId × Value → H} {P : Program} {W : World}

theorem cells_at {w : World} {a : Addr} {n : Nat} {cs : List Value} (h : w.cells? 0 a n = some cs) : cs.length = n ∧ ∀ i, i < n → w.cell? (a.add i) = cs[i]? := by
  unfold World.cells? at h
  rw [if_pos (Nat.zero_le _)] at h
  have hl := mapM_some_length h
  rw [List.length_range] at hl
  refine ⟨hl, fun i hi => ?_⟩
  have := mapM_some_get h i i (by rw [List.getElem?_range hi])
  exact this

theorem cells_keep {w w' : World} (hb : ∀ c, c < w.heap.size → w'.heap[c]? = w.heap[c]?) {a : Addr} {n : Nat} {cs : List Value} (hn : 0 < n) (h : w.cells? 0 a n = some cs) : w'.cells? 0 a n = some cs ∧ a.block < w.heap.size := by
  obtain ⟨hl, hc⟩ := cells_at h
  have h0 := hc 0 hn
  rw [List.getElem?_eq_getElem (by omega)] at h0
  have hlt : a.block < w.heap.size := by
    unfold World.cell? at h0
    split at h0
    · rename_i c _ _ hh
      have := (Array.getElem?_eq_some_iff.mp hh).1
      simpa [Addr.add] using this
    · cases h0
  refine ⟨?_, hlt⟩
  rw [← h]
  unfold World.cells?
  rw [if_pos (Nat.zero_le _), if_pos (Nat.zero_le _)]
  congr 1
  funext i
  unfold World.cell?
  have : (a.add i).block = a.block := by unfold Addr.add; split <;> rfl
  rw [this, hb _ hlt]

theorem add_spec {a : Addr} (hs : a.spot = none) (n : Nat) : a.add n = ⟨a.block, a.off + n, none⟩ := by
  unfold Addr.add
  split
  · rename_i h
    subst h
    obtain ⟨b, o, s⟩ := a
    simp only at hs
    subst hs
    rfl
  · rfl

theorem ok_slice {r : Reach} {t e : TypeId} {b0 : Nat} {v : Value} (hu : P.underlying t = some (.slice e)) (hok : Cell.ok P W r b0 t v) : v = .slice none 0 0 ∨ ∃ a len cap, v = .slice (some a) len cap ∧ len ≤ cap ∧ W.has P r b0 a e cap := by
  unfold Cell.ok at hok
  rw [hu] at hok
  split at hok
  all_goals first | (rename_i hh; cases hh; done) | (rename_i hh _; cases hh; done) | skip
  · exact .inl rfl
  · rename_i e' a len cap he
    cases he
    exact .inr ⟨a, len, cap, rfl, hok.1, hok.2.2⟩
  · exact hok.elim

/-- A slice of flat elements handed in: nil, or the elements, where they stand, and its reading behind a run that keeps what was. -/
theorem open_rows {α : Type} (el : Elem α) {t e : TypeId} {ks : List CK} {n b0 : Nat} {v : Value} {d : DataW H} {p : List MemPlace} (hu : P.underlying t = some (.slice e)) (hk : shape P n e = some ks) (hc : P.cellsOf e = el.k)
    (hfit : ∀ r, Fits ks r → ∃ x, el.enc x = r) (hv : Value.okWide P W .any b0 t v) (h : DataW.Trod enc P W 0 (fun _ => true) true t v d p) :
    (∀ W', Below W.heap.size W W' → DataW.Trod enc P W' 0 (fun b => decide (b < W.heap.size)) true t v d p) ∧
    (v = .slice none 0 0 ∨ ∃ (a : Addr) (len cap : Nat) (xs : List α) (c o k : Nat), v = .slice (some a) len cap ∧ len ≤ cap ∧ cap ≤ maxLen ∧ xs.length = cap ∧ (∀ r ∈ xs, Fits ks (el.enc r)) ∧ Env.ok [(el.all xs, c, o, k)] W ∧
      ∀ E b, E b = some (c, o, k) → VR E (.slice (some (b, 0)) len (.exact cap)) v) := by
  have hkp := el.k_pos
  obtain ⟨fuel, hf⟩ := h
  have hok : Cell.ok P W .any b0 t v := by
    have := hv
    unfold Value.okWide Cell.okWide at this
    rw [hu] at this
    exact this
  rcases ok_slice hu hok with rfl | ⟨a, len, cap, rfl, hlc, hhas⟩
  · rcases Go.Deep.open_slice hu hf with ⟨_, hx⟩ | ⟨a, len, cap, m, n', D, Pl, he, _⟩
    · cases hx
      exact ⟨fun W' _ => shut_slice_nil hu, .inl rfl⟩
    · simp [Value.cells] at he
  · obtain ⟨_, hspot, row, ncells, hsh, _⟩ := hhas
    have hblk : ∃ arr fz, W.heap[a.block]? = some (.cells arr row fz) := by
      unfold World.shape? at hsh
      split at hsh
      · rename_i c el' fz hh
        cases hsh
        exact ⟨c, fz, hh⟩
      · cases hsh
    obtain ⟨arr, fz, harr⟩ := hblk
    have hlt : a.block < W.heap.size := (Array.getElem?_eq_some_iff.mp harr).1
    rcases Go.Deep.open_slice hu hf with ⟨he, _⟩ | ⟨a', len', cap', m, n', D, Pl, he, _, _, hcm, hm, hx, hall⟩
    · simp [Value.cells] at he
    · simp only [Value.cells, List.cons.injEq, Value.slice.injEq, Option.some.injEq, and_true] at he
      obtain ⟨rfl, rfl, rfl⟩ := he
      simp only [if_true] at hm
      subst hm
      rw [hc] at hall
      refine ⟨fun W' bel => ?_, .inr ?_⟩
      · obtain ⟨k, hk'⟩ := Go.Deep.shut_slice_whole_cells (enc := enc) (w := W') (base := 0) (spare := fun b => decide (b < W.heap.size)) (held := true) hu (Nat.zero_le _) hlc hcm (by simpa using hlt) D Pl (fun i hi => by
          rw [hc]
          obtain ⟨cs', h1, h2⟩ := hall i hi
          exact ⟨cs', n', (cells_keep bel.block hkp h1).1, (flat_trod n e ks hk n' cs' _ h2).2.2 _ _ _⟩)
        refine ⟨k, ?_⟩
        rw [hx]
        exact hk'
      · have hX : ∀ i : Fin m, ∃ x : α, W.cells? 0 (a.add (i.1 * el.k)) el.k = some (el.enc x) ∧ Fits ks (el.enc x) := fun i => by
          obtain ⟨cs', h1, h2⟩ := hall i.1 i.2
          have hf' := (flat_trod n e ks hk n' cs' _ h2).1
          obtain ⟨x, rfl⟩ := hfit _ hf'
          exact ⟨x, h1, hf'⟩
        obtain ⟨X, hX⟩ := Classical.axiomOfChoice hX
        have hat : ∀ i (h : i < m) j, j < el.k → arr[a.off + i * el.k + j]? = (el.enc (X ⟨i, h⟩))[j]? := fun i h j hj => by
          obtain ⟨_, h2⟩ := cells_at (hX ⟨i, h⟩).1
          rw [← h2 j hj, add_spec hspot, add_spec rfl]
          unfold World.cell?
          simp only [harr]
          rfl
        have hflat : ∀ j u, (el.encs (List.ofFn X))[j]? = some u → arr[a.off + j]? = some u := fun j u hu' => by
          refine flat_at (es := el.k) ((List.ofFn X).map el.enc) a.off ?_ ?_ j u ?_
          · intro r hr
            obtain ⟨x, _, rfl⟩ := List.mem_map.mp hr
            exact el.elen x
          · intro i hi j' hj'
            have hi' : i < m := by simpa using hi
            rw [hat i hi' j' hj']
            simp
          · rw [← List.flatMap_def]; exact hu'
        have hfits : ∀ r ∈ List.ofFn X, Fits ks (el.enc r) := fun r hr => by
          obtain ⟨i, rfl⟩ := List.mem_ofFn.mp hr
          exact (hX i).2
        rcases Nat.eq_zero_or_pos m with hz | hz
        · subst hz
          have hl0 : len = 0 := by omega
          subst hl0
          refine ⟨a, 0, 0, [], a.block, 0, arr.size, rfl, Nat.le_refl _, hcm, rfl, fun r hr => absurd hr (by simp), ?_, fun E b hb => .sliceZero hb hspot rfl⟩
          intro x hx'
          simp only [List.mem_singleton] at hx'
          subst hx'
          exact ⟨arr, row, fz, harr, fun E i v hv => by simp [Elem.all] at hv, by simp⟩
        · have hoff : a.off < arr.size := by
            have h0 := hat 0 hz 0 hkp
            rw [List.getElem?_eq_getElem (by rw [el.elen]; exact hkp)] at h0
            have := (Array.getElem?_eq_some_iff.mp h0).1
            omega
          refine ⟨a, len, m, List.ofFn X, a.block, a.off, arr.size - a.off, rfl, hlc, hcm, by simp, hfits, ?_, fun E b hb => ?_⟩
          · intro x hx'
            simp only [List.mem_singleton] at hx'
            subst hx'
            refine ⟨arr, row, fz, harr, fun E i v hv => ?_, by simp only; omega⟩
            obtain ⟨u, hu', hr⟩ := VRs.get (el.rels E (List.ofFn X)) i v hv
            exact ⟨u, hflat i u hu', hr⟩
          · have : a = ⟨a.block, a.off + 0, none⟩ := by rw [← add_spec hspot 0]; rfl
            rw [this]
            exact .slice hb rfl hlc
end
end Go.Am


/- Stamps: how they stand in cells, how they are compared, sorted. -/
namespace Go.Proofs
open Go.Shelf
def Tryd.sortSt_ren : Go.Shelf.Ren := ⟨fun | 6 => 74 | 15 => 101 | 14 => 100 | 28 => 118 | 29 => 119 | 20 => 110 | 21 => 111 | 22 => 112 | 23 => 113 | 24 => 114 | 25 => 115 | 26 => 116 | 27 => 117 | 46 => 122 | 47 => 123 | 48 => 124 | 49 => 125 | 50 => 126 | 57 => 127 | n => n, fun | 22 => 34 | 24 => 29 | 25 => 92 | 3 => 3 | 39 => 139 | 0 => 0 | 53 => 151 | 55 => 153 | 4 => 4 | 46 => 145 | 45 => 144 | 50 => 109 | 5 => 5 | 9 => 9 | 66 => 155 | 70 => 159 | 76 => 162 | 77 => 163 | n => n, fun | n => n⟩
theorem Tryd.sortSt : Go.Proofs.SlLaysF0.n6 Tryd.prog Tryd.sortSt_ren := {
  mixed := by kernel_rfl
  f6 := ⟨Tryd.f74.name, by decide, Tryd.func74.trans (congrArg some (by kernel_rfl))⟩
  f14 := ⟨Tryd.f100.name, by decide, Tryd.func100.trans (congrArg some (by kernel_rfl))⟩
  f15 := Tryd.func101.trans (congrArg some (by kernel_rfl))
  f20 := ⟨Tryd.f110.name, by decide, Tryd.func110.trans (congrArg some (by kernel_rfl))⟩
  f21 := ⟨Tryd.f111.name, by decide, Tryd.func111.trans (congrArg some (by kernel_rfl))⟩
  f22 := ⟨Tryd.f112.name, by decide, Tryd.func112.trans (congrArg some (by kernel_rfl))⟩
  f23 := ⟨Tryd.f113.name, by decide, Tryd.func113.trans (congrArg some (by kernel_rfl))⟩
  f24 := ⟨Tryd.f114.name, by decide, Tryd.func114.trans (congrArg some (by kernel_rfl))⟩
  f25 := ⟨Tryd.f115.name, by decide, Tryd.func115.trans (congrArg some (by kernel_rfl))⟩
  f26 := ⟨Tryd.f116.name, by decide, Tryd.func116.trans (congrArg some (by kernel_rfl))⟩
  f27 := ⟨Tryd.f117.name, by decide, Tryd.func117.trans (congrArg some (by kernel_rfl))⟩
  f28 := Tryd.func118.trans (congrArg some (by kernel_rfl))
  f29 := Tryd.func119.trans (congrArg some (by kernel_rfl))
  f46 := ⟨Tryd.f122.name, by decide, Tryd.func122.trans (congrArg some (by kernel_rfl))⟩
  f47 := Tryd.func123.trans (congrArg some (by kernel_rfl))
  f48 := Tryd.func124.trans (congrArg some (by kernel_rfl))
  f49 := ⟨Tryd.f125.name, by decide, Tryd.func125.trans (congrArg some (by kernel_rfl))⟩
  f50 := ⟨Tryd.f126.name, by decide, Tryd.func126.trans (congrArg some (by kernel_rfl))⟩
  f57 := ⟨Tryd.f127.name, by decide, Tryd.func127.trans (congrArg some (by kernel_rfl))⟩
  t0 := Tryd.underlying0
  a0 := Tryd.isAgg0
  z0 := Tryd.sizeOf0
  v0 := Tryd.zeroValue0
  t3 := Tryd.underlying3
  a3 := Tryd.isAgg3
  z3 := Tryd.sizeOf3
  v3 := Tryd.zeroValue3
  t4 := Tryd.underlying4
  a4 := Tryd.isAgg4
  z4 := Tryd.sizeOf4
  v4 := Tryd.zeroValue4
  t5 := Tryd.underlying5
  a5 := Tryd.isAgg5
  z5 := Tryd.sizeOf5
  v5 := Tryd.zeroValue5
  t9 := Tryd.underlying9
  a9 := Tryd.isAgg9
  z9 := Tryd.sizeOf9
  v9 := Tryd.zeroValue9
  t22 := Tryd.underlying34
  a22 := Tryd.isAgg34
  z22 := Tryd.sizeOf34
  v22 := Tryd.zeroValue34
  t25 := Tryd.underlying92
  a25 := Tryd.isAgg92
  z25 := Tryd.sizeOf92
  v25 := Tryd.zeroValue92
  t39 := Tryd.underlying139
  a39 := Tryd.isAgg139
  z39 := Tryd.sizeOf139
  v39 := Tryd.zeroValue139
  t45 := Tryd.underlying144
  a45 := Tryd.isAgg144
  z45 := Tryd.sizeOf144
  v45 := Tryd.zeroValue144
  t46 := Tryd.underlying145
  a46 := Tryd.isAgg145
  z46 := Tryd.sizeOf145
  v46 := Tryd.zeroValue145
  t50 := Tryd.underlying109
  a50 := Tryd.isAgg109
  z50 := Tryd.sizeOf109
  v50 := Tryd.zeroValue109
  t53 := Tryd.underlying151
  a53 := Tryd.isAgg151
  z53 := Tryd.sizeOf151
  v53 := Tryd.zeroValue151
  t55 := Tryd.underlying153
  a55 := Tryd.isAgg153
  z55 := Tryd.sizeOf153
  v55 := Tryd.zeroValue153
  t66 := Tryd.underlying155
  a66 := Tryd.isAgg155
  z66 := Tryd.sizeOf155
  v66 := Tryd.zeroValue155
  t70 := Tryd.underlying159
  a70 := Tryd.isAgg159
  z70 := Tryd.sizeOf159
  v70 := Tryd.zeroValue159
  t76 := Tryd.underlying162
  a76 := Tryd.isAgg162
  z76 := Tryd.sizeOf162
  v76 := Tryd.zeroValue162
  t77 := Tryd.underlying163
  a77 := Tryd.isAgg163
  z77 := Tryd.sizeOf163
  v77 := Tryd.zeroValue163 }
end Go.Proofs
namespace Go.Am.Tryd
open Go Go.Am Go.Proofs Go.Sort Go.Shelf
set_option maxRecDepth 100000
set_option linter.unusedSimpArgs false
set_option linter.unusedVariables false

def D0 : Decls := ⟨codeOf codes, fun _ => none⟩
theorem dok0 : DOK Tryd.prog gl0 D0 := dok_codes mixed codes_ok

/-! ### stamps -/
abbrev St := Int × Int
def stC (s : St) : List V := [.int .i64 s.1, .int .i64 s.2]
def cmpSt (a b : St) : Int := if a = b then 0 else if a.1 < b.1 ∨ a.1 = b.1 ∧ a.2 < b.2 then -1 else 1

theorem stamp_Compare_runs (D : Decls) (hp : D.prim F_stamp_Compare = none) (hc : D.code.get F_stamp_Compare = some A_stamp_Compare) (a b : St) (M : Mem) : Runs D F_stamp_Compare [.agg (stC a), .agg (stC b)] M fun v M' => v = .int .i64 (cmpSt a b) ∧ Grew M M' := by
  refine Runs.walk (F := A_stamp_Compare) hp hc (by rfl) ?_
  unfold A_stamp_Compare
  obtain ⟨a1, a2⟩ := a
  obtain ⟨b1, b2⟩ := b
  simp only [stC]
  have hG : Grew M ((M.push (.cells [.int .i64 a1, .int .i64 a2] false)).push (.cells [.int .i64 b1, .int .i64 b2] false)) := (Grew.push M _).trans (Grew.push _ _)
  by_cases h1 : a1 = b1 ∧ a2 = b2
  · obtain ⟨rfl, rfl⟩ := h1
    simp -dsimp only [↓w_seq, ↓w_ops, ↓w_skip, ↓w_ret, ↓w_exit, ↓w_scope, ↓w_block, ↓w_cond, cond_true', cond_false', ↓t_nil, ↓t_plain, ↓t_guard, ↓t_gagain, ↓t_again, t_val, t_call, g_true, g_false, ga_true, ga_false, a_val, a_call, ↓n_normal, ↓n_ret, ↓n_exit, ↓b_normal, ↓b_ret, ↓b_exit, ↓e_normal, ↓e_ret, e_some, go_sem, ↓reduceIte, Nat.reduceEqDiff, Nat.reduceLT, Nat.reduceSub, A_stamp_Compare_0, A_stamp_Compare_1, A_stamp_Compare_2, A_stamp_Compare_3, A_stamp_Compare_4, A_stamp_Compare_5, Int.lt_irrefl, true_and, and_true, false_and, and_false, and_self, same_two, same_sib, same_spot, vload, vptr, vof, V.cells, Mem.read, rdCells, Mem.get_push, Mem.next_push, Nat.left_eq_add, Nat.add_eq_left, Nat.add_left_cancel_iff, Nat.add_right_cancel_iff, Nat.reduceAdd, Nat.add_zero, Nat.zero_add, Nat.add_assoc, Nat.reduceLeDiff, Nat.reduceBEq, List.length_cons, List.length_nil, List.drop_zero, List.drop_succ_cons, List.take_succ_cons, List.take_zero, List.take_nil, List.drop_nil, List.getElem?_cons_zero, List.getElem?_cons_succ, reduceCtorEq, Nat.succ_ne_self, Nat.one_ne_zero, Nat.le_refl, ne_eq, not_false_eq_true, and_self]
    exact ⟨by simp [cmpSt], hG⟩
  · have hne : ¬ ((a1, a2) : St) = (b1, b2) := fun e => h1 (by cases e; exact ⟨rfl, rfl⟩)
    by_cases h2 : a1 < b1
    · simp -dsimp only [↓w_seq, ↓w_ops, ↓w_skip, ↓w_ret, ↓w_exit, ↓w_scope, ↓w_block, ↓w_cond, cond_true', cond_false', ↓t_nil, ↓t_plain, ↓t_guard, ↓t_gagain, ↓t_again, t_val, t_call, g_true, g_false, ga_true, ga_false, a_val, a_call, ↓n_normal, ↓n_ret, ↓n_exit, ↓b_normal, ↓b_ret, ↓b_exit, ↓e_normal, ↓e_ret, e_some, go_sem, ↓reduceIte, Nat.reduceEqDiff, Nat.reduceLT, Nat.reduceSub, A_stamp_Compare_0, A_stamp_Compare_1, A_stamp_Compare_2, A_stamp_Compare_3, A_stamp_Compare_4, A_stamp_Compare_5, Int.lt_irrefl, true_and, and_true, false_and, and_false, and_self, same_two, same_sib, same_spot, vload, vptr, vof, V.cells, Mem.read, rdCells, Mem.get_push, Mem.next_push, Nat.left_eq_add, Nat.add_eq_left, Nat.add_left_cancel_iff, Nat.add_right_cancel_iff, Nat.reduceAdd, Nat.add_zero, Nat.zero_add, Nat.add_assoc, Nat.reduceLeDiff, Nat.reduceBEq, List.length_cons, List.length_nil, List.drop_zero, List.drop_succ_cons, List.take_succ_cons, List.take_zero, List.take_nil, List.drop_nil, List.getElem?_cons_zero, List.getElem?_cons_succ, reduceCtorEq, Nat.succ_ne_self, Nat.one_ne_zero, Nat.le_refl, ne_eq, not_false_eq_true, h1, h2]
      exact ⟨by simp [cmpSt, hne, h2], hG⟩
    · by_cases h3 : a1 = b1
      · have h5 : ¬ a2 = b2 := fun e => h1 ⟨h3, e⟩
        subst h3
        by_cases h4 : a2 < b2
        · simp -dsimp only [↓w_seq, ↓w_ops, ↓w_skip, ↓w_ret, ↓w_exit, ↓w_scope, ↓w_block, ↓w_cond, cond_true', cond_false', ↓t_nil, ↓t_plain, ↓t_guard, ↓t_gagain, ↓t_again, t_val, t_call, g_true, g_false, ga_true, ga_false, a_val, a_call, ↓n_normal, ↓n_ret, ↓n_exit, ↓b_normal, ↓b_ret, ↓b_exit, ↓e_normal, ↓e_ret, e_some, go_sem, ↓reduceIte, Nat.reduceEqDiff, Nat.reduceLT, Nat.reduceSub, A_stamp_Compare_0, A_stamp_Compare_1, A_stamp_Compare_2, A_stamp_Compare_3, A_stamp_Compare_4, A_stamp_Compare_5, Int.lt_irrefl, true_and, and_true, false_and, and_false, and_self, same_two, same_sib, same_spot, vload, vptr, vof, V.cells, Mem.read, rdCells, Mem.get_push, Mem.next_push, Nat.left_eq_add, Nat.add_eq_left, Nat.add_left_cancel_iff, Nat.add_right_cancel_iff, Nat.reduceAdd, Nat.add_zero, Nat.zero_add, Nat.add_assoc, Nat.reduceLeDiff, Nat.reduceBEq, List.length_cons, List.length_nil, List.drop_zero, List.drop_succ_cons, List.take_succ_cons, List.take_zero, List.take_nil, List.drop_nil, List.getElem?_cons_zero, List.getElem?_cons_succ, reduceCtorEq, Nat.succ_ne_self, Nat.one_ne_zero, Nat.le_refl, ne_eq, not_false_eq_true, h5, h2, h4]
          exact ⟨by simp [cmpSt, h5, h4], hG⟩
        · simp -dsimp only [↓w_seq, ↓w_ops, ↓w_skip, ↓w_ret, ↓w_exit, ↓w_scope, ↓w_block, ↓w_cond, cond_true', cond_false', ↓t_nil, ↓t_plain, ↓t_guard, ↓t_gagain, ↓t_again, t_val, t_call, g_true, g_false, ga_true, ga_false, a_val, a_call, ↓n_normal, ↓n_ret, ↓n_exit, ↓b_normal, ↓b_ret, ↓b_exit, ↓e_normal, ↓e_ret, e_some, go_sem, ↓reduceIte, Nat.reduceEqDiff, Nat.reduceLT, Nat.reduceSub, A_stamp_Compare_0, A_stamp_Compare_1, A_stamp_Compare_2, A_stamp_Compare_3, A_stamp_Compare_4, A_stamp_Compare_5, Int.lt_irrefl, true_and, and_true, false_and, and_false, and_self, same_two, same_sib, same_spot, vload, vptr, vof, V.cells, Mem.read, rdCells, Mem.get_push, Mem.next_push, Nat.left_eq_add, Nat.add_eq_left, Nat.add_left_cancel_iff, Nat.add_right_cancel_iff, Nat.reduceAdd, Nat.add_zero, Nat.zero_add, Nat.add_assoc, Nat.reduceLeDiff, Nat.reduceBEq, List.length_cons, List.length_nil, List.drop_zero, List.drop_succ_cons, List.take_succ_cons, List.take_zero, List.take_nil, List.drop_nil, List.getElem?_cons_zero, List.getElem?_cons_succ, reduceCtorEq, Nat.succ_ne_self, Nat.one_ne_zero, Nat.le_refl, ne_eq, not_false_eq_true, h5, h2, h4]
          exact ⟨by simp [cmpSt, h5, h4], hG⟩
      · simp -dsimp only [↓w_seq, ↓w_ops, ↓w_skip, ↓w_ret, ↓w_exit, ↓w_scope, ↓w_block, ↓w_cond, cond_true', cond_false', ↓t_nil, ↓t_plain, ↓t_guard, ↓t_gagain, ↓t_again, t_val, t_call, g_true, g_false, ga_true, ga_false, a_val, a_call, ↓n_normal, ↓n_ret, ↓n_exit, ↓b_normal, ↓b_ret, ↓b_exit, ↓e_normal, ↓e_ret, e_some, go_sem, ↓reduceIte, Nat.reduceEqDiff, Nat.reduceLT, Nat.reduceSub, A_stamp_Compare_0, A_stamp_Compare_1, A_stamp_Compare_2, A_stamp_Compare_3, A_stamp_Compare_4, A_stamp_Compare_5, Int.lt_irrefl, true_and, and_true, false_and, and_false, and_self, same_two, same_sib, same_spot, vload, vptr, vof, V.cells, Mem.read, rdCells, Mem.get_push, Mem.next_push, Nat.left_eq_add, Nat.add_eq_left, Nat.add_left_cancel_iff, Nat.add_right_cancel_iff, Nat.reduceAdd, Nat.add_zero, Nat.zero_add, Nat.add_assoc, Nat.reduceLeDiff, Nat.reduceBEq, List.length_cons, List.length_nil, List.drop_zero, List.drop_succ_cons, List.take_succ_cons, List.take_zero, List.take_nil, List.drop_nil, List.getElem?_cons_zero, List.getElem?_cons_succ, reduceCtorEq, Nat.succ_ne_self, Nat.one_ne_zero, Nat.le_refl, ne_eq, not_false_eq_true, h1, h2, h3]
        exact ⟨by simp [cmpSt, hne, h2, h3], hG⟩

def ltSt (a b : St) : Bool := decide (a.1 < b.1 ∨ a.1 = b.1 ∧ a.2 < b.2)
theorem ltOf_St (a b : St) : ltOf cmpSt a b = ltSt a b := by
  unfold ltOf cmpSt ltSt
  by_cases h : a = b
  · subst h; simp
  · by_cases h2 : a.1 < b.1 ∨ a.1 = b.1 ∧ a.2 < b.2
    · simp [h, h2]
    · simp [h, h2]
theorem swo_St : SWO ltSt where
  irrefl x := by unfold ltSt; simp
  trans x y z h1 h2 := by
    unfold ltSt at *
    simp only [decide_eq_true_eq] at *
    omega
  ntrans x y z h1 h2 := by
    unfold ltSt at *
    simp only [decide_eq_false_iff_not] at *
    omega
theorem tot_St (x y : St) (h1 : ltSt x y = false) (h2 : ltSt y x = false) : x = y := by
  obtain ⟨a, b⟩ := x
  obtain ⟨c, d⟩ := y
  unfold ltSt at h1 h2
  simp only [decide_eq_false_iff_not] at h1 h2
  have : a = c := by omega
  have : b = d := by omega
  simp [*]

def elSt : Elem St where
  k := 2
  cv := stC
  enc x := [.int .i64 x.1, .int .i64 x.2]
  dec := fun | [.int .i64 a, .int .i64 b] => some (a, b) | _ => none
  k_pos := by omega
  len _ := rfl
  elen _ := rfl
  dec_some cs x h := by
    split at h <;> cases h
    rfl
  dec_cv _ := rfl
  rel E x := .cons (.int _ _) (.cons (.int _ _) .nil)
  rel_eq E x us h := by
    cases h with
    | cons h1 t => cases t with
      | cons h2 t => cases t; cases h1; cases h2; rfl
  one x v hv := by simp at hv; rcases hv with rfl | rfl <;> rfl
  one' _ := rfl
  flat _ := rfl

/-! ### the sort: the compare alone, no variable in sight -/
def gln : Nat → Bool := fun _ => false
theorem cmp_code : cFunc Tryd.prog gln Tryd.f47 = some A_stamp_Compare := by kernel_rfl
def Dc : Decls := ⟨codeOf [(F_stamp_Compare, A_stamp_Compare)], fun _ => none⟩
theorem dokc : DOK Tryd.prog gln Dc := dok_codes mixed (by
  intro x hx
  simp only [List.mem_singleton] at hx
  subst hx
  exact ⟨_, Tryd.func47, (by kernel_rfl), cmp_code⟩)
theorem sortSt_ok : CallOK Tryd.prog gl0 fun f' args M => if f' = F_slices_SortFunc_Stamp then sortP elSt F_stamp_Compare ltSt args M else none := by
  have h := sort_callOK (P := Tryd.prog) (gl := gl0) (α := St) Tryd.sortSt elSt Tryd.isAgg29 Tryd.sizeOf29 cmpSt (by rw [show ltOf cmpSt = ltSt from funext fun a => funext fun b => ltOf_St a b]; exact swo_St)
    (by rw [show ltOf cmpSt = ltSt from funext fun a => funext fun b => ltOf_St a b]; exact tot_St) F_stamp_Compare ⟨_, Tryd.func47, (by kernel_rfl), (by kernel_rfl)⟩ ⟨_, Tryd.func74, (by kernel_rfl), (by kernel_rfl)⟩ (by
      intro x y w
      obtain ⟨k, v, M', hr, rfl, _⟩ := stamp_Compare_runs Dc rfl (by rfl) x y mem0
      obtain ⟨_, hs⟩ := callN_sound dokc k _ _ mem0 _ M' hr
      refine (hs emb0 w #[.agg (elSt.enc x).toArray, .agg (elSt.enc y).toArray] (rel0 w) (fun x hx => by cases hx) (.cons (.agg (elSt.rel _ x)) (.cons (.agg (elSt.rel _ y)) .nil))).mono ?_
      rintro e w' ⟨E', v', rfl, hv', _, hX⟩
      cases hv'
      exact ⟨rfl, grown_of hX⟩)
  rw [show ltOf cmpSt = ltSt from funext fun a => funext fun b => ltOf_St a b] at h
  exact h
def D1 : Decls := D0.addM F_slices_SortFunc_Stamp (sortP elSt F_stamp_Compare ltSt)
theorem dok1 : DOK Tryd.prog gl0 D1 := dok0.addM sortSt_ok
end Go.Am.Tryd


/- Stamps that a function hands on, one by one, collected: slices.AppendSeq, slices.Collect. -/
namespace Go.Am.Tryd
open Go Go.Am Go.Proofs Go.Sort Go.Shelf
set_option maxRecDepth 100000
set_option linter.unusedSimpArgs false
set_option linter.unusedVariables false

abbrev XP := XRuns Tryd.prog gl0
/-- What is so while stamps come. -/
structure CollJ (M : Mem) (lp : LoopState → Option Code → O) (pre : List St) (M' : Mem) : Prop where
  old : ∀ c, c < M.next → M'.get c = M.get c
  next : M.next + 2 ≤ M'.next
  loop : M'.get (M.next + 1) = some (lp .ready none)
  box : ∃ s, M'.get M.next = some (.cells [s] false) ∧ Hold (M.next + 2) M' 2 s pre.length (elSt.all pre) ∧ (pre = [] → s = .slice none 0 (.exact 0))

theorem CollJ.other {M : Mem} {lp : LoopState → Option Code → O} {pre : List St} {M1 M2 : Mem} (h : CollJ M lp pre M1) (hn : M1.next ≤ M2.next) (hk : ∀ c, c < M1.next → (∀ b s k l, M1.get c ≠ some (.mapIter b s k l)) → M2.get c = M1.get c) (hold : ∀ c, c < M.next → M2.get c = M1.get c)
    (hlp : ∀ st p b s k l, lp st p ≠ .mapIter b s k l) : CollJ M lp pre M2 := by
  obtain ⟨a, b, c, s, d, e, e'⟩ := h
  refine ⟨fun q hq => (hold q hq).trans (a q hq), by omega, ?_, s, ?_, e.keep (fun q hq => hk q (e.blk_le hq).2.1 ?_) hn, e'⟩
  · rw [hk _ (by omega) (fun b s k l => by rw [c]; intro h; exact hlp _ _ _ _ _ _ (Option.some.inj h))]; exact c
  · rw [hk _ (by omega) (fun b s k l => by rw [d]; intro h; cases h)]; exact d
  · intro b s k l
    rw [(e.blk_le hq).2.2]
    intro h; cases h

/-- A variable that holds a spot. -/
def isSpot (M : Mem) (c : Nat) : Prop := ∃ a b t, M.get c = some (.cells [.int .i64 a, .int .i64 b, .str t] false)
/-- A function that is ranged over, with such a variable of its own. -/
def SeqP {α : Type} (f : FuncId) (first captured : List V) (cv : α → V) (G : Mem → Prop) (S Sp : List α → Prop) (N : Nat) : Prop :=
  ∀ (b : Nat) (J Jx : List α → Mem → Prop) (M : Mem),
    (∀ pre M, J pre M → G M) →
    (∀ pre M o, J pre M → J pre (M.push o)) →
    (∀ pre M o o', J pre M → J pre ((M.push o).set M.next o')) →
    (∀ pre M' c b s n l, J pre M' → M.next ≤ c → isIter M' c → J pre (M'.set c (.mapIter b s n l))) →
    (∀ pre M' c x y t, J pre M' → M.next ≤ c → isSpot M' c → J pre (M'.set c (.cells [.int .i64 x, .int .i64 y, .str t] false))) →
    (∀ pre x M', J pre M' → pre.length < N → XYield Tryd.prog gl0 b [cv x] M' fun v M'' => (v = .bool true ∧ J (pre ++ [x]) M'' ∧ M'.next ≤ M''.next ∧ (∀ c, c < M'.next → isIter M' c → M''.get c = M'.get c) ∧ ∀ c, M.next ≤ c → c < M'.next → isSpot M' c → M''.get c = M'.get c) ∨ (v = .bool false ∧ Jx (pre ++ [x]) M'')) →
    J [] M →
    XRuns Tryd.prog gl0 f (first ++ [.yld b] ++ captured) M fun _ M' => (∃ xs, S xs ∧ J xs M') ∨ ∃ pre, Sp pre ∧ Jx pre M'
theorem SeqP.of {α : Type} {f : FuncId} {first captured : List V} {cv : α → V} {G : Mem → Prop} {S Sp : List α → Prop} {N : Nat} (h : SeqX Tryd.prog gl0 f first captured cv G S Sp N) : SeqP f first captured cv G S Sp N :=
  fun b J Jx M hG hp hps hi _ hY hJ => h b J Jx M hG hp hps hi (fun pre x M' h1 h2 => (hY pre x M' h1 h2).mono fun v M'' h => by
    rcases h with ⟨a, b, c, d, _⟩ | h
    · exact .inl ⟨a, b, c, d⟩
    · exact .inr h) hJ

theorem stC_len (x : St) : (stC x).length = 2 := rfl
theorem AppendSeq_runs {f : FuncId} {first captured : List V} {G : Mem → Prop} {S Sp : List St → Prop} {N : Nat} (hseq : SeqP f first captured (fun x => .agg (stC x)) G S Sp N) (hN : (N + 1) * 16 ≤ maxRoom) (M : Mem)
    (hG : ∀ M', (∀ c, c < M.next → M'.get c = M.get c) → M.next ≤ M'.next → G M') :
    XP F_slices_AppendSeq_Stamp [.slice none 0 (.exact 0), .fn f first captured] M fun v M' => ∃ xs, S xs ∧ (∀ c, c < M.next → M'.get c = M.get c) ∧ Hold M.next M' 2 v xs.length (elSt.all xs) ∧ (xs = [] → v = .slice none 0 (.exact 0)) := by
  refine XRuns.walk mixed Tryd.func76 b_slices_AppendSeq_Stamp n_slices_AppendSeq_Stamp r_slices_AppendSeq_Stamp (by rfl) ?_
  unfold X_slices_AppendSeq_Stamp
  simp -dsimp only [↓x_seq', ↓x_ops, ↓x_skip, ↓x_ret, ↓x_exit, ↓x_block', ↓x_cond', cond_true', cond_false', ↓i_nil, ↓i_plain, ↓i_guard, xs_val, xs_call, xs_yield, xg_true, xg_false, ↓n_normal, ↓n_ret, ↓n_exit, ↓b_normal, ↓b_ret, ↓b_exit, ↓xe_normal, ↓xe_ret, e_some, yieldOf, go_sem, ↓reduceIte, Nat.reduceEqDiff, Nat.reduceLT, Nat.reduceSub, X_slices_AppendSeq_Stamp_0, X_slices_AppendSeq_Stamp_1, X_slices_AppendSeq_Stamp_2, X_slices_AppendSeq_Stamp_3, X_slices_AppendSeq_Stamp_6, Int.lt_irrefl, true_and, and_true, false_and, and_false, and_self, same_two, same_sib, same_spot, vload, vptr, vof, V.cells, Mem.read, rdCells, Mem.get_push, Mem.next_push, Nat.left_eq_add, Nat.add_eq_left, Nat.add_left_cancel_iff, Nat.add_right_cancel_iff, Nat.reduceAdd, Nat.add_zero, Nat.zero_add, Nat.add_assoc, Nat.reduceLeDiff, Nat.reduceBEq, List.length_cons, List.length_nil, List.drop_zero, List.drop_succ_cons, List.take_succ_cons, List.take_zero, List.take_nil, List.drop_nil, List.getElem?_cons_zero, List.getElem?_cons_succ, reduceCtorEq, Nat.succ_ne_self, Nat.one_ne_zero, Nat.le_refl, ne_eq, not_false_eq_true]
  refine x_range' _ _ _ _ _ (f := f) (first := first) (captured := captured) (by simp only [go_sem, ↓reduceIte, Nat.reduceEqDiff, Nat.reduceLT, Nat.reduceSub]) ?_
  intro lp hlp hY
  have hb0 : (M.push (.cells [.slice none 0 (.exact 0)] false)).next = M.next + 1 := rfl
  rw [hb0] at hY ⊢
  have hst : CollJ M lp [] ((M.push (.cells [.slice none 0 (.exact 0)] false)).push (lp .ready none)) := by
    refine ⟨fun c hc => ?_, by simp, ?_, .slice none 0 (.exact 0), ?_, .nil, fun _ => rfl⟩
    · rw [Mem.get_push_ne _ _ (by simp; omega), Mem.get_push_ne _ _ (by omega)]
    · rw [← hb0, Mem.get_push_same]
    · rw [Mem.get_push_ne _ _ (by simp), Mem.get_push_same]
  refine (hseq (M.next + 1) (CollJ M lp) (fun _ _ => False) _ (fun pre M' h => hG M' h.old (by have := h.next; omega)) (fun pre M' o h => ?_) (fun pre M' o o' h => ?_) (fun pre M' c b s k l h hcn hi => ?_) (fun pre M' c a b t h hcn hi => ?_) (fun pre x M' h hlen => ?_) hst).mono ?_
  · exact h.other (by simp) (fun c hc _ => Mem.get_push_ne _ _ (by omega)) (fun c hc => Mem.get_push_ne _ _ (by have := h.next; omega)) hlp
  · have hn : ∀ c, c ≠ M'.next → ((M'.push o).set M'.next o').get c = M'.get c := fun c hc => by rw [Mem.get_set_ne _ _ hc, Mem.get_push_ne _ _ hc]
    exact h.other (by simp) (fun c hc _ => hn c (by omega)) (fun c hc => hn c (by have := h.next; omega)) hlp
  · obtain ⟨b', s', k', l', hi⟩ := hi
    refine h.other (by simp) (fun c' _ hc' => Mem.get_set_ne _ _ (fun e => hc' b' s' k' l' (by rw [e]; exact hi))) (fun c' hc' => Mem.get_set_ne _ _ (by simp at hcn; omega)) hlp
  · obtain ⟨p1, p2, p3, hi⟩ := hi
    obtain ⟨a1, a2, a3, s1, a4, a5, a6⟩ := h
    have hc : M.next + 2 ≤ c := hcn
    refine ⟨fun c' hc' => (Mem.get_set_ne _ _ (by omega)).trans (a1 c' hc'), a2, (Mem.get_set_ne _ _ (by omega)).trans a3, s1, (Mem.get_set_ne _ _ (by omega)).trans a4, a5.keep (fun c' hc' => Mem.get_set_ne _ _ (fun e => ?_)) (Nat.le_refl _), a6⟩
    subst e
    have hh := (a5.blk_le hc').2.2
    rw [hi] at hh
    have hlen := a5.len
    simp only [Option.some.injEq, O.cells.injEq, and_true] at hh
    rw [← hh] at hlen
    simp at hlen
    omega
  · -- a round
    refine hY [.agg (stC x)] M' _ h.loop rfl ?_
    unfold X_slices_AppendSeq_Stamp_4 X_slices_AppendSeq_Stamp_5
    obtain ⟨s, hbox, hH, _⟩ := h.box
    have hnx := h.next
    have hw0 := write_full (M := M'.push (.cells [.int .i64 0, .int .i64 0] false)) (b := M'.next) (vs := stC x) (Mem.get_push_same _ _) rfl rfl
    simp -dsimp only [↓x_seq', ↓x_ops, ↓x_skip, ↓x_ret, ↓x_exit, ↓x_block', ↓x_cond', cond_true', cond_false', ↓i_nil, ↓i_plain, ↓i_guard, xs_val, xs_call, xs_yield, xg_true, xg_false, ↓n_normal, ↓n_ret, ↓n_exit, ↓b_normal, ↓b_ret, ↓b_exit, ↓xe_normal, ↓xe_ret, e_some, yieldOf, go_sem, ↓reduceIte, Nat.reduceEqDiff, Nat.reduceLT, Nat.reduceSub, X_slices_AppendSeq_Stamp_0, X_slices_AppendSeq_Stamp_1, X_slices_AppendSeq_Stamp_2, X_slices_AppendSeq_Stamp_3, X_slices_AppendSeq_Stamp_6, Int.lt_irrefl, true_and, and_true, false_and, and_false, and_self, same_two, same_sib, same_spot, vload, vptr, vof, V.cells, Mem.read, rdCells, Mem.get_push, Mem.next_push, Nat.left_eq_add, Nat.add_eq_left, Nat.add_left_cancel_iff, Nat.add_right_cancel_iff, Nat.reduceAdd, Nat.add_zero, Nat.zero_add, Nat.add_assoc, Nat.reduceLeDiff, Nat.reduceBEq, List.length_cons, List.length_nil, List.drop_zero, List.drop_succ_cons, List.take_succ_cons, List.take_zero, List.take_nil, List.drop_nil, List.getElem?_cons_zero, List.getElem?_cons_succ, reduceCtorEq, Nat.succ_ne_self, Nat.one_ne_zero, Nat.le_refl, ne_eq, not_false_eq_true, putAll', List.zip_cons_cons, List.zip_nil_right, List.foldl_cons, List.foldl_nil, vstore, hw0, stC_len]
    -- the memory with the round's own variable
    have k1 : ∀ c, c ≠ M'.next → ((M'.push (.cells [.int .i64 0, .int .i64 0] false)).set M'.next (.cells (stC x) false)).get c = M'.get c := fun c hc => by rw [Mem.get_set_ne _ _ hc, Mem.get_push_ne _ _ hc]
    have k2 : ((M'.push (.cells [.int .i64 0, .int .i64 0] false)).set M'.next (.cells (stC x) false)).get M'.next = some (.cells (stC x) false) := Mem.get_set_same _ _ _
    have k3 : ((M'.push (.cells [.int .i64 0, .int .i64 0] false)).set M'.next (.cells (stC x) false)).next = M'.next + 1 := rfl
    generalize (M'.push (.cells [.int .i64 0, .int .i64 0] false)).set M'.next (.cells (stC x) false) = M1 at *
    refine ⟨rfl, (k1 _ (by omega)).trans h.loop, ?_⟩
    have l1 : ∀ c, c ≠ M.next + 1 → (M1.set (M.next + 1) (lp .busy none)).get c = M1.get c := fun c hc => Mem.get_set_ne _ _ hc
    have l2 : (M1.set (M.next + 1) (lp .busy none)).get (M.next + 1) = some (lp .busy none) := Mem.get_set_same _ _ _
    have l3 : (M1.set (M.next + 1) (lp .busy none)).next = M'.next + 1 := k3
    generalize M1.set (M.next + 1) (lp .busy none) = M2 at *
    have hb2 : M2.get M.next = some (.cells [s] false) := by rw [l1 _ (by omega), k1 _ (by omega)]; exact hbox
    have hx2 : M2.get M'.next = some (.cells (stC x) false) := by rw [l1 _ (by omega)]; exact k2
    have hH2 : Hold (M.next + 2) M2 2 s pre.length (elSt.all pre) := hH.keep (fun c hc => by have := hH.blk_le hc; rw [l1 _ (by omega), k1 _ (by omega)]) (by omega)
    simp -dsimp only [↓x_seq', ↓x_ops, ↓x_skip, ↓x_ret, ↓x_exit, ↓x_block', ↓x_cond', cond_true', cond_false', ↓i_nil, ↓i_plain, ↓i_guard, xs_val, xs_call, xs_yield, xg_true, xg_false, ↓n_normal, ↓n_ret, ↓n_exit, ↓b_normal, ↓b_ret, ↓b_exit, ↓xe_normal, ↓xe_ret, e_some, yieldOf, go_sem, ↓reduceIte, Nat.reduceEqDiff, Nat.reduceLT, Nat.reduceSub, X_slices_AppendSeq_Stamp_0, X_slices_AppendSeq_Stamp_1, X_slices_AppendSeq_Stamp_2, X_slices_AppendSeq_Stamp_3, X_slices_AppendSeq_Stamp_6, Int.lt_irrefl, true_and, and_true, false_and, and_false, and_self, same_two, same_sib, same_spot, vload, vptr, vof, V.cells, Mem.read, rdCells, Mem.get_push, Mem.next_push, Nat.left_eq_add, Nat.add_eq_left, Nat.add_left_cancel_iff, Nat.add_right_cancel_iff, Nat.reduceAdd, Nat.add_zero, Nat.zero_add, Nat.add_assoc, Nat.reduceLeDiff, Nat.reduceBEq, List.length_cons, List.length_nil, List.drop_zero, List.drop_succ_cons, List.take_succ_cons, List.take_zero, List.take_nil, List.drop_nil, List.getElem?_cons_zero, List.getElem?_cons_succ, reduceCtorEq, Nat.succ_ne_self, Nat.one_ne_zero, Nat.le_refl, ne_eq, not_false_eq_true, hb2, hx2, stC, fillCells, repl, wrCells, List.append_nil]
    have hH3 : Hold (M.next + 2) (M2.push (.cells (stC x) false)) 2 s pre.length (elSt.all pre) := hH2.keep (fun c hc => Mem.get_push_ne _ _ (by have := hH2.blk_le hc; omega)) (by simp)
    obtain ⟨M4, hap, hH4, hn4, ho4⟩ := hH3.append (bytes := 16) (m := 1) (x := .slice (some (M2.next, 0)) 1 (.exact 1)) (new := stC x) (by simp; omega) rfl
      (by
        have := read_all (Mem.get_push_same M2 (.cells (stC x) false))
        simp only [srcCells, beq_dec, Nat.one_mul, Nat.reduceEqDiff, decide_false, cond_false]
        exact this) (by omega) rfl (by omega) rfl
    simp only [stC] at hap
    rw [hap]
    have hne4 : ∀ c, c < M'.next → s.blk ≠ some c → c ≠ M.next + 1 → M4.get c = M'.get c := fun c hc hs hl => by
      rw [ho4 c (by simp; omega) hs, Mem.get_push_ne _ _ (by omega), l1 _ hl, k1 _ (by omega)]
    have hsn : s.blk ≠ some M.next := fun e => by have := (hH.blk_le e).1; omega
    have hsl : s.blk ≠ some (M.next + 1) := fun e => by have := (hH.blk_le e).1; omega
    have hb4 : M4.get M.next = some (.cells [s] false) := by rw [hne4 _ (by omega) hsn (by omega)]; exact hbox
    simp only [Mem.next_push] at hap hH4 hn4 ho4
    have hw4 := write_one (v := .slice (some (M2.next + 1, 0)) (pre.length + 1) (.upto 2)) hb4 (show 0 < 1 by omega) rfl
    simp -dsimp only [↓x_seq', ↓x_ops, ↓x_skip, ↓x_ret, ↓x_exit, ↓x_block', ↓x_cond', cond_true', cond_false', ↓i_nil, ↓i_plain, ↓i_guard, xs_val, xs_call, xs_yield, xg_true, xg_false, ↓n_normal, ↓n_ret, ↓n_exit, ↓b_normal, ↓b_ret, ↓b_exit, ↓xe_normal, ↓xe_ret, e_some, yieldOf, go_sem, ↓reduceIte, Nat.reduceEqDiff, Nat.reduceLT, Nat.reduceSub, X_slices_AppendSeq_Stamp_0, X_slices_AppendSeq_Stamp_1, X_slices_AppendSeq_Stamp_2, X_slices_AppendSeq_Stamp_3, X_slices_AppendSeq_Stamp_6, Int.lt_irrefl, true_and, and_true, false_and, and_false, and_self, same_two, same_sib, same_spot, vload, vptr, vof, V.cells, Mem.read, rdCells, Mem.get_push, Mem.next_push, Nat.left_eq_add, Nat.add_eq_left, Nat.add_left_cancel_iff, Nat.add_right_cancel_iff, Nat.reduceAdd, Nat.add_zero, Nat.zero_add, Nat.add_assoc, Nat.reduceLeDiff, Nat.reduceBEq, List.length_cons, List.length_nil, List.drop_zero, List.drop_succ_cons, List.take_succ_cons, List.take_zero, List.take_nil, List.drop_nil, List.getElem?_cons_zero, List.getElem?_cons_succ, reduceCtorEq, Nat.succ_ne_self, Nat.one_ne_zero, Nat.le_refl, ne_eq, not_false_eq_true, vstore, hw4, List.set_cons_zero]
    have u := Upd.set M4 M.next (.cells [.slice (some (M2.next + 1, 0)) (pre.length + 1) (.upto 2)] false)
    generalize M4.set M.next (.cells [.slice (some (M2.next + 1, 0)) (pre.length + 1) (.upto 2)] false) = M5 at *
    have hl5 : M5.get (M.next + 1) = some (lp .busy none) := by
      rw [u.other _ (by omega), ho4 _ (by omega) hsl, Mem.get_push_ne _ _ (by omega)]; exact l2
    refine ⟨hl5, .inl ⟨rfl, ⟨fun c hc => ?_, ?_, Mem.get_set_same _ _ _, ?_⟩, by simp only [Mem.next_set]; rw [u.next, hn4]; omega, fun c hc hi => ?_, fun c hcl hc hi => ?_⟩⟩
    · rw [Mem.get_set_ne _ _ (by omega), u.other _ (by omega), hne4 c (by omega) (fun e => by have := (hH.blk_le e).1; omega) (by omega)]
      exact h.old c hc
    · simp only [Mem.next_set]; rw [u.next, hn4]; omega
    · refine ⟨.slice (some (M2.next + 1, 0)) (pre.length + 1) (.upto 2), ?_, ?_, fun h => by simp at h⟩
      · rw [Mem.get_set_ne _ _ (by omega)]; exact u.at_
      · have e1 : elSt.all (pre ++ [x]) = elSt.all pre ++ stC x := by simp [Elem.all, elSt]
        rw [e1, List.length_append, List.length_cons, List.length_nil]
        refine hH4.keep (fun c hc => ?_) (by simp only [Mem.next_set]; rw [u.next]; exact Nat.le_refl _)
        have := hH4.blk_le hc
        simp only [V.blk, Option.some.injEq] at hc
        rw [Mem.get_set_ne _ _ (by omega), u.other _ (by omega)]
    · obtain ⟨b', s', k', l', hi⟩ := hi
      have c1 : c ≠ M.next + 1 := fun e => by
        rw [e] at hi; rw [h.loop] at hi; exact hlp _ _ _ _ _ _ (Option.some.inj hi)
      have c2 : c ≠ M.next := fun e => by rw [e] at hi; rw [hbox] at hi; cases hi
      rw [Mem.get_set_ne _ _ c1, u.other _ c2]
      exact hne4 c hc (fun e => by rw [(hH.blk_le e).2.2] at hi; cases hi) c1
    · have hcl' : M.next + 2 ≤ c := hcl
      obtain ⟨p1, p2, p3, hi⟩ := hi
      rw [Mem.get_set_ne _ _ (by omega), u.other _ (by omega)]
      refine hne4 c hc (fun e => ?_) (by omega)
      have hh := (hH.blk_le e).2.2
      rw [hi] at hh
      have hlen := hH.len
      simp only [Option.some.injEq, O.cells.injEq, and_true] at hh
      rw [← hh] at hlen
      simp at hlen
      omega
  · -- all have come
    intro v M' h
    rcases h with ⟨xs, hS, hJ⟩ | ⟨pre, _, hS⟩
    · refine .inl ⟨hJ.loop, ?_⟩
      obtain ⟨s, hbox, hH, hnil⟩ := hJ.box
      have hnx := hJ.next
      have k1 : ∀ c, c ≠ M.next + 1 → (M'.set (M.next + 1) (lp .exhausted none)).get c = M'.get c := fun c hc => Mem.get_set_ne _ _ hc
      have k2 : (M'.set (M.next + 1) (lp .exhausted none)).next = M'.next := rfl
      generalize M'.set (M.next + 1) (lp .exhausted none) = M2 at *
      have hb2 : M2.get M.next = some (.cells [s] false) := (k1 _ (by omega)).trans hbox
      simp -dsimp only [↓x_seq', ↓x_ops, ↓x_skip, ↓x_ret, ↓x_exit, ↓x_block', ↓x_cond', cond_true', cond_false', ↓i_nil, ↓i_plain, ↓i_guard, xs_val, xs_call, xs_yield, xg_true, xg_false, ↓n_normal, ↓n_ret, ↓n_exit, ↓b_normal, ↓b_ret, ↓b_exit, ↓xe_normal, ↓xe_ret, e_some, yieldOf, go_sem, ↓reduceIte, Nat.reduceEqDiff, Nat.reduceLT, Nat.reduceSub, X_slices_AppendSeq_Stamp_0, X_slices_AppendSeq_Stamp_1, X_slices_AppendSeq_Stamp_2, X_slices_AppendSeq_Stamp_3, X_slices_AppendSeq_Stamp_6, Int.lt_irrefl, true_and, and_true, false_and, and_false, and_self, same_two, same_sib, same_spot, vload, vptr, vof, V.cells, Mem.read, rdCells, Mem.get_push, Mem.next_push, Nat.left_eq_add, Nat.add_eq_left, Nat.add_left_cancel_iff, Nat.add_right_cancel_iff, Nat.reduceAdd, Nat.add_zero, Nat.zero_add, Nat.add_assoc, Nat.reduceLeDiff, Nat.reduceBEq, List.length_cons, List.length_nil, List.drop_zero, List.drop_succ_cons, List.take_succ_cons, List.take_zero, List.take_nil, List.drop_nil, List.getElem?_cons_zero, List.getElem?_cons_succ, reduceCtorEq, Nat.succ_ne_self, Nat.one_ne_zero, Nat.le_refl, ne_eq, not_false_eq_true, hb2]
      refine ⟨xs, hS, fun c hc => (k1 c (by omega)).trans (hJ.old c hc), ?_, hnil⟩
      exact (hH.keep (fun c hc => k1 c (by have := (hH.blk_le hc).1; omega)) (by omega)).lower (by omega)
    · exact hS.elim

theorem Collect_runs {f : FuncId} {first captured : List V} {G : Mem → Prop} {S Sp : List St → Prop} {N : Nat} (hseq : SeqP f first captured (fun x => .agg (stC x)) G S Sp N) (hN : (N + 1) * 16 ≤ maxRoom) (M : Mem)
    (hG : ∀ M', (∀ c, c < M.next → M'.get c = M.get c) → M.next ≤ M'.next → G M') :
    XP F_slices_Collect_Stamp [.fn f first captured] M fun v M' => ∃ xs, S xs ∧ (∀ c, c < M.next → M'.get c = M.get c) ∧ Hold M.next M' 2 v xs.length (elSt.all xs) ∧ (xs = [] → v = .slice none 0 (.exact 0)) := by
  refine XRuns.walk mixed Tryd.func48 b_slices_Collect_Stamp n_slices_Collect_Stamp r_slices_Collect_Stamp (by rfl) ?_
  unfold X_slices_Collect_Stamp
  simp -dsimp only [↓x_seq', ↓x_ops, ↓x_skip, ↓x_ret, ↓x_exit, ↓x_block', ↓x_cond', cond_true', cond_false', ↓i_nil, ↓i_plain, ↓i_guard, xs_val, xs_call, xs_yield, xg_true, xg_false, ↓n_normal, ↓n_ret, ↓n_exit, ↓b_normal, ↓b_ret, ↓b_exit, ↓xe_normal, ↓xe_ret, e_some, yieldOf, go_sem, ↓reduceIte, Nat.reduceEqDiff, Nat.reduceLT, Nat.reduceSub, X_slices_Collect_Stamp_0, X_slices_Collect_Stamp_1, Int.lt_irrefl, true_and, and_true, false_and, and_false, and_self, same_two, same_sib, same_spot, vload, vptr, vof, V.cells, Mem.read, rdCells, Mem.get_push, Mem.next_push, Nat.left_eq_add, Nat.add_eq_left, Nat.add_left_cancel_iff, Nat.add_right_cancel_iff, Nat.reduceAdd, Nat.add_zero, Nat.zero_add, Nat.add_assoc, Nat.reduceLeDiff, Nat.reduceBEq, List.length_cons, List.length_nil, List.drop_zero, List.drop_succ_cons, List.take_succ_cons, List.take_zero, List.take_nil, List.drop_nil, List.getElem?_cons_zero, List.getElem?_cons_succ, reduceCtorEq, Nat.succ_ne_self, Nat.one_ne_zero, Nat.le_refl, ne_eq, not_false_eq_true]
  refine xcall_of (AppendSeq_runs hseq hN M hG) ?_
  intro v M' h
  simp -dsimp only [↓x_seq', ↓x_ops, ↓x_skip, ↓x_ret, ↓x_exit, ↓x_block', ↓x_cond', cond_true', cond_false', ↓i_nil, ↓i_plain, ↓i_guard, xs_val, xs_call, xs_yield, xg_true, xg_false, ↓n_normal, ↓n_ret, ↓n_exit, ↓b_normal, ↓b_ret, ↓b_exit, ↓xe_normal, ↓xe_ret, e_some, yieldOf, go_sem, ↓reduceIte, Nat.reduceEqDiff, Nat.reduceLT, Nat.reduceSub, X_slices_Collect_Stamp_0, X_slices_Collect_Stamp_1, Int.lt_irrefl, true_and, and_true, false_and, and_false, and_self, same_two, same_sib, same_spot, vload, vptr, vof, V.cells, Mem.read, rdCells, Mem.get_push, Mem.next_push, Nat.left_eq_add, Nat.add_eq_left, Nat.add_left_cancel_iff, Nat.add_right_cancel_iff, Nat.reduceAdd, Nat.add_zero, Nat.zero_add, Nat.add_assoc, Nat.reduceLeDiff, Nat.reduceBEq, List.length_cons, List.length_nil, List.drop_zero, List.drop_succ_cons, List.take_succ_cons, List.take_zero, List.take_nil, List.drop_nil, List.getElem?_cons_zero, List.getElem?_cons_succ, reduceCtorEq, Nat.succ_ne_self, Nat.one_ne_zero, Nat.le_refl, ne_eq, not_false_eq_true]
  exact h
end Go.Am.Tryd


/- A map's keys handed on, in whatever order; slices.SortedFunc of them as a part. -/
namespace Go.Am.Tryd
open Go Go.Am Go.Proofs Go.Sort Go.Shelf
set_option maxRecDepth 100000
set_option linter.unusedSimpArgs false
set_option linter.unusedVariables false

/-- Which entries have come: their places; those that have not. -/
structure Came (ents : List MapEntry) (ks : List St) (seen : Array Nat) (pre : List St) (idx rest : List Nat) : Prop where
  perm : (idx ++ rest).Perm (List.range ks.length)
  pre_ : pre = idx.map fun i => ks.getD i (0, 0)
  seen_ : seen.toList = idx.map fun i => (ents[i]?.map (·.born)).getD 0

theorem born_inj {ents : List MapEntry} {clock : Nat} (h : Born ents clock) {i j : Nat} {e e' : MapEntry} (hi : ents[i]? = some e) (hj : ents[j]? = some e') (he : e.born = e'.born) : i = j := by
  obtain ⟨hil, rfl⟩ := List.getElem?_eq_some_iff.mp hi
  obtain ⟨hjl, rfl⟩ := List.getElem?_eq_some_iff.mp hj
  have hp := h.1
  rw [List.pairwise_iff_getElem] at hp
  rcases Nat.lt_trichotomy i j with h1 | h1 | h1
  · have := hp i j (by simpa using hil) (by simpa using hjl) h1
    simp only [List.getElem_map] at this
    omega
  · exact h1
  · have := hp j i (by simpa using hjl) (by simpa using hil) h1
    simp only [List.getElem_map] at this
    omega

theorem Came.done {ents : List MapEntry} {clock : Nat} {ks : List St} {seen : Array Nat} {pre : List St} {idx rest : List Nat} (h : Came ents ks seen pre idx rest) (hb : Born ents clock) (hl : ents.length = ks.length) (hf : ents.filter (notSeen seen) = []) : pre.Perm ks := by
  have hr : rest = [] := by
    cases hrr : rest with
    | nil => rfl
    | cons j rs =>
      exfalso
      have hp := h.perm
      rw [hrr] at hp
      have hj : j < ents.length := by
        have : j ∈ List.range ks.length := hp.mem_iff.mp (by simp)
        rw [hl]; simpa using this
      have hnd : (idx ++ j :: rs).Nodup := hp.nodup_iff.mpr List.nodup_range
      have : ents[j] ∈ ents.filter (notSeen seen) := by
        rw [List.mem_filter]
        refine ⟨List.getElem_mem hj, ?_⟩
        unfold notSeen
        rw [Bool.not_eq_true', ← Bool.not_eq_true]
        intro hc
        rw [Array.contains_iff_mem, ← Array.mem_toList_iff, h.seen_, List.mem_map] at hc
        obtain ⟨i, hi, hie⟩ := hc
        have hil : i < ents.length := by
          have : i ∈ List.range ks.length := hp.mem_iff.mp (by simp [hi])
          rw [hl]; simpa using this
        rw [List.getElem?_eq_getElem hil] at hie
        simp only [Option.map_some, Option.getD_some] at hie
        have := born_inj hb (List.getElem?_eq_getElem hil) (List.getElem?_eq_getElem hj) hie
        subst this
        rw [List.nodup_append] at hnd
        exact hnd.2.2 _ hi _ (List.mem_cons_self ..) rfl
      rw [hf] at this
      cases this
  have hp := h.perm
  rw [hr, List.append_nil] at hp
  rw [h.pre_]
  have h2 := hp.map fun i => ks.getD i (0, 0)
  refine h2.trans (List.Perm.of_eq ?_)
  apply List.ext_getElem
  · simp
  · intro i h1 h2
    simp [List.getD_eq_getElem?_getD, List.getElem?_eq_getElem (show i < ks.length by simpa using h2)]

theorem Came.step {ents : List MapEntry} {ks : List St} {seen : Array Nat} {pre : List St} {idx rest : List Nat} (h : Came ents ks seen pre idx rest) (hl : ents.length = ks.length) {i : Nat} {e : MapEntry} (hi : ents[i]? = some e) (hn : notSeen seen e = true) :
    i ∈ rest ∧ Came ents ks (seen.push e.born) (pre ++ [ks.getD i (0, 0)]) (idx ++ [i]) (rest.erase i) := by
  obtain ⟨hil, hie⟩ := List.getElem?_eq_some_iff.mp hi
  have hr : i ∈ rest := by
    have hm : i ∈ idx ++ rest := h.perm.mem_iff.mpr (by simp; omega)
    rcases List.mem_append.mp hm with hm | hm
    · exfalso
      unfold notSeen at hn
      rw [Bool.not_eq_true', ← Bool.not_eq_true] at hn
      apply hn
      rw [Array.contains_iff_mem, ← Array.mem_toList_iff, h.seen_, List.mem_map]
      exact ⟨i, hm, by rw [hi]; rfl⟩
    · exact hm
  refine ⟨hr, ?_, by rw [h.pre_]; simp, by rw [Array.toList_push, h.seen_]; simp [hi]⟩
  refine List.Perm.trans ?_ h.perm
  rw [List.append_assoc]
  exact List.Perm.append_left idx (List.perm_cons_erase hr).symm

theorem Keys_loop (b bx bm it : Nat) (ro : Bool) (es : List (V × V)) (ents : List MapEntry) (clock : Nat) (ks : List St) (hks : ∀ (i : Nat) (kv : V × V), es[i]? = some kv → kv.1 = V.agg (stC (ks.getD i (0, 0)))) (hl : ents.length = ks.length) (hborn : Born ents clock) (J Jx : List St → Mem → Prop) (M0 : Mem)
    (hG : ∀ pre M, J pre M → M.get bx = some (.cells [.map (some bm)] ro) ∧ M.get bm = some (.rmap es ents clock)) (hps : ∀ pre M o o', J pre M → J pre ((M.push o).set M.next o')) (hit0 : M0.next ≤ it)
    (hset : ∀ pre M' c b s n l, J pre M' → M0.next ≤ c → isIter M' c → J pre (M'.set c (.mapIter b s n l)))
    (hY : ∀ pre x M', J pre M' → pre.length < ks.length → XYield Tryd.prog gl0 b [.agg (stC x)] M' fun v M'' => (v = .bool true ∧ J (pre ++ [x]) M'' ∧ M'.next ≤ M''.next ∧ ∀ c, c < M'.next → isIter M' c → M''.get c = M'.get c) ∨ (v = .bool false ∧ Jx (pre ++ [x]) M''))
    (Q : XQ) (hQ : ∀ fr M xs, xs.Perm ks → J xs M → Q (.exit 0) fr M) (hQx : ∀ pre fr M, Jx pre M → Q .ret fr M) :
    ∀ (f : Nat) (idx rest : List Nat) (seen : Array Nat) (pre : List St) (fr : Fr) (M : Mem), rest.length = f → Came ents ks seen pre idx rest → J pre M → it < M.next → M.get it = some (.mapIter (some bm) clock seen clock) → fr.rd 0 = .yld b → fr.rd 5 = .ptr (some (it, 0)) →
    roundsX (WX Tryd.prog gl0 14 X_maps_Keys_Stamp_Spot_c1_4 false) (f + 1) fr M Q := by
  intro f
  induction f with
  | zero =>
    intro idx rest seen pre fr M hf hC hJ hlt hit h0 h5
    rw [rounds_x_succ]
    refine xw_of ?_
    unfold X_maps_Keys_Stamp_Spot_c1_4
    simp -dsimp only [↓x_seq', ↓x_ops, ↓x_skip, ↓x_ret, ↓x_exit, ↓x_block', ↓x_cond', cond_true', cond_false', ↓i_nil, ↓i_plain, ↓i_guard, xs_val, xs_call, xs_yield, xg_true, xg_false, ↓n_normal, ↓n_ret, ↓n_exit, ↓b_normal, ↓b_ret, ↓b_exit, ↓xe_normal, ↓xe_ret, e_some, yieldOf, go_sem, ↓reduceIte, Nat.reduceEqDiff, Nat.reduceLT, Nat.reduceSub, X_maps_Keys_Stamp_Spot_c1_0, X_maps_Keys_Stamp_Spot_c1_1, X_maps_Keys_Stamp_Spot_c1_2, X_maps_Keys_Stamp_Spot_c1_3]
    refine i_next (it := it) (b := bm) (clock := clock) (seen := seen) (show fr.rd 5 = _ from h5) hit (hG _ _ hJ).2 ?_ ?_
    · intro hfil
      simp -dsimp only [↓x_seq', ↓x_ops, ↓x_skip, ↓x_ret, ↓x_exit, ↓x_block', ↓x_cond', cond_true', cond_false', ↓i_nil, ↓i_plain, ↓i_guard, xs_val, xs_call, xs_yield, xg_true, xg_false, ↓n_normal, ↓n_ret, ↓n_exit, ↓b_normal, ↓b_ret, ↓b_exit, ↓xe_normal, ↓xe_ret, e_some, yieldOf, go_sem, ↓reduceIte, Nat.reduceEqDiff, Nat.reduceLT, Nat.reduceSub, X_maps_Keys_Stamp_Spot_c1_0, X_maps_Keys_Stamp_Spot_c1_1, X_maps_Keys_Stamp_Spot_c1_2, X_maps_Keys_Stamp_Spot_c1_3, List.getElem?_cons_zero]
      exact hQ _ _ _ (hC.done hborn hl hfil) hJ
    · intro i e kv hi hn hkv
      have := (hC.step hl hi hn).1
      rw [List.eq_nil_of_length_eq_zero hf] at this
      cases this
  | succ f ih =>
    intro idx rest seen pre fr M hf hC hJ hlt hit h0 h5
    rw [rounds_x_succ]
    refine xw_of ?_
    unfold X_maps_Keys_Stamp_Spot_c1_4
    simp -dsimp only [↓x_seq', ↓x_ops, ↓x_skip, ↓x_ret, ↓x_exit, ↓x_block', ↓x_cond', cond_true', cond_false', ↓i_nil, ↓i_plain, ↓i_guard, xs_val, xs_call, xs_yield, xg_true, xg_false, ↓n_normal, ↓n_ret, ↓n_exit, ↓b_normal, ↓b_ret, ↓b_exit, ↓xe_normal, ↓xe_ret, e_some, yieldOf, go_sem, ↓reduceIte, Nat.reduceEqDiff, Nat.reduceLT, Nat.reduceSub, X_maps_Keys_Stamp_Spot_c1_0, X_maps_Keys_Stamp_Spot_c1_1, X_maps_Keys_Stamp_Spot_c1_2, X_maps_Keys_Stamp_Spot_c1_3]
    refine i_next (it := it) (b := bm) (clock := clock) (seen := seen) (show fr.rd 5 = _ from h5) hit (hG _ _ hJ).2 ?_ ?_
    · intro hfil
      simp -dsimp only [↓x_seq', ↓x_ops, ↓x_skip, ↓x_ret, ↓x_exit, ↓x_block', ↓x_cond', cond_true', cond_false', ↓i_nil, ↓i_plain, ↓i_guard, xs_val, xs_call, xs_yield, xg_true, xg_false, ↓n_normal, ↓n_ret, ↓n_exit, ↓b_normal, ↓b_ret, ↓b_exit, ↓xe_normal, ↓xe_ret, e_some, yieldOf, go_sem, ↓reduceIte, Nat.reduceEqDiff, Nat.reduceLT, Nat.reduceSub, X_maps_Keys_Stamp_Spot_c1_0, X_maps_Keys_Stamp_Spot_c1_1, X_maps_Keys_Stamp_Spot_c1_2, X_maps_Keys_Stamp_Spot_c1_3, List.getElem?_cons_zero]
      exact hQ _ _ _ (hC.done hborn hl hfil) hJ
    · intro i e kv hi hn hkv
      obtain ⟨hir, hC'⟩ := hC.step hl hi hn
      have hk1 := hks i kv hkv
      have hJ1 := hset pre M it (some bm) clock (seen.push e.born) clock hJ hit0 ⟨_, _, _, _, hit⟩
      have hit1 : (M.set it (.mapIter (some bm) clock (seen.push e.born) clock)).get it = some (.mapIter (some bm) clock (seen.push e.born) clock) := Mem.get_set_same _ _ _
      have hn1 : (M.set it (.mapIter (some bm) clock (seen.push e.born) clock)).next = M.next := rfl
      generalize M.set it (.mapIter (some bm) clock (seen.push e.born) clock) = M1 at *
      simp -dsimp only [↓x_seq', ↓x_ops, ↓x_skip, ↓x_ret, ↓x_exit, ↓x_block', ↓x_cond', cond_true', cond_false', ↓i_nil, ↓i_plain, ↓i_guard, xs_val, xs_call, xs_yield, xg_true, xg_false, ↓n_normal, ↓n_ret, ↓n_exit, ↓b_normal, ↓b_ret, ↓b_exit, ↓xe_normal, ↓xe_ret, e_some, yieldOf, go_sem, ↓reduceIte, Nat.reduceEqDiff, Nat.reduceLT, Nat.reduceSub, X_maps_Keys_Stamp_Spot_c1_0, X_maps_Keys_Stamp_Spot_c1_1, X_maps_Keys_Stamp_Spot_c1_2, X_maps_Keys_Stamp_Spot_c1_3, List.getElem?_cons_zero]
      refine i_entry (it := it) (b := bm) (since := clock) (clock := clock) (seen := seen.push e.born) (by simp only [go_sem, ↓reduceIte, Nat.reduceEqDiff, Nat.reduceLT, Nat.reduceSub, h5]) hit1 (hG _ _ hJ1).2 i e kv hi (by simp) hkv ?_
      rw [hk1]
      have hw0 := write_full (M := M1.push (.cells [.int .i64 0, .int .i64 0] false)) (b := M1.next) (vs := stC (ks.getD i (0, 0))) (Mem.get_push_same _ _) rfl rfl
      have hrd2 : rdCells (stC (ks.getD i (0, 0))) 0 2 = some (stC (ks.getD i (0, 0))) := rfl
      simp -dsimp only [↓x_seq', ↓x_ops, ↓x_skip, ↓x_ret, ↓x_exit, ↓x_block', ↓x_cond', cond_true', cond_false', ↓i_nil, ↓i_plain, ↓i_guard, xs_val, xs_call, xs_yield, xg_true, xg_false, ↓n_normal, ↓n_ret, ↓n_exit, ↓b_normal, ↓b_ret, ↓b_exit, ↓xe_normal, ↓xe_ret, e_some, yieldOf, go_sem, ↓reduceIte, Nat.reduceEqDiff, Nat.reduceLT, Nat.reduceSub, X_maps_Keys_Stamp_Spot_c1_0, X_maps_Keys_Stamp_Spot_c1_1, X_maps_Keys_Stamp_Spot_c1_2, X_maps_Keys_Stamp_Spot_c1_3, h0, List.getElem?_cons_zero, vstore, V.cells, stC_len, hw0, vload, Mem.read, Mem.get_set_same, hrd2, Nat.reduceEqDiff]
      have hJ2 := hps _ _ (.cells [.int .i64 0, .int .i64 0] false) (.cells (stC (ks.getD i (0, 0))) false) hJ1
      have hti : pre.length < ks.length := by
        have h1 := hC.perm.length_eq
        have h2 : rest.length = f + 1 := hf
        rw [hC.pre_, List.length_map]
        simp at h1
        omega
      refine xyield_of (hY _ (ks.getD i (0, 0)) _ hJ2 hti) ?_
      have hit2 : ((M1.push (.cells [.int .i64 0, .int .i64 0] false)).set M1.next (.cells (stC (ks.getD i (0, 0))) false)).get it = some (.mapIter (some bm) clock (seen.push e.born) clock) := by
        rw [Mem.get_set_ne _ _ (by omega), Mem.get_push_ne _ _ (by omega)]; exact hit1
      rintro v M2 (⟨rfl, hJ3, hn3, hk3⟩ | ⟨rfl, hJ3⟩)
      · simp -dsimp only [↓x_seq', ↓x_ops, ↓x_skip, ↓x_ret, ↓x_exit, ↓x_block', ↓x_cond', cond_true', cond_false', ↓i_nil, ↓i_plain, ↓i_guard, xs_val, xs_call, xs_yield, xg_true, xg_false, ↓n_normal, ↓n_ret, ↓n_exit, ↓b_normal, ↓b_ret, ↓b_exit, ↓xe_normal, ↓xe_ret, e_some, yieldOf, go_sem, ↓reduceIte, Nat.reduceEqDiff, Nat.reduceLT, Nat.reduceSub, X_maps_Keys_Stamp_Spot_c1_0, X_maps_Keys_Stamp_Spot_c1_1, X_maps_Keys_Stamp_Spot_c1_2, X_maps_Keys_Stamp_Spot_c1_3]
        have hnn : ((M1.push (.cells [.int .i64 0, .int .i64 0] false)).set M1.next (.cells (stC (ks.getD i (0, 0))) false)).next = M1.next + 1 := rfl
        rw [hnn] at hn3 hk3
        refine ih (idx ++ [i]) (rest.erase i) (seen.push e.born) _ _ M2 (by rw [List.length_erase_of_mem hir]; omega) hC' hJ3 (by omega) ((hk3 it (by omega) ⟨_, _, _, _, hit2⟩).trans hit2) ?_ ?_
        all_goals simp only [go_sem, ↓reduceIte, Nat.reduceEqDiff, Nat.reduceLT, Nat.reduceSub, h0, h5]
      · simp -dsimp only [↓x_seq', ↓x_ops, ↓x_skip, ↓x_ret, ↓x_exit, ↓x_block', ↓x_cond', cond_true', cond_false', ↓i_nil, ↓i_plain, ↓i_guard, xs_val, xs_call, xs_yield, xg_true, xg_false, ↓n_normal, ↓n_ret, ↓n_exit, ↓b_normal, ↓b_ret, ↓b_exit, ↓xe_normal, ↓xe_ret, e_some, yieldOf, go_sem, ↓reduceIte, Nat.reduceEqDiff, Nat.reduceLT, Nat.reduceSub, X_maps_Keys_Stamp_Spot_c1_0, X_maps_Keys_Stamp_Spot_c1_1, X_maps_Keys_Stamp_Spot_c1_2, X_maps_Keys_Stamp_Spot_c1_3]
        exact hQx _ _ _ hJ3
end Go.Am.Tryd


/- slices.SortedFunc of a map's keys, as a part. -/
namespace Go.Am.Tryd
open Go Go.Am Go.Proofs Go.Sort Go.Shelf
set_option maxRecDepth 100000
set_option linter.unusedSimpArgs false
set_option linter.unusedVariables false

theorem Keys_seq (bx bm : Nat) (ro : Bool) (es : List (V × V)) (ents : List MapEntry) (clock : Nat) (ks : List St) (hks : ∀ (i : Nat) (kv : V × V), es[i]? = some kv → kv.1 = V.agg (stC (ks.getD i (0, 0)))) (hl : ents.length = ks.length) (hborn : Born ents clock) :
    SeqX Tryd.prog gl0 F_maps_Keys_Stamp_Spot_c1 [] [.ptr (some (bx, 0))] (fun x => .agg (stC x)) (fun M => M.get bx = some (.cells [.map (some bm)] ro) ∧ M.get bm = some (.rmap es ents clock)) (fun ys => ys.Perm ks) (fun _ => True) ks.length := by
  intro b J Jx M hG hp hps hi hY hJ
  refine XRuns.walk mixed Tryd.func75 b_maps_Keys_Stamp_Spot_c1 n_maps_Keys_Stamp_Spot_c1 r_maps_Keys_Stamp_Spot_c1 (by rfl) ?_
  unfold X_maps_Keys_Stamp_Spot_c1
  obtain ⟨h1, h2⟩ := hG _ _ hJ
  simp -dsimp only [↓x_seq', ↓x_ops, ↓x_skip, ↓x_ret, ↓x_exit, ↓x_block', ↓x_cond', cond_true', cond_false', ↓i_nil, ↓i_plain, ↓i_guard, xs_val, xs_call, xs_yield, xg_true, xg_false, ↓n_normal, ↓n_ret, ↓n_exit, ↓b_normal, ↓b_ret, ↓b_exit, ↓xe_normal, ↓xe_ret, e_some, yieldOf, go_sem, ↓reduceIte, Nat.reduceEqDiff, Nat.reduceLT, Nat.reduceSub, X_maps_Keys_Stamp_Spot_c1_0, X_maps_Keys_Stamp_Spot_c1_1, X_maps_Keys_Stamp_Spot_c1_2, X_maps_Keys_Stamp_Spot_c1_3, Int.lt_irrefl, true_and, and_true, false_and, and_false, and_self, same_two, same_sib, same_spot, vload, vptr, vof, V.cells, Mem.read, rdCells, Mem.get_push, Mem.next_push, Nat.left_eq_add, Nat.add_eq_left, Nat.add_left_cancel_iff, Nat.add_right_cancel_iff, Nat.reduceAdd, Nat.add_zero, Nat.zero_add, Nat.add_assoc, Nat.reduceLeDiff, Nat.reduceBEq, List.length_cons, List.length_nil, List.drop_zero, List.drop_succ_cons, List.take_succ_cons, List.take_zero, List.take_nil, List.drop_nil, List.getElem?_cons_zero, List.getElem?_cons_succ, reduceCtorEq, Nat.succ_ne_self, Nat.one_ne_zero, Nat.le_refl, ne_eq, not_false_eq_true, List.singleton_append, h1]
  refine i_range (b := bm) (clock := clock) (by simp only [go_sem, ↓reduceIte, Nat.reduceEqDiff, Nat.reduceLT, Nat.reduceSub]) h2 ?_
  have hJ1 := hp [] M (.mapIter (some bm) clock #[] clock) hJ
  have hit : (M.push (.mapIter (some bm) clock #[] clock)).get M.next = some (.mapIter (some bm) clock #[] clock) := Mem.get_push_same _ _
  simp -dsimp only [↓x_seq', ↓x_ops, ↓x_skip, ↓x_ret, ↓x_exit, ↓x_block', ↓x_cond', cond_true', cond_false', ↓i_nil, ↓i_plain, ↓i_guard, xs_val, xs_call, xs_yield, xg_true, xg_false, ↓n_normal, ↓n_ret, ↓n_exit, ↓b_normal, ↓b_ret, ↓b_exit, ↓xe_normal, ↓xe_ret, e_some, yieldOf, go_sem, ↓reduceIte, Nat.reduceEqDiff, Nat.reduceLT, Nat.reduceSub]
  refine ⟨ks.length + 1, Keys_loop b bx bm M.next ro es ents clock ks hks hl hborn J Jx M hG hps (Nat.le_refl _) hi hY _ ?_ ?_ ks.length [] (List.range ks.length) #[] [] _ _ (by simp) ⟨by simp, rfl, rfl⟩ hJ1 (by simp) hit ?_ ?_⟩
  · intro fr M' xs hx h
    simp -dsimp only [↓x_seq', ↓x_ops, ↓x_skip, ↓x_ret, ↓x_exit, ↓x_block', ↓x_cond', cond_true', cond_false', ↓i_nil, ↓i_plain, ↓i_guard, xs_val, xs_call, xs_yield, xg_true, xg_false, ↓n_normal, ↓n_ret, ↓n_exit, ↓b_normal, ↓b_ret, ↓b_exit, ↓xe_normal, ↓xe_ret, e_some, yieldOf, go_sem, ↓reduceIte, Nat.reduceEqDiff, Nat.reduceLT, Nat.reduceSub]
    exact .inl ⟨xs, hx, h⟩
  · intro pre fr M' h
    simp -dsimp only [↓x_seq', ↓x_ops, ↓x_skip, ↓x_ret, ↓x_exit, ↓x_block', ↓x_cond', cond_true', cond_false', ↓i_nil, ↓i_plain, ↓i_guard, xs_val, xs_call, xs_yield, xg_true, xg_false, ↓n_normal, ↓n_ret, ↓n_exit, ↓b_normal, ↓b_ret, ↓b_exit, ↓xe_normal, ↓xe_ret, e_some, yieldOf, go_sem, ↓reduceIte, Nat.reduceEqDiff, Nat.reduceLT, Nat.reduceSub]
    exact .inr ⟨pre, trivial, h⟩
  all_goals simp only [go_sem, ↓reduceIte, Nat.reduceEqDiff, Nat.reduceLT, Nat.reduceSub]

theorem SortFunc_hold {lo : Nat} {M : Mem} {s : V} {xs : List St} (h : Hold lo M 2 s xs.length (elSt.all xs)) (hn : xs.length ≤ maxRoom) :
    Runs D1 F_slices_SortFunc_Stamp [s, .fn F_stamp_Compare [] []] M fun v M' => Hold lo M' 2 s xs.length (elSt.all (isort ltSt xs)) ∧ (∀ c, c < lo → M'.get c = M.get c) := by
  have hd := elSt.decs_all xs
  have hl := elSt.all_len (isort ltSt xs)
  rw [isort_len] at hl
  generalize hq : xs.length = n at *
  generalize hc : elSt.all xs = cs at *
  cases h with
  | nil =>
    have : xs = [] := List.eq_nil_of_length_eq_zero hq
    subst this
    exact Runs.prim rfl rfl ⟨.nil, fun _ _ => rfl⟩
  | row h1 h2 h3 h4 =>
    rename_i b
    refine Runs.prim (v := .tup []) (M' := M.set b (.cells (elSt.all (isort ltSt xs)) false)) rfl ?_ ⟨.row (Mem.get_set_same _ _ _) hl h3 (by simpa using h4), fun c hc => Mem.get_set_ne _ _ (by omega)⟩
    simp only [sortP, Nat.beq_refl, cond_true, ble_iff, decide_eq_true hn, h1, hd, Option.map_some]

theorem SortedFunc_runs {f : FuncId} {first captured : List V} {G : Mem → Prop} {S Sp : List St → Prop} {N : Nat} (hseq : SeqP f first captured (fun x => .agg (stC x)) G S Sp N) (hN : (N + 1) * 16 ≤ maxRoom) (hS : ∀ xs, S xs → xs.length ≤ maxRoom) (M : Mem)
    (hG : ∀ M', (∀ c, c < M.next → M'.get c = M.get c) → M.next ≤ M'.next → G M') :
    XP F_slices_SortedFunc_Stamp [.fn f first captured, .fn F_stamp_Compare [] []] M fun v M' => ∃ xs, S xs ∧ (∀ c, c < M.next → M'.get c = M.get c) ∧ Hold M.next M' 2 v xs.length (elSt.all (isort ltSt xs)) ∧ (xs = [] → v = .slice none 0 (.exact 0)) := by
  refine XRuns.walk mixed Tryd.func45 b_slices_SortedFunc_Stamp n_slices_SortedFunc_Stamp r_slices_SortedFunc_Stamp (by rfl) ?_
  unfold X_slices_SortedFunc_Stamp
  simp -dsimp only [↓x_seq', ↓x_ops, ↓x_skip, ↓x_ret, ↓x_exit, ↓x_block', ↓x_cond', cond_true', cond_false', ↓i_nil, ↓i_plain, ↓i_guard, xs_val, xs_call, xs_yield, xg_true, xg_false, ↓n_normal, ↓n_ret, ↓n_exit, ↓b_normal, ↓b_ret, ↓b_exit, ↓xe_normal, ↓xe_ret, e_some, yieldOf, go_sem, ↓reduceIte, Nat.reduceEqDiff, Nat.reduceLT, Nat.reduceSub, X_slices_SortedFunc_Stamp_0, X_slices_SortedFunc_Stamp_1, X_slices_SortedFunc_Stamp_2, X_slices_SortedFunc_Stamp_3, Int.lt_irrefl, true_and, and_true, false_and, and_false, and_self, same_two, same_sib, same_spot, vload, vptr, vof, V.cells, Mem.read, rdCells, Mem.get_push, Mem.next_push, Nat.left_eq_add, Nat.add_eq_left, Nat.add_left_cancel_iff, Nat.add_right_cancel_iff, Nat.reduceAdd, Nat.add_zero, Nat.zero_add, Nat.add_assoc, Nat.reduceLeDiff, Nat.reduceBEq, List.length_cons, List.length_nil, List.drop_zero, List.drop_succ_cons, List.take_succ_cons, List.take_zero, List.take_nil, List.drop_nil, List.getElem?_cons_zero, List.getElem?_cons_succ, reduceCtorEq, Nat.succ_ne_self, Nat.one_ne_zero, Nat.le_refl, ne_eq, not_false_eq_true]
  refine xcall_of (Collect_runs hseq hN M hG) ?_
  rintro v M1 ⟨xs, h1, h2, h3, h6⟩
  simp -dsimp only [↓x_seq', ↓x_ops, ↓x_skip, ↓x_ret, ↓x_exit, ↓x_block', ↓x_cond', cond_true', cond_false', ↓i_nil, ↓i_plain, ↓i_guard, xs_val, xs_call, xs_yield, xg_true, xg_false, ↓n_normal, ↓n_ret, ↓n_exit, ↓b_normal, ↓b_ret, ↓b_exit, ↓xe_normal, ↓xe_ret, e_some, yieldOf, go_sem, ↓reduceIte, Nat.reduceEqDiff, Nat.reduceLT, Nat.reduceSub, X_slices_SortedFunc_Stamp_0, X_slices_SortedFunc_Stamp_1, X_slices_SortedFunc_Stamp_2, X_slices_SortedFunc_Stamp_3, Int.lt_irrefl, true_and, and_true, false_and, and_false, and_self, same_two, same_sib, same_spot, vload, vptr, vof, V.cells, Mem.read, rdCells, Mem.get_push, Mem.next_push, Nat.left_eq_add, Nat.add_eq_left, Nat.add_left_cancel_iff, Nat.add_right_cancel_iff, Nat.reduceAdd, Nat.add_zero, Nat.zero_add, Nat.add_assoc, Nat.reduceLeDiff, Nat.reduceBEq, List.length_cons, List.length_nil, List.drop_zero, List.drop_succ_cons, List.take_succ_cons, List.take_zero, List.take_nil, List.drop_nil, List.getElem?_cons_zero, List.getElem?_cons_succ, reduceCtorEq, Nat.succ_ne_self, Nat.one_ne_zero, Nat.le_refl, ne_eq, not_false_eq_true]
  refine xcall_of (XRuns.of_runs dok1 (SortFunc_hold h3 (hS xs h1))) ?_
  rintro v2 M2 ⟨h4, h5⟩
  simp -dsimp only [↓x_seq', ↓x_ops, ↓x_skip, ↓x_ret, ↓x_exit, ↓x_block', ↓x_cond', cond_true', cond_false', ↓i_nil, ↓i_plain, ↓i_guard, xs_val, xs_call, xs_yield, xg_true, xg_false, ↓n_normal, ↓n_ret, ↓n_exit, ↓b_normal, ↓b_ret, ↓b_exit, ↓xe_normal, ↓xe_ret, e_some, yieldOf, go_sem, ↓reduceIte, Nat.reduceEqDiff, Nat.reduceLT, Nat.reduceSub, X_slices_SortedFunc_Stamp_0, X_slices_SortedFunc_Stamp_1, X_slices_SortedFunc_Stamp_2, X_slices_SortedFunc_Stamp_3, Int.lt_irrefl, true_and, and_true, false_and, and_false, and_self, same_two, same_sib, same_spot, vload, vptr, vof, V.cells, Mem.read, rdCells, Mem.get_push, Mem.next_push, Nat.left_eq_add, Nat.add_eq_left, Nat.add_left_cancel_iff, Nat.add_right_cancel_iff, Nat.reduceAdd, Nat.add_zero, Nat.zero_add, Nat.add_assoc, Nat.reduceLeDiff, Nat.reduceBEq, List.length_cons, List.length_nil, List.drop_zero, List.drop_succ_cons, List.take_succ_cons, List.take_zero, List.take_nil, List.drop_nil, List.getElem?_cons_zero, List.getElem?_cons_succ, reduceCtorEq, Nat.succ_ne_self, Nat.one_ne_zero, Nat.le_refl, ne_eq, not_false_eq_true]
  exact ⟨xs, h1, fun c hc => (h5 c hc).trans (h2 c hc), h4, h6⟩


theorem sorted_unique : ∀ {l l' : List St}, l.Pairwise (fun a b => ltSt b a = false) → l'.Pairwise (fun a b => ltSt b a = false) → l.Perm l' → l = l'
  | [], l', _, _, hp => hp.nil_eq
  | a :: l, [], _, _, hp => absurd hp.length_eq (by simp)
  | a :: l, b :: l', h, h', hp => by
    have hab : a = b := by
      have ha : a ∈ b :: l' := hp.mem_iff.mp (List.mem_cons_self ..)
      have hb : b ∈ a :: l := hp.mem_iff.mpr (List.mem_cons_self ..)
      rcases List.mem_cons.mp ha with e | ha
      · exact e
      rcases List.mem_cons.mp hb with e | hb
      · exact e.symm
      exact tot_St _ _ ((List.pairwise_cons.mp h').1 a ha) ((List.pairwise_cons.mp h).1 b hb)
    subst hab
    rw [sorted_unique (List.pairwise_cons.mp h).2 (List.pairwise_cons.mp h').2 (List.Perm.cons_inv hp)]
theorem isort_perm_eq {l l' : List St} (h : l.Perm l') : isort ltSt l = isort ltSt l' :=
  sorted_unique (isort_sorted swo_St l) (isort_sorted swo_St l') (((isort_perm ltSt l).trans h).trans (isort_perm ltSt l').symm)

/-- A map's keys, as stamps. -/
def keysOf : List (V × V) → Option (List St)
  | [] => some []
  | (.agg [.int .i64 a, .int .i64 b], _) :: r => (keysOf r).map ((a, b) :: ·)
  | _ :: _ => none
theorem keysOf_is : ∀ {es : List (V × V)} {ks : List St}, keysOf es = some ks → ks.length = es.length ∧ ∀ (i : Nat) (kv : V × V), es[i]? = some kv → kv.1 = V.agg (stC (ks.getD i (0, 0)))
  | [], ks, h => by
    cases h
    exact ⟨rfl, fun i kv h => by simp at h⟩
  | x :: r, ks, h => by
    unfold keysOf at h
    split at h
    · rename_i h'; cases h'
    · rename_i a b v r' he
      cases he
      simp only [Option.map_eq_some_iff] at h
      obtain ⟨ks', h1, rfl⟩ := h
      obtain ⟨h2, h3⟩ := keysOf_is h1
      refine ⟨by simp [h2], fun i kv hi => ?_⟩
      cases i with
      | zero => simp at hi; subst hi; rfl
      | succ i =>
        simp only [List.getElem?_cons_succ] at hi
        have := h3 i kv hi
        rw [this]
        simp [List.getD_eq_getElem?_getD]
    · cases h

/-- What a map's keys come to, sorted. -/
def pSortedK (args : List V) (M : Mem) : Option KeepR :=
  match args with
  | [.fn f1 [] [.ptr (some (bx, 0))], .fn f2 [] []] => cond (Nat.beq f1 F_maps_Keys_Stamp_Spot_c1) (cond (Nat.beq f2 F_stamp_Compare) (match M.get bx with
    | some (.cells [.map (some bm)] _) => (match M.get bm with
      | some (.map es) => (keysOf es).bind fun ks => cond (Nat.ble ((ks.length + 1) * 16) maxRoom) (some (match ks with
        | [] => .flat (.slice none 0 (.exact 0))
        | x :: xs => .row (xs.length + 1) 2 (elSt.all (isort ltSt (x :: xs))))) none
      | _ => none)
    | _ => none) none) none
  | _ => none
end Go.Am.Tryd


/- The keys sorted, as a part of the machine. -/
namespace Go.Am.Tryd
open Go Go.Am Go.Proofs Go.Sort Go.Shelf
set_option maxRecDepth 100000
set_option linter.unusedSimpArgs false
set_option linter.unusedVariables false

theorem pSortedK_ok : CallOK Tryd.prog gl0 fun f' args M => if f' = F_slices_SortedFunc_Stamp then (pSortedK args M).map fun r => r.res M else none := by
  refine callOK_keep ⟨_, Tryd.func45, (by kernel_rfl), (by kernel_rfl)⟩ ?_
  intro args M r h hwf
  unfold pSortedK at h
  split at h
  · rename_i f1 bx f2
    obtain ⟨e1, h1⟩ := cond_some h
    clear h
    obtain ⟨e2, h⟩ := cond_some h1
    clear h1
    obtain rfl : f1 = F_maps_Keys_Stamp_Spot_c1 := Nat.eq_of_beq_eq_true e1
    obtain rfl : f2 = F_stamp_Compare := Nat.eq_of_beq_eq_true e2
    split at h
    · rename_i bm ro hbx
      split at h
      · rename_i es hbm
        simp only [Option.bind_eq_some_iff] at h
        obtain ⟨ks, hks, h⟩ := h
        obtain ⟨hl, h⟩ := cond_some h
        rw [ble_iff, decide_eq_true_eq] at hl
        obtain ⟨hlen, hkey⟩ := keysOf_is hks
        have hne : bx ≠ bm := by rintro rfl; rw [hbx] at hbm; cases hbm
        refine ⟨[bm], fun E w us hR hA b hb => ?_, fun Mz hz => ?_⟩
        · simp only [List.mem_singleton] at hb
          subst hb
          refine ⟨⟨es, hbm⟩, ?_⟩
          cases hA with
          | cons h1 t =>
            cases h1 with
            | fn ha hb =>
              rename_i b'
              generalize hq : b'.toList = q at hb
              cases hb with
              | cons h2 t2 =>
                cases h2 with
                | ptr hE =>
                  obtain ⟨o, ho, hr⟩ := hR.at_ _ _ _ _ hE
                  rw [hbx] at ho
                  cases ho
                  obtain ⟨arr, elem, fz, hx, hCR, _⟩ := hr
                  obtain ⟨u, hu, hv⟩ := hCR 0 _ rfl
                  cases hv with
                  | map hE2 => exact ⟨_, hE2⟩
        · obtain ⟨es', ents, clock, hz1, hz2, hz3, hz4⟩ := hz.at_ bm (by simp)
          rw [hbm] at hz1
          cases hz1
          have hlt : ∀ c o, Mz.get c = some o → c < Mz.next := fun c o hc => by
            rcases Nat.lt_or_ge c Mz.next with h1 | h1
            · exact h1
            · by_cases hcb : c = bm
              · subst hcb
                rw [hwf c (by rw [← hz.next]; exact h1)] at hbm; cases hbm
              · rw [hz.other c (by simpa using hcb), hwf c (by rw [← hz.next]; exact h1)] at hc; cases hc
          have hbz : Mz.get bx = some (.cells [.map (some bm)] ro) := (hz.other bx (by simpa using hne)).trans hbx
          have hle : ks.length ≤ maxRoom := Nat.le_trans (by omega) hl
          refine (SortedFunc_runs (SeqP.of (Keys_seq bx bm ro es ents clock ks hkey (by omega) hz4)) hl (fun ys h => by rw [h.length_eq]; exact hle) Mz ?_).mono ?_
          · intro M' hk _
            exact ⟨(hk bx (hlt _ _ hbz)).trans hbz, (hk bm (hlt _ _ hz2)).trans hz2⟩
          · rintro v M' ⟨ys, hp, h1, h2, h6⟩
            rw [isort_perm_eq hp, hp.length_eq] at h2
            cases h
            refine ⟨fun c hc => h1 c (by rw [hz.next]; exact hc), ?_⟩
            cases hx : ks with
            | nil =>
              subst hx
              exact ⟨rfl, h6 (List.Perm.eq_nil hp)⟩
            | cons x l =>
              subst hx
              refine ⟨elSt.all_flat _, ?_⟩
              generalize hq : elSt.all (isort ltSt (x :: l)) = cs at h2
              generalize hn : (x :: l).length = n at h2
              cases h2 with
              | nil => simp at hn
              | row a b c d => exact ⟨_, by rw [← hz.next]; exact c, by rw [← hn]; rfl, a⟩
      · cases h
    · cases h
  · cases h

def D1t : Decls := D1.addM F_slices_SortedFunc_Stamp (fun args M => (pSortedK args M).map fun r => r.res M)
theorem dok1t : DOK Tryd.prog gl0 D1t := dok1.addM pSortedK_ok
end Go.Am.Tryd


/- Nodes' spots in a map; what stands above. -/
namespace Go.Am.Tryd
open Go Go.Am Go.Proofs Go.Sort Go.Shelf
set_option maxRecDepth 100000
set_option linter.unusedSimpArgs false
set_option linter.unusedVariables false

abbrev Spot := St × List UInt8
def spC (s : Spot) : List V := [.int .i64 s.1.1, .int .i64 s.1.2, .str s.2]
def sp0 : Spot := ((0, 0), [])
/-- A tree's map. -/
abbrev Tr := List (St × Spot)
def encM (l : Tr) : List (V × V) := l.map fun p => (.agg (stC p.1), .agg (spC p.2))
def getS : Tr → St → Option Spot
  | [], _ => none
  | p :: r, k => if k = p.1 then some p.2 else getS r k
def idxS : Tr → St → Option Nat
  | [], _ => none
  | p :: r, k => if k = p.1 then some 0 else (idxS r k).map (· + 1)

theorem st_same (a b : St) : vsame ⟨true, [.int .i64, .int .i64]⟩ (.agg (stC a)) (.agg (stC b)) = some (decide (a = b)) := by
  obtain ⟨a1, a2⟩ := a
  obtain ⟨b1, b2⟩ := b
  simp only [stC]
  rw [same_two]
  simp [Prod.ext_iff]

theorem mapIdx_is (k : St) : ∀ l : Tr, mapIdx ⟨true, [.int .i64, .int .i64]⟩ (.agg (stC k)) (encM l) = some (idxS l k)
  | [] => rfl
  | p :: r => by
    show (match vsame _ (.agg (stC k)) (.agg (stC p.1)) with | some true => _ | some false => _ | none => _) = _
    rw [st_same]
    unfold idxS
    by_cases h : k = p.1
    · simp only [h, decide_true, if_true]
    · simp only [h, decide_false, if_false]
      have := mapIdx_is k r
      unfold encM at this
      rw [this]
      rfl
theorem idx_get (k : St) : ∀ l : Tr, ((idxS l k).bind fun i => (encM l)[i]?.map (·.2)) = (getS l k).map fun s => .agg (spC s)
  | [] => rfl
  | p :: r => by
    unfold idxS getS
    by_cases h : k = p.1
    · simp only [h, if_true]; rfl
    · simp only [h, if_false]
      rw [← idx_get k r]
      cases idxS r k <;> rfl

/-- What a look tells. -/
def lookV (o : Option Spot) : V := match o with
  | some s => .tup [.agg (spC s), .bool true]
  | none => .tup [.agg (spC sp0), .bool false]
theorem look_is {M : Mem} {b : Nat} {l : Tr} (h : mapAt M b = some (encM l)) (k : St) : vlookup ⟨true, [.int .i64, .int .i64]⟩ (.agg [.int .i64 0, .int .i64 0, .str []]) true M (.map (some b)) (.agg (stC k)) = some (lookV (getS l k)) := by
  have hok : Sh.ok ⟨true, [.int .i64, .int .i64]⟩ (.agg (stC k)) = true := rfl
  simp only [vlookup, h, Option.bind_some, hok, cond_true, mapIdx_is, Option.map_some, idx_get]
  cases getS l k <;> rfl

def upL (l : Tr) : Nat → St → Option (List St)
  | 0, _ => none
  | f + 1, n => match getS l n with
    | none => some []
    | some s => (upL l f s.1).map (s.1 :: ·)

theorem x_dops {P : Program} {gl : Nat → Bool} {n : Nat} {fr : Fr} {M : Mem} {Q : XQ} {D : Decls} (hD : DOK P gl D) {l : List Item} {q : Tg Q} (h : W D n (.ops l) fr M (Q := Q) ⟨⟩) : xw P gl n (.dops l) false fr M q := by
  obtain ⟨k, e, fr', M', hx, hq⟩ := h
  show WX P gl n (.dops l) false fr M Q
  simp only [exec, Option.map_eq_some_iff] at hx
  obtain ⟨⟨f2, m2⟩, h1, h2⟩ := hx
  cases h2
  exact ⟨rfl, callN D k, _, _, callN_sound hD k, h1, hq⟩
end Go.Am.Tryd


/- What stands above a node, handed on. -/
namespace Go.Am.Tryd
open Go Go.Am Go.Proofs Go.Sort Go.Shelf
set_option maxRecDepth 100000
set_option linter.unusedSimpArgs false
set_option linter.unusedVariables false

def PathN (l : Tr) (n : St) (r : List St) : Prop := ∃ f, upL l f n = some r
def PathO (l : Tr) : Option Spot → List St → Prop
  | none, ys => ys = []
  | some s, ys => ∃ r, ys = s.1 :: r ∧ PathN l s.1 r
theorem PathN.look {l : Tr} {n : St} {r : List St} (h : PathN l n r) : PathO l (getS l n) r := by
  obtain ⟨f, h⟩ := h
  cases f with
  | zero => cases h
  | succ f =>
    unfold upL at h
    cases hg : getS l n with
    | none => rw [hg] at h; cases h; rfl
    | some s =>
      rw [hg] at h
      simp only [Option.map_eq_some_iff] at h
      obtain ⟨r', h1, rfl⟩ := h
      exact ⟨r', rfl, f, h1⟩

theorem spC_len (s : Spot) : (spC s).length = 3 := rfl
theorem lookV_parts (o : Option Spot) : lookV o = .tup [.agg (spC (o.getD sp0)), .bool o.isSome] := by cases o <;> rfl

set_option maxHeartbeats 1000000 in
theorem Up_loop (b bt tc bm : Nat) (rt rc : Bool) (l : Tr) (N : Nat) (J Jx : List St → Mem → Prop) (M0 : Mem) (path : List St)
    (hG : ∀ pre M, J pre M → M.get bt = some (.cells [.ptr (some (tc, 0))] rt) ∧ M.get tc = some (.cells [.map (some bm)] rc) ∧ mapAt M bm = some (encM l))
    (hps : ∀ pre M o o', J pre M → J pre ((M.push o).set M.next o'))
    (hsp : ∀ pre M' c x y t, J pre M' → M0.next ≤ c → isSpot M' c → J pre (M'.set c (.cells [.int .i64 x, .int .i64 y, .str t] false)))
    (hY : ∀ pre x M', J pre M' → pre.length < N → XYield Tryd.prog gl0 b [.agg (stC x)] M' fun v M'' => (v = .bool true ∧ J (pre ++ [x]) M'' ∧ M'.next ≤ M''.next ∧ (∀ c, c < M'.next → isIter M' c → M''.get c = M'.get c) ∧ ∀ c, M0.next ≤ c → c < M'.next → isSpot M' c → M''.get c = M'.get c) ∨ (v = .bool false ∧ Jx (pre ++ [x]) M''))
    (Q : XQ) (hQ : ∀ fr M, J path M → Q (.exit 0) fr M) (hQx : ∀ pre fr M, pre <+: path → Jx pre M → Q .ret fr M) :
    ∀ (ys pre : List St) (os : Option Spot) (c4 : Nat) (fr : Fr) (M : Mem), PathO l os ys → pre ++ ys = path → path.length ≤ N → J pre M → M0.next ≤ M.next → M0.next ≤ c4 → c4 < M.next → M.get c4 = some (.cells (spC (os.getD sp0)) false) →
      fr.rd 0 = .yld b → fr.rd 1 = .ptr (some (bt, 0)) → fr.rd 4 = .ptr (some (c4, 0)) → fr.rd 5 = .bool os.isSome → roundsX (WX Tryd.prog gl0 32 X_tree_Tree_up_c1_6 false) (ys.length + 1) fr M Q := by
  intro ys
  induction ys with
  | nil =>
    intro pre os c4 fr M hp hpre hN hJ hMn hc0 hc1 hc h0 h1 h4 h5
    have ho : os = none := by
      cases os with
      | none => rfl
      | some s => obtain ⟨r, e, _⟩ := hp; cases e
    subst ho
    rw [rounds_x_succ]
    refine xw_of ?_
    unfold X_tree_Tree_up_c1_6
    simp only [Option.isSome_none] at h5
    simp -dsimp only [↓x_seq', ↓x_ops, ↓x_skip, ↓x_ret, ↓x_exit, ↓x_block', ↓x_cond', cond_true', cond_false', ↓i_nil, ↓i_plain, ↓i_guard, xs_val, xs_call, xs_yield, xg_true, xg_false, ↓n_normal, ↓n_ret, ↓n_exit, ↓b_normal, ↓b_ret, ↓b_exit, ↓xe_normal, ↓xe_ret, e_some, yieldOf, go_sem, ↓reduceIte, Nat.reduceEqDiff, Nat.reduceLT, Nat.reduceSub, X_tree_Tree_up_c1_0, X_tree_Tree_up_c1_1, X_tree_Tree_up_c1_2, X_tree_Tree_up_c1_3, X_tree_Tree_up_c1_4, X_tree_Tree_up_c1_5, h5]
    rw [List.append_nil] at hpre
    subst hpre
    exact hQ _ _ hJ
  | cons y r ih =>
    intro pre os c4 fr M hp hpre hN hJ hMn hc0 hc1 hc h0 h1 h4 h5
    obtain ⟨s, rfl⟩ : ∃ s, os = some s := by
      cases os with
      | none => cases hp
      | some s => exact ⟨s, rfl⟩
    obtain ⟨r', e, hpath⟩ := hp
    cases e
    simp only [Option.isSome_some] at h5
    simp only [Option.getD_some] at hc
    rw [rounds_x_succ]
    refine xw_of ?_
    unfold X_tree_Tree_up_c1_6
    have hrd2 : rdCells (spC s) 0 2 = some (stC s.1) := rfl
    have hrd3 : rdCells (spC s) 0 3 = some (spC s) := rfl
    simp -dsimp only [↓x_seq', ↓x_ops, ↓x_skip, ↓x_ret, ↓x_exit, ↓x_block', ↓x_cond', cond_true', cond_false', ↓i_nil, ↓i_plain, ↓i_guard, xs_val, xs_call, xs_yield, xg_true, xg_false, ↓n_normal, ↓n_ret, ↓n_exit, ↓b_normal, ↓b_ret, ↓b_exit, ↓xe_normal, ↓xe_ret, e_some, yieldOf, go_sem, ↓reduceIte, Nat.reduceEqDiff, Nat.reduceLT, Nat.reduceSub, X_tree_Tree_up_c1_0, X_tree_Tree_up_c1_1, X_tree_Tree_up_c1_2, X_tree_Tree_up_c1_3, X_tree_Tree_up_c1_4, X_tree_Tree_up_c1_5, h0, h4, h5, vload, vptr, Mem.read, hc, hrd2, Nat.add_zero]
    have hlen : pre.length < N := by
      have := congrArg List.length hpre
      simp at this
      omega
    refine xyield_of (hY pre s.1 M hJ hlen) ?_
    rintro v M2 (⟨rfl, hJ2, hn2, _, hk2⟩ | ⟨rfl, hJ2⟩)
    · have hc2 : M2.get c4 = some (.cells (spC s) false) := (hk2 c4 hc0 hc1 ⟨_, _, _, hc⟩).trans hc
      have hw0 := write_full (M := M2.push (.cells [.int .i64 0, .int .i64 0, .str []] false)) (b := M2.next) (vs := spC s) (Mem.get_push_same _ _) rfl rfl
      simp -dsimp only [↓x_seq', ↓x_ops, ↓x_skip, ↓x_ret, ↓x_exit, ↓x_block', ↓x_cond', cond_true', cond_false', ↓i_nil, ↓i_plain, ↓i_guard, xs_val, xs_call, xs_yield, xg_true, xg_false, ↓n_normal, ↓n_ret, ↓n_exit, ↓b_normal, ↓b_ret, ↓b_exit, ↓xe_normal, ↓xe_ret, e_some, yieldOf, go_sem, ↓reduceIte, Nat.reduceEqDiff, Nat.reduceLT, Nat.reduceSub, X_tree_Tree_up_c1_0, X_tree_Tree_up_c1_1, X_tree_Tree_up_c1_2, X_tree_Tree_up_c1_3, X_tree_Tree_up_c1_4, X_tree_Tree_up_c1_5, h4, vload, vptr, Mem.read, hc2, hrd3, Nat.add_zero, vstore, V.cells, spC_len, hw0, Nat.reduceEqDiff]
      have hJ3 := hps _ _ (.cells [.int .i64 0, .int .i64 0, .str []] false) (.cells (spC s) false) hJ2
      have hc3 : ((M2.push (.cells [.int .i64 0, .int .i64 0, .str []] false)).set M2.next (.cells (spC s) false)).get M2.next = some (.cells (spC s) false) := Mem.get_set_same _ _ _
      have hn3 : ((M2.push (.cells [.int .i64 0, .int .i64 0, .str []] false)).set M2.next (.cells (spC s) false)).next = M2.next + 1 := rfl
      generalize (M2.push (.cells [.int .i64 0, .int .i64 0, .str []] false)).set M2.next (.cells (spC s) false) = M3 at *
      obtain ⟨g1, g2, g3⟩ := hG _ _ hJ3
      refine x_dops dok0 ?_
      have hlk := look_is g3 s.1
      have hw3 := write_full (M := M3) (b := M2.next) (vs := spC ((getS l s.1).getD sp0)) hc3 rfl rfl
      have hJ4 : J (pre ++ [s.1]) (M3.set M2.next (.cells (spC ((getS l s.1).getD sp0)) false)) := hsp _ M3 M2.next ((getS l s.1).getD sp0).1.1 ((getS l s.1).getD sp0).1.2 ((getS l s.1).getD sp0).2 hJ3 (by omega) ⟨_, _, _, hc3⟩
      simp -dsimp only [↓w_seq, ↓w_ops, ↓w_skip, ↓w_ret, ↓w_exit, ↓w_scope, ↓w_block, ↓w_cond, cond_true', cond_false', ↓t_nil, ↓t_plain, ↓t_guard, ↓t_gagain, ↓t_again, t_val, t_call, g_true, g_false, ga_true, ga_false, a_val, a_call, ↓n_normal, ↓n_ret, ↓n_exit, ↓b_normal, ↓b_ret, ↓b_exit, ↓e_normal, ↓e_ret, e_some, go_sem, ↓reduceIte, Nat.reduceEqDiff, Nat.reduceLT, Nat.reduceSub, X_tree_Tree_up_c1_0, X_tree_Tree_up_c1_1, X_tree_Tree_up_c1_2, X_tree_Tree_up_c1_3, X_tree_Tree_up_c1_4, X_tree_Tree_up_c1_5, h1, vload, vptr, Mem.read, g1, g2, hc3, hrd2, Nat.add_zero, List.getElem?_cons_zero, List.getElem?_cons_succ, hlk, lookV_parts, vstore, V.cells, spC_len, hw3, Nat.reduceEqDiff]
      have hc4 : (M3.set M2.next (.cells (spC ((getS l s.1).getD sp0)) false)).get M2.next = some (.cells (spC ((getS l s.1).getD sp0)) false) := Mem.get_set_same _ _ _
      have hn4 : (M3.set M2.next (.cells (spC ((getS l s.1).getD sp0)) false)).next = M2.next + 1 := hn3
      generalize M3.set M2.next (.cells (spC ((getS l s.1).getD sp0)) false) = M4 at *
      have q1 : M0.next ≤ M2.next := by omega
      have q2 : M0.next ≤ M4.next := by rw [hn4]; omega
      have q3 : M2.next < M4.next := by rw [hn4]; exact Nat.lt_succ_self _
      have q4 : pre ++ [s.1] ++ r = path := by rw [← hpre]; simp
      have q5 := hpath.look
      clear hw3 hw0 hlk hG hY hsp hps hQ hQx
      have ih' := ih (pre ++ [s.1]) (getS l s.1) M2.next
      have ih2 := fun fr => ih' fr M4 q5 q4 hN hJ4 q2 q1 q3 hc4
      refine ih2 _ ?_ ?_ ?_ ?_
      all_goals simp only [go_sem, ↓reduceIte, Nat.reduceEqDiff, Nat.reduceLT, Nat.reduceSub, h0, h1]
    · simp -dsimp only [↓x_seq', ↓x_ops, ↓x_skip, ↓x_ret, ↓x_exit, ↓x_block', ↓x_cond', cond_true', cond_false', ↓i_nil, ↓i_plain, ↓i_guard, xs_val, xs_call, xs_yield, xg_true, xg_false, ↓n_normal, ↓n_ret, ↓n_exit, ↓b_normal, ↓b_ret, ↓b_exit, ↓xe_normal, ↓xe_ret, e_some, yieldOf, go_sem, ↓reduceIte, Nat.reduceEqDiff, Nat.reduceLT, Nat.reduceSub, X_tree_Tree_up_c1_0, X_tree_Tree_up_c1_1, X_tree_Tree_up_c1_2, X_tree_Tree_up_c1_3, X_tree_Tree_up_c1_4, X_tree_Tree_up_c1_5]
      refine hQx _ _ _ ⟨r, ?_⟩ hJ2
      rw [← hpre]; simp
end Go.Am.Tryd


/- tree.up's function, as one that is ranged over. -/
namespace Go.Am.Tryd
open Go Go.Am Go.Proofs Go.Sort Go.Shelf
set_option maxRecDepth 100000
set_option linter.unusedSimpArgs false
set_option linter.unusedVariables false

set_option maxHeartbeats 1000000 in
theorem Up_seq (bt bn tc bm : Nat) (rt rn rc : Bool) (l : Tr) (n : St) (path : List St) (hp : PathN l n path) :
    SeqP F_tree_Tree_up_c1 [] [.ptr (some (bt, 0)), .ptr (some (bn, 0))] (fun x => .agg (stC x))
      (fun M => (M.get bt = some (.cells [.ptr (some (tc, 0))] rt) ∧ M.get tc = some (.cells [.map (some bm)] rc) ∧ mapAt M bm = some (encM l)) ∧ M.get bn = some (.cells (stC n) rn)) (fun ys => ys = path) (fun pre => pre <+: path) path.length := by
  intro b J Jx M hG hpu hps hi hsp hY hJ
  refine XRuns.walk mixed Tryd.func77 b_tree_Tree_up_c1 n_tree_Tree_up_c1 r_tree_Tree_up_c1 (by rfl) ?_
  unfold X_tree_Tree_up_c1
  obtain ⟨⟨g1, g2, g3⟩, g4⟩ := hG _ _ hJ
  have hlk := look_is g3 n
  have hrd2 : rdCells (stC n) 0 2 = some (stC n) := rfl
  have hw0 := write_full (M := M.push (.cells [.int .i64 0, .int .i64 0, .str []] false)) (b := M.next) (vs := spC ((getS l n).getD sp0)) (Mem.get_push_same _ _) rfl rfl
  simp -dsimp only [↓x_seq', ↓x_ops, ↓x_skip, ↓x_ret, ↓x_exit, ↓x_block', ↓x_cond', cond_true', cond_false', ↓i_nil, ↓i_plain, ↓i_guard, xs_val, xs_call, xs_yield, xg_true, xg_false, ↓n_normal, ↓n_ret, ↓n_exit, ↓b_normal, ↓b_ret, ↓b_exit, ↓xe_normal, ↓xe_ret, e_some, yieldOf, go_sem, ↓reduceIte, Nat.reduceEqDiff, Nat.reduceLT, Nat.reduceSub, List.singleton_append, List.cons_append, List.nil_append]
  refine x_dops dok0 ?_
  simp -dsimp only [↓w_seq, ↓w_ops, ↓w_skip, ↓w_ret, ↓w_exit, ↓w_scope, ↓w_block, ↓w_cond, cond_true', cond_false', ↓t_nil, ↓t_plain, ↓t_guard, ↓t_gagain, ↓t_again, t_val, t_call, g_true, g_false, ga_true, ga_false, a_val, a_call, ↓n_normal, ↓n_ret, ↓n_exit, ↓b_normal, ↓b_ret, ↓b_exit, ↓e_normal, ↓e_ret, e_some, go_sem, ↓reduceIte, Nat.reduceEqDiff, Nat.reduceLT, Nat.reduceSub, X_tree_Tree_up_c1_0, X_tree_Tree_up_c1_1, X_tree_Tree_up_c1_2, X_tree_Tree_up_c1_3, X_tree_Tree_up_c1_4, X_tree_Tree_up_c1_5, vload, vptr, Mem.read, g1, g2, g4, hrd2, Nat.add_zero, List.getElem?_cons_zero, List.getElem?_cons_succ, hlk, lookV_parts, vstore, V.cells, spC_len, hw0, Nat.reduceEqDiff, List.singleton_append, List.cons_append, List.nil_append]
  have hJ1 := hps _ _ (.cells [.int .i64 0, .int .i64 0, .str []] false) (.cells (spC ((getS l n).getD sp0)) false) hJ
  have hc1 : ((M.push (.cells [.int .i64 0, .int .i64 0, .str []] false)).set M.next (.cells (spC ((getS l n).getD sp0)) false)).get M.next = some (.cells (spC ((getS l n).getD sp0)) false) := Mem.get_set_same _ _ _
  have hn1 : ((M.push (.cells [.int .i64 0, .int .i64 0, .str []] false)).set M.next (.cells (spC ((getS l n).getD sp0)) false)).next = M.next + 1 := rfl
  generalize (M.push (.cells [.int .i64 0, .int .i64 0, .str []] false)).set M.next (.cells (spC ((getS l n).getD sp0)) false) = M1 at *
  have q3 : M.next < M1.next := by rw [hn1]; exact Nat.lt_succ_self _
  have q2 : M.next ≤ M1.next := Nat.le_of_lt q3
  have q5 := hp.look
  have hG' : ∀ pre M, J pre M → M.get bt = some (.cells [.ptr (some (tc, 0))] rt) ∧ M.get tc = some (.cells [.map (some bm)] rc) ∧ mapAt M bm = some (encM l) := fun pre M h => (hG pre M h).1
  clear hw0 hlk hpu hi
  simp -dsimp only [↓x_seq', ↓x_ops, ↓x_skip, ↓x_ret, ↓x_exit, ↓x_block', ↓x_cond', cond_true', cond_false', ↓i_nil, ↓i_plain, ↓i_guard, xs_val, xs_call, xs_yield, xg_true, xg_false, ↓n_normal, ↓n_ret, ↓n_exit, ↓b_normal, ↓b_ret, ↓b_exit, ↓xe_normal, ↓xe_ret, e_some, yieldOf, go_sem, ↓reduceIte, Nat.reduceEqDiff, Nat.reduceLT, Nat.reduceSub]
  refine ⟨path.length + 1, ?_⟩
  have key := fun Q hQ hQx => Up_loop b bt tc bm rt rc l path.length J Jx M path hG' hps hsp hY Q hQ hQx path [] (getS l n) M.next
  have key2 := fun Q hQ hQx fr => key Q hQ hQx fr M1 q5 rfl (Nat.le_refl _) hJ1 q2 (Nat.le_refl _) q3 hc1
  refine key2 _ ?_ ?_ _ ?_ ?_ ?_ ?_
  · intro fr M' h
    simp -dsimp only [↓x_seq', ↓x_ops, ↓x_skip, ↓x_ret, ↓x_exit, ↓x_block', ↓x_cond', cond_true', cond_false', ↓i_nil, ↓i_plain, ↓i_guard, xs_val, xs_call, xs_yield, xg_true, xg_false, ↓n_normal, ↓n_ret, ↓n_exit, ↓b_normal, ↓b_ret, ↓b_exit, ↓xe_normal, ↓xe_ret, e_some, yieldOf, go_sem, ↓reduceIte, Nat.reduceEqDiff, Nat.reduceLT, Nat.reduceSub]
    exact .inl ⟨path, rfl, h⟩
  · intro pre fr M' hpre h
    simp -dsimp only [↓x_seq', ↓x_ops, ↓x_skip, ↓x_ret, ↓x_exit, ↓x_block', ↓x_cond', cond_true', cond_false', ↓i_nil, ↓i_plain, ↓i_guard, xs_val, xs_call, xs_yield, xg_true, xg_false, ↓n_normal, ↓n_ret, ↓n_exit, ↓b_normal, ↓b_ret, ↓b_exit, ↓xe_normal, ↓xe_ret, e_some, yieldOf, go_sem, ↓reduceIte, Nat.reduceEqDiff, Nat.reduceLT, Nat.reduceSub]
    exact .inr ⟨pre, hpre, h⟩
  all_goals simp only [go_sem, ↓reduceIte, Nat.reduceEqDiff, Nat.reduceLT, Nat.reduceSub]
end Go.Am.Tryd

