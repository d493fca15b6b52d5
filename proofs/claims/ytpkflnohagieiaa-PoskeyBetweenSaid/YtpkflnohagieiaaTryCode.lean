/- What the machine runs: the code of the functions, written by a program of mine, each tied to the given program by the kernel. -/
import Derived.Test.YtpkflnohagieiaaAmSnd20
import Derived.Test.YtpkflnohagieiaaAmLogic
import Derived.Test.YtpkflnohagieiaaChecked
import Derived.KernelRfl
set_option linter.unusedSimpArgs false
set_option linter.unusedVariables false
namespace Go.Am.Try
open Go Go.Am Go.Proofs
abbrev Row := List Go.Am.Item
abbrev r (t : Nat) : Opd := .tmp t
abbrev i (d : Nat) (op : AOp) : Go.Am.Item := ⟨⟨some d, op, none⟩, []⟩
abbrev i0 (op : AOp) : Go.Am.Item := ⟨⟨none, op, none⟩, []⟩
abbrev g (d : Nat) (op : AOp) (t : Nat) (b : Bool) : Go.Am.Item := ⟨⟨some d, op, some (t, b)⟩, []⟩
abbrev a (d : Nat) (op : AOp) : AOper := ⟨some d, op, none⟩
/-! diorama/dioramalaw04.PoskeyBetween -/
def A3_0 : Row := [i 4 (.mv (.const (.bool false)))]
def A3_1 : Row := [i 10 (.mv (r 0)), i 11 (.mv (r 1)), i 12 (.call (.func 9) [.tmp 10, .tmp 11]), i 9 (.mv (r 12)), i 13 (.extract (r 9) 0), i 14 (.extract (r 9) 1), i 5 (.mv
  (r 13)), i 6 (.mv (r 14))]
def A3_2 : Row := [i 16 (.mv (r 0)), i 17 (.mv (r 1)), i 18 (.call (.func 10) [.tmp 16, .tmp 17]), i 15 (.mv (r 18)), i 19 (.extract (r 15) 0), i 20 (.extract (r 15) 1), i 7
  (.mv (r 19)), i 8 (.mv (r 20))]
def A3_3 : Row := [i 21 (.mv (r 5)), i 22 (.mv (r 7)), i 23 (.bin (.eql) (r 21) (r 22)), i 24 (.mv (r 23)), g 25 (.mv (r 6)) 24 true, g 26 (.call (.func 11) [.tmp 25]) 24
  true, g 27 (.mv (r 8)) 24 true, g 28 (.bin (.eql) (r 26) (r 27)) 24 true, i 29 (.pick (r 24) (r 28) (.const (.bool false))), i 30 (.mv (r 29)), g 31 (.mv (r 0)) 30 true,
  g 32 (.call (.func 12) [.tmp 31]) 30 true, g 33 (.mv (r 0)) 30 true, g 34 (.call (.func 13) [.tmp 33]) 30 true, g 35 (.eq false { agg := false, sk := [.bool] } (r 32) (r
  34)) 30 true, i 36 (.pick (r 30) (r 35) (.const (.bool false))), i 37 (.mv (r 36)), g 38 (.mv (r 0)) 37 true, g 39 (.mv (r 1)) 37 true, g 40 (.call (.func 14) [.tmp 38,
  .tmp 39]) 37 true, g 41 (.mv (r 0)) 37 true, g 42 (.mv (r 1)) 37 true, g 43 (.call (.func 15) [.tmp 41, .tmp 42]) 37 true, g 44 (.bin (.eql) (r 40) (r 43)) 37 true, i 45
  (.pick (r 37) (r 44) (.const (.bool false))), i 46 (.mv (r 45)), g 47 (.call (.func 16) []) 46 true, i 48 (.pick (r 46) (r 47) (.const (.bool false))), i 4 (.mv (r 48))]
/-- diorama/dioramalaw04.PoskeyBetween -/
def A3 : AFunc :=
 ⟨49, [.tmp 4], (.seq (.ops A3_0) (.seq (.ops A3_1) (.seq (.ops A3_2) (.seq (.ops A3_3) .ret))))⟩
/-! diorama/dioramalaw04.PoskeyLies -/
def A4_0 : Row := [i 4 (.mv (.const (.bool false)))]
def A4_1 : Row := [i 9 (.mv (r 0)), i 10 (.mv (r 1)), i 11 (.call (.func 9) [.tmp 9, .tmp 10]), i 8 (.mv (r 11)), i 12 (.extract (r 8) 0), i 13 (.extract (r 8) 1), i 5 (.mv (r
  12)), i 6 (.mv (r 13))]
def A4_2 : Row := [i 14 (.mv (r 0)), i 15 (.bin (.eql) (r 14) (.const (.str []))), i 16 (.mv (r 15)), g 17 (.mv (r 0)) 16 false, g 18 (.call (.func 12) [.tmp 17]) 16 false, i
  19 (.pick (r 16) (.const (.bool true)) (r 18)), i 20 (.mv (r 19)), g 21 (.mv (r 1)) 20 true, g 22 (.bin (.eql) (r 21) (.const (.str []))) 20 true, g 23 (.mv (r 22)) 20
  true, g 24 (.mv (r 1)) 23 false, g 25 (.call (.func 12) [.tmp 24]) 23 false, g 26 (.pick (r 23) (.const (.bool true)) (r 25)) 20 true, i 27 (.pick (r 20) (r 26) (.const
  (.bool false))), i 28 (.mv (r 27)), g 29 (.mv (r 0)) 28 true, g 30 (.bin (.eql) (r 29) (.const (.str []))) 28 true, g 31 (.mv (r 30)) 28 true, g 32 (.mv (r 1)) 31 false,
  g 33 (.bin (.eql) (r 32) (.const (.str []))) 31 false, g 34 (.pick (r 31) (.const (.bool true)) (r 33)) 28 true, g 35 (.mv (r 34)) 28 true, g 36 (.mv (r 0)) 35 false, g
  37 (.mv (r 1)) 35 false, g 38 (.bin (.lss) (r 36) (r 37)) 35 false, g 39 (.pick (r 35) (.const (.bool true)) (r 38)) 28 true, i 40 (.pick (r 28) (r 39) (.const (.bool
  false))), i 7 (.mv (r 40))]
def A4_3 : Row := [i 41 (.mv (r 7)), i 42 (.un (.not) (r 41))]
def A4_4 : Row := [i 43 (.mv (r 5)), i 44 (.bin (.eql) (r 43) (.const (.str []))), i 45 (.mv (r 44)), g 46 (.mv (r 6)) 45 true, g 47 (.call (.func 11) [.tmp 46]) 45 true, g 48
  (.bin (.eql) (r 47) (.const (.int (.i64) 1))) 45 true, i 49 (.pick (r 45) (r 48) (.const (.bool false))), i 50 (.mv (r 49)), g 51 (.call (.func 16) []) 50 true, i 52
  (.pick (r 50) (r 51) (.const (.bool false))), i 4 (.mv (r 52))]
def A4_5 : Row := [i 53 (.mv (r 6)), i 54 (.call (.func 11) [.tmp 53]), i 55 (.bin (.neq) (r 54) (.const (.int (.i64) 0)))]
def A4_6 : Row := [i 56 (.mv (r 5)), i 57 (.bin (.eql) (r 56) (.const (.str []))), i 58 (.mv (r 57)), g 59 (.mv (r 6)) 58 true, g 60 (.call (.func 11) [.tmp 59]) 58 true, g 61
  (.bin (.eql) (r 60) (.const (.int (.i64) 32))) 58 true, i 62 (.pick (r 58) (r 61) (.const (.bool false))), i 63 (.mv (r 62)), g 64 (.mv (r 0)) 63 true, g 65 (.lenStr (r
  64)) 63 true, g 66 (.mv (r 1)) 63 true, g 67 (.lenStr (r 66)) 63 true, g 68 (.max [.tmp 65, .tmp 67]) 63 true, g 69 (.bin (.geq) (r 68) (.const (.int (.i64) 24))) 63
  true, i 70 (.pick (r 63) (r 69) (.const (.bool false))), i 71 (.mv (r 70)), g 72 (.call (.func 16) []) 71 true, i 73 (.pick (r 71) (r 72) (.const (.bool false))), i 4
  (.mv (r 73))]
def A4_7 : Row := [i 74 (.mv (r 5)), i 75 (.call (.func 12) [.tmp 74]), i 76 (.mv (r 75)), g 77 (.mv (r 0)) 76 true, g 78 (.bin (.eql) (r 77) (.const (.str []))) 76 true, g 79
  (.mv (r 78)) 76 true, g 80 (.mv (r 0)) 79 false, g 81 (.mv (r 5)) 79 false, g 82 (.call (.func 14) [.tmp 80, .tmp 81]) 79 false, g 83 (.bin (.eql) (r 82) (.const (.int
  (.i64) (-1)))) 79 false, g 84 (.pick (r 79) (.const (.bool true)) (r 83)) 76 true, i 85 (.pick (r 76) (r 84) (.const (.bool false))), i 86 (.mv (r 85)), g 87 (.mv (r 1))
  86 true, g 88 (.bin (.eql) (r 87) (.const (.str []))) 86 true, g 89 (.mv (r 88)) 86 true, g 90 (.mv (r 5)) 89 false, g 91 (.mv (r 1)) 89 false, g 92 (.call (.func 14)
  [.tmp 90, .tmp 91]) 89 false, g 93 (.bin (.eql) (r 92) (.const (.int (.i64) (-1)))) 89 false, g 94 (.pick (r 89) (.const (.bool true)) (r 93)) 86 true, i 95 (.pick (r
  86) (r 94) (.const (.bool false))), i 96 (.mv (r 95)), g 97 (.mv (r 0)) 96 true, g 98 (.mv (r 5)) 96 true, g 99 (.bin (.lss) (r 97) (r 98)) 96 true, i 100 (.pick (r 96)
  (r 99) (.const (.bool false))), i 101 (.mv (r 100)), g 102 (.mv (r 1)) 101 true, g 103 (.bin (.eql) (r 102) (.const (.str []))) 101 true, g 104 (.mv (r 103)) 101 true, g
  105 (.mv (r 5)) 104 false, g 106 (.mv (r 1)) 104 false, g 107 (.bin (.lss) (r 105) (r 106)) 104 false, g 108 (.pick (r 104) (.const (.bool true)) (r 107)) 101 true, i
  109 (.pick (r 101) (r 108) (.const (.bool false))), i 110 (.mv (r 109)), g 111 (.call (.func 16) []) 110 true, i 112 (.pick (r 110) (r 111) (.const (.bool false))), i 4
  (.mv (r 112))]
/-- diorama/dioramalaw04.PoskeyLies -/
def A4 : AFunc :=
 ⟨113, [.tmp 4], (.seq (.ops A4_0) (.seq (.ops A4_1) (.seq (.ops A4_2) (.seq (.seq (.ops A4_3) (.cond (r 42) (.seq (.ops A4_4) .ret) .skip)) (.seq (.seq (.ops A4_5) (.cond
  (r 55) (.seq (.ops A4_6) .ret) .skip)) (.seq (.ops A4_7) .ret))))))⟩
/-! diorama/dioramalaw04.PoskeyDense -/
def A5_0 : Row := [i 4 (.mv (.const (.bool false)))]
def A5_1 : Row := [i 10 (.mv (r 0)), i 11 (.call (.func 12) [.tmp 10]), i 12 (.un (.not) (r 11)), i 13 (.mv (r 12)), g 14 (.mv (r 0)) 13 false, g 15 (.lenStr (r 14)) 13 false,
  g 16 (.bin (.gtr) (r 15) (.const (.int (.i64) 4))) 13 false, i 17 (.pick (r 13) (.const (.bool true)) (r 16))]
def A5_2 : Row := [i 18 (.call (.func 16) []), i 4 (.mv (r 18))]
def A5_3 : Row := [i 19 (.mv (r 0)), i 5 (.mv (r 19))]
def A5_4 : Row := [i 6 (.mv (.const (.str [])))]
def A5_5 : Row := [i 7 (.mv (.const (.int (.i64) 0)))]
def A5_6 : Row := [i 20 (.mv (r 7)), i 21 (.bin (.lss) (r 20) (.const (.int (.i64) 20)))]
def A5_7 : Row := [i 25 (.mv (r 5)), i 26 (.mv (r 6)), i 27 (.call (.func 9) [.tmp 25, .tmp 26]), i 24 (.mv (r 27)), i 28 (.extract (r 24) 0), i 29 (.extract (r 24) 1), i 8
  (.mv (r 28)), i 9 (.mv (r 29))]
def A5_8 : Row := [i 30 (.mv (r 9)), i 31 (.call (.func 11) [.tmp 30]), i 32 (.bin (.neq) (r 31) (.const (.int (.i64) 0))), i 33 (.mv (r 32)), g 34 (.mv (r 8)) 33 false, g 35
  (.mv (r 5)) 33 false, g 36 (.bin (.leq) (r 34) (r 35)) 33 false, i 37 (.pick (r 33) (.const (.bool true)) (r 36)), i 38 (.mv (r 37)), g 39 (.mv (r 6)) 38 false, g 40
  (.bin (.neq) (r 39) (.const (.str []))) 38 false, g 41 (.mv (r 40)) 38 false, g 42 (.mv (r 8)) 41 true, g 43 (.mv (r 6)) 41 true, g 44 (.bin (.geq) (r 42) (r 43)) 41
  true, g 45 (.pick (r 41) (r 44) (.const (.bool false))) 38 false, i 46 (.pick (r 38) (.const (.bool true)) (r 45))]
def A5_9 : Row := [i 4 (.mv (.const (.bool false)))]
def A5_10 : Row := [i 47 (.mv (r 1)), i 48 (.bin (.rem) (r 47) (.const (.int (.i64) 2))), i 49 (.bin (.eql) (r 48) (.const (.int (.i64) 0)))]
def A5_11 : Row := [i 50 (.mv (r 8)), i 5 (.mv (r 50))]
def A5_12 : Row := [i 51 (.mv (r 8)), i 6 (.mv (r 51))]
def A5_13 : Row := [i 22 (.mv (r 7)), i 23 (.bin (.add) (r 22) (.const (.int (.i64) 1))), i 7 (.mv (r 23))]
def A5_14 : ACode := (.seq (.seq (.ops A5_6) (.cond (r 21) .skip (.exit 0))) (.seq (.block 1 (.seq (.ops A5_7) (.seq (.seq (.ops A5_8) (.cond (r 46) (.seq (.ops A5_9) .ret)
  .skip)) (.seq (.ops A5_10) (.cond (r 49) (.ops A5_11) (.ops A5_12)))))) (.ops A5_13)))
def A5_15 : Row := [i 52 (.call (.func 16) []), i 4 (.mv (r 52))]
/-- diorama/dioramalaw04.PoskeyDense -/
def A5 : AFunc :=
 ⟨53, [.tmp 4], (.seq (.ops A5_0) (.seq (.seq (.ops A5_1) (.cond (r 17) (.seq (.ops A5_2) .ret) .skip)) (.seq (.ops A5_3) (.seq (.ops A5_4) (.seq (.seq (.ops A5_5) (.block
  0 (.loop A5_14))) (.seq (.ops A5_15) .ret))))))⟩
/-! diorama/dioramalaw04.PoskeyOrder -/
def A6_0 : Row := [i 6 (.mv (.const (.bool false)))]
def A6_1 : Row := [i 10 (.mv (r 0)), i 11 (.mv (r 1)), i 12 (.call (.func 14) [.tmp 10, .tmp 11]), i 7 (.mv (r 12))]
def A6_2 : Row := [i 13 (.mv (r 1)), i 14 (.mv (r 2)), i 15 (.call (.func 14) [.tmp 13, .tmp 14]), i 8 (.mv (r 15))]
def A6_3 : Row := [i 16 (.mv (r 0)), i 17 (.mv (r 2)), i 18 (.call (.func 14) [.tmp 16, .tmp 17]), i 9 (.mv (r 18))]
def A6_4 : Row := [i 19 (.mv (r 7)), i 20 (.bin (.lss) (r 19) (.const (.int (.i64) 0))), i 21 (.mv (r 20)), g 22 (.mv (r 8)) 21 true, g 23 (.bin (.lss) (r 22) (.const (.int
  (.i64) 0))) 21 true, i 24 (.pick (r 21) (r 23) (.const (.bool false))), i 25 (.mv (r 24)), g 26 (.mv (r 9)) 25 true, g 27 (.bin (.geq) (r 26) (.const (.int (.i64) 0)))
  25 true, i 28 (.pick (r 25) (r 27) (.const (.bool false))), i 29 (.mv (r 28)), g 30 (.mv (r 7)) 29 false, g 31 (.bin (.gtr) (r 30) (.const (.int (.i64) 0))) 29 false, g
  32 (.mv (r 31)) 29 false, g 33 (.mv (r 8)) 32 true, g 34 (.bin (.gtr) (r 33) (.const (.int (.i64) 0))) 32 true, g 35 (.pick (r 32) (r 34) (.const (.bool false))) 29
  false, g 36 (.mv (r 35)) 29 false, g 37 (.mv (r 9)) 36 true, g 38 (.bin (.leq) (r 37) (.const (.int (.i64) 0))) 36 true, g 39 (.pick (r 36) (r 38) (.const (.bool
  false))) 29 false, i 40 (.pick (r 29) (.const (.bool true)) (r 39))]
def A6_5 : Row := [i 6 (.mv (.const (.bool false)))]
def A6_6 : Row := [i 41 (.mv (r 7)), i 42 (.bin (.lss) (r 41) (.const (.int (.i64) 0))), i 43 (.mv (r 0)), i 44 (.mv (r 1)), i 45 (.bin (.lss) (r 43) (r 44)), i 46 (.eq false
  { agg := false, sk := [.bool] } (r 42) (r 45)), i 47 (.mv (r 46)), g 48 (.mv (r 7)) 47 true, g 49 (.bin (.eql) (r 48) (.const (.int (.i64) 0))) 47 true, g 50 (.mv (r 0))
  47 true, g 51 (.mv (r 1)) 47 true, g 52 (.bin (.eql) (r 50) (r 51)) 47 true, g 53 (.eq false { agg := false, sk := [.bool] } (r 49) (r 52)) 47 true, i 54 (.pick (r 47)
  (r 53) (.const (.bool false))), i 55 (.mv (r 54)), g 56 (.mv (r 1)) 55 true, g 57 (.mv (r 0)) 55 true, g 58 (.call (.func 14) [.tmp 56, .tmp 57]) 55 true, g 59 (.mv (r
  7)) 55 true, g 60 (.un (.neg) (r 59)) 55 true, g 61 (.bin (.eql) (r 58) (r 60)) 55 true, i 62 (.pick (r 55) (r 61) (.const (.bool false))), i 63 (.mv (r 62)), g 64
  (.call (.func 16) []) 63 true, i 65 (.pick (r 63) (r 64) (.const (.bool false))), i 6 (.mv (r 65))]
/-- diorama/dioramalaw04.PoskeyOrder -/
def A6 : AFunc :=
 ⟨66, [.tmp 6], (.seq (.ops A6_0) (.seq (.ops A6_1) (.seq (.ops A6_2) (.seq (.ops A6_3) (.seq (.seq (.ops A6_4) (.cond (r 40) (.seq (.ops A6_5) .ret) .skip)) (.seq (.ops
  A6_6) .ret))))))⟩
/-! diorama/dioramalaw04.PoskeySpread -/
def A7_0 : Row := [i 6 (.mv (.const (.bool false)))]
def A7_1 : Row := [i 13 (.mv (r 0)), i 14 (.mv (r 1)), i 15 (.mv (r 2)), i 16 (.call (.func 17) [.tmp 13, .tmp 14, .tmp 15]), i 12 (.mv (r 16)), i 17 (.extract (r 12) 0), i 18
  (.extract (r 12) 1), i 7 (.mv (r 17)), i 8 (.mv (r 18))]
def A7_2 : Row := [i 20 (.mv (r 0)), i 21 (.mv (r 1)), i 22 (.mv (r 2)), i 23 (.call (.func 18) [.tmp 20, .tmp 21, .tmp 22]), i 19 (.mv (r 23)), i 24 (.extract (r 19) 0), i 25
  (.extract (r 19) 1), i 9 (.mv (r 24)), i 10 (.mv (r 25))]
def A7_3 : Row := [i 26 (.mv (r 7)), i 27 (.lenSlice (r 26)), i 28 (.mv (r 9)), i 29 (.lenSlice (r 28)), i 30 (.bin (.neq) (r 27) (r 29)), i 31 (.mv (r 30)), g 32 (.mv (r 8))
  31 false, g 33 (.call (.func 11) [.tmp 32]) 31 false, g 34 (.mv (r 10)) 31 false, g 35 (.bin (.neq) (r 33) (r 34)) 31 false, i 36 (.pick (r 31) (.const (.bool true)) (r
  35))]
def A7_4 : Row := [i 6 (.mv (.const (.bool false)))]
def A7_5 : Row := [i 11 (.mv (.const (.int (.i64) 0)))]
def A7_6 : Row := [i 37 (.mv (r 11)), i 38 (.mv (r 7)), i 39 (.lenSlice (r 38)), i 40 (.bin (.lss) (r 37) (r 39))]
def A7_7 : Row := [i 43 (.mv (r 7)), i 44 (.mv (r 11)), i 45 (.indexAddr 1 (r 43) (r 44)), i 46 (.load none (r 45)), i 47 (.mv (r 9)), i 48 (.mv (r 11)), i 49 (.indexAddr 1 (r
  47) (r 48)), i 50 (.load none (r 49)), i 51 (.bin (.neq) (r 46) (r 50))]
def A7_8 : Row := [i 6 (.mv (.const (.bool false)))]
def A7_9 : Row := [i 41 (.mv (r 11)), i 42 (.bin (.add) (r 41) (.const (.int (.i64) 1))), i 11 (.mv (r 42))]
def A7_10 : ACode := (.seq (.seq (.ops A7_6) (.cond (r 40) .skip (.exit 0))) (.seq (.block 1 (.seq (.ops A7_7) (.cond (r 51) (.seq (.ops A7_8) .ret) .skip))) (.ops A7_9)))
def A7_11 : Row := [i 52 (.call (.func 16) []), i 6 (.mv (r 52))]
/-- diorama/dioramalaw04.PoskeySpread -/
def A7 : AFunc :=
 ⟨53, [.tmp 6], (.seq (.ops A7_0) (.seq (.ops A7_1) (.seq (.ops A7_2) (.seq (.seq (.ops A7_3) (.cond (r 36) (.seq (.ops A7_4) .ret) .skip)) (.seq (.seq (.ops A7_5) (.block
  0 (.loop A7_10))) (.seq (.ops A7_11) .ret))))))⟩
/-! diorama/dioramalaw04.PoskeyRises -/
def A8_0 : Row := [i 6 (.mv (.const (.bool false)))]
def A8_1 : Row := [i 12 (.mv (r 0)), i 13 (.mv (r 1)), i 14 (.mv (r 2)), i 15 (.call (.func 17) [.tmp 12, .tmp 13, .tmp 14]), i 11 (.mv (r 15)), i 16 (.extract (r 11) 0), i 17
  (.extract (r 11) 1), i 7 (.mv (r 16)), i 8 (.mv (r 17))]
def A8_2 : Row := [i 18 (.mv (r 8)), i 19 (.call (.func 11) [.tmp 18]), i 20 (.bin (.neq) (r 19) (.const (.int (.i64) 0)))]
def A8_3 : Row := [i 21 (.mv (r 7)), i 22 (.lenSlice (r 21)), i 23 (.bin (.eql) (r 22) (.const (.int (.i64) 0))), i 24 (.mv (r 23)), g 25 (.call (.func 16) []) 24 true, i 26
  (.pick (r 24) (r 25) (.const (.bool false))), i 6 (.mv (r 26))]
def A8_4 : Row := [i 27 (.mv (r 7)), i 28 (.lenSlice (r 27)), i 29 (.mv (r 2)), i 30 (.bin (.neq) (r 28) (r 29))]
def A8_5 : Row := [i 6 (.mv (.const (.bool false)))]
def A8_6 : Row := [i 31 (.mv (r 0)), i 9 (.mv (r 31))]
def A8_7 : Row := [i 10 (.mv (.const (.int (.i64) 0)))]
def A8_8 : Row := [i 32 (.mv (r 10)), i 33 (.mv (r 2)), i 34 (.bin (.lss) (r 32) (r 33))]
def A8_9 : Row := [i 37 (.mv (r 7)), i 38 (.mv (r 10)), i 39 (.indexAddr 1 (r 37) (r 38)), i 40 (.load none (r 39)), i 41 (.call (.func 12) [.tmp 40]), i 42 (.un (.not) (r
  41)), i 43 (.mv (r 42)), g 44 (.mv (r 7)) 43 false, g 45 (.mv (r 10)) 43 false, g 46 (.indexAddr 1 (r 44) (r 45)) 43 false, g 47 (.load none (r 46)) 43 false, g 48 (.mv
  (r 9)) 43 false, g 49 (.bin (.leq) (r 47) (r 48)) 43 false, i 50 (.pick (r 43) (.const (.bool true)) (r 49)), i 51 (.mv (r 50)), g 52 (.mv (r 1)) 51 false, g 53 (.bin
  (.neq) (r 52) (.const (.str []))) 51 false, g 54 (.mv (r 53)) 51 false, g 55 (.mv (r 7)) 54 true, g 56 (.mv (r 10)) 54 true, g 57 (.indexAddr 1 (r 55) (r 56)) 54 true, g
  58 (.load none (r 57)) 54 true, g 59 (.mv (r 1)) 54 true, g 60 (.bin (.geq) (r 58) (r 59)) 54 true, g 61 (.pick (r 54) (r 60) (.const (.bool false))) 51 false, i 62
  (.pick (r 51) (.const (.bool true)) (r 61))]
def A8_10 : Row := [i 6 (.mv (.const (.bool false)))]
def A8_11 : Row := [i 63 (.mv (r 7)), i 64 (.mv (r 10)), i 65 (.indexAddr 1 (r 63) (r 64)), i 66 (.load none (r 65)), i 9 (.mv (r 66))]
def A8_12 : Row := [i 35 (.mv (r 10)), i 36 (.bin (.add) (r 35) (.const (.int (.i64) 1))), i 10 (.mv (r 36))]
def A8_13 : ACode := (.seq (.seq (.ops A8_8) (.cond (r 34) .skip (.exit 0))) (.seq (.block 1 (.seq (.seq (.ops A8_9) (.cond (r 62) (.seq (.ops A8_10) .ret) .skip)) (.ops
  A8_11))) (.ops A8_12)))
def A8_14 : Row := [i 67 (.call (.func 16) []), i 6 (.mv (r 67))]
/-- diorama/dioramalaw04.PoskeyRises -/
def A8 : AFunc :=
 ⟨68, [.tmp 6], (.seq (.ops A8_0) (.seq (.ops A8_1) (.seq (.seq (.ops A8_2) (.cond (r 20) (.seq (.ops A8_3) .ret) .skip)) (.seq (.seq (.ops A8_4) (.cond (r 30) (.seq (.ops
  A8_5) .ret) .skip)) (.seq (.ops A8_6) (.seq (.seq (.ops A8_7) (.block 0 (.loop A8_13))) (.seq (.ops A8_14) .ret)))))))⟩
/-! diorama/poskey.Between -/
def A9_0 : Row := [i 4 (.mv (.const (.str []))), i 5 (.mv (.const (.int (.i64) 0)))]
def A9_1 : Row := [i 11 (.mv (r 0)), i 12 (.mv (r 1)), i 13 (.call (.func 19) [.tmp 11, .tmp 12]), i 14 (.un (.not) (r 13))]
def A9_2 : Row := [i 4 (.mv (.const (.str []))), i 5 (.mv (.const (.int (.i64) 1)))]
def A9_3 : Row := [i 6 (.mv (.const (.int (.i64) 1)))]
def A9_4 : Row := [i 15 (.mv (r 6)), i 16 (.bin (.leq) (r 15) (.const (.int (.i64) 24)))]
def A9_5 : Row := [i 20 (.mv (r 0)), i 21 (.mv (r 6)), i 22 (.call (.func 20) [.tmp 20, .tmp 21]), i 19 (.mv (r 22)), i 23 (.extract (r 19) 0), i 24 (.extract (r 19) 1), i 7
  (.mv (r 23)), i 8 (.mv (r 24))]
def A9_6 : Row := [i 25 (.mv (r 8)), i 26 (.un (.not) (r 25))]
def A9_7 : Row := [i 27 (.mv (r 7)), i 28 (.mv (r 6)), i 29 (.bin (.sub) (r 28) (.const (.int (.i64) 1))), i 30 (.indexAddr 1 (r 27) (r 29)), i 31 (.load none (r 30)), i 32
  (.convInt (.i64) (r 31)), i 33 (.max [.tmp 32, .const (.int (.i64) 1)]), i 34 (.mv (r 7)), i 35 (.mv (r 1)), ⟨a 36 (.call (.func 21) [.tmp 34, .tmp 35]), [a 31 (.load
  none (r 30))]⟩, i 9 (.mv (r 33)), i 10 (.mv (r 36))]
def A9_8 : Row := [i 37 (.mv (r 10)), i 38 (.mv (r 9)), i 39 (.bin (.lss) (r 37) (r 38))]
def A9_9 : Row := [i 40 (.mv (r 7)), i 41 (.mv (r 6)), i 42 (.bin (.sub) (r 41) (.const (.int (.i64) 1))), i 43 (.mv (r 9)), i 44 (.mv (r 10)), i 45 (.bin (.add) (r 43) (r
  44)), i 46 (.bin (.quo) (r 45) (.const (.int (.i64) 2))), i 47 (.convInt (.u8) (r 46)), i 48 (.indexAddr 1 (r 40) (r 42)), i0 (.store 1 (r 48) (r 47))]
def A9_10 : Row := [i 49 (.mv (r 7)), i 50 (.bytesStr (r 49)), i 4 (.mv (r 50)), i 5 (.mv (.const (.int (.i64) 0)))]
def A9_11 : Row := [i 17 (.mv (r 6)), i 18 (.bin (.add) (r 17) (.const (.int (.i64) 1))), i 6 (.mv (r 18))]
def A9_12 : ACode := (.seq (.seq (.ops A9_4) (.cond (r 16) .skip (.exit 0))) (.seq (.block 1 (.seq (.ops A9_5) (.seq (.seq (.ops A9_6) (.cond (r 26) (.exit 1) .skip)) (.seq
  (.ops A9_7) (.seq (.seq (.ops A9_8) (.cond (r 39) (.exit 1) .skip)) (.seq (.ops A9_9) (.seq (.ops A9_10) .ret))))))) (.ops A9_11)))
def A9_13 : Row := [i 4 (.mv (.const (.str []))), i 5 (.mv (.const (.int (.i64) 32)))]
/-- diorama/poskey.Between -/
def A9 : AFunc :=
 ⟨51, [.tmp 4, .tmp 5], (.seq (.ops A9_0) (.scope (.seq (.seq (.ops A9_1) (.cond (r 14) (.seq (.ops A9_2) .ret) .skip)) (.seq .skip (.seq (.seq (.ops A9_3) (.block 0 (.loop
  A9_12))) (.seq (.ops A9_13) .ret))))))⟩
/-! diorama/dioramaref04.Between -/
def A10_0 : Row := [i 4 (.mv (.const (.str []))), i 5 (.mv (.const (.int (.i64) 0)))]
def A10_1 : Row := [i 11 (.mv (r 0)), i 12 (.mv (r 1)), i 13 (.call (.func 22) [.tmp 11, .tmp 12]), i 14 (.un (.not) (r 13))]
def A10_2 : Row := [i 4 (.mv (.const (.str []))), i 5 (.mv (.const (.int (.i64) 1)))]
def A10_3 : Row := [i 6 (.mv (.const (.int (.i64) 1)))]
def A10_4 : Row := [i 15 (.mv (r 6)), i 16 (.bin (.leq) (r 15) (.const (.int (.i64) 24)))]
def A10_5 : Row := [i 19 (.mv (r 0)), i 20 (.mv (r 6)), i 21 (.call (.func 23) [.tmp 19, .tmp 20]), i 7 (.mv (r 21))]
def A10_6 : Row := [i 22 (.mv (r 7)), i 23 (.eqNil false (.slice) (r 22) (.const (.slice none 0 (.exact 0))))]
def A10_7 : Row := [i 24 (.mv (r 7)), i 25 (.mv (r 6)), i 26 (.bin (.sub) (r 25) (.const (.int (.i64) 1))), i 27 (.indexAddr 1 (r 24) (r 26)), i 28 (.load none (r 27)), i 29
  (.max [.tmp 28, .const (.int (.i64) 1)]), i 8 (.mv (r 29))]
def A10_8 : Row := [i 30 (.mv (r 8)), i 31 (.bin (.sub) (r 30) (.const (.int (.i64) 1))), i 9 (.mv (r 31))]
def A10_9 : Row := [i 32 (.mv (r 8)), i 10 (.mv (r 32))]
def A10_10 : Row := [i 33 (.mv (r 10)), i 34 (.bin (.lss) (r 33) (.const (.int (.i64) 256)))]
def A10_11 : Row := [i 37 (.mv (r 7)), i 38 (.mv (r 6)), i 39 (.bin (.sub) (r 38) (.const (.int (.i64) 1))), i 40 (.mv (r 10)), i 41 (.indexAddr 1 (r 37) (r 39)), i0 (.store 1
  (r 41) (r 40))]
def A10_12 : Row := [i 42 (.mv (r 7)), i 43 (.mv (r 1)), i 44 (.call (.func 24) [.tmp 42, .tmp 43]), i 45 (.un (.not) (r 44))]
def A10_13 : Row := [i 46 (.mv (r 10)), i 9 (.mv (r 46))]
def A10_14 : Row := [i 35 (.mv (r 10)), i 36 (.bin (.add) (r 35) (.const (.int (.i64) 1))), i 10 (.mv (r 36))]
def A10_15 : ACode := (.seq (.seq (.ops A10_10) (.cond (r 34) .skip (.exit 2))) (.seq (.block 3 (.seq (.ops A10_11) (.seq (.seq (.ops A10_12) (.cond (r 45) (.exit 2) .skip))
  (.ops A10_13)))) (.ops A10_14)))
def A10_16 : Row := [i 47 (.mv (r 9)), i 48 (.mv (r 8)), i 49 (.bin (.geq) (r 47) (r 48))]
def A10_17 : Row := [i 50 (.mv (r 7)), i 51 (.mv (r 6)), i 52 (.bin (.sub) (r 51) (.const (.int (.i64) 1))), i 53 (.mv (r 8)), i 54 (.mv (r 9)), i 55 (.bin (.add) (r 53) (r
  54)), i 56 (.bin (.quo) (r 55) (.const (.int (.i64) 2))), i 57 (.indexAddr 1 (r 50) (r 52)), i0 (.store 1 (r 57) (r 56))]
def A10_18 : Row := [i 58 (.mv (r 7)), i 59 (.call (.func 25) [.tmp 58]), i 4 (.mv (r 59)), i 5 (.mv (.const (.int (.i64) 0)))]
def A10_19 : Row := [i 17 (.mv (r 6)), i 18 (.bin (.add) (r 17) (.const (.int (.i64) 1))), i 6 (.mv (r 18))]
def A10_20 : ACode := (.seq (.seq (.ops A10_4) (.cond (r 16) .skip (.exit 0))) (.seq (.block 1 (.seq (.ops A10_5) (.seq (.seq (.ops A10_6) (.cond (r 23) (.exit 1) .skip))
  (.seq (.ops A10_7) (.seq (.ops A10_8) (.seq (.seq (.ops A10_9) (.block 2 (.loop A10_15))) (.seq (.ops A10_16) (.cond (r 49) (.seq (.ops A10_17) (.seq (.ops A10_18)
  .ret)) .skip)))))))) (.ops A10_19)))
def A10_21 : Row := [i 4 (.mv (.const (.str []))), i 5 (.mv (.const (.int (.i64) 32)))]
/-- diorama/dioramaref04.Between -/
def A10 : AFunc :=
 ⟨60, [.tmp 4, .tmp 5], (.seq (.ops A10_0) (.seq (.seq (.ops A10_1) (.cond (r 14) (.seq (.ops A10_2) .ret) .skip)) (.seq (.seq (.ops A10_3) (.block 0 (.loop A10_20))) (.seq
  (.ops A10_21) .ret))))⟩
/-! diorama/dioramalaw04.num -/
def A11_0 : Row := [i 2 (.mv (.const (.int (.i64) 0)))]
def A11_1 : Row := [i 3 (.mv (r 0)), i 2 (.mv (r 3))]
/-- diorama/dioramalaw04.num -/
def A11 : AFunc :=
 ⟨4, [.tmp 2], (.seq (.ops A11_0) (.seq (.ops A11_1) .ret))⟩
/-! diorama/poskey.Right -/
def A12_0 : Row := [i 2 (.mv (.const (.bool false)))]
def A12_1 : Row := [i 3 (.mv (r 0)), i 4 (.bin (.neq) (r 3) (.const (.str []))), i 5 (.mv (r 4)), g 6 (.mv (r 0)) 5 true, g 7 (.lenStr (r 6)) 5 true, g 8 (.bin (.leq) (r 7)
  (.const (.int (.i64) 24))) 5 true, i 9 (.pick (r 5) (r 8) (.const (.bool false))), i 10 (.mv (r 9)), g 11 (.mv (r 0)) 10 true, g 12 (.mv (r 0)) 10 true, g 13 (.lenStr (r
  12)) 10 true, g 14 (.bin (.sub) (r 13) (.const (.int (.i64) 1))) 10 true, g 15 (.indexStr (r 11) (r 14)) 10 true, g 16 (.bin (.neq) (r 15) (.const (.int (.u8) 0))) 10
  true, i 17 (.pick (r 10) (r 16) (.const (.bool false))), i 2 (.mv (r 17))]
/-- diorama/poskey.Right -/
def A12 : AFunc :=
 ⟨18, [.tmp 2], (.seq (.ops A12_0) (.seq (.ops A12_1) .ret))⟩
/-! diorama/dioramaref04.Right -/
def A13_0 : Row := [i 2 (.mv (.const (.bool false)))]
def A13_1 : Row := [i 3 (.mv (r 0)), i 4 (.lenStr (r 3)), i 5 (.bin (.geq) (r 4) (.const (.int (.i64) 1))), i 6 (.mv (r 5)), g 7 (.mv (r 0)) 6 true, g 8 (.lenStr (r 7)) 6
  true, g 9 (.bin (.leq) (r 8) (.const (.int (.i64) 24))) 6 true, i 10 (.pick (r 6) (r 9) (.const (.bool false))), i 11 (.mv (r 10)), g 12 (.mv (r 0)) 11 true, g 13 (.mv
  (r 0)) 11 true, g 14 (.lenStr (r 13)) 11 true, g 15 (.bin (.sub) (r 14) (.const (.int (.i64) 1))) 11 true, g 16 (.indexStr (r 12) (r 15)) 11 true, g 17 (.bin (.neq) (r
  16) (.const (.int (.u8) 0))) 11 true, i 18 (.pick (r 11) (r 17) (.const (.bool false))), i 2 (.mv (r 18))]
/-- diorama/dioramaref04.Right -/
def A13 : AFunc :=
 ⟨19, [.tmp 2], (.seq (.ops A13_0) (.seq (.ops A13_1) .ret))⟩
/-! diorama/poskey.Compare -/
def A14_0 : Row := [i 4 (.mv (.const (.int (.i64) 0)))]
def A14_1 : Row := [i 5 (.mv (r 0)), i 6 (.mv (r 1)), i 7 (.call (.func 26) [.tmp 5, .tmp 6]), i 4 (.mv (r 7))]
/-- diorama/poskey.Compare -/
def A14 : AFunc :=
 ⟨8, [.tmp 4], (.seq (.ops A14_0) (.seq (.ops A14_1) .ret))⟩
/-! diorama/dioramaref04.Compare -/
def A15_0 : Row := [i 4 (.mv (.const (.int (.i64) 0)))]
def A15_1 : Row := [i 5 (.mv (.const (.int (.i64) 0)))]
def A15_2 : Row := [i 6 (.mv (r 5)), i 7 (.mv (r 0)), i 8 (.lenStr (r 7)), i 9 (.bin (.lss) (r 6) (r 8)), i 10 (.mv (r 9)), g 11 (.mv (r 5)) 10 true, g 12 (.mv (r 1)) 10 true,
  g 13 (.lenStr (r 12)) 10 true, g 14 (.bin (.lss) (r 11) (r 13)) 10 true, i 15 (.pick (r 10) (r 14) (.const (.bool false)))]
def A15_3 : Row := [i 18 (.mv (r 0)), i 19 (.mv (r 5)), i 20 (.indexStr (r 18) (r 19)), i 21 (.mv (r 1)), i 22 (.mv (r 5)), i 23 (.indexStr (r 21) (r 22)), i 24 (.bin (.lss)
  (r 20) (r 23))]
def A15_4 : Row := [i 4 (.mv (.const (.int (.i64) (-1))))]
def A15_5 : Row := [i 25 (.mv (r 0)), i 26 (.mv (r 5)), i 27 (.indexStr (r 25) (r 26)), i 28 (.mv (r 1)), i 29 (.mv (r 5)), i 30 (.indexStr (r 28) (r 29)), i 31 (.bin (.gtr)
  (r 27) (r 30))]
def A15_6 : Row := [i 4 (.mv (.const (.int (.i64) 1)))]
def A15_7 : Row := [i 16 (.mv (r 5)), i 17 (.bin (.add) (r 16) (.const (.int (.i64) 1))), i 5 (.mv (r 17))]
def A15_8 : ACode := (.seq (.seq (.ops A15_2) (.cond (r 15) .skip (.exit 0))) (.seq (.block 1 (.seq (.seq (.ops A15_3) (.cond (r 24) (.seq (.ops A15_4) .ret) .skip)) (.seq
  (.ops A15_5) (.cond (r 31) (.seq (.ops A15_6) .ret) .skip)))) (.ops A15_7)))
def A15_9 : Row := [i 32 (.mv (r 0)), i 33 (.lenStr (r 32)), i 34 (.mv (r 1)), i 35 (.lenStr (r 34)), i 36 (.bin (.lss) (r 33) (r 35))]
def A15_10 : Row := [i 4 (.mv (.const (.int (.i64) (-1))))]
def A15_11 : Row := [i 37 (.mv (r 0)), i 38 (.lenStr (r 37)), i 39 (.mv (r 1)), i 40 (.lenStr (r 39)), i 41 (.bin (.gtr) (r 38) (r 40))]
def A15_12 : Row := [i 4 (.mv (.const (.int (.i64) 1)))]
def A15_13 : Row := [i 4 (.mv (.const (.int (.i64) 0)))]
/-- diorama/dioramaref04.Compare -/
def A15 : AFunc :=
 ⟨42, [.tmp 4], (.seq (.ops A15_0) (.seq (.seq (.ops A15_1) (.block 0 (.loop A15_8))) (.seq (.seq (.ops A15_9) (.cond (r 36) (.seq (.ops A15_10) .ret) .skip)) (.seq (.seq
  (.ops A15_11) (.cond (r 41) (.seq (.ops A15_12) .ret) .skip)) (.seq (.ops A15_13) .ret)))))⟩
/-! diorama/dioramalaw04.knows -/
def A16_0 : Row := [i 0 (.mv (.const (.bool false)))]
def A16_1 : Row := [i 6 (.call (.func 9) [.const (.str []), .const (.str [])]), i 5 (.mv (r 6)), i 7 (.extract (r 5) 0), i 8 (.extract (r 5) 1), i 1 (.mv (r 7)), i 2 (.mv (r
  8))]
def A16_2 : Row := [i 10 (.call (.func 9) [.const (.str [128]), .const (.str [129])]), i 9 (.mv (r 10)), i 11 (.extract (r 9) 0), i 12 (.extract (r 9) 1), i 3 (.mv (r 11)), i
  4 (.mv (r 12))]
def A16_3 : Row := [i 13 (.mv (r 2)), i 14 (.call (.func 11) [.tmp 13]), i 15 (.mv (r 4)), i 16 (.call (.func 11) [.tmp 15]), i 17 (.bin (.add) (r 14) (r 16)), i 18 (.bin
  (.eql) (r 17) (.const (.int (.i64) 0))), i 19 (.mv (r 18)), g 20 (.mv (r 1)) 19 true, g 21 (.bin (.eql) (r 20) (.const (.str [128]))) 19 true, i 22 (.pick (r 19) (r 21)
  (.const (.bool false))), i 23 (.mv (r 22)), g 24 (.mv (r 3)) 23 true, g 25 (.bin (.eql) (r 24) (.const (.str [128, 128]))) 23 true, i 26 (.pick (r 23) (r 25) (.const
  (.bool false))), i 27 (.mv (r 26)), g 28 (.mv (r 3)) 27 true, g 29 (.call (.func 12) [.tmp 28]) 27 true, i 30 (.pick (r 27) (r 29) (.const (.bool false))), i 31 (.mv (r
  30)), g 32 (.mv (r 1)) 31 true, g 33 (.mv (r 3)) 31 true, g 34 (.call (.func 14) [.tmp 32, .tmp 33]) 31 true, g 35 (.bin (.eql) (r 34) (.const (.int (.i64) (-1)))) 31
  true, i 36 (.pick (r 31) (r 35) (.const (.bool false))), i 0 (.mv (r 36))]
/-- diorama/dioramalaw04.knows -/
def A16 : AFunc :=
 ⟨37, [.tmp 0], (.seq (.ops A16_0) (.seq (.ops A16_1) (.seq (.ops A16_2) (.seq (.ops A16_3) .ret))))⟩
/-! diorama/poskey.Spread -/
def A17_0 : Row := [i 6 (.mv (.const (.slice none 0 (.exact 0)))), i 7 (.mv (.const (.int (.i64) 0)))]
def A17_1 : Row := [i 11 (.mv (r 2)), i 12 (.bin (.lss) (r 11) (.const (.int (.i64) 0))), i 13 (.mv (r 12)), g 14 (.mv (r 2)) 13 false, g 15 (.bin (.gtr) (r 14) (.const (.int
  (.i64) 64))) 13 false, i 16 (.pick (r 13) (.const (.bool true)) (r 15)), i 17 (.mv (r 16)), g 18 (.mv (r 0)) 17 false, g 19 (.mv (r 1)) 17 false, g 20 (.call (.func 19)
  [.tmp 18, .tmp 19]) 17 false, g 21 (.un (.not) (r 20)) 17 false, i 22 (.pick (r 17) (.const (.bool true)) (r 21))]
def A17_2 : Row := [i 6 (.mv (.const (.slice none 0 (.exact 0)))), i 7 (.mv (.const (.int (.i64) 1)))]
def A17_3 : Row := [i 8 (.alloc [.slice none 0 (.exact 0)])]
def A17_4 : Row := [i 9 (.alloc [.nilFn])]
def A17_5 : Row := [i 23 (.makeFunc 27 [] [.tmp 9, .tmp 8]), i0 (.store 1 (r 9) (r 23))]
def A17_6 : Row := [i 24 (.load none (r 9)), i 25 (.mv (r 0)), i 26 (.mv (r 1)), i 27 (.mv (r 2)), i 28 (.call (r 24) [.tmp 25, .tmp 26, .tmp 27]), i 10 (.mv (r 28))]
def A17_7 : Row := [i 29 (.mv (r 10)), i 30 (.bin (.neq) (r 29) (.const (.int (.i64) 0)))]
def A17_8 : Row := [i 31 (.mv (r 10)), i 6 (.mv (.const (.slice none 0 (.exact 0)))), i 7 (.mv (r 31))]
def A17_9 : Row := [i 32 (.load none (r 8)), i 6 (.mv (r 32)), i 7 (.mv (.const (.int (.i64) 0)))]
/-- diorama/poskey.Spread -/
def A17 : AFunc :=
 ⟨33, [.tmp 6, .tmp 7], (.seq (.ops A17_0) (.seq (.seq (.ops A17_1) (.cond (r 22) (.seq (.ops A17_2) .ret) .skip)) (.seq (.ops A17_3) (.seq (.ops A17_4) (.seq (.ops A17_5)
  (.seq (.seq (.ops A17_6) (.seq (.ops A17_7) (.cond (r 30) (.seq (.ops A17_8) .ret) .skip))) (.seq (.ops A17_9) .ret)))))))⟩
/-! diorama/dioramaref04.Spread -/
def A18_0 : Row := [i 6 (.mv (.const (.slice none 0 (.exact 0)))), i 7 (.mv (.const (.int (.i64) 0)))]
def A18_1 : Row := [i 13 (.mv (r 2)), i 14 (.bin (.lss) (r 13) (.const (.int (.i64) 0))), i 15 (.mv (r 14)), g 16 (.mv (r 2)) 15 false, g 17 (.bin (.gtr) (r 16) (.const (.int
  (.i64) 64))) 15 false, i 18 (.pick (r 15) (.const (.bool true)) (r 17)), i 19 (.mv (r 18)), g 20 (.mv (r 0)) 19 false, g 21 (.mv (r 1)) 19 false, g 22 (.call (.func 22)
  [.tmp 20, .tmp 21]) 19 false, g 23 (.un (.not) (r 22)) 19 false, i 24 (.pick (r 19) (.const (.bool true)) (r 23))]
def A18_2 : Row := [i 6 (.mv (.const (.slice none 0 (.exact 0)))), i 7 (.mv (.const (.int (.i64) 1)))]
def A18_3 : Row := [i 25 (.mv (r 2)), i 26 (.bin (.eql) (r 25) (.const (.int (.i64) 0)))]
def A18_4 : Row := [i 6 (.mv (.const (.slice none 0 (.exact 0)))), i 7 (.mv (.const (.int (.i64) 0)))]
def A18_5 : Row := [i 28 (.mv (r 0)), i 29 (.mv (r 1)), i 30 (.call (.func 10) [.tmp 28, .tmp 29]), i 27 (.mv (r 30)), i 31 (.extract (r 27) 0), i 32 (.extract (r 27) 1), i 8
  (.mv (r 31)), i 9 (.mv (r 32))]
def A18_6 : Row := [i 33 (.mv (r 9)), i 34 (.bin (.neq) (r 33) (.const (.int (.i64) 0)))]
def A18_7 : Row := [i 35 (.mv (r 9)), i 6 (.mv (.const (.slice none 0 (.exact 0)))), i 7 (.mv (r 35))]
def A18_8 : Row := [i 36 (.mv (r 2)), i 37 (.bin (.sub) (r 36) (.const (.int (.i64) 1))), i 38 (.bin (.quo) (r 37) (.const (.int (.i64) 2))), i 10 (.mv (r 38))]
def A18_9 : Row := [i 40 (.mv (r 0)), i 41 (.mv (r 8)), i 42 (.mv (r 10)), i 43 (.call (.func 18) [.tmp 40, .tmp 41, .tmp 42]), i 39 (.mv (r 43)), i 44 (.extract (r 39) 0), i
  45 (.extract (r 39) 1), i 11 (.mv (r 44)), i 9 (.mv (r 45))]
def A18_10 : Row := [i 46 (.mv (r 9)), i 47 (.bin (.neq) (r 46) (.const (.int (.i64) 0)))]
def A18_11 : Row := [i 48 (.mv (r 9)), i 6 (.mv (.const (.slice none 0 (.exact 0)))), i 7 (.mv (r 48))]
def A18_12 : Row := [i 50 (.mv (r 8)), i 51 (.mv (r 1)), i 52 (.mv (r 2)), i 53 (.bin (.sub) (r 52) (.const (.int (.i64) 1))), i 54 (.mv (r 10)), i 55 (.bin (.sub) (r 53) (r
  54)), i 56 (.call (.func 18) [.tmp 50, .tmp 51, .tmp 55]), i 49 (.mv (r 56)), i 57 (.extract (r 49) 0), i 58 (.extract (r 49) 1), i 12 (.mv (r 57)), i 9 (.mv (r 58))]
def A18_13 : Row := [i 59 (.mv (r 9)), i 60 (.bin (.neq) (r 59) (.const (.int (.i64) 0)))]
def A18_14 : Row := [i 61 (.mv (r 9)), i 6 (.mv (.const (.slice none 0 (.exact 0)))), i 7 (.mv (r 61))]
def A18_15 : Row := [i 62 (.mv (r 11)), i 63 (.mv (r 8)), i 64 (.buildSlice 1 [.str []] [(0, 1, .tmp 63)]), i 65 (.append 1 16 (r 62) (r 64)), i 66 (.mv (r 12)), i 67 (.append
  1 16 (r 65) (r 66)), i 6 (.mv (r 67)), i 7 (.mv (.const (.int (.i64) 0)))]
/-- diorama/dioramaref04.Spread -/
def A18 : AFunc :=
 ⟨68, [.tmp 6, .tmp 7], (.seq (.ops A18_0) (.seq (.seq (.ops A18_1) (.cond (r 24) (.seq (.ops A18_2) .ret) .skip)) (.seq (.seq (.ops A18_3) (.cond (r 26) (.seq (.ops A18_4)
  .ret) .skip)) (.seq (.ops A18_5) (.seq (.seq (.ops A18_6) (.cond (r 34) (.seq (.ops A18_7) .ret) .skip)) (.seq (.ops A18_8) (.seq (.ops A18_9) (.seq (.seq (.ops A18_10)
  (.cond (r 47) (.seq (.ops A18_11) .ret) .skip)) (.seq (.ops A18_12) (.seq (.seq (.ops A18_13) (.cond (r 60) (.seq (.ops A18_14) .ret) .skip)) (.seq (.ops A18_15)
  .ret)))))))))))⟩
/-! diorama/poskey.fine -/
def A19_0 : Row := [i 4 (.mv (.const (.bool false)))]
def A19_1 : Row := [i 5 (.mv (.func 28))]
def A19_2 : Row := [i 6 (.mv (r 5)), i 7 (.mv (r 0)), i 8 (.call (r 6) [.tmp 7]), i 9 (.mv (r 8)), g 10 (.mv (r 5)) 9 true, g 11 (.mv (r 1)) 9 true, g 12 (.call (r 10) [.tmp
  11]) 9 true, i 13 (.pick (r 9) (r 12) (.const (.bool false))), i 14 (.mv (r 13)), g 15 (.mv (r 0)) 14 true, g 16 (.bin (.eql) (r 15) (.const (.str []))) 14 true, g 17
  (.mv (r 16)) 14 true, g 18 (.mv (r 1)) 17 false, g 19 (.bin (.eql) (r 18) (.const (.str []))) 17 false, g 20 (.pick (r 17) (.const (.bool true)) (r 19)) 14 true, g 21
  (.mv (r 20)) 14 true, g 22 (.mv (r 0)) 21 false, g 23 (.mv (r 1)) 21 false, g 24 (.bin (.lss) (r 22) (r 23)) 21 false, g 25 (.pick (r 21) (.const (.bool true)) (r 24))
  14 true, i 26 (.pick (r 14) (r 25) (.const (.bool false))), i 4 (.mv (r 26))]
/-- diorama/poskey.fine -/
def A19 : AFunc :=
 ⟨27, [.tmp 4], (.seq (.ops A19_0) (.seq (.ops A19_1) (.seq (.ops A19_2) .ret)))⟩
/-! diorama/poskey.above -/
def A20_0 : Row := [i 4 (.mv (.const (.slice none 0 (.exact 0)))), i 5 (.mv (.const (.bool false)))]
def A20_1 : Row := [i 8 (.mv (r 1)), i 9 (.makeSlice 1 1 [.int (.u8) 0] (r 8) (r 8)), i 6 (.mv (r 9))]
def A20_2 : Row := [i 10 (.mv (r 6)), i 11 (.mv (r 0)), i 12 (.copy 1 (r 10) (r 11))]
def A20_3 : Row := [i 13 (.mv (r 1)), i 14 (.bin (.sub) (r 13) (.const (.int (.i64) 1))), i 7 (.mv (r 14))]
def A20_4 : Row := [i 15 (.mv (r 7)), i 16 (.bin (.geq) (r 15) (.const (.int (.i64) 0)))]
def A20_5 : Row := [i 19 (.mv (r 6)), i 20 (.mv (r 7)), i 21 (.indexAddr 1 (r 19) (r 20)), i 22 (.load none (r 21)), i 23 (.bin (.add) (r 22) (.const (.int (.u8) 1))), i 24
  (.indexAddr 1 (r 19) (r 20)), i0 (.store 1 (r 24) (r 23))]
def A20_6 : Row := [i 25 (.mv (r 6)), i 26 (.mv (r 7)), i 27 (.indexAddr 1 (r 25) (r 26)), i 28 (.load none (r 27)), i 29 (.bin (.neq) (r 28) (.const (.int (.u8) 0)))]
def A20_7 : Row := [i 30 (.mv (r 6)), i 4 (.mv (r 30)), i 5 (.mv (.const (.bool true)))]
def A20_8 : Row := [i 17 (.mv (r 7)), i 18 (.bin (.sub) (r 17) (.const (.int (.i64) 1))), i 7 (.mv (r 18))]
def A20_9 : ACode := (.seq (.seq (.ops A20_4) (.cond (r 16) .skip (.exit 0))) (.seq (.block 1 (.seq (.ops A20_5) (.seq (.ops A20_6) (.cond (r 29) (.seq (.ops A20_7) .ret)
  .skip)))) (.ops A20_8)))
def A20_10 : Row := [i 4 (.mv (.const (.slice none 0 (.exact 0)))), i 5 (.mv (.const (.bool false)))]
/-- diorama/poskey.above -/
def A20 : AFunc :=
 ⟨31, [.tmp 4, .tmp 5], (.seq (.ops A20_0) (.seq (.ops A20_1) (.seq (.ops A20_2) (.seq (.seq (.ops A20_3) (.block 0 (.loop A20_9))) (.seq (.ops A20_10) .ret)))))⟩
/-! diorama/poskey.greatest -/
def A21_0 : Row := [i 4 (.mv (.const (.int (.i64) 0)))]
def A21_1 : Row := [i 9 (.mv (r 0)), i 10 (.lenSlice (r 9)), i 11 (.bin (.sub) (r 10) (.const (.int (.i64) 1))), i 5 (.mv (r 11))]
def A21_2 : Row := [i 12 (.mv (r 0)), i 13 (.mv (r 5)), i 14 (.slice 1 (r 12) none (some (r 13)) none), i 15 (.lenSlice (r 14)), i 16 (.mv (.const (.int (.i64) 0)))]
def A21_3 : Row := [i 17 (.bin (.lss) (r 16) (r 15))]
def A21_4 : Row := [i 18 (.mv (r 16)), i 19 (.indexAddr 1 (r 14) (r 16)), i 20 (.load none (r 19)), i 6 (.mv (r 18)), i 7 (.mv (r 20))]
def A21_5 : Row := [i 21 (.mv (r 1)), i 22 (.mv (r 6)), i 23 (.call (.func 29) [.tmp 21, .tmp 22]), i 8 (.mv (r 23))]
def A21_6 : Row := [i 25 (.mv (r 1)), i 26 (.bin (.eql) (r 25) (.const (.str []))), i 27 (.mv (r 26)), g 28 (.mv (r 7)) 27 false, g 29 (.convInt (.i64) (r 28)) 27 false, g 30
  (.mv (r 8)) 27 false, g 31 (.bin (.lss) (r 29) (r 30)) 27 false, i 32 (.pick (r 27) (.const (.bool true)) (r 31)), i 24 (.mv (r 32))]
def A21_7 : Row := [i 4 (.mv (.const (.int (.i64) 255)))]
def A21_8 : Row := [i 34 (.mv (r 7)), i 35 (.convInt (.i64) (r 34)), i 36 (.mv (r 8)), i 37 (.bin (.gtr) (r 35) (r 36)), i 33 (.mv (r 37))]
def A21_9 : Row := [i 4 (.mv (.const (.int (.i64) (-1))))]
def A21_10 : Row := [i 38 (.bin (.add) (r 16) (.const (.int (.i64) 1))), i 16 (.mv (r 38))]
def A21_11 : ACode := (.seq (.ops A21_3) (.seq (.cond (r 17) .skip (.exit 0)) (.seq (.block 1 (.seq (.ops A21_4) (.seq (.ops A21_5) (.block 2 (.seq (.ops A21_6) (.cond (r 24)
  (.seq (.ops A21_7) .ret) (.seq (.ops A21_8) (.cond (r 33) (.seq (.ops A21_9) .ret) .skip)))))))) (.ops A21_10))))
def A21_12 : Row := [i 40 (.mv (r 1)), i 41 (.bin (.eql) (r 40) (.const (.str []))), i 39 (.mv (r 41))]
def A21_13 : Row := [i 4 (.mv (.const (.int (.i64) 255)))]
def A21_14 : Row := [i 43 (.mv (r 1)), i 44 (.lenStr (r 43)), i 45 (.mv (r 5)), i 46 (.bin (.add) (r 45) (.const (.int (.i64) 1))), i 47 (.bin (.gtr) (r 44) (r 46)), i 42 (.mv
  (r 47))]
def A21_15 : Row := [i 48 (.mv (r 1)), i 49 (.mv (r 5)), i 50 (.call (.func 29) [.tmp 48, .tmp 49]), i 4 (.mv (r 50))]
def A21_16 : Row := [i 51 (.mv (r 1)), i 52 (.mv (r 5)), i 53 (.call (.func 29) [.tmp 51, .tmp 52]), i 54 (.bin (.sub) (r 53) (.const (.int (.i64) 1))), i 4 (.mv (r 54))]
/-- diorama/poskey.greatest -/
def A21 : AFunc :=
 ⟨55, [.tmp 4], (.seq (.ops A21_0) (.seq (.ops A21_1) (.seq (.seq (.ops A21_2) (.block 0 (.loop A21_11))) (.seq (.block 3 (.seq (.ops A21_12) (.cond (r 39) (.seq (.ops
  A21_13) .ret) (.seq (.ops A21_14) (.cond (r 42) (.seq (.ops A21_15) .ret) .skip))))) (.seq (.ops A21_16) .ret)))))⟩
/-! diorama/dioramaref04.fine -/
def A22_0 : Row := [i 4 (.mv (.const (.bool false)))]
def A22_1 : Row := [i 5 (.mv (r 0)), i 6 (.bin (.neq) (r 5) (.const (.str []))), i 7 (.mv (r 6)), g 8 (.mv (r 0)) 7 true, g 9 (.call (.func 13) [.tmp 8]) 7 true, g 10 (.un
  (.not) (r 9)) 7 true, i 11 (.pick (r 7) (r 10) (.const (.bool false))), i 12 (.mv (r 11)), g 13 (.mv (r 1)) 12 false, g 14 (.bin (.neq) (r 13) (.const (.str []))) 12
  false, g 15 (.mv (r 14)) 12 false, g 16 (.mv (r 1)) 15 true, g 17 (.call (.func 13) [.tmp 16]) 15 true, g 18 (.un (.not) (r 17)) 15 true, g 19 (.pick (r 15) (r 18)
  (.const (.bool false))) 12 false, i 20 (.pick (r 12) (.const (.bool true)) (r 19))]
def A22_2 : Row := [i 4 (.mv (.const (.bool false)))]
def A22_3 : Row := [i 21 (.mv (r 0)), i 22 (.bin (.eql) (r 21) (.const (.str []))), i 23 (.mv (r 22)), g 24 (.mv (r 1)) 23 false, g 25 (.bin (.eql) (r 24) (.const (.str [])))
  23 false, i 26 (.pick (r 23) (.const (.bool true)) (r 25)), i 27 (.mv (r 26)), g 28 (.mv (r 0)) 27 false, g 29 (.mv (r 1)) 27 false, g 30 (.call (.func 15) [.tmp 28,
  .tmp 29]) 27 false, g 31 (.bin (.lss) (r 30) (.const (.int (.i64) 0))) 27 false, i 32 (.pick (r 27) (.const (.bool true)) (r 31)), i 4 (.mv (r 32))]
/-- diorama/dioramaref04.fine -/
def A22 : AFunc :=
 ⟨33, [.tmp 4], (.seq (.ops A22_0) (.seq (.seq (.ops A22_1) (.cond (r 20) (.seq (.ops A22_2) .ret) .skip)) (.seq (.ops A22_3) .ret)))⟩
/-! diorama/dioramaref04.first -/
def A23_0 : Row := [i 4 (.mv (.const (.slice none 0 (.exact 0))))]
def A23_1 : Row := [i 7 (.mv (r 1)), i 8 (.makeSlice 1 8 [.int (.i64) 0] (r 7) (r 7)), i 5 (.mv (r 8))]
def A23_2 : Row := [i 6 (.mv (.const (.int (.i64) 0)))]
def A23_3 : Row := [i 9 (.mv (r 6)), i 10 (.mv (r 1)), i 11 (.bin (.lss) (r 9) (r 10))]
def A23_4 : Row := [i 14 (.mv (r 5)), i 15 (.mv (r 6)), i 16 (.mv (r 0)), i 17 (.mv (r 6)), i 18 (.call (.func 30) [.tmp 16, .tmp 17]), i 19 (.indexAddr 1 (r 14) (r 15)), i0
  (.store 1 (r 19) (r 18))]
def A23_5 : Row := [i 12 (.mv (r 6)), i 13 (.bin (.add) (r 12) (.const (.int (.i64) 1))), i 6 (.mv (r 13))]
def A23_6 : ACode := (.seq (.seq (.ops A23_3) (.cond (r 11) .skip (.exit 0))) (.seq (.block 1 (.ops A23_4)) (.ops A23_5)))
def A23_7 : Row := [i 20 (.mv (r 5)), i 21 (.call (.func 31) [.tmp 20]), i 22 (.un (.not) (r 21))]
def A23_8 : Row := [i 4 (.mv (.const (.slice none 0 (.exact 0))))]
def A23_9 : Row := [i 23 (.mv (r 5)), i 4 (.mv (r 23))]
/-- diorama/dioramaref04.first -/
def A23 : AFunc :=
 ⟨24, [.tmp 4], (.seq (.ops A23_0) (.seq (.ops A23_1) (.seq (.seq (.ops A23_2) (.block 0 (.loop A23_6))) (.seq (.seq (.ops A23_7) (.cond (r 22) (.seq (.ops A23_8) .ret)
  .skip)) (.seq (.ops A23_9) .ret)))))⟩
/-! diorama/dioramaref04.below -/
def A24_0 : Row := [i 4 (.mv (.const (.bool false)))]
def A24_1 : Row := [i 7 (.mv (r 1)), i 8 (.bin (.eql) (r 7) (.const (.str [])))]
def A24_2 : Row := [i 4 (.mv (.const (.bool true)))]
def A24_3 : Row := [i 5 (.mv (.const (.int (.i64) 0)))]
def A24_4 : Row := [i 9 (.mv (r 5)), i 10 (.mv (r 0)), i 11 (.lenSlice (r 10)), i 12 (.bin (.lss) (r 9) (r 11)), i 13 (.mv (r 12)), g 14 (.mv (r 5)) 13 false, g 15 (.mv (r 1))
  13 false, g 16 (.lenStr (r 15)) 13 false, g 17 (.bin (.lss) (r 14) (r 16)) 13 false, i 18 (.pick (r 13) (.const (.bool true)) (r 17))]
def A24_5 : Row := [i 6 (.mv (.const (.int (.i64) 0)))]
def A24_6 : Row := [i 21 (.mv (r 5)), i 22 (.mv (r 0)), i 23 (.lenSlice (r 22)), i 24 (.bin (.lss) (r 21) (r 23))]
def A24_7 : Row := [i 25 (.mv (r 0)), i 26 (.mv (r 5)), i 27 (.indexAddr 1 (r 25) (r 26)), i 28 (.load none (r 27)), i 6 (.mv (r 28))]
def A24_8 : Row := [i 29 (.mv (r 6)), i 30 (.mv (r 1)), i 31 (.mv (r 5)), i 32 (.call (.func 30) [.tmp 30, .tmp 31]), i 33 (.bin (.neq) (r 29) (r 32))]
def A24_9 : Row := [i 34 (.mv (r 6)), i 35 (.mv (r 1)), i 36 (.mv (r 5)), i 37 (.call (.func 30) [.tmp 35, .tmp 36]), i 38 (.bin (.lss) (r 34) (r 37)), i 4 (.mv (r 38))]
def A24_10 : Row := [i 19 (.mv (r 5)), i 20 (.bin (.add) (r 19) (.const (.int (.i64) 1))), i 5 (.mv (r 20))]
def A24_11 : ACode := (.seq (.seq (.ops A24_4) (.cond (r 18) .skip (.exit 0))) (.seq (.block 1 (.seq (.ops A24_5) (.seq (.seq (.ops A24_6) (.cond (r 24) (.ops A24_7) .skip))
  (.seq (.ops A24_8) (.cond (r 33) (.seq (.ops A24_9) .ret) .skip))))) (.ops A24_10)))
def A24_12 : Row := [i 4 (.mv (.const (.bool false)))]
/-- diorama/dioramaref04.below -/
def A24 : AFunc :=
 ⟨39, [.tmp 4], (.seq (.ops A24_0) (.seq (.seq (.ops A24_1) (.cond (r 8) (.seq (.ops A24_2) .ret) .skip)) (.seq (.seq (.ops A24_3) (.block 0 (.loop A24_11))) (.seq (.ops
  A24_12) .ret))))⟩
/-! diorama/dioramaref04.text -/
def A25_0 : Row := [i 2 (.mv (.const (.str [])))]
def A25_1 : Row := [i 5 (.mv (r 0)), i 6 (.lenSlice (r 5)), i 7 (.makeSlice 1 1 [.int (.u8) 0] (r 6) (r 6)), i 3 (.mv (r 7))]
def A25_2 : Row := [i 4 (.mv (.const (.int (.i64) 0)))]
def A25_3 : Row := [i 8 (.mv (r 4)), i 9 (.mv (r 0)), i 10 (.lenSlice (r 9)), i 11 (.bin (.lss) (r 8) (r 10))]
def A25_4 : Row := [i 14 (.mv (r 3)), i 15 (.mv (r 4)), i 16 (.mv (r 0)), i 17 (.mv (r 4)), i 18 (.indexAddr 1 (r 16) (r 17)), i 19 (.load none (r 18)), i 20 (.convInt (.u8)
  (r 19)), i 21 (.indexAddr 1 (r 14) (r 15)), i0 (.store 1 (r 21) (r 20))]
def A25_5 : Row := [i 12 (.mv (r 4)), i 13 (.bin (.add) (r 12) (.const (.int (.i64) 1))), i 4 (.mv (r 13))]
def A25_6 : ACode := (.seq (.seq (.ops A25_3) (.cond (r 11) .skip (.exit 0))) (.seq (.block 1 (.ops A25_4)) (.ops A25_5)))
def A25_7 : Row := [i 22 (.mv (r 3)), i 23 (.bytesStr (r 22)), i 2 (.mv (r 23))]
/-- diorama/dioramaref04.text -/
def A25 : AFunc :=
 ⟨24, [.tmp 2], (.seq (.ops A25_0) (.seq (.ops A25_1) (.seq (.seq (.ops A25_2) (.block 0 (.loop A25_6))) (.seq (.ops A25_7) .ret))))⟩
/-! diorama/poskey.Spread$1 -/
def A27_0 : Row := [i 8 (.mv (.const (.int (.i64) 0)))]
def A27_1 : Row := [i 12 (.mv (r 2)), i 13 (.bin (.eql) (r 12) (.const (.int (.i64) 0)))]
def A27_2 : Row := [i 8 (.mv (.const (.int (.i64) 0)))]
def A27_3 : Row := [i 15 (.mv (r 0)), i 16 (.mv (r 1)), i 17 (.call (.func 9) [.tmp 15, .tmp 16]), i 14 (.mv (r 17)), i 18 (.extract (r 14) 0), i 19 (.extract (r 14) 1), i 9
  (.mv (r 18)), i 10 (.mv (r 19))]
def A27_4 : Row := [i 20 (.mv (r 2)), i 21 (.bin (.sub) (r 20) (.const (.int (.i64) 1))), i 22 (.bin (.quo) (r 21) (.const (.int (.i64) 2))), i 11 (.mv (r 22))]
def A27_5 : Row := [i 23 (.mv (r 10)), i 24 (.bin (.eql) (r 23) (.const (.int (.i64) 0)))]
def A27_6 : Row := [i 25 (.load none (r 3)), i 26 (.mv (r 0)), i 27 (.mv (r 9)), i 28 (.mv (r 11)), i 29 (.call (r 25) [.tmp 26, .tmp 27, .tmp 28]), i 10 (.mv (r 29))]
def A27_7 : Row := [i 30 (.mv (r 10)), i 31 (.bin (.neq) (r 30) (.const (.int (.i64) 0)))]
def A27_8 : Row := [i 32 (.mv (r 10)), i 8 (.mv (r 32))]
def A27_9 : Row := [i 33 (.load none (r 4)), i 34 (.mv (r 9)), i 35 (.buildSlice 1 [.str []] [(0, 1, .tmp 34)]), i 36 (.append 1 16 (r 33) (r 35)), i0 (.store 1 (r 4) (r 36))]
def A27_10 : Row := [i 37 (.load none (r 3)), i 38 (.mv (r 9)), i 39 (.mv (r 1)), i 40 (.mv (r 2)), i 41 (.bin (.sub) (r 40) (.const (.int (.i64) 1))), i 42 (.mv (r 11)), i 43
  (.bin (.sub) (r 41) (r 42)), i 44 (.call (r 37) [.tmp 38, .tmp 39, .tmp 43]), i 8 (.mv (r 44))]
/-- diorama/poskey.Spread$1 -/
def A27 : AFunc :=
 ⟨45, [.tmp 8], (.seq (.ops A27_0) (.seq (.seq (.ops A27_1) (.cond (r 13) (.seq (.ops A27_2) .ret) .skip)) (.seq (.ops A27_3) (.seq (.ops A27_4) (.seq (.seq (.ops A27_5)
  (.cond (r 24) (.ops A27_6) .skip)) (.seq (.seq (.ops A27_7) (.cond (r 31) (.seq (.ops A27_8) .ret) .skip)) (.seq (.ops A27_9) (.seq (.ops A27_10) .ret))))))))⟩
/-! diorama/poskey.fine$1 -/
def A28_0 : Row := [i 2 (.mv (.const (.bool false)))]
def A28_1 : Row := [i 3 (.mv (r 0)), i 4 (.bin (.eql) (r 3) (.const (.str []))), i 5 (.mv (r 4)), g 6 (.mv (r 0)) 5 false, g 7 (.call (.func 12) [.tmp 6]) 5 false, i 8 (.pick
  (r 5) (.const (.bool true)) (r 7)), i 2 (.mv (r 8))]
/-- diorama/poskey.fine$1 -/
def A28 : AFunc :=
 ⟨9, [.tmp 2], (.seq (.ops A28_0) (.seq (.ops A28_1) .ret))⟩
/-! diorama/poskey.digit -/
def A29_0 : Row := [i 4 (.mv (.const (.int (.i64) 0)))]
def A29_1 : Row := [i 5 (.mv (r 1)), i 6 (.mv (r 0)), i 7 (.lenStr (r 6)), i 8 (.bin (.lss) (r 5) (r 7))]
def A29_2 : Row := [i 9 (.mv (r 0)), i 10 (.mv (r 1)), i 11 (.indexStr (r 9) (r 10)), i 12 (.convInt (.i64) (r 11)), i 4 (.mv (r 12))]
def A29_3 : Row := [i 4 (.mv (.const (.int (.i64) 0)))]
/-- diorama/poskey.digit -/
def A29 : AFunc :=
 ⟨13, [.tmp 4], (.seq (.ops A29_0) (.seq (.seq (.ops A29_1) (.cond (r 8) (.seq (.ops A29_2) .ret) .skip)) (.seq (.ops A29_3) .ret)))⟩
/-! diorama/dioramaref04.digit -/
def A30_0 : Row := [i 4 (.mv (.const (.int (.i64) 0)))]
def A30_1 : Row := [i 5 (.mv (r 1)), i 6 (.mv (r 0)), i 7 (.lenStr (r 6)), i 8 (.bin (.lss) (r 5) (r 7))]
def A30_2 : Row := [i 9 (.mv (r 0)), i 10 (.mv (r 1)), i 11 (.indexStr (r 9) (r 10)), i 12 (.convInt (.i64) (r 11)), i 4 (.mv (r 12))]
def A30_3 : Row := [i 4 (.mv (.const (.int (.i64) 0)))]
/-- diorama/dioramaref04.digit -/
def A30 : AFunc :=
 ⟨13, [.tmp 4], (.seq (.ops A30_0) (.seq (.seq (.ops A30_1) (.cond (r 8) (.seq (.ops A30_2) .ret) .skip)) (.seq (.ops A30_3) .ret)))⟩
/-! diorama/dioramaref04.carry -/
def A31_0 : Row := [i 2 (.mv (.const (.bool false)))]
def A31_1 : Row := [i 4 (.mv (r 0)), i 5 (.lenSlice (r 4)), i 6 (.bin (.sub) (r 5) (.const (.int (.i64) 1))), i 3 (.mv (r 6))]
def A31_2 : Row := [i 7 (.mv (r 3)), i 8 (.bin (.geq) (r 7) (.const (.int (.i64) 0)))]
def A31_3 : Row := [i 11 (.mv (r 0)), i 12 (.mv (r 3)), i 13 (.indexAddr 1 (r 11) (r 12)), i 14 (.load none (r 13)), i 15 (.bin (.lss) (r 14) (.const (.int (.i64) 255)))]
def A31_4 : Row := [i 16 (.mv (r 0)), i 17 (.mv (r 3)), i 18 (.indexAddr 1 (r 16) (r 17)), i 19 (.load none (r 18)), i 20 (.bin (.add) (r 19) (.const (.int (.i64) 1))), i 21
  (.indexAddr 1 (r 16) (r 17)), i0 (.store 1 (r 21) (r 20))]
def A31_5 : Row := [i 2 (.mv (.const (.bool true)))]
def A31_6 : Row := [i 22 (.mv (r 0)), i 23 (.mv (r 3)), i 24 (.indexAddr 1 (r 22) (r 23)), i0 (.store 1 (r 24) (.const (.int (.i64) 0)))]
def A31_7 : Row := [i 9 (.mv (r 3)), i 10 (.bin (.sub) (r 9) (.const (.int (.i64) 1))), i 3 (.mv (r 10))]
def A31_8 : ACode := (.seq (.seq (.ops A31_2) (.cond (r 8) .skip (.exit 0))) (.seq (.block 1 (.seq (.seq (.ops A31_3) (.cond (r 15) (.seq (.ops A31_4) (.seq (.ops A31_5)
  .ret)) .skip)) (.ops A31_6))) (.ops A31_7)))
def A31_9 : Row := [i 2 (.mv (.const (.bool false)))]
/-- diorama/dioramaref04.carry -/
def A31 : AFunc :=
 ⟨25, [.tmp 2], (.seq (.ops A31_0) (.seq (.seq (.ops A31_1) (.block 0 (.loop A31_8))) (.seq (.ops A31_9) .ret)))⟩
/-! internal/bytealg.CompareString -/
def A32_0 : Row := [i 4 (.mv (.const (.int (.i64) 0)))]
def A32_1 : Row := [i 5 (.mv (r 0)), i 6 (.mv (r 1)), i 7 (.call (.func 33) [.tmp 5, .tmp 6]), i 4 (.mv (r 7))]
/-- internal/bytealg.CompareString -/
def A32 : AFunc :=
 ⟨8, [.tmp 4], (.seq (.ops A32_0) (.seq (.ops A32_1) .ret))⟩
def gl0 : Nat → Bool := fun _ => false
set_option maxRecDepth 100000
theorem c3 : cFunc Try.prog gl0 Try.f3 = some A3 := by kernel_rfl
theorem c4 : cFunc Try.prog gl0 Try.f4 = some A4 := by kernel_rfl
theorem c5 : cFunc Try.prog gl0 Try.f5 = some A5 := by kernel_rfl
theorem c6 : cFunc Try.prog gl0 Try.f6 = some A6 := by kernel_rfl
theorem c7 : cFunc Try.prog gl0 Try.f7 = some A7 := by kernel_rfl
theorem c8 : cFunc Try.prog gl0 Try.f8 = some A8 := by kernel_rfl
theorem c9 : cFunc Try.prog gl0 Try.f9 = some A9 := by kernel_rfl
theorem c10 : cFunc Try.prog gl0 Try.f10 = some A10 := by kernel_rfl
theorem c11 : cFunc Try.prog gl0 Try.f11 = some A11 := by kernel_rfl
theorem c12 : cFunc Try.prog gl0 Try.f12 = some A12 := by kernel_rfl
theorem c13 : cFunc Try.prog gl0 Try.f13 = some A13 := by kernel_rfl
theorem c14 : cFunc Try.prog gl0 Try.f14 = some A14 := by kernel_rfl
theorem c15 : cFunc Try.prog gl0 Try.f15 = some A15 := by kernel_rfl
theorem c16 : cFunc Try.prog gl0 Try.f16 = some A16 := by kernel_rfl
theorem c17 : cFunc Try.prog gl0 Try.f17 = some A17 := by kernel_rfl
theorem c18 : cFunc Try.prog gl0 Try.f18 = some A18 := by kernel_rfl
theorem c19 : cFunc Try.prog gl0 Try.f19 = some A19 := by kernel_rfl
theorem c20 : cFunc Try.prog gl0 Try.f20 = some A20 := by kernel_rfl
theorem c21 : cFunc Try.prog gl0 Try.f21 = some A21 := by kernel_rfl
theorem c22 : cFunc Try.prog gl0 Try.f22 = some A22 := by kernel_rfl
theorem c23 : cFunc Try.prog gl0 Try.f23 = some A23 := by kernel_rfl
theorem c24 : cFunc Try.prog gl0 Try.f24 = some A24 := by kernel_rfl
theorem c25 : cFunc Try.prog gl0 Try.f25 = some A25 := by kernel_rfl
theorem c27 : cFunc Try.prog gl0 Try.f27 = some A27 := by kernel_rfl
theorem c28 : cFunc Try.prog gl0 Try.f28 = some A28 := by kernel_rfl
theorem c29 : cFunc Try.prog gl0 Try.f29 = some A29 := by kernel_rfl
theorem c30 : cFunc Try.prog gl0 Try.f30 = some A30 := by kernel_rfl
theorem c31 : cFunc Try.prog gl0 Try.f31 = some A31 := by kernel_rfl
theorem c32 : cFunc Try.prog gl0 Try.f32 = some A32 := by kernel_rfl
theorem mixed : Try.prog.follows .mixedOrders = true := by kernel_rfl
def codes : List (Nat × AFunc) := [(3, A3), (4, A4), (5, A5), (6, A6), (7, A7), (8, A8), (9, A9), (10, A10), (11, A11), (12, A12), (13, A13), (14, A14), (15, A15), (16, A16), (17, A17), (18, A18), (19, A19), (20, A20), (21, A21), (22, A22), (23, A23), (24, A24), (25, A25), (27, A27), (28, A28), (29, A29), (30, A30), (31, A31), (32, A32)]
theorem codes_ok : ∀ x ∈ codes, ∃ fn, Try.prog.funcs[x.1]? = some fn ∧ (fn.name == "runtime.NumGoroutine") = false ∧ cFunc Try.prog gl0 fn = some x.2 := by
  unfold codes
  simp only [List.forall_mem_cons]
  exact ⟨⟨_, Try.func3, (by kernel_rfl), c3⟩, ⟨_, Try.func4, (by kernel_rfl), c4⟩, ⟨_, Try.func5, (by kernel_rfl), c5⟩, ⟨_, Try.func6, (by kernel_rfl), c6⟩, ⟨_, Try.func7, (by kernel_rfl), c7⟩, ⟨_, Try.func8, (by kernel_rfl), c8⟩, ⟨_, Try.func9, (by kernel_rfl), c9⟩, ⟨_, Try.func10, (by kernel_rfl), c10⟩, ⟨_, Try.func11, (by kernel_rfl), c11⟩, ⟨_, Try.func12, (by kernel_rfl), c12⟩, ⟨_, Try.func13, (by kernel_rfl), c13⟩, ⟨_, Try.func14, (by kernel_rfl), c14⟩, ⟨_, Try.func15, (by kernel_rfl), c15⟩, ⟨_, Try.func16, (by kernel_rfl), c16⟩, ⟨_, Try.func17, (by kernel_rfl), c17⟩, ⟨_, Try.func18, (by kernel_rfl), c18⟩, ⟨_, Try.func19, (by kernel_rfl), c19⟩, ⟨_, Try.func20, (by kernel_rfl), c20⟩, ⟨_, Try.func21, (by kernel_rfl), c21⟩, ⟨_, Try.func22, (by kernel_rfl), c22⟩, ⟨_, Try.func23, (by kernel_rfl), c23⟩, ⟨_, Try.func24, (by kernel_rfl), c24⟩, ⟨_, Try.func25, (by kernel_rfl), c25⟩, ⟨_, Try.func27, (by kernel_rfl), c27⟩, ⟨_, Try.func28, (by kernel_rfl), c28⟩, ⟨_, Try.func29, (by kernel_rfl), c29⟩, ⟨_, Try.func30, (by kernel_rfl), c30⟩, ⟨_, Try.func31, (by kernel_rfl), c31⟩, ⟨_, Try.func32, (by kernel_rfl), c32⟩, fun _ h => (by cases h)⟩
end Go.Am.Try
