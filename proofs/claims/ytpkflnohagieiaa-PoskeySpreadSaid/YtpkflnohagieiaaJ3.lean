/- The machine and what is proved of its runs, part 3: what each part says stands at its head. -/
import Derived.Test.YtpkflnohagieiaaJ2
import Derived.Test.YtpkflnohagieiaaChecked
import Derived.KernelRfl
import Derived.Lib.Strings
import Derived.Lib.Slices
import Derived.Lib.Walk
import Derived.Lib.Bytealg
import Derived.IntWalk
set_option linter.unusedSimpArgs false
set_option linter.unusedVariables false
/- What the machine runs: the code of the functions, written by a program of mine, each tied to the given program by the kernel. -/
namespace Go.Am.Try
open Go Go.Am Go.Proofs
abbrev Row := List Go.Am.Item
abbrev r (t : Nat) : Opd := .tmp t
abbrev i (d : Nat) (op : AOp) : Go.Am.Item := ⟨⟨some d, op, none⟩, []⟩
abbrev i0 (op : AOp) : Go.Am.Item := ⟨⟨none, op, none⟩, []⟩
abbrev g (d : Nat) (op : AOp) (t : Nat) (b : Bool) : Go.Am.Item := ⟨⟨some d, op, some (t, b)⟩, []⟩
abbrev a (d : Nat) (op : AOp) : AOper := ⟨some d, op, none⟩
/-! diorama/dioramalaw04.PoskeyBetween -/
def A3_0 : Row := [i 4 (.mv (.const (.bool false)))]
def A3_1 : Row := [i 10 (.mv (r 0)), i 11 (.mv (r 1)), i 12 (.call (.func 9) [.tmp 10, .tmp 11]), i 9 (.mv (r 12)), i 13 (.extract (r 9) 0), i 14 (.extract (r 9) 1), i 5 (.mv
  (r 13)), i 6 (.mv (r 14))]
def A3_2 : Row := [i 16 (.mv (r 0)), i 17 (.mv (r 1)), i 18 (.call (.func 10) [.tmp 16, .tmp 17]), i 15 (.mv (r 18)), i 19 (.extract (r 15) 0), i 20 (.extract (r 15) 1), i 7
  (.mv (r 19)), i 8 (.mv (r 20))]
def A3_3 : Row := [i 21 (.mv (r 5)), i 22 (.mv (r 7)), i 23 (.bin (.eql) (r 21) (r 22)), i 24 (.mv (r 23)), g 25 (.mv (r 6)) 24 true, g 26 (.call (.func 11) [.tmp 25]) 24
  true, g 27 (.mv (r 8)) 24 true, g 28 (.bin (.eql) (r 26) (r 27)) 24 true, i 29 (.pick (r 24) (r 28) (.const (.bool false))), i 30 (.mv (r 29)), g 31 (.mv (r 0)) 30 true,
  g 32 (.call (.func 12) [.tmp 31]) 30 true, g 33 (.mv (r 0)) 30 true, g 34 (.call (.func 13) [.tmp 33]) 30 true, g 35 (.eq false { agg := false, sk := [.bool] } (r 32) (r
  34)) 30 true, i 36 (.pick (r 30) (r 35) (.const (.bool false))), i 37 (.mv (r 36)), g 38 (.mv (r 0)) 37 true, g 39 (.mv (r 1)) 37 true, g 40 (.call (.func 14) [.tmp 38,
  .tmp 39]) 37 true, g 41 (.mv (r 0)) 37 true, g 42 (.mv (r 1)) 37 true, g 43 (.call (.func 15) [.tmp 41, .tmp 42]) 37 true, g 44 (.bin (.eql) (r 40) (r 43)) 37 true, i 45
  (.pick (r 37) (r 44) (.const (.bool false))), i 46 (.mv (r 45)), g 47 (.call (.func 16) []) 46 true, i 48 (.pick (r 46) (r 47) (.const (.bool false))), i 4 (.mv (r 48))]
/-- diorama/dioramalaw04.PoskeyBetween -/
def A3 : AFunc :=
 ⟨49, [.tmp 4], (.seq (.ops A3_0) (.seq (.ops A3_1) (.seq (.ops A3_2) (.seq (.ops A3_3) .ret))))⟩
/-! diorama/dioramalaw04.PoskeyLies -/
def A4_0 : Row := [i 4 (.mv (.const (.bool false)))]
def A4_1 : Row := [i 9 (.mv (r 0)), i 10 (.mv (r 1)), i 11 (.call (.func 9) [.tmp 9, .tmp 10]), i 8 (.mv (r 11)), i 12 (.extract (r 8) 0), i 13 (.extract (r 8) 1), i 5 (.mv (r
  12)), i 6 (.mv (r 13))]
def A4_2 : Row := [i 14 (.mv (r 0)), i 15 (.bin (.eql) (r 14) (.const (.str []))), i 16 (.mv (r 15)), g 17 (.mv (r 0)) 16 false, g 18 (.call (.func 12) [.tmp 17]) 16 false, i
  19 (.pick (r 16) (.const (.bool true)) (r 18)), i 20 (.mv (r 19)), g 21 (.mv (r 1)) 20 true, g 22 (.bin (.eql) (r 21) (.const (.str []))) 20 true, g 23 (.mv (r 22)) 20
  true, g 24 (.mv (r 1)) 23 false, g 25 (.call (.func 12) [.tmp 24]) 23 false, g 26 (.pick (r 23) (.const (.bool true)) (r 25)) 20 true, i 27 (.pick (r 20) (r 26) (.const
  (.bool false))), i 28 (.mv (r 27)), g 29 (.mv (r 0)) 28 true, g 30 (.bin (.eql) (r 29) (.const (.str []))) 28 true, g 31 (.mv (r 30)) 28 true, g 32 (.mv (r 1)) 31 false,
  g 33 (.bin (.eql) (r 32) (.const (.str []))) 31 false, g 34 (.pick (r 31) (.const (.bool true)) (r 33)) 28 true, g 35 (.mv (r 34)) 28 true, g 36 (.mv (r 0)) 35 false, g
  37 (.mv (r 1)) 35 false, g 38 (.bin (.lss) (r 36) (r 37)) 35 false, g 39 (.pick (r 35) (.const (.bool true)) (r 38)) 28 true, i 40 (.pick (r 28) (r 39) (.const (.bool
  false))), i 7 (.mv (r 40))]
def A4_3 : Row := [i 41 (.mv (r 7)), i 42 (.un (.not) (r 41))]
def A4_4 : Row := [i 43 (.mv (r 5)), i 44 (.bin (.eql) (r 43) (.const (.str []))), i 45 (.mv (r 44)), g 46 (.mv (r 6)) 45 true, g 47 (.call (.func 11) [.tmp 46]) 45 true, g 48
  (.bin (.eql) (r 47) (.const (.int (.i64) 1))) 45 true, i 49 (.pick (r 45) (r 48) (.const (.bool false))), i 50 (.mv (r 49)), g 51 (.call (.func 16) []) 50 true, i 52
  (.pick (r 50) (r 51) (.const (.bool false))), i 4 (.mv (r 52))]
def A4_5 : Row := [i 53 (.mv (r 6)), i 54 (.call (.func 11) [.tmp 53]), i 55 (.bin (.neq) (r 54) (.const (.int (.i64) 0)))]
def A4_6 : Row := [i 56 (.mv (r 5)), i 57 (.bin (.eql) (r 56) (.const (.str []))), i 58 (.mv (r 57)), g 59 (.mv (r 6)) 58 true, g 60 (.call (.func 11) [.tmp 59]) 58 true, g 61
  (.bin (.eql) (r 60) (.const (.int (.i64) 32))) 58 true, i 62 (.pick (r 58) (r 61) (.const (.bool false))), i 63 (.mv (r 62)), g 64 (.mv (r 0)) 63 true, g 65 (.lenStr (r
  64)) 63 true, g 66 (.mv (r 1)) 63 true, g 67 (.lenStr (r 66)) 63 true, g 68 (.max [.tmp 65, .tmp 67]) 63 true, g 69 (.bin (.geq) (r 68) (.const (.int (.i64) 24))) 63
  true, i 70 (.pick (r 63) (r 69) (.const (.bool false))), i 71 (.mv (r 70)), g 72 (.call (.func 16) []) 71 true, i 73 (.pick (r 71) (r 72) (.const (.bool false))), i 4
  (.mv (r 73))]
def A4_7 : Row := [i 74 (.mv (r 5)), i 75 (.call (.func 12) [.tmp 74]), i 76 (.mv (r 75)), g 77 (.mv (r 0)) 76 true, g 78 (.bin (.eql) (r 77) (.const (.str []))) 76 true, g 79
  (.mv (r 78)) 76 true, g 80 (.mv (r 0)) 79 false, g 81 (.mv (r 5)) 79 false, g 82 (.call (.func 14) [.tmp 80, .tmp 81]) 79 false, g 83 (.bin (.eql) (r 82) (.const (.int
  (.i64) (-1)))) 79 false, g 84 (.pick (r 79) (.const (.bool true)) (r 83)) 76 true, i 85 (.pick (r 76) (r 84) (.const (.bool false))), i 86 (.mv (r 85)), g 87 (.mv (r 1))
  86 true, g 88 (.bin (.eql) (r 87) (.const (.str []))) 86 true, g 89 (.mv (r 88)) 86 true, g 90 (.mv (r 5)) 89 false, g 91 (.mv (r 1)) 89 false, g 92 (.call (.func 14)
  [.tmp 90, .tmp 91]) 89 false, g 93 (.bin (.eql) (r 92) (.const (.int (.i64) (-1)))) 89 false, g 94 (.pick (r 89) (.const (.bool true)) (r 93)) 86 true, i 95 (.pick (r
  86) (r 94) (.const (.bool false))), i 96 (.mv (r 95)), g 97 (.mv (r 0)) 96 true, g 98 (.mv (r 5)) 96 true, g 99 (.bin (.lss) (r 97) (r 98)) 96 true, i 100 (.pick (r 96)
  (r 99) (.const (.bool false))), i 101 (.mv (r 100)), g 102 (.mv (r 1)) 101 true, g 103 (.bin (.eql) (r 102) (.const (.str []))) 101 true, g 104 (.mv (r 103)) 101 true, g
  105 (.mv (r 5)) 104 false, g 106 (.mv (r 1)) 104 false, g 107 (.bin (.lss) (r 105) (r 106)) 104 false, g 108 (.pick (r 104) (.const (.bool true)) (r 107)) 101 true, i
  109 (.pick (r 101) (r 108) (.const (.bool false))), i 110 (.mv (r 109)), g 111 (.call (.func 16) []) 110 true, i 112 (.pick (r 110) (r 111) (.const (.bool false))), i 4
  (.mv (r 112))]
/-- diorama/dioramalaw04.PoskeyLies -/
def A4 : AFunc :=
 ⟨113, [.tmp 4], (.seq (.ops A4_0) (.seq (.ops A4_1) (.seq (.ops A4_2) (.seq (.seq (.ops A4_3) (.cond (r 42) (.seq (.ops A4_4) .ret) .skip)) (.seq (.seq (.ops A4_5) (.cond
  (r 55) (.seq (.ops A4_6) .ret) .skip)) (.seq (.ops A4_7) .ret))))))⟩
/-! diorama/dioramalaw04.PoskeyDense -/
def A5_0 : Row := [i 4 (.mv (.const (.bool false)))]
def A5_1 : Row := [i 10 (.mv (r 0)), i 11 (.call (.func 12) [.tmp 10]), i 12 (.un (.not) (r 11)), i 13 (.mv (r 12)), g 14 (.mv (r 0)) 13 false, g 15 (.lenStr (r 14)) 13 false,
  g 16 (.bin (.gtr) (r 15) (.const (.int (.i64) 4))) 13 false, i 17 (.pick (r 13) (.const (.bool true)) (r 16))]
def A5_2 : Row := [i 18 (.call (.func 16) []), i 4 (.mv (r 18))]
def A5_3 : Row := [i 19 (.mv (r 0)), i 5 (.mv (r 19))]
def A5_4 : Row := [i 6 (.mv (.const (.str [])))]
def A5_5 : Row := [i 7 (.mv (.const (.int (.i64) 0)))]
def A5_6 : Row := [i 20 (.mv (r 7)), i 21 (.bin (.lss) (r 20) (.const (.int (.i64) 20)))]
def A5_7 : Row := [i 25 (.mv (r 5)), i 26 (.mv (r 6)), i 27 (.call (.func 9) [.tmp 25, .tmp 26]), i 24 (.mv (r 27)), i 28 (.extract (r 24) 0), i 29 (.extract (r 24) 1), i 8
  (.mv (r 28)), i 9 (.mv (r 29))]
def A5_8 : Row := [i 30 (.mv (r 9)), i 31 (.call (.func 11) [.tmp 30]), i 32 (.bin (.neq) (r 31) (.const (.int (.i64) 0))), i 33 (.mv (r 32)), g 34 (.mv (r 8)) 33 false, g 35
  (.mv (r 5)) 33 false, g 36 (.bin (.leq) (r 34) (r 35)) 33 false, i 37 (.pick (r 33) (.const (.bool true)) (r 36)), i 38 (.mv (r 37)), g 39 (.mv (r 6)) 38 false, g 40
  (.bin (.neq) (r 39) (.const (.str []))) 38 false, g 41 (.mv (r 40)) 38 false, g 42 (.mv (r 8)) 41 true, g 43 (.mv (r 6)) 41 true, g 44 (.bin (.geq) (r 42) (r 43)) 41
  true, g 45 (.pick (r 41) (r 44) (.const (.bool false))) 38 false, i 46 (.pick (r 38) (.const (.bool true)) (r 45))]
def A5_9 : Row := [i 4 (.mv (.const (.bool false)))]
def A5_10 : Row := [i 47 (.mv (r 1)), i 48 (.bin (.rem) (r 47) (.const (.int (.i64) 2))), i 49 (.bin (.eql) (r 48) (.const (.int (.i64) 0)))]
def A5_11 : Row := [i 50 (.mv (r 8)), i 5 (.mv (r 50))]
def A5_12 : Row := [i 51 (.mv (r 8)), i 6 (.mv (r 51))]
def A5_13 : Row := [i 22 (.mv (r 7)), i 23 (.bin (.add) (r 22) (.const (.int (.i64) 1))), i 7 (.mv (r 23))]
def A5_14 : ACode := (.seq (.seq (.ops A5_6) (.cond (r 21) .skip (.exit 0))) (.seq (.block 1 (.seq (.ops A5_7) (.seq (.seq (.ops A5_8) (.cond (r 46) (.seq (.ops A5_9) .ret)
  .skip)) (.seq (.ops A5_10) (.cond (r 49) (.ops A5_11) (.ops A5_12)))))) (.ops A5_13)))
def A5_15 : Row := [i 52 (.call (.func 16) []), i 4 (.mv (r 52))]
/-- diorama/dioramalaw04.PoskeyDense -/
def A5 : AFunc :=
 ⟨53, [.tmp 4], (.seq (.ops A5_0) (.seq (.seq (.ops A5_1) (.cond (r 17) (.seq (.ops A5_2) .ret) .skip)) (.seq (.ops A5_3) (.seq (.ops A5_4) (.seq (.seq (.ops A5_5) (.block
  0 (.loop A5_14))) (.seq (.ops A5_15) .ret))))))⟩
/-! diorama/dioramalaw04.PoskeyOrder -/
def A6_0 : Row := [i 6 (.mv (.const (.bool false)))]
def A6_1 : Row := [i 10 (.mv (r 0)), i 11 (.mv (r 1)), i 12 (.call (.func 14) [.tmp 10, .tmp 11]), i 7 (.mv (r 12))]
def A6_2 : Row := [i 13 (.mv (r 1)), i 14 (.mv (r 2)), i 15 (.call (.func 14) [.tmp 13, .tmp 14]), i 8 (.mv (r 15))]
def A6_3 : Row := [i 16 (.mv (r 0)), i 17 (.mv (r 2)), i 18 (.call (.func 14) [.tmp 16, .tmp 17]), i 9 (.mv (r 18))]
def A6_4 : Row := [i 19 (.mv (r 7)), i 20 (.bin (.lss) (r 19) (.const (.int (.i64) 0))), i 21 (.mv (r 20)), g 22 (.mv (r 8)) 21 true, g 23 (.bin (.lss) (r 22) (.const (.int
  (.i64) 0))) 21 true, i 24 (.pick (r 21) (r 23) (.const (.bool false))), i 25 (.mv (r 24)), g 26 (.mv (r 9)) 25 true, g 27 (.bin (.geq) (r 26) (.const (.int (.i64) 0)))
  25 true, i 28 (.pick (r 25) (r 27) (.const (.bool false))), i 29 (.mv (r 28)), g 30 (.mv (r 7)) 29 false, g 31 (.bin (.gtr) (r 30) (.const (.int (.i64) 0))) 29 false, g
  32 (.mv (r 31)) 29 false, g 33 (.mv (r 8)) 32 true, g 34 (.bin (.gtr) (r 33) (.const (.int (.i64) 0))) 32 true, g 35 (.pick (r 32) (r 34) (.const (.bool false))) 29
  false, g 36 (.mv (r 35)) 29 false, g 37 (.mv (r 9)) 36 true, g 38 (.bin (.leq) (r 37) (.const (.int (.i64) 0))) 36 true, g 39 (.pick (r 36) (r 38) (.const (.bool
  false))) 29 false, i 40 (.pick (r 29) (.const (.bool true)) (r 39))]
def A6_5 : Row := [i 6 (.mv (.const (.bool false)))]
def A6_6 : Row := [i 41 (.mv (r 7)), i 42 (.bin (.lss) (r 41) (.const (.int (.i64) 0))), i 43 (.mv (r 0)), i 44 (.mv (r 1)), i 45 (.bin (.lss) (r 43) (r 44)), i 46 (.eq false
  { agg := false, sk := [.bool] } (r 42) (r 45)), i 47 (.mv (r 46)), g 48 (.mv (r 7)) 47 true, g 49 (.bin (.eql) (r 48) (.const (.int (.i64) 0))) 47 true, g 50 (.mv (r 0))
  47 true, g 51 (.mv (r 1)) 47 true, g 52 (.bin (.eql) (r 50) (r 51)) 47 true, g 53 (.eq false { agg := false, sk := [.bool] } (r 49) (r 52)) 47 true, i 54 (.pick (r 47)
  (r 53) (.const (.bool false))), i 55 (.mv (r 54)), g 56 (.mv (r 1)) 55 true, g 57 (.mv (r 0)) 55 true, g 58 (.call (.func 14) [.tmp 56, .tmp 57]) 55 true, g 59 (.mv (r
  7)) 55 true, g 60 (.un (.neg) (r 59)) 55 true, g 61 (.bin (.eql) (r 58) (r 60)) 55 true, i 62 (.pick (r 55) (r 61) (.const (.bool false))), i 63 (.mv (r 62)), g 64
  (.call (.func 16) []) 63 true, i 65 (.pick (r 63) (r 64) (.const (.bool false))), i 6 (.mv (r 65))]
/-- diorama/dioramalaw04.PoskeyOrder -/
def A6 : AFunc :=
 ⟨66, [.tmp 6], (.seq (.ops A6_0) (.seq (.ops A6_1) (.seq (.ops A6_2) (.seq (.ops A6_3) (.seq (.seq (.ops A6_4) (.cond (r 40) (.seq (.ops A6_5) .ret) .skip)) (.seq (.ops
  A6_6) .ret))))))⟩
/-! diorama/dioramalaw04.PoskeySpread -/
def A7_0 : Row := [i 6 (.mv (.const (.bool false)))]
def A7_1 : Row := [i 13 (.mv (r 0)), i 14 (.mv (r 1)), i 15 (.mv (r 2)), i 16 (.call (.func 17) [.tmp 13, .tmp 14, .tmp 15]), i 12 (.mv (r 16)), i 17 (.extract (r 12) 0), i 18
  (.extract (r 12) 1), i 7 (.mv (r 17)), i 8 (.mv (r 18))]
def A7_2 : Row := [i 20 (.mv (r 0)), i 21 (.mv (r 1)), i 22 (.mv (r 2)), i 23 (.call (.func 18) [.tmp 20, .tmp 21, .tmp 22]), i 19 (.mv (r 23)), i 24 (.extract (r 19) 0), i 25
  (.extract (r 19) 1), i 9 (.mv (r 24)), i 10 (.mv (r 25))]
def A7_3 : Row := [i 26 (.mv (r 7)), i 27 (.lenSlice (r 26)), i 28 (.mv (r 9)), i 29 (.lenSlice (r 28)), i 30 (.bin (.neq) (r 27) (r 29)), i 31 (.mv (r 30)), g 32 (.mv (r 8))
  31 false, g 33 (.call (.func 11) [.tmp 32]) 31 false, g 34 (.mv (r 10)) 31 false, g 35 (.bin (.neq) (r 33) (r 34)) 31 false, i 36 (.pick (r 31) (.const (.bool true)) (r
  35))]
def A7_4 : Row := [i 6 (.mv (.const (.bool false)))]
def A7_5 : Row := [i 11 (.mv (.const (.int (.i64) 0)))]
def A7_6 : Row := [i 37 (.mv (r 11)), i 38 (.mv (r 7)), i 39 (.lenSlice (r 38)), i 40 (.bin (.lss) (r 37) (r 39))]
def A7_7 : Row := [i 43 (.mv (r 7)), i 44 (.mv (r 11)), i 45 (.indexAddr 1 (r 43) (r 44)), i 46 (.load none (r 45)), i 47 (.mv (r 9)), i 48 (.mv (r 11)), i 49 (.indexAddr 1 (r
  47) (r 48)), i 50 (.load none (r 49)), i 51 (.bin (.neq) (r 46) (r 50))]
def A7_8 : Row := [i 6 (.mv (.const (.bool false)))]
def A7_9 : Row := [i 41 (.mv (r 11)), i 42 (.bin (.add) (r 41) (.const (.int (.i64) 1))), i 11 (.mv (r 42))]
def A7_10 : ACode := (.seq (.seq (.ops A7_6) (.cond (r 40) .skip (.exit 0))) (.seq (.block 1 (.seq (.ops A7_7) (.cond (r 51) (.seq (.ops A7_8) .ret) .skip))) (.ops A7_9)))
def A7_11 : Row := [i 52 (.call (.func 16) []), i 6 (.mv (r 52))]
/-- diorama/dioramalaw04.PoskeySpread -/
def A7 : AFunc :=
 ⟨53, [.tmp 6], (.seq (.ops A7_0) (.seq (.ops A7_1) (.seq (.ops A7_2) (.seq (.seq (.ops A7_3) (.cond (r 36) (.seq (.ops A7_4) .ret) .skip)) (.seq (.seq (.ops A7_5) (.block
  0 (.loop A7_10))) (.seq (.ops A7_11) .ret))))))⟩
/-! diorama/dioramalaw04.PoskeyRises -/
def A8_0 : Row := [i 6 (.mv (.const (.bool false)))]
def A8_1 : Row := [i 12 (.mv (r 0)), i 13 (.mv (r 1)), i 14 (.mv (r 2)), i 15 (.call (.func 17) [.tmp 12, .tmp 13, .tmp 14]), i 11 (.mv (r 15)), i 16 (.extract (r 11) 0), i 17
  (.extract (r 11) 1), i 7 (.mv (r 16)), i 8 (.mv (r 17))]
def A8_2 : Row := [i 18 (.mv (r 8)), i 19 (.call (.func 11) [.tmp 18]), i 20 (.bin (.neq) (r 19) (.const (.int (.i64) 0)))]
def A8_3 : Row := [i 21 (.mv (r 7)), i 22 (.lenSlice (r 21)), i 23 (.bin (.eql) (r 22) (.const (.int (.i64) 0))), i 24 (.mv (r 23)), g 25 (.call (.func 16) []) 24 true, i 26
  (.pick (r 24) (r 25) (.const (.bool false))), i 6 (.mv (r 26))]
def A8_4 : Row := [i 27 (.mv (r 7)), i 28 (.lenSlice (r 27)), i 29 (.mv (r 2)), i 30 (.bin (.neq) (r 28) (r 29))]
def A8_5 : Row := [i 6 (.mv (.const (.bool false)))]
def A8_6 : Row := [i 31 (.mv (r 0)), i 9 (.mv (r 31))]
def A8_7 : Row := [i 10 (.mv (.const (.int (.i64) 0)))]
def A8_8 : Row := [i 32 (.mv (r 10)), i 33 (.mv (r 2)), i 34 (.bin (.lss) (r 32) (r 33))]
def A8_9 : Row := [i 37 (.mv (r 7)), i 38 (.mv (r 10)), i 39 (.indexAddr 1 (r 37) (r 38)), i 40 (.load none (r 39)), i 41 (.call (.func 12) [.tmp 40]), i 42 (.un (.not) (r
  41)), i 43 (.mv (r 42)), g 44 (.mv (r 7)) 43 false, g 45 (.mv (r 10)) 43 false, g 46 (.indexAddr 1 (r 44) (r 45)) 43 false, g 47 (.load none (r 46)) 43 false, g 48 (.mv
  (r 9)) 43 false, g 49 (.bin (.leq) (r 47) (r 48)) 43 false, i 50 (.pick (r 43) (.const (.bool true)) (r 49)), i 51 (.mv (r 50)), g 52 (.mv (r 1)) 51 false, g 53 (.bin
  (.neq) (r 52) (.const (.str []))) 51 false, g 54 (.mv (r 53)) 51 false, g 55 (.mv (r 7)) 54 true, g 56 (.mv (r 10)) 54 true, g 57 (.indexAddr 1 (r 55) (r 56)) 54 true, g
  58 (.load none (r 57)) 54 true, g 59 (.mv (r 1)) 54 true, g 60 (.bin (.geq) (r 58) (r 59)) 54 true, g 61 (.pick (r 54) (r 60) (.const (.bool false))) 51 false, i 62
  (.pick (r 51) (.const (.bool true)) (r 61))]
def A8_10 : Row := [i 6 (.mv (.const (.bool false)))]
def A8_11 : Row := [i 63 (.mv (r 7)), i 64 (.mv (r 10)), i 65 (.indexAddr 1 (r 63) (r 64)), i 66 (.load none (r 65)), i 9 (.mv (r 66))]
def A8_12 : Row := [i 35 (.mv (r 10)), i 36 (.bin (.add) (r 35) (.const (.int (.i64) 1))), i 10 (.mv (r 36))]
def A8_13 : ACode := (.seq (.seq (.ops A8_8) (.cond (r 34) .skip (.exit 0))) (.seq (.block 1 (.seq (.seq (.ops A8_9) (.cond (r 62) (.seq (.ops A8_10) .ret) .skip)) (.ops
  A8_11))) (.ops A8_12)))
def A8_14 : Row := [i 67 (.call (.func 16) []), i 6 (.mv (r 67))]
/-- diorama/dioramalaw04.PoskeyRises -/
def A8 : AFunc :=
 ⟨68, [.tmp 6], (.seq (.ops A8_0) (.seq (.ops A8_1) (.seq (.seq (.ops A8_2) (.cond (r 20) (.seq (.ops A8_3) .ret) .skip)) (.seq (.seq (.ops A8_4) (.cond (r 30) (.seq (.ops
  A8_5) .ret) .skip)) (.seq (.ops A8_6) (.seq (.seq (.ops A8_7) (.block 0 (.loop A8_13))) (.seq (.ops A8_14) .ret)))))))⟩
/-! diorama/poskey.Between -/
def A9_0 : Row := [i 4 (.mv (.const (.str []))), i 5 (.mv (.const (.int (.i64) 0)))]
def A9_1 : Row := [i 11 (.mv (r 0)), i 12 (.mv (r 1)), i 13 (.call (.func 19) [.tmp 11, .tmp 12]), i 14 (.un (.not) (r 13))]
def A9_2 : Row := [i 4 (.mv (.const (.str []))), i 5 (.mv (.const (.int (.i64) 1)))]
def A9_3 : Row := [i 6 (.mv (.const (.int (.i64) 1)))]
def A9_4 : Row := [i 15 (.mv (r 6)), i 16 (.bin (.leq) (r 15) (.const (.int (.i64) 24)))]
def A9_5 : Row := [i 20 (.mv (r 0)), i 21 (.mv (r 6)), i 22 (.call (.func 20) [.tmp 20, .tmp 21]), i 19 (.mv (r 22)), i 23 (.extract (r 19) 0), i 24 (.extract (r 19) 1), i 7
  (.mv (r 23)), i 8 (.mv (r 24))]
def A9_6 : Row := [i 25 (.mv (r 8)), i 26 (.un (.not) (r 25))]
def A9_7 : Row := [i 27 (.mv (r 7)), i 28 (.mv (r 6)), i 29 (.bin (.sub) (r 28) (.const (.int (.i64) 1))), i 30 (.indexAddr 1 (r 27) (r 29)), i 31 (.load none (r 30)), i 32
  (.convInt (.i64) (r 31)), i 33 (.max [.tmp 32, .const (.int (.i64) 1)]), i 34 (.mv (r 7)), i 35 (.mv (r 1)), ⟨a 36 (.call (.func 21) [.tmp 34, .tmp 35]), [a 31 (.load
  none (r 30))]⟩, i 9 (.mv (r 33)), i 10 (.mv (r 36))]
def A9_8 : Row := [i 37 (.mv (r 10)), i 38 (.mv (r 9)), i 39 (.bin (.lss) (r 37) (r 38))]
def A9_9 : Row := [i 40 (.mv (r 7)), i 41 (.mv (r 6)), i 42 (.bin (.sub) (r 41) (.const (.int (.i64) 1))), i 43 (.mv (r 9)), i 44 (.mv (r 10)), i 45 (.bin (.add) (r 43) (r
  44)), i 46 (.bin (.quo) (r 45) (.const (.int (.i64) 2))), i 47 (.convInt (.u8) (r 46)), i 48 (.indexAddr 1 (r 40) (r 42)), i0 (.store 1 (r 48) (r 47))]
def A9_10 : Row := [i 49 (.mv (r 7)), i 50 (.bytesStr (r 49)), i 4 (.mv (r 50)), i 5 (.mv (.const (.int (.i64) 0)))]
def A9_11 : Row := [i 17 (.mv (r 6)), i 18 (.bin (.add) (r 17) (.const (.int (.i64) 1))), i 6 (.mv (r 18))]
def A9_12 : ACode := (.seq (.seq (.ops A9_4) (.cond (r 16) .skip (.exit 0))) (.seq (.block 1 (.seq (.ops A9_5) (.seq (.seq (.ops A9_6) (.cond (r 26) (.exit 1) .skip)) (.seq
  (.ops A9_7) (.seq (.seq (.ops A9_8) (.cond (r 39) (.exit 1) .skip)) (.seq (.ops A9_9) (.seq (.ops A9_10) .ret))))))) (.ops A9_11)))
def A9_13 : Row := [i 4 (.mv (.const (.str []))), i 5 (.mv (.const (.int (.i64) 32)))]
/-- diorama/poskey.Between -/
def A9 : AFunc :=
 ⟨51, [.tmp 4, .tmp 5], (.seq (.ops A9_0) (.scope (.seq (.seq (.ops A9_1) (.cond (r 14) (.seq (.ops A9_2) .ret) .skip)) (.seq .skip (.seq (.seq (.ops A9_3) (.block 0 (.loop
  A9_12))) (.seq (.ops A9_13) .ret))))))⟩
/-! diorama/dioramaref04.Between -/
def A10_0 : Row := [i 4 (.mv (.const (.str []))), i 5 (.mv (.const (.int (.i64) 0)))]
def A10_1 : Row := [i 11 (.mv (r 0)), i 12 (.mv (r 1)), i 13 (.call (.func 22) [.tmp 11, .tmp 12]), i 14 (.un (.not) (r 13))]
def A10_2 : Row := [i 4 (.mv (.const (.str []))), i 5 (.mv (.const (.int (.i64) 1)))]
def A10_3 : Row := [i 6 (.mv (.const (.int (.i64) 1)))]
def A10_4 : Row := [i 15 (.mv (r 6)), i 16 (.bin (.leq) (r 15) (.const (.int (.i64) 24)))]
def A10_5 : Row := [i 19 (.mv (r 0)), i 20 (.mv (r 6)), i 21 (.call (.func 23) [.tmp 19, .tmp 20]), i 7 (.mv (r 21))]
def A10_6 : Row := [i 22 (.mv (r 7)), i 23 (.eqNil false (.slice) (r 22) (.const (.slice none 0 (.exact 0))))]
def A10_7 : Row := [i 24 (.mv (r 7)), i 25 (.mv (r 6)), i 26 (.bin (.sub) (r 25) (.const (.int (.i64) 1))), i 27 (.indexAddr 1 (r 24) (r 26)), i 28 (.load none (r 27)), i 29
  (.max [.tmp 28, .const (.int (.i64) 1)]), i 8 (.mv (r 29))]
def A10_8 : Row := [i 30 (.mv (r 8)), i 31 (.bin (.sub) (r 30) (.const (.int (.i64) 1))), i 9 (.mv (r 31))]
def A10_9 : Row := [i 32 (.mv (r 8)), i 10 (.mv (r 32))]
def A10_10 : Row := [i 33 (.mv (r 10)), i 34 (.bin (.lss) (r 33) (.const (.int (.i64) 256)))]
def A10_11 : Row := [i 37 (.mv (r 7)), i 38 (.mv (r 6)), i 39 (.bin (.sub) (r 38) (.const (.int (.i64) 1))), i 40 (.mv (r 10)), i 41 (.indexAddr 1 (r 37) (r 39)), i0 (.store 1
  (r 41) (r 40))]
def A10_12 : Row := [i 42 (.mv (r 7)), i 43 (.mv (r 1)), i 44 (.call (.func 24) [.tmp 42, .tmp 43]), i 45 (.un (.not) (r 44))]
def A10_13 : Row := [i 46 (.mv (r 10)), i 9 (.mv (r 46))]
def A10_14 : Row := [i 35 (.mv (r 10)), i 36 (.bin (.add) (r 35) (.const (.int (.i64) 1))), i 10 (.mv (r 36))]
def A10_15 : ACode := (.seq (.seq (.ops A10_10) (.cond (r 34) .skip (.exit 2))) (.seq (.block 3 (.seq (.ops A10_11) (.seq (.seq (.ops A10_12) (.cond (r 45) (.exit 2) .skip))
  (.ops A10_13)))) (.ops A10_14)))
def A10_16 : Row := [i 47 (.mv (r 9)), i 48 (.mv (r 8)), i 49 (.bin (.geq) (r 47) (r 48))]
def A10_17 : Row := [i 50 (.mv (r 7)), i 51 (.mv (r 6)), i 52 (.bin (.sub) (r 51) (.const (.int (.i64) 1))), i 53 (.mv (r 8)), i 54 (.mv (r 9)), i 55 (.bin (.add) (r 53) (r
  54)), i 56 (.bin (.quo) (r 55) (.const (.int (.i64) 2))), i 57 (.indexAddr 1 (r 50) (r 52)), i0 (.store 1 (r 57) (r 56))]
def A10_18 : Row := [i 58 (.mv (r 7)), i 59 (.call (.func 25) [.tmp 58]), i 4 (.mv (r 59)), i 5 (.mv (.const (.int (.i64) 0)))]
def A10_19 : Row := [i 17 (.mv (r 6)), i 18 (.bin (.add) (r 17) (.const (.int (.i64) 1))), i 6 (.mv (r 18))]
def A10_20 : ACode := (.seq (.seq (.ops A10_4) (.cond (r 16) .skip (.exit 0))) (.seq (.block 1 (.seq (.ops A10_5) (.seq (.seq (.ops A10_6) (.cond (r 23) (.exit 1) .skip))
  (.seq (.ops A10_7) (.seq (.ops A10_8) (.seq (.seq (.ops A10_9) (.block 2 (.loop A10_15))) (.seq (.ops A10_16) (.cond (r 49) (.seq (.ops A10_17) (.seq (.ops A10_18)
  .ret)) .skip)))))))) (.ops A10_19)))
def A10_21 : Row := [i 4 (.mv (.const (.str []))), i 5 (.mv (.const (.int (.i64) 32)))]
/-- diorama/dioramaref04.Between -/
def A10 : AFunc :=
 ⟨60, [.tmp 4, .tmp 5], (.seq (.ops A10_0) (.seq (.seq (.ops A10_1) (.cond (r 14) (.seq (.ops A10_2) .ret) .skip)) (.seq (.seq (.ops A10_3) (.block 0 (.loop A10_20))) (.seq
  (.ops A10_21) .ret))))⟩
/-! diorama/dioramalaw04.num -/
def A11_0 : Row := [i 2 (.mv (.const (.int (.i64) 0)))]
def A11_1 : Row := [i 3 (.mv (r 0)), i 2 (.mv (r 3))]
/-- diorama/dioramalaw04.num -/
def A11 : AFunc :=
 ⟨4, [.tmp 2], (.seq (.ops A11_0) (.seq (.ops A11_1) .ret))⟩
/-! diorama/poskey.Right -/
def A12_0 : Row := [i 2 (.mv (.const (.bool false)))]
def A12_1 : Row := [i 3 (.mv (r 0)), i 4 (.bin (.neq) (r 3) (.const (.str []))), i 5 (.mv (r 4)), g 6 (.mv (r 0)) 5 true, g 7 (.lenStr (r 6)) 5 true, g 8 (.bin (.leq) (r 7)
  (.const (.int (.i64) 24))) 5 true, i 9 (.pick (r 5) (r 8) (.const (.bool false))), i 10 (.mv (r 9)), g 11 (.mv (r 0)) 10 true, g 12 (.mv (r 0)) 10 true, g 13 (.lenStr (r
  12)) 10 true, g 14 (.bin (.sub) (r 13) (.const (.int (.i64) 1))) 10 true, g 15 (.indexStr (r 11) (r 14)) 10 true, g 16 (.bin (.neq) (r 15) (.const (.int (.u8) 0))) 10
  true, i 17 (.pick (r 10) (r 16) (.const (.bool false))), i 2 (.mv (r 17))]
/-- diorama/poskey.Right -/
def A12 : AFunc :=
 ⟨18, [.tmp 2], (.seq (.ops A12_0) (.seq (.ops A12_1) .ret))⟩
/-! diorama/dioramaref04.Right -/
def A13_0 : Row := [i 2 (.mv (.const (.bool false)))]
def A13_1 : Row := [i 3 (.mv (r 0)), i 4 (.lenStr (r 3)), i 5 (.bin (.geq) (r 4) (.const (.int (.i64) 1))), i 6 (.mv (r 5)), g 7 (.mv (r 0)) 6 true, g 8 (.lenStr (r 7)) 6
  true, g 9 (.bin (.leq) (r 8) (.const (.int (.i64) 24))) 6 true, i 10 (.pick (r 6) (r 9) (.const (.bool false))), i 11 (.mv (r 10)), g 12 (.mv (r 0)) 11 true, g 13 (.mv
  (r 0)) 11 true, g 14 (.lenStr (r 13)) 11 true, g 15 (.bin (.sub) (r 14) (.const (.int (.i64) 1))) 11 true, g 16 (.indexStr (r 12) (r 15)) 11 true, g 17 (.bin (.neq) (r
  16) (.const (.int (.u8) 0))) 11 true, i 18 (.pick (r 11) (r 17) (.const (.bool false))), i 2 (.mv (r 18))]
/-- diorama/dioramaref04.Right -/
def A13 : AFunc :=
 ⟨19, [.tmp 2], (.seq (.ops A13_0) (.seq (.ops A13_1) .ret))⟩
/-! diorama/poskey.Compare -/
def A14_0 : Row := [i 4 (.mv (.const (.int (.i64) 0)))]
def A14_1 : Row := [i 5 (.mv (r 0)), i 6 (.mv (r 1)), i 7 (.call (.func 26) [.tmp 5, .tmp 6]), i 4 (.mv (r 7))]
/-- diorama/poskey.Compare -/
def A14 : AFunc :=
 ⟨8, [.tmp 4], (.seq (.ops A14_0) (.seq (.ops A14_1) .ret))⟩
/-! diorama/dioramaref04.Compare -/
def A15_0 : Row := [i 4 (.mv (.const (.int (.i64) 0)))]
def A15_1 : Row := [i 5 (.mv (.const (.int (.i64) 0)))]
def A15_2 : Row := [i 6 (.mv (r 5)), i 7 (.mv (r 0)), i 8 (.lenStr (r 7)), i 9 (.bin (.lss) (r 6) (r 8)), i 10 (.mv (r 9)), g 11 (.mv (r 5)) 10 true, g 12 (.mv (r 1)) 10 true,
  g 13 (.lenStr (r 12)) 10 true, g 14 (.bin (.lss) (r 11) (r 13)) 10 true, i 15 (.pick (r 10) (r 14) (.const (.bool false)))]
def A15_3 : Row := [i 18 (.mv (r 0)), i 19 (.mv (r 5)), i 20 (.indexStr (r 18) (r 19)), i 21 (.mv (r 1)), i 22 (.mv (r 5)), i 23 (.indexStr (r 21) (r 22)), i 24 (.bin (.lss)
  (r 20) (r 23))]
def A15_4 : Row := [i 4 (.mv (.const (.int (.i64) (-1))))]
def A15_5 : Row := [i 25 (.mv (r 0)), i 26 (.mv (r 5)), i 27 (.indexStr (r 25) (r 26)), i 28 (.mv (r 1)), i 29 (.mv (r 5)), i 30 (.indexStr (r 28) (r 29)), i 31 (.bin (.gtr)
  (r 27) (r 30))]
def A15_6 : Row := [i 4 (.mv (.const (.int (.i64) 1)))]
def A15_7 : Row := [i 16 (.mv (r 5)), i 17 (.bin (.add) (r 16) (.const (.int (.i64) 1))), i 5 (.mv (r 17))]
def A15_8 : ACode := (.seq (.seq (.ops A15_2) (.cond (r 15) .skip (.exit 0))) (.seq (.block 1 (.seq (.seq (.ops A15_3) (.cond (r 24) (.seq (.ops A15_4) .ret) .skip)) (.seq
  (.ops A15_5) (.cond (r 31) (.seq (.ops A15_6) .ret) .skip)))) (.ops A15_7)))
def A15_9 : Row := [i 32 (.mv (r 0)), i 33 (.lenStr (r 32)), i 34 (.mv (r 1)), i 35 (.lenStr (r 34)), i 36 (.bin (.lss) (r 33) (r 35))]
def A15_10 : Row := [i 4 (.mv (.const (.int (.i64) (-1))))]
def A15_11 : Row := [i 37 (.mv (r 0)), i 38 (.lenStr (r 37)), i 39 (.mv (r 1)), i 40 (.lenStr (r 39)), i 41 (.bin (.gtr) (r 38) (r 40))]
def A15_12 : Row := [i 4 (.mv (.const (.int (.i64) 1)))]
def A15_13 : Row := [i 4 (.mv (.const (.int (.i64) 0)))]
/-- diorama/dioramaref04.Compare -/
def A15 : AFunc :=
 ⟨42, [.tmp 4], (.seq (.ops A15_0) (.seq (.seq (.ops A15_1) (.block 0 (.loop A15_8))) (.seq (.seq (.ops A15_9) (.cond (r 36) (.seq (.ops A15_10) .ret) .skip)) (.seq (.seq
  (.ops A15_11) (.cond (r 41) (.seq (.ops A15_12) .ret) .skip)) (.seq (.ops A15_13) .ret)))))⟩
/-! diorama/dioramalaw04.knows -/
def A16_0 : Row := [i 0 (.mv (.const (.bool false)))]
def A16_1 : Row := [i 6 (.call (.func 9) [.const (.str []), .const (.str [])]), i 5 (.mv (r 6)), i 7 (.extract (r 5) 0), i 8 (.extract (r 5) 1), i 1 (.mv (r 7)), i 2 (.mv (r
  8))]
def A16_2 : Row := [i 10 (.call (.func 9) [.const (.str [128]), .const (.str [129])]), i 9 (.mv (r 10)), i 11 (.extract (r 9) 0), i 12 (.extract (r 9) 1), i 3 (.mv (r 11)), i
  4 (.mv (r 12))]
def A16_3 : Row := [i 13 (.mv (r 2)), i 14 (.call (.func 11) [.tmp 13]), i 15 (.mv (r 4)), i 16 (.call (.func 11) [.tmp 15]), i 17 (.bin (.add) (r 14) (r 16)), i 18 (.bin
  (.eql) (r 17) (.const (.int (.i64) 0))), i 19 (.mv (r 18)), g 20 (.mv (r 1)) 19 true, g 21 (.bin (.eql) (r 20) (.const (.str [128]))) 19 true, i 22 (.pick (r 19) (r 21)
  (.const (.bool false))), i 23 (.mv (r 22)), g 24 (.mv (r 3)) 23 true, g 25 (.bin (.eql) (r 24) (.const (.str [128, 128]))) 23 true, i 26 (.pick (r 23) (r 25) (.const
  (.bool false))), i 27 (.mv (r 26)), g 28 (.mv (r 3)) 27 true, g 29 (.call (.func 12) [.tmp 28]) 27 true, i 30 (.pick (r 27) (r 29) (.const (.bool false))), i 31 (.mv (r
  30)), g 32 (.mv (r 1)) 31 true, g 33 (.mv (r 3)) 31 true, g 34 (.call (.func 14) [.tmp 32, .tmp 33]) 31 true, g 35 (.bin (.eql) (r 34) (.const (.int (.i64) (-1)))) 31
  true, i 36 (.pick (r 31) (r 35) (.const (.bool false))), i 0 (.mv (r 36))]
/-- diorama/dioramalaw04.knows -/
def A16 : AFunc :=
 ⟨37, [.tmp 0], (.seq (.ops A16_0) (.seq (.ops A16_1) (.seq (.ops A16_2) (.seq (.ops A16_3) .ret))))⟩
/-! diorama/poskey.Spread -/
def A17_0 : Row := [i 6 (.mv (.const (.slice none 0 (.exact 0)))), i 7 (.mv (.const (.int (.i64) 0)))]
def A17_1 : Row := [i 11 (.mv (r 2)), i 12 (.bin (.lss) (r 11) (.const (.int (.i64) 0))), i 13 (.mv (r 12)), g 14 (.mv (r 2)) 13 false, g 15 (.bin (.gtr) (r 14) (.const (.int
  (.i64) 64))) 13 false, i 16 (.pick (r 13) (.const (.bool true)) (r 15)), i 17 (.mv (r 16)), g 18 (.mv (r 0)) 17 false, g 19 (.mv (r 1)) 17 false, g 20 (.call (.func 19)
  [.tmp 18, .tmp 19]) 17 false, g 21 (.un (.not) (r 20)) 17 false, i 22 (.pick (r 17) (.const (.bool true)) (r 21))]
def A17_2 : Row := [i 6 (.mv (.const (.slice none 0 (.exact 0)))), i 7 (.mv (.const (.int (.i64) 1)))]
def A17_3 : Row := [i 8 (.alloc [.slice none 0 (.exact 0)])]
def A17_4 : Row := [i 9 (.alloc [.nilFn])]
def A17_5 : Row := [i 23 (.makeFunc 27 [] [.tmp 9, .tmp 8]), i0 (.store 1 (r 9) (r 23))]
def A17_6 : Row := [i 24 (.load none (r 9)), i 25 (.mv (r 0)), i 26 (.mv (r 1)), i 27 (.mv (r 2)), i 28 (.call (r 24) [.tmp 25, .tmp 26, .tmp 27]), i 10 (.mv (r 28))]
def A17_7 : Row := [i 29 (.mv (r 10)), i 30 (.bin (.neq) (r 29) (.const (.int (.i64) 0)))]
def A17_8 : Row := [i 31 (.mv (r 10)), i 6 (.mv (.const (.slice none 0 (.exact 0)))), i 7 (.mv (r 31))]
def A17_9 : Row := [i 32 (.load none (r 8)), i 6 (.mv (r 32)), i 7 (.mv (.const (.int (.i64) 0)))]
/-- diorama/poskey.Spread -/
def A17 : AFunc :=
 ⟨33, [.tmp 6, .tmp 7], (.seq (.ops A17_0) (.seq (.seq (.ops A17_1) (.cond (r 22) (.seq (.ops A17_2) .ret) .skip)) (.seq (.ops A17_3) (.seq (.ops A17_4) (.seq (.ops A17_5)
  (.seq (.seq (.ops A17_6) (.seq (.ops A17_7) (.cond (r 30) (.seq (.ops A17_8) .ret) .skip))) (.seq (.ops A17_9) .ret)))))))⟩
/-! diorama/dioramaref04.Spread -/
def A18_0 : Row := [i 6 (.mv (.const (.slice none 0 (.exact 0)))), i 7 (.mv (.const (.int (.i64) 0)))]
def A18_1 : Row := [i 13 (.mv (r 2)), i 14 (.bin (.lss) (r 13) (.const (.int (.i64) 0))), i 15 (.mv (r 14)), g 16 (.mv (r 2)) 15 false, g 17 (.bin (.gtr) (r 16) (.const (.int
  (.i64) 64))) 15 false, i 18 (.pick (r 15) (.const (.bool true)) (r 17)), i 19 (.mv (r 18)), g 20 (.mv (r 0)) 19 false, g 21 (.mv (r 1)) 19 false, g 22 (.call (.func 22)
  [.tmp 20, .tmp 21]) 19 false, g 23 (.un (.not) (r 22)) 19 false, i 24 (.pick (r 19) (.const (.bool true)) (r 23))]
def A18_2 : Row := [i 6 (.mv (.const (.slice none 0 (.exact 0)))), i 7 (.mv (.const (.int (.i64) 1)))]
def A18_3 : Row := [i 25 (.mv (r 2)), i 26 (.bin (.eql) (r 25) (.const (.int (.i64) 0)))]
def A18_4 : Row := [i 6 (.mv (.const (.slice none 0 (.exact 0)))), i 7 (.mv (.const (.int (.i64) 0)))]
def A18_5 : Row := [i 28 (.mv (r 0)), i 29 (.mv (r 1)), i 30 (.call (.func 10) [.tmp 28, .tmp 29]), i 27 (.mv (r 30)), i 31 (.extract (r 27) 0), i 32 (.extract (r 27) 1), i 8
  (.mv (r 31)), i 9 (.mv (r 32))]
def A18_6 : Row := [i 33 (.mv (r 9)), i 34 (.bin (.neq) (r 33) (.const (.int (.i64) 0)))]
def A18_7 : Row := [i 35 (.mv (r 9)), i 6 (.mv (.const (.slice none 0 (.exact 0)))), i 7 (.mv (r 35))]
def A18_8 : Row := [i 36 (.mv (r 2)), i 37 (.bin (.sub) (r 36) (.const (.int (.i64) 1))), i 38 (.bin (.quo) (r 37) (.const (.int (.i64) 2))), i 10 (.mv (r 38))]
def A18_9 : Row := [i 40 (.mv (r 0)), i 41 (.mv (r 8)), i 42 (.mv (r 10)), i 43 (.call (.func 18) [.tmp 40, .tmp 41, .tmp 42]), i 39 (.mv (r 43)), i 44 (.extract (r 39) 0), i
  45 (.extract (r 39) 1), i 11 (.mv (r 44)), i 9 (.mv (r 45))]
def A18_10 : Row := [i 46 (.mv (r 9)), i 47 (.bin (.neq) (r 46) (.const (.int (.i64) 0)))]
def A18_11 : Row := [i 48 (.mv (r 9)), i 6 (.mv (.const (.slice none 0 (.exact 0)))), i 7 (.mv (r 48))]
def A18_12 : Row := [i 50 (.mv (r 8)), i 51 (.mv (r 1)), i 52 (.mv (r 2)), i 53 (.bin (.sub) (r 52) (.const (.int (.i64) 1))), i 54 (.mv (r 10)), i 55 (.bin (.sub) (r 53) (r
  54)), i 56 (.call (.func 18) [.tmp 50, .tmp 51, .tmp 55]), i 49 (.mv (r 56)), i 57 (.extract (r 49) 0), i 58 (.extract (r 49) 1), i 12 (.mv (r 57)), i 9 (.mv (r 58))]
def A18_13 : Row := [i 59 (.mv (r 9)), i 60 (.bin (.neq) (r 59) (.const (.int (.i64) 0)))]
def A18_14 : Row := [i 61 (.mv (r 9)), i 6 (.mv (.const (.slice none 0 (.exact 0)))), i 7 (.mv (r 61))]
def A18_15 : Row := [i 62 (.mv (r 11)), i 63 (.mv (r 8)), i 64 (.buildSlice 1 [.str []] [(0, 1, .tmp 63)]), i 65 (.append 1 16 (r 62) (r 64)), i 66 (.mv (r 12)), i 67 (.append
  1 16 (r 65) (r 66)), i 6 (.mv (r 67)), i 7 (.mv (.const (.int (.i64) 0)))]
/-- diorama/dioramaref04.Spread -/
def A18 : AFunc :=
 ⟨68, [.tmp 6, .tmp 7], (.seq (.ops A18_0) (.seq (.seq (.ops A18_1) (.cond (r 24) (.seq (.ops A18_2) .ret) .skip)) (.seq (.seq (.ops A18_3) (.cond (r 26) (.seq (.ops A18_4)
  .ret) .skip)) (.seq (.ops A18_5) (.seq (.seq (.ops A18_6) (.cond (r 34) (.seq (.ops A18_7) .ret) .skip)) (.seq (.ops A18_8) (.seq (.ops A18_9) (.seq (.seq (.ops A18_10)
  (.cond (r 47) (.seq (.ops A18_11) .ret) .skip)) (.seq (.ops A18_12) (.seq (.seq (.ops A18_13) (.cond (r 60) (.seq (.ops A18_14) .ret) .skip)) (.seq (.ops A18_15)
  .ret)))))))))))⟩
/-! diorama/poskey.fine -/
def A19_0 : Row := [i 4 (.mv (.const (.bool false)))]
def A19_1 : Row := [i 5 (.mv (.func 28))]
def A19_2 : Row := [i 6 (.mv (r 5)), i 7 (.mv (r 0)), i 8 (.call (r 6) [.tmp 7]), i 9 (.mv (r 8)), g 10 (.mv (r 5)) 9 true, g 11 (.mv (r 1)) 9 true, g 12 (.call (r 10) [.tmp
  11]) 9 true, i 13 (.pick (r 9) (r 12) (.const (.bool false))), i 14 (.mv (r 13)), g 15 (.mv (r 0)) 14 true, g 16 (.bin (.eql) (r 15) (.const (.str []))) 14 true, g 17
  (.mv (r 16)) 14 true, g 18 (.mv (r 1)) 17 false, g 19 (.bin (.eql) (r 18) (.const (.str []))) 17 false, g 20 (.pick (r 17) (.const (.bool true)) (r 19)) 14 true, g 21
  (.mv (r 20)) 14 true, g 22 (.mv (r 0)) 21 false, g 23 (.mv (r 1)) 21 false, g 24 (.bin (.lss) (r 22) (r 23)) 21 false, g 25 (.pick (r 21) (.const (.bool true)) (r 24))
  14 true, i 26 (.pick (r 14) (r 25) (.const (.bool false))), i 4 (.mv (r 26))]
/-- diorama/poskey.fine -/
def A19 : AFunc :=
 ⟨27, [.tmp 4], (.seq (.ops A19_0) (.seq (.ops A19_1) (.seq (.ops A19_2) .ret)))⟩
/-! diorama/poskey.above -/
def A20_0 : Row := [i 4 (.mv (.const (.slice none 0 (.exact 0)))), i 5 (.mv (.const (.bool false)))]
def A20_1 : Row := [i 8 (.mv (r 1)), i 9 (.makeSlice 1 1 [.int (.u8) 0] (r 8) (r 8)), i 6 (.mv (r 9))]
def A20_2 : Row := [i 10 (.mv (r 6)), i 11 (.mv (r 0)), i 12 (.copy 1 (r 10) (r 11))]
def A20_3 : Row := [i 13 (.mv (r 1)), i 14 (.bin (.sub) (r 13) (.const (.int (.i64) 1))), i 7 (.mv (r 14))]
def A20_4 : Row := [i 15 (.mv (r 7)), i 16 (.bin (.geq) (r 15) (.const (.int (.i64) 0)))]
def A20_5 : Row := [i 19 (.mv (r 6)), i 20 (.mv (r 7)), i 21 (.indexAddr 1 (r 19) (r 20)), i 22 (.load none (r 21)), i 23 (.bin (.add) (r 22) (.const (.int (.u8) 1))), i 24
  (.indexAddr 1 (r 19) (r 20)), i0 (.store 1 (r 24) (r 23))]
def A20_6 : Row := [i 25 (.mv (r 6)), i 26 (.mv (r 7)), i 27 (.indexAddr 1 (r 25) (r 26)), i 28 (.load none (r 27)), i 29 (.bin (.neq) (r 28) (.const (.int (.u8) 0)))]
def A20_7 : Row := [i 30 (.mv (r 6)), i 4 (.mv (r 30)), i 5 (.mv (.const (.bool true)))]
def A20_8 : Row := [i 17 (.mv (r 7)), i 18 (.bin (.sub) (r 17) (.const (.int (.i64) 1))), i 7 (.mv (r 18))]
def A20_9 : ACode := (.seq (.seq (.ops A20_4) (.cond (r 16) .skip (.exit 0))) (.seq (.block 1 (.seq (.ops A20_5) (.seq (.ops A20_6) (.cond (r 29) (.seq (.ops A20_7) .ret)
  .skip)))) (.ops A20_8)))
def A20_10 : Row := [i 4 (.mv (.const (.slice none 0 (.exact 0)))), i 5 (.mv (.const (.bool false)))]
/-- diorama/poskey.above -/
def A20 : AFunc :=
 ⟨31, [.tmp 4, .tmp 5], (.seq (.ops A20_0) (.seq (.ops A20_1) (.seq (.ops A20_2) (.seq (.seq (.ops A20_3) (.block 0 (.loop A20_9))) (.seq (.ops A20_10) .ret)))))⟩
/-! diorama/poskey.greatest -/
def A21_0 : Row := [i 4 (.mv (.const (.int (.i64) 0)))]
def A21_1 : Row := [i 9 (.mv (r 0)), i 10 (.lenSlice (r 9)), i 11 (.bin (.sub) (r 10) (.const (.int (.i64) 1))), i 5 (.mv (r 11))]
def A21_2 : Row := [i 12 (.mv (r 0)), i 13 (.mv (r 5)), i 14 (.slice 1 (r 12) none (some (r 13)) none), i 15 (.lenSlice (r 14)), i 16 (.mv (.const (.int (.i64) 0)))]
def A21_3 : Row := [i 17 (.bin (.lss) (r 16) (r 15))]
def A21_4 : Row := [i 18 (.mv (r 16)), i 19 (.indexAddr 1 (r 14) (r 16)), i 20 (.load none (r 19)), i 6 (.mv (r 18)), i 7 (.mv (r 20))]
def A21_5 : Row := [i 21 (.mv (r 1)), i 22 (.mv (r 6)), i 23 (.call (.func 29) [.tmp 21, .tmp 22]), i 8 (.mv (r 23))]
def A21_6 : Row := [i 25 (.mv (r 1)), i 26 (.bin (.eql) (r 25) (.const (.str []))), i 27 (.mv (r 26)), g 28 (.mv (r 7)) 27 false, g 29 (.convInt (.i64) (r 28)) 27 false, g 30
  (.mv (r 8)) 27 false, g 31 (.bin (.lss) (r 29) (r 30)) 27 false, i 32 (.pick (r 27) (.const (.bool true)) (r 31)), i 24 (.mv (r 32))]
def A21_7 : Row := [i 4 (.mv (.const (.int (.i64) 255)))]
def A21_8 : Row := [i 34 (.mv (r 7)), i 35 (.convInt (.i64) (r 34)), i 36 (.mv (r 8)), i 37 (.bin (.gtr) (r 35) (r 36)), i 33 (.mv (r 37))]
def A21_9 : Row := [i 4 (.mv (.const (.int (.i64) (-1))))]
def A21_10 : Row := [i 38 (.bin (.add) (r 16) (.const (.int (.i64) 1))), i 16 (.mv (r 38))]
def A21_11 : ACode := (.seq (.ops A21_3) (.seq (.cond (r 17) .skip (.exit 0)) (.seq (.block 1 (.seq (.ops A21_4) (.seq (.ops A21_5) (.block 2 (.seq (.ops A21_6) (.cond (r 24)
  (.seq (.ops A21_7) .ret) (.seq (.ops A21_8) (.cond (r 33) (.seq (.ops A21_9) .ret) .skip)))))))) (.ops A21_10))))
def A21_12 : Row := [i 40 (.mv (r 1)), i 41 (.bin (.eql) (r 40) (.const (.str []))), i 39 (.mv (r 41))]
def A21_13 : Row := [i 4 (.mv (.const (.int (.i64) 255)))]
def A21_14 : Row := [i 43 (.mv (r 1)), i 44 (.lenStr (r 43)), i 45 (.mv (r 5)), i 46 (.bin (.add) (r 45) (.const (.int (.i64) 1))), i 47 (.bin (.gtr) (r 44) (r 46)), i 42 (.mv
  (r 47))]
def A21_15 : Row := [i 48 (.mv (r 1)), i 49 (.mv (r 5)), i 50 (.call (.func 29) [.tmp 48, .tmp 49]), i 4 (.mv (r 50))]
def A21_16 : Row := [i 51 (.mv (r 1)), i 52 (.mv (r 5)), i 53 (.call (.func 29) [.tmp 51, .tmp 52]), i 54 (.bin (.sub) (r 53) (.const (.int (.i64) 1))), i 4 (.mv (r 54))]
/-- diorama/poskey.greatest -/
def A21 : AFunc :=
 ⟨55, [.tmp 4], (.seq (.ops A21_0) (.seq (.ops A21_1) (.seq (.seq (.ops A21_2) (.block 0 (.loop A21_11))) (.seq (.block 3 (.seq (.ops A21_12) (.cond (r 39) (.seq (.ops
  A21_13) .ret) (.seq (.ops A21_14) (.cond (r 42) (.seq (.ops A21_15) .ret) .skip))))) (.seq (.ops A21_16) .ret)))))⟩
/-! diorama/dioramaref04.fine -/
def A22_0 : Row := [i 4 (.mv (.const (.bool false)))]
def A22_1 : Row := [i 5 (.mv (r 0)), i 6 (.bin (.neq) (r 5) (.const (.str []))), i 7 (.mv (r 6)), g 8 (.mv (r 0)) 7 true, g 9 (.call (.func 13) [.tmp 8]) 7 true, g 10 (.un
  (.not) (r 9)) 7 true, i 11 (.pick (r 7) (r 10) (.const (.bool false))), i 12 (.mv (r 11)), g 13 (.mv (r 1)) 12 false, g 14 (.bin (.neq) (r 13) (.const (.str []))) 12
  false, g 15 (.mv (r 14)) 12 false, g 16 (.mv (r 1)) 15 true, g 17 (.call (.func 13) [.tmp 16]) 15 true, g 18 (.un (.not) (r 17)) 15 true, g 19 (.pick (r 15) (r 18)
  (.const (.bool false))) 12 false, i 20 (.pick (r 12) (.const (.bool true)) (r 19))]
def A22_2 : Row := [i 4 (.mv (.const (.bool false)))]
def A22_3 : Row := [i 21 (.mv (r 0)), i 22 (.bin (.eql) (r 21) (.const (.str []))), i 23 (.mv (r 22)), g 24 (.mv (r 1)) 23 false, g 25 (.bin (.eql) (r 24) (.const (.str [])))
  23 false, i 26 (.pick (r 23) (.const (.bool true)) (r 25)), i 27 (.mv (r 26)), g 28 (.mv (r 0)) 27 false, g 29 (.mv (r 1)) 27 false, g 30 (.call (.func 15) [.tmp 28,
  .tmp 29]) 27 false, g 31 (.bin (.lss) (r 30) (.const (.int (.i64) 0))) 27 false, i 32 (.pick (r 27) (.const (.bool true)) (r 31)), i 4 (.mv (r 32))]
/-- diorama/dioramaref04.fine -/
def A22 : AFunc :=
 ⟨33, [.tmp 4], (.seq (.ops A22_0) (.seq (.seq (.ops A22_1) (.cond (r 20) (.seq (.ops A22_2) .ret) .skip)) (.seq (.ops A22_3) .ret)))⟩
/-! diorama/dioramaref04.first -/
def A23_0 : Row := [i 4 (.mv (.const (.slice none 0 (.exact 0))))]
def A23_1 : Row := [i 7 (.mv (r 1)), i 8 (.makeSlice 1 8 [.int (.i64) 0] (r 7) (r 7)), i 5 (.mv (r 8))]
def A23_2 : Row := [i 6 (.mv (.const (.int (.i64) 0)))]
def A23_3 : Row := [i 9 (.mv (r 6)), i 10 (.mv (r 1)), i 11 (.bin (.lss) (r 9) (r 10))]
def A23_4 : Row := [i 14 (.mv (r 5)), i 15 (.mv (r 6)), i 16 (.mv (r 0)), i 17 (.mv (r 6)), i 18 (.call (.func 30) [.tmp 16, .tmp 17]), i 19 (.indexAddr 1 (r 14) (r 15)), i0
  (.store 1 (r 19) (r 18))]
def A23_5 : Row := [i 12 (.mv (r 6)), i 13 (.bin (.add) (r 12) (.const (.int (.i64) 1))), i 6 (.mv (r 13))]
def A23_6 : ACode := (.seq (.seq (.ops A23_3) (.cond (r 11) .skip (.exit 0))) (.seq (.block 1 (.ops A23_4)) (.ops A23_5)))
def A23_7 : Row := [i 20 (.mv (r 5)), i 21 (.call (.func 31) [.tmp 20]), i 22 (.un (.not) (r 21))]
def A23_8 : Row := [i 4 (.mv (.const (.slice none 0 (.exact 0))))]
def A23_9 : Row := [i 23 (.mv (r 5)), i 4 (.mv (r 23))]
/-- diorama/dioramaref04.first -/
def A23 : AFunc :=
 ⟨24, [.tmp 4], (.seq (.ops A23_0) (.seq (.ops A23_1) (.seq (.seq (.ops A23_2) (.block 0 (.loop A23_6))) (.seq (.seq (.ops A23_7) (.cond (r 22) (.seq (.ops A23_8) .ret)
  .skip)) (.seq (.ops A23_9) .ret)))))⟩
/-! diorama/dioramaref04.below -/
def A24_0 : Row := [i 4 (.mv (.const (.bool false)))]
def A24_1 : Row := [i 7 (.mv (r 1)), i 8 (.bin (.eql) (r 7) (.const (.str [])))]
def A24_2 : Row := [i 4 (.mv (.const (.bool true)))]
def A24_3 : Row := [i 5 (.mv (.const (.int (.i64) 0)))]
def A24_4 : Row := [i 9 (.mv (r 5)), i 10 (.mv (r 0)), i 11 (.lenSlice (r 10)), i 12 (.bin (.lss) (r 9) (r 11)), i 13 (.mv (r 12)), g 14 (.mv (r 5)) 13 false, g 15 (.mv (r 1))
  13 false, g 16 (.lenStr (r 15)) 13 false, g 17 (.bin (.lss) (r 14) (r 16)) 13 false, i 18 (.pick (r 13) (.const (.bool true)) (r 17))]
def A24_5 : Row := [i 6 (.mv (.const (.int (.i64) 0)))]
def A24_6 : Row := [i 21 (.mv (r 5)), i 22 (.mv (r 0)), i 23 (.lenSlice (r 22)), i 24 (.bin (.lss) (r 21) (r 23))]
def A24_7 : Row := [i 25 (.mv (r 0)), i 26 (.mv (r 5)), i 27 (.indexAddr 1 (r 25) (r 26)), i 28 (.load none (r 27)), i 6 (.mv (r 28))]
def A24_8 : Row := [i 29 (.mv (r 6)), i 30 (.mv (r 1)), i 31 (.mv (r 5)), i 32 (.call (.func 30) [.tmp 30, .tmp 31]), i 33 (.bin (.neq) (r 29) (r 32))]
def A24_9 : Row := [i 34 (.mv (r 6)), i 35 (.mv (r 1)), i 36 (.mv (r 5)), i 37 (.call (.func 30) [.tmp 35, .tmp 36]), i 38 (.bin (.lss) (r 34) (r 37)), i 4 (.mv (r 38))]
def A24_10 : Row := [i 19 (.mv (r 5)), i 20 (.bin (.add) (r 19) (.const (.int (.i64) 1))), i 5 (.mv (r 20))]
def A24_11 : ACode := (.seq (.seq (.ops A24_4) (.cond (r 18) .skip (.exit 0))) (.seq (.block 1 (.seq (.ops A24_5) (.seq (.seq (.ops A24_6) (.cond (r 24) (.ops A24_7) .skip))
  (.seq (.ops A24_8) (.cond (r 33) (.seq (.ops A24_9) .ret) .skip))))) (.ops A24_10)))
def A24_12 : Row := [i 4 (.mv (.const (.bool false)))]
/-- diorama/dioramaref04.below -/
def A24 : AFunc :=
 ⟨39, [.tmp 4], (.seq (.ops A24_0) (.seq (.seq (.ops A24_1) (.cond (r 8) (.seq (.ops A24_2) .ret) .skip)) (.seq (.seq (.ops A24_3) (.block 0 (.loop A24_11))) (.seq (.ops
  A24_12) .ret))))⟩
/-! diorama/dioramaref04.text -/
def A25_0 : Row := [i 2 (.mv (.const (.str [])))]
def A25_1 : Row := [i 5 (.mv (r 0)), i 6 (.lenSlice (r 5)), i 7 (.makeSlice 1 1 [.int (.u8) 0] (r 6) (r 6)), i 3 (.mv (r 7))]
def A25_2 : Row := [i 4 (.mv (.const (.int (.i64) 0)))]
def A25_3 : Row := [i 8 (.mv (r 4)), i 9 (.mv (r 0)), i 10 (.lenSlice (r 9)), i 11 (.bin (.lss) (r 8) (r 10))]
def A25_4 : Row := [i 14 (.mv (r 3)), i 15 (.mv (r 4)), i 16 (.mv (r 0)), i 17 (.mv (r 4)), i 18 (.indexAddr 1 (r 16) (r 17)), i 19 (.load none (r 18)), i 20 (.convInt (.u8)
  (r 19)), i 21 (.indexAddr 1 (r 14) (r 15)), i0 (.store 1 (r 21) (r 20))]
def A25_5 : Row := [i 12 (.mv (r 4)), i 13 (.bin (.add) (r 12) (.const (.int (.i64) 1))), i 4 (.mv (r 13))]
def A25_6 : ACode := (.seq (.seq (.ops A25_3) (.cond (r 11) .skip (.exit 0))) (.seq (.block 1 (.ops A25_4)) (.ops A25_5)))
def A25_7 : Row := [i 22 (.mv (r 3)), i 23 (.bytesStr (r 22)), i 2 (.mv (r 23))]
/-- diorama/dioramaref04.text -/
def A25 : AFunc :=
 ⟨24, [.tmp 2], (.seq (.ops A25_0) (.seq (.ops A25_1) (.seq (.seq (.ops A25_2) (.block 0 (.loop A25_6))) (.seq (.ops A25_7) .ret))))⟩
/-! diorama/poskey.Spread$1 -/
def A27_0 : Row := [i 8 (.mv (.const (.int (.i64) 0)))]
def A27_1 : Row := [i 12 (.mv (r 2)), i 13 (.bin (.eql) (r 12) (.const (.int (.i64) 0)))]
def A27_2 : Row := [i 8 (.mv (.const (.int (.i64) 0)))]
def A27_3 : Row := [i 15 (.mv (r 0)), i 16 (.mv (r 1)), i 17 (.call (.func 9) [.tmp 15, .tmp 16]), i 14 (.mv (r 17)), i 18 (.extract (r 14) 0), i 19 (.extract (r 14) 1), i 9
  (.mv (r 18)), i 10 (.mv (r 19))]
def A27_4 : Row := [i 20 (.mv (r 2)), i 21 (.bin (.sub) (r 20) (.const (.int (.i64) 1))), i 22 (.bin (.quo) (r 21) (.const (.int (.i64) 2))), i 11 (.mv (r 22))]
def A27_5 : Row := [i 23 (.mv (r 10)), i 24 (.bin (.eql) (r 23) (.const (.int (.i64) 0)))]
def A27_6 : Row := [i 25 (.load none (r 3)), i 26 (.mv (r 0)), i 27 (.mv (r 9)), i 28 (.mv (r 11)), i 29 (.call (r 25) [.tmp 26, .tmp 27, .tmp 28]), i 10 (.mv (r 29))]
def A27_7 : Row := [i 30 (.mv (r 10)), i 31 (.bin (.neq) (r 30) (.const (.int (.i64) 0)))]
def A27_8 : Row := [i 32 (.mv (r 10)), i 8 (.mv (r 32))]
def A27_9 : Row := [i 33 (.load none (r 4)), i 34 (.mv (r 9)), i 35 (.buildSlice 1 [.str []] [(0, 1, .tmp 34)]), i 36 (.append 1 16 (r 33) (r 35)), i0 (.store 1 (r 4) (r 36))]
def A27_10 : Row := [i 37 (.load none (r 3)), i 38 (.mv (r 9)), i 39 (.mv (r 1)), i 40 (.mv (r 2)), i 41 (.bin (.sub) (r 40) (.const (.int (.i64) 1))), i 42 (.mv (r 11)), i 43
  (.bin (.sub) (r 41) (r 42)), i 44 (.call (r 37) [.tmp 38, .tmp 39, .tmp 43]), i 8 (.mv (r 44))]
/-- diorama/poskey.Spread$1 -/
def A27 : AFunc :=
 ⟨45, [.tmp 8], (.seq (.ops A27_0) (.seq (.seq (.ops A27_1) (.cond (r 13) (.seq (.ops A27_2) .ret) .skip)) (.seq (.ops A27_3) (.seq (.ops A27_4) (.seq (.seq (.ops A27_5)
  (.cond (r 24) (.ops A27_6) .skip)) (.seq (.seq (.ops A27_7) (.cond (r 31) (.seq (.ops A27_8) .ret) .skip)) (.seq (.ops A27_9) (.seq (.ops A27_10) .ret))))))))⟩
/-! diorama/poskey.fine$1 -/
def A28_0 : Row := [i 2 (.mv (.const (.bool false)))]
def A28_1 : Row := [i 3 (.mv (r 0)), i 4 (.bin (.eql) (r 3) (.const (.str []))), i 5 (.mv (r 4)), g 6 (.mv (r 0)) 5 false, g 7 (.call (.func 12) [.tmp 6]) 5 false, i 8 (.pick
  (r 5) (.const (.bool true)) (r 7)), i 2 (.mv (r 8))]
/-- diorama/poskey.fine$1 -/
def A28 : AFunc :=
 ⟨9, [.tmp 2], (.seq (.ops A28_0) (.seq (.ops A28_1) .ret))⟩
/-! diorama/poskey.digit -/
def A29_0 : Row := [i 4 (.mv (.const (.int (.i64) 0)))]
def A29_1 : Row := [i 5 (.mv (r 1)), i 6 (.mv (r 0)), i 7 (.lenStr (r 6)), i 8 (.bin (.lss) (r 5) (r 7))]
def A29_2 : Row := [i 9 (.mv (r 0)), i 10 (.mv (r 1)), i 11 (.indexStr (r 9) (r 10)), i 12 (.convInt (.i64) (r 11)), i 4 (.mv (r 12))]
def A29_3 : Row := [i 4 (.mv (.const (.int (.i64) 0)))]
/-- diorama/poskey.digit -/
def A29 : AFunc :=
 ⟨13, [.tmp 4], (.seq (.ops A29_0) (.seq (.seq (.ops A29_1) (.cond (r 8) (.seq (.ops A29_2) .ret) .skip)) (.seq (.ops A29_3) .ret)))⟩
/-! diorama/dioramaref04.digit -/
def A30_0 : Row := [i 4 (.mv (.const (.int (.i64) 0)))]
def A30_1 : Row := [i 5 (.mv (r 1)), i 6 (.mv (r 0)), i 7 (.lenStr (r 6)), i 8 (.bin (.lss) (r 5) (r 7))]
def A30_2 : Row := [i 9 (.mv (r 0)), i 10 (.mv (r 1)), i 11 (.indexStr (r 9) (r 10)), i 12 (.convInt (.i64) (r 11)), i 4 (.mv (r 12))]
def A30_3 : Row := [i 4 (.mv (.const (.int (.i64) 0)))]
/-- diorama/dioramaref04.digit -/
def A30 : AFunc :=
 ⟨13, [.tmp 4], (.seq (.ops A30_0) (.seq (.seq (.ops A30_1) (.cond (r 8) (.seq (.ops A30_2) .ret) .skip)) (.seq (.ops A30_3) .ret)))⟩
/-! diorama/dioramaref04.carry -/
def A31_0 : Row := [i 2 (.mv (.const (.bool false)))]
def A31_1 : Row := [i 4 (.mv (r 0)), i 5 (.lenSlice (r 4)), i 6 (.bin (.sub) (r 5) (.const (.int (.i64) 1))), i 3 (.mv (r 6))]
def A31_2 : Row := [i 7 (.mv (r 3)), i 8 (.bin (.geq) (r 7) (.const (.int (.i64) 0)))]
def A31_3 : Row := [i 11 (.mv (r 0)), i 12 (.mv (r 3)), i 13 (.indexAddr 1 (r 11) (r 12)), i 14 (.load none (r 13)), i 15 (.bin (.lss) (r 14) (.const (.int (.i64) 255)))]
def A31_4 : Row := [i 16 (.mv (r 0)), i 17 (.mv (r 3)), i 18 (.indexAddr 1 (r 16) (r 17)), i 19 (.load none (r 18)), i 20 (.bin (.add) (r 19) (.const (.int (.i64) 1))), i 21
  (.indexAddr 1 (r 16) (r 17)), i0 (.store 1 (r 21) (r 20))]
def A31_5 : Row := [i 2 (.mv (.const (.bool true)))]
def A31_6 : Row := [i 22 (.mv (r 0)), i 23 (.mv (r 3)), i 24 (.indexAddr 1 (r 22) (r 23)), i0 (.store 1 (r 24) (.const (.int (.i64) 0)))]
def A31_7 : Row := [i 9 (.mv (r 3)), i 10 (.bin (.sub) (r 9) (.const (.int (.i64) 1))), i 3 (.mv (r 10))]
def A31_8 : ACode := (.seq (.seq (.ops A31_2) (.cond (r 8) .skip (.exit 0))) (.seq (.block 1 (.seq (.seq (.ops A31_3) (.cond (r 15) (.seq (.ops A31_4) (.seq (.ops A31_5)
  .ret)) .skip)) (.ops A31_6))) (.ops A31_7)))
def A31_9 : Row := [i 2 (.mv (.const (.bool false)))]
/-- diorama/dioramaref04.carry -/
def A31 : AFunc :=
 ⟨25, [.tmp 2], (.seq (.ops A31_0) (.seq (.seq (.ops A31_1) (.block 0 (.loop A31_8))) (.seq (.ops A31_9) .ret)))⟩
/-! internal/bytealg.CompareString -/
def A32_0 : Row := [i 4 (.mv (.const (.int (.i64) 0)))]
def A32_1 : Row := [i 5 (.mv (r 0)), i 6 (.mv (r 1)), i 7 (.call (.func 33) [.tmp 5, .tmp 6]), i 4 (.mv (r 7))]
/-- internal/bytealg.CompareString -/
def A32 : AFunc :=
 ⟨8, [.tmp 4], (.seq (.ops A32_0) (.seq (.ops A32_1) .ret))⟩
def gl0 : Nat → Bool := fun _ => false
set_option maxRecDepth 100000
theorem c3 : cFunc Try.prog gl0 Try.f3 = some A3 := by kernel_rfl
theorem c4 : cFunc Try.prog gl0 Try.f4 = some A4 := by kernel_rfl
theorem c5 : cFunc Try.prog gl0 Try.f5 = some A5 := by kernel_rfl
theorem c6 : cFunc Try.prog gl0 Try.f6 = some A6 := by kernel_rfl
theorem c7 : cFunc Try.prog gl0 Try.f7 = some A7 := by kernel_rfl
theorem c8 : cFunc Try.prog gl0 Try.f8 = some A8 := by kernel_rfl
theorem c9 : cFunc Try.prog gl0 Try.f9 = some A9 := by kernel_rfl
theorem c10 : cFunc Try.prog gl0 Try.f10 = some A10 := by kernel_rfl
theorem c11 : cFunc Try.prog gl0 Try.f11 = some A11 := by kernel_rfl
theorem c12 : cFunc Try.prog gl0 Try.f12 = some A12 := by kernel_rfl
theorem c13 : cFunc Try.prog gl0 Try.f13 = some A13 := by kernel_rfl
theorem c14 : cFunc Try.prog gl0 Try.f14 = some A14 := by kernel_rfl
theorem c15 : cFunc Try.prog gl0 Try.f15 = some A15 := by kernel_rfl
theorem c16 : cFunc Try.prog gl0 Try.f16 = some A16 := by kernel_rfl
theorem c17 : cFunc Try.prog gl0 Try.f17 = some A17 := by kernel_rfl
theorem c18 : cFunc Try.prog gl0 Try.f18 = some A18 := by kernel_rfl
theorem c19 : cFunc Try.prog gl0 Try.f19 = some A19 := by kernel_rfl
theorem c20 : cFunc Try.prog gl0 Try.f20 = some A20 := by kernel_rfl
theorem c21 : cFunc Try.prog gl0 Try.f21 = some A21 := by kernel_rfl
theorem c22 : cFunc Try.prog gl0 Try.f22 = some A22 := by kernel_rfl
theorem c23 : cFunc Try.prog gl0 Try.f23 = some A23 := by kernel_rfl
theorem c24 : cFunc Try.prog gl0 Try.f24 = some A24 := by kernel_rfl
theorem c25 : cFunc Try.prog gl0 Try.f25 = some A25 := by kernel_rfl
theorem c27 : cFunc Try.prog gl0 Try.f27 = some A27 := by kernel_rfl
theorem c28 : cFunc Try.prog gl0 Try.f28 = some A28 := by kernel_rfl
theorem c29 : cFunc Try.prog gl0 Try.f29 = some A29 := by kernel_rfl
theorem c30 : cFunc Try.prog gl0 Try.f30 = some A30 := by kernel_rfl
theorem c31 : cFunc Try.prog gl0 Try.f31 = some A31 := by kernel_rfl
theorem c32 : cFunc Try.prog gl0 Try.f32 = some A32 := by kernel_rfl
theorem mixed : Try.prog.follows .mixedOrders = true := by kernel_rfl
def codes : List (Nat × AFunc) := [(3, A3), (4, A4), (5, A5), (6, A6), (7, A7), (8, A8), (9, A9), (10, A10), (11, A11), (12, A12), (13, A13), (14, A14), (15, A15), (16, A16), (17, A17), (18, A18), (19, A19), (20, A20), (21, A21), (22, A22), (23, A23), (24, A24), (25, A25), (27, A27), (28, A28), (29, A29), (30, A30), (31, A31), (32, A32)]
theorem codes_ok : ∀ x ∈ codes, ∃ fn, Try.prog.funcs[x.1]? = some fn ∧ (fn.name == "runtime.NumGoroutine") = false ∧ cFunc Try.prog gl0 fn = some x.2 := by
  unfold codes
  simp only [List.forall_mem_cons]
  exact ⟨⟨_, Try.func3, (by kernel_rfl), c3⟩, ⟨_, Try.func4, (by kernel_rfl), c4⟩, ⟨_, Try.func5, (by kernel_rfl), c5⟩, ⟨_, Try.func6, (by kernel_rfl), c6⟩, ⟨_, Try.func7, (by kernel_rfl), c7⟩, ⟨_, Try.func8, (by kernel_rfl), c8⟩, ⟨_, Try.func9, (by kernel_rfl), c9⟩, ⟨_, Try.func10, (by kernel_rfl), c10⟩, ⟨_, Try.func11, (by kernel_rfl), c11⟩, ⟨_, Try.func12, (by kernel_rfl), c12⟩, ⟨_, Try.func13, (by kernel_rfl), c13⟩, ⟨_, Try.func14, (by kernel_rfl), c14⟩, ⟨_, Try.func15, (by kernel_rfl), c15⟩, ⟨_, Try.func16, (by kernel_rfl), c16⟩, ⟨_, Try.func17, (by kernel_rfl), c17⟩, ⟨_, Try.func18, (by kernel_rfl), c18⟩, ⟨_, Try.func19, (by kernel_rfl), c19⟩, ⟨_, Try.func20, (by kernel_rfl), c20⟩, ⟨_, Try.func21, (by kernel_rfl), c21⟩, ⟨_, Try.func22, (by kernel_rfl), c22⟩, ⟨_, Try.func23, (by kernel_rfl), c23⟩, ⟨_, Try.func24, (by kernel_rfl), c24⟩, ⟨_, Try.func25, (by kernel_rfl), c25⟩, ⟨_, Try.func27, (by kernel_rfl), c27⟩, ⟨_, Try.func28, (by kernel_rfl), c28⟩, ⟨_, Try.func29, (by kernel_rfl), c29⟩, ⟨_, Try.func30, (by kernel_rfl), c30⟩, ⟨_, Try.func31, (by kernel_rfl), c31⟩, ⟨_, Try.func32, (by kernel_rfl), c32⟩, fun _ h => (by cases h)⟩
end Go.Am.Try

/- Parts of the machine that are not code: what was proved of a function is laid in its place. -/
namespace Go.Am
open Go Go.RowKit

def codeOf : List (Nat × AFunc) → T AFunc
  | [] => .nil
  | (f, F) :: l => T.set (codeOf l) f F
theorem codeOf_get : ∀ {l : List (Nat × AFunc)} {f : Nat} {F : AFunc}, T.get (codeOf l) f = some F → (f, F) ∈ l
  | [], f, F, h => by simp [codeOf, T.get] at h
  | (f', F') :: l, f, F, h => by
    simp only [codeOf, T.get_set] at h
    split at h
    · rename_i e
      cases h; subst e
      exact List.mem_cons_self ..
    · exact List.mem_cons_of_mem _ (codeOf_get h)

/-! ### values that hang on no memory -/
mutual
def V.flat : V → Bool
  | .bool _ | .int _ _ | .str _ | .ptr none | .slice none _ _ | .map none | .nilFn | .nilIface => true
  | .iface _ v => v.flat
  | .agg cs | .tup cs => V.flats cs
  | _ => false
def V.flats : List V → Bool
  | [] => true
  | v :: vs => v.flat && V.flats vs
end

mutual
theorem VR.flat {E E' : Emb} : ∀ {v : V} {u : Value}, VR E v u → v.flat = true → VR E' v u
  | _, _, .bool b, _ => .bool b
  | _, _, .int k n, _ => .int k n
  | _, _, .str s, _ => .str s
  | _, _, .ptrNil, _ => .ptrNil
  | _, _, .ptr _, h => by simp [V.flat] at h
  | _, _, .sliceNil, _ => .sliceNil
  | _, _, .slice .., h => by simp [V.flat] at h
  | _, _, .sliceZero .., h => by simp [V.flat] at h
  | _, _, .mapNil, _ => .mapNil
  | _, _, .map _, h => by simp [V.flat] at h
  | _, _, .fn .., h => by simp [V.flat] at h
  | _, _, .nilFn, _ => .nilFn
  | _, _, .nilIface, _ => .nilIface
  | _, _, .iface hv, h => .iface (VR.flat hv (by simpa [V.flat] using h))
  | _, _, .agg hv, h => .agg (VRs.flat hv (by simpa [V.flat] using h))
  | _, _, .tup hv, h => .tup (VRs.flat hv (by simpa [V.flat] using h))
theorem VRs.flat {E E' : Emb} : ∀ {vs : List V} {us : List Value}, VRs E vs us → V.flats vs = true → VRs E' vs us
  | _, _, .nil, _ => .nil
  | _, _, .cons hv ht, h => by
    simp only [V.flats, Bool.and_eq_true] at h
    exact .cons (VR.flat hv h.1) (VRs.flat ht h.2)
end

def emb0 : Emb := fun _ => none
def mem0 : Mem := ⟨0, .nil⟩
theorem rel0 (w : World) : Rel emb0 mem0 w := ⟨fun _ _ _ _ h => (by cases h), fun _ _ _ _ h => (by cases h), fun _ _ _ _ _ _ _ h => (by cases h), fun _ _ => rfl⟩

section
variable {P : Program} {gl : Nat → Bool}
/-- From nothing to nothing: what was there stays. -/
theorem Rel.aside {E : Emb} {M M' : Mem} {w w' : World} {E' : Emb} (h : Rel E M w) (hX : Ext emb0 mem0 w E' M' w') : Rel E M w' ∧ Ext E M w E M w' := by
  have hk : ∀ c, c < w.heap.size → w'.heap[c]? = w.heap[c]? := fun c hc => hX.keep c hc fun _ _ _ hb => by cases hb
  refine ⟨⟨fun b c d k hb => ?_, fun b c d k hb => Nat.lt_of_lt_of_le (h.lt b c d k hb) hX.size, h.inj, h.wf⟩, ⟨Emb.le_refl E, hX.os, hX.tape, hX.output, hX.size, Nat.le_refl _, fun c hc _ => hk c hc, fun b c d k h1 h2 => ?_, fun _ _ => rfl⟩⟩
  · obtain ⟨o, ho, hr⟩ := h.at_ b c d k hb
    exact ⟨o, ho, by rw [hk c (h.lt b c d k hb)]; exact hr⟩
  · rw [h1] at h2; cases h2

/-- A function from flat values to a flat value, proved with nothing in memory, is a part of the machine. -/
theorem prim_flat {D : Decls} (hD : DOK P gl D) (hg : ∀ x, gl x = false) {f : FuncId} {g : List V → Option V}
    (h : ∀ args v, g args = some v → V.flats args = true ∧ v.flat = true ∧ Runs D f args mem0 fun v' _ => v' = v) : CallOK P gl fun f' args M => if f' = f then (g args).map (·, M) else none := by
  intro f' args M v M' he
  simp only at he
  split at he
  · rename_i e
    subst e
    simp only [Option.map_eq_some_iff, Prod.mk.injEq] at he
    obtain ⟨v1, hv, rfl, rfl⟩ := he
    obtain ⟨ha, hf, k, v2, M2, hr, rfl⟩ := h args v1 hv
    obtain ⟨hc, hs⟩ := callN_sound hD k f' args mem0 v2 M2 hr
    refine ⟨hc, fun E w args' hR hG hA => ?_⟩
    refine (hs emb0 w args' (rel0 w) (fun x hx => by rw [hg x] at hx; cases hx) (VRs.flat hA ha)).mono fun e w' ⟨E', v', he, hv', _, hX⟩ => ?_
    obtain ⟨h1, h2⟩ := hR.aside hX
    exact ⟨E, v', he, VR.flat hv' hf, h1, h2⟩
  · cases he

/-- A function's contract in the world, from flat values to a flat value. -/
theorem prim_of_calls {f : FuncId} {g : List V → Option V} (hc : Callable P f)
    (h : ∀ args v, g args = some v → ∀ (E : Emb) (args' : Array Value) (w : World), VRs E args args'.toList → Calls P f args' w fun e w' => ∃ v', e = .returned v' ∧ VR E v v' ∧ w' = w) : CallOK P gl fun f' args M => if f' = f then (g args).map (·, M) else none := by
  intro f' args M v M' he
  simp only at he
  split at he
  · rename_i e
    subst e
    simp only [Option.map_eq_some_iff, Prod.mk.injEq] at he
    obtain ⟨v1, hv, rfl, rfl⟩ := he
    refine ⟨hc, fun E w args' hR hG hA => ?_⟩
    refine (h args v1 hv E args' w hA).mono fun e w' ⟨v', he, hv', hw⟩ => ?_
    subst hw
    exact ⟨E, v', he, hv', hR, Ext.refl E M w'⟩
  · cases he

def Decls.add (D : Decls) (f : FuncId) (g : List V → Option V) : Decls := { D with prim := fun f' => cond (Nat.beq f' f) (some fun args M => (g args).map (·, M)) (D.prim f') }
theorem DOK.add {D : Decls} (hD : DOK P gl D) {f : FuncId} {g : List V → Option V} (h : CallOK P gl fun f' args M => if f' = f then (g args).map (·, M) else none) : DOK P gl (D.add f g) := by
  refine ⟨hD.mixed, hD.code, fun f' g' hp => ?_⟩
  simp only [Decls.add] at hp
  cases hb : Nat.beq f' f with
  | true =>
    rw [hb] at hp
    simp only [cond_true, Option.some.injEq] at hp
    have : f' = f := Nat.eq_of_beq_eq_true hb
    subst this
    subst hp
    exact h
  | false =>
    rw [hb] at hp
    exact hD.prim f' g' hp

theorem dok_codes {l : List (Nat × AFunc)} (hm : P.follows .mixedOrders = true) (h : ∀ x ∈ l, ∃ fn, P.funcs[x.1]? = some fn ∧ (fn.name == "runtime.NumGoroutine") = false ∧ cFunc P gl fn = some x.2) : DOK P gl ⟨codeOf l, fun _ => none⟩ :=
  ⟨hm, fun f F hf => h (f, F) (codeOf_get hf), fun _ _ h => by cases h⟩

/-- A law that is true, of arguments that hang on nothing. -/
theorem law_flat {D : Decls} (hD : DOK P gl D) (hg : ∀ x, gl x = false) {f : FuncId} {args : List V} {args' : Array Value} {w : World} (hA : VRs emb0 args args'.toList) (h : Runs D f args mem0 fun v _ => v = .bool true) :
    Calls P f args' w fun e w' => e = .returned (.bool true) ∧ Below w.heap.size w w' := by
  obtain ⟨k, v, M', hr, rfl⟩ := h
  obtain ⟨_, hs⟩ := callN_sound hD k f args mem0 _ M' hr
  refine (hs emb0 w args' (rel0 w) (fun x hx => by rw [hg x] at hx; cases hx) hA).mono fun e w' ⟨E', v', he, hv', _, hX⟩ => ?_
  cases hv'
  exact ⟨he, hX.os, hX.tape, hX.output, hX.size, fun c hc => hX.keep c hc fun _ _ _ hb => by cases hb⟩
end
end Go.Am

/- The parts of the machine that are not code: strings.Compare, by its contract; what must come, by the kernel. -/
namespace Go.Proofs
set_option maxHeartbeats 1000000 in
set_option maxRecDepth 100000 in
theorem Try.bytealg_CompareString (a b : ByteArray) (w : World) :
    Calls Try.prog 32 #[.string a, .string b] w fun e w' => e = .returned (.int .i64 (Lib.compareBytes a.data.toList b.data.toList)) ∧ w' = w := by
  go_enter Try.func32, Try.ntmps32
  go_wp2
  rw [run_callFunc_extern Try.func33 (by kernel_rfl) (by kernel_rfl) (by kernel_rfl) (e := Extern.BytealgCompare.compare) (by kernel_rfl), Lib.run_compareString]
  simp only [Result.andThen]
  rw [Oper.upon_value]
  go_wp2
  go_ret
  exact ⟨rfl, rfl⟩
set_option maxHeartbeats 1000000 in
theorem Try.strings_Compare (a b : ByteArray) (w : World) :
    Calls Try.prog 26 #[.string a, .string b] w fun e w' => e = .returned (.int .i64 (Lib.compareBytes a.data.toList b.data.toList)) ∧ w' = w := by
  go_enter Try.func26, Try.ntmps26
  go_wp2_with (go_at_call 32; refine (Try.bytealg_CompareString _ _ _).mono ?_; rintro e w' ⟨rfl, rfl⟩)
  go_ret
  exact ⟨rfl, rfl⟩
end Go.Proofs
namespace Go.Am.Try
open Go Go.Am Go.Proofs

def pCompare : List V → Option V
  | [.str a, .str b] => some (.int .i64 (Lib.compareBytes a b))
  | _ => none
def pTrue : List V → Option V
  | [] => some (.bool true)
  | _ => none
def D0 : Decls := ⟨codeOf codes, fun _ => none⟩
def D1 : Decls := D0.add 26 pCompare
def D2 : Decls := D1.add 16 pTrue
theorem gl0_none : ∀ x, gl0 x = false := fun _ => rfl
theorem dok0 : DOK Try.prog gl0 D0 := dok_codes mixed codes_ok
theorem dok1 : DOK Try.prog gl0 D1 := by
  refine dok0.add (prim_of_calls ⟨_, Try.func26, (by kernel_rfl), (by kernel_rfl)⟩ ?_)
  intro args v h E args' w hA
  unfold pCompare at h
  split at h
  · rename_i a b
    cases h
    have : ∃ x y : ByteArray, args' = #[.string x, .string y] ∧ a = x.data.toList ∧ b = y.data.toList := by
      obtain ⟨l⟩ := args'
      simp only at hA
      cases hA with
      | cons h1 t => cases h1 with | str x => cases t with | cons h2 t => cases h2 with | str y => cases t; exact ⟨x, y, rfl, rfl, rfl⟩
    obtain ⟨x, y, rfl, rfl, rfl⟩ := this
    refine (Try.strings_Compare x y w).mono fun e w' ⟨he, hw⟩ => ?_
    exact ⟨_, he, .int _ _, hw⟩
  · cases h
def isTrue : Option (V × Mem) → Bool
  | some (.bool true, _) => true
  | _ => false
theorem isTrue_run {x : Option (V × Mem)} (h : isTrue x = true) : ∃ M, x = some (.bool true, M) := by
  unfold isTrue at h
  split at h
  · exact ⟨_, rfl⟩
  · cases h
set_option maxRecDepth 100000 in
theorem knows_eval : isTrue (callN D1 400 16 [] mem0) = true := by kernel_rfl
theorem dok2 : DOK Try.prog gl0 D2 := by
  refine dok1.add (prim_flat dok1 gl0_none ?_)
  intro args v h
  unfold pTrue at h
  split at h
  · cases h
    obtain ⟨M, hM⟩ := isTrue_run knows_eval
    exact ⟨rfl, rfl, 400, _, M, hM, rfl⟩
  · cases h
theorem compare_runs (a b : List UInt8) (M : Mem) : Runs D2 26 [.str a, .str b] M fun v M' => v = .int .i64 (Lib.compareBytes a b) ∧ M' = M := Runs.prim rfl rfl ⟨rfl, rfl⟩
theorem knows_runs (M : Mem) : Runs D2 16 [] M fun v M' => v = .bool true ∧ M' = M := Runs.prim rfl rfl ⟨rfl, rfl⟩
end Go.Am.Try

/- The laws by which a run of the machine is reckoned with values that are not known. -/
namespace Go.Am
open Go

section
variable {D : Decls} {n : Nat} {fr : Fr} {M : Mem}

@[go_sem] theorem beq_dec (a b : Nat) : Nat.beq a b = decide (a = b) := by
  cases h : Nat.beq a b with
  | true => rw [Nat.eq_of_beq_eq_true h]; simp
  | false => rw [decide_eq_false (Nat.ne_of_beq_eq_false h)]
attribute [go_sem] ble_iff intEq_dec intLe_iff
@[go_sem] theorem strEq_prop (a b : List UInt8) : strEq a b = decide (a = b) := by
  by_cases h : a = b
  · rw [strEq_iff.2 h]; simp [h]
  · rw [decide_eq_false h]; cases e : strEq a b
    · rfl
    · exact absurd (strEq_iff.1 e) h
@[go_sem] theorem rd_put_some (d t : Nat) (v : V) : (fr.put n (some d) v).rd t = if t = d then (if d < n then v else fr.rd t) else fr.rd t := by
  rw [show (if t = d then (if d < n then v else fr.rd t) else fr.rd t) = if t = d ∧ d < n then v else fr.rd t from by by_cases h : t = d <;> by_cases h2 : d < n <;> simp [h, h2]]
  unfold Fr.put
  simp only [ble_iff]
  by_cases hd : d + 1 ≤ n
  · simp only [hd, decide_true, cond_true]
    unfold Fr.rd
    rw [T.get_set]
    by_cases e : t = d
    · rw [if_pos e, if_pos ⟨e, by omega⟩]; rfl
    · rw [if_neg e, if_neg (fun h => e h.1)]
  · simp only [hd, decide_false, cond_false]
    rw [if_neg (fun h => hd h.2)]
@[go_sem] theorem put_none (v : V) : fr.put n none v = fr := rfl
@[go_sem] theorem rd_frame0 (t : Nat) : Fr.rd (frameOf 0 [] .nil) t = .undef := rfl
@[go_sem] theorem rd_frame1 (a : V) (t : Nat) : Fr.rd (frameOf 0 [a] .nil) t = if t = 0 then a else .undef := by
  rw [rd_frameOf]; simp only [List.length_cons, List.length_nil]
  by_cases h : t = 0
  · subst h; simp
  · rw [if_neg (by omega), if_neg h]; rfl
@[go_sem] theorem rd_frame2 (a b : V) (t : Nat) : Fr.rd (frameOf 0 [a, b] .nil) t = if t = 0 then a else if t = 1 then b else .undef := by
  rw [rd_frameOf]; simp only [List.length_cons, List.length_nil]
  by_cases h : t = 0
  · subst h; simp
  · by_cases h1 : t = 1
    · subst h1; simp
    · rw [if_neg (by omega), if_neg h, if_neg h1]; rfl
@[go_sem] theorem rd_frame3 (a b c : V) (t : Nat) : Fr.rd (frameOf 0 [a, b, c] .nil) t = if t = 0 then a else if t = 1 then b else if t = 2 then c else .undef := by
  rw [rd_frameOf]; simp only [List.length_cons, List.length_nil]
  by_cases h : t = 0
  · subst h; simp
  · by_cases h1 : t = 1
    · subst h1; simp
    · by_cases h2 : t = 2
      · subst h2; simp
      · rw [if_neg (by omega), if_neg h, if_neg h1, if_neg h2]; rfl


/-! ### operations -/
variable {K : Fr → Mem → Prop}
@[go_sem] theorem WI_nil : WI D n [] fr M K = K fr M := rfl
/-- One operation carried out; then the rest. -/
def stepI (D : Decls) (n : Nat) (r : Option Res) (dst : Option Nat) (fr : Fr) (M : Mem) (l : List Go.Am.Item) (K : Fr → Mem → Prop) : Prop :=
  match r with
  | some (.val v M') => WI D n l (fr.put n dst v) M' K
  | some (.call f args) => Runs D f args M fun v M' => WI D n l (fr.put n dst v) M' K
  | none => False
/-- A call; then the rest. -/
def callI (D : Decls) (n : Nat) (f : FuncId) (args : List V) (dst : Option Nat) (fr : Fr) (M : Mem) (l : List Go.Am.Item) (K : Fr → Mem → Prop) : Prop :=
  Runs D f args M fun v M' => WI D n l (fr.put n dst v) M' K
@[go_sem] theorem stepI_val (v : V) (M' : Mem) (dst : Option Nat) (l : List Go.Am.Item) : stepI D n (some (.val v M')) dst fr M l K = WI D n l (fr.put n dst v) M' K := rfl
@[go_sem] theorem stepI_call (f : FuncId) (args : List V) (dst : Option Nat) (l : List Go.Am.Item) : stepI D n (some (.call f args)) dst fr M l K = callI D n f args dst fr M l K := rfl
theorem callI_of {f : FuncId} {args : List V} {dst : Option Nat} {l : List Go.Am.Item} {R : V → Mem → Prop} (h : Runs D f args M R) (hk : ∀ v M', R v M' → WI D n l (fr.put n dst v) M' K) : callI D n f args dst fr M l K := h.mono hk
theorem callI_eq {f : FuncId} {args : List V} {dst : Option Nat} {l : List Go.Am.Item} {v : V} (h : Runs D f args M fun v' M' => v' = v ∧ M' = M) (hk : WI D n l (fr.put n dst v) M K) : callI D n f args dst fr M l K :=
  callI_of h fun v' M' h => by rw [h.1, h.2]; exact hk
@[go_sem] theorem WI_plain (dst : Option Nat) (op : AOp) (l : List Go.Am.Item) : WI D n (⟨⟨dst, op, none⟩, []⟩ :: l) fr M K = stepI D n (aop op fr.ev M) dst fr M l K := by
  show WItem D n _ fr M _ = _
  unfold WItem stepI
  cases aop op fr.ev M with
  | none => rfl
  | some r => cases r <;> simp [wantedA]
def guardB (v : V) (b : Bool) : Bool :=
  match v with
  | .bool x => cond b x (!x)
  | _ => false
@[go_sem] theorem guardB_true (x : Bool) : guardB (.bool x) true = x := rfl
@[go_sem] theorem guardB_false (x : Bool) : guardB (.bool x) false = !x := rfl
@[go_sem] theorem guardB_undef (b : Bool) : guardB .undef b = false := rfl
theorem wanted_guard (t : Nat) (b : Bool) : wantedA fr (some (t, b)) = guardB (fr.rd t) b := by
  simp only [wantedA, guardB]
  generalize fr.rd t = v
  cases v <;> rfl
/-- An operation behind a guard; then the rest. -/
def guardI (D : Decls) (n : Nat) (g : Bool) (dst : Option Nat) (op : AOp) (fr : Fr) (M : Mem) (l : List Go.Am.Item) (K : Fr → Mem → Prop) : Prop :=
  match g with
  | true => stepI D n (aop op fr.ev M) dst fr M l K
  | false => WI D n l (fr.put n dst .undef) M K
@[go_sem] theorem guardI_true (dst : Option Nat) (op : AOp) (l : List Go.Am.Item) : guardI D n true dst op fr M l K = stepI D n (aop op fr.ev M) dst fr M l K := rfl
@[go_sem] theorem guardI_false (dst : Option Nat) (op : AOp) (l : List Go.Am.Item) : guardI D n false dst op fr M l K = WI D n l (fr.put n dst .undef) M K := rfl
theorem guardI_split {g : Bool} {dst : Option Nat} {op : AOp} {l : List Go.Am.Item} (ht : g = true → guardI D n true dst op fr M l K) (hf : g = false → guardI D n false dst op fr M l K) : guardI D n g dst op fr M l K := by
  cases g
  · exact hf rfl
  · exact ht rfl
@[go_sem] theorem WI_guard (dst : Option Nat) (op : AOp) (t : Nat) (b : Bool) (l : List Go.Am.Item) : WI D n (⟨⟨dst, op, some (t, b)⟩, []⟩ :: l) fr M K = guardI D n (guardB (fr.rd t) b) dst op fr M l K := by
  show WItem D n _ fr M _ = _
  unfold WItem guardI stepI
  simp only [wanted_guard]
  cases guardB (fr.rd t) b
  · simp
  · cases aop op fr.ev M with
    | none => simp
    | some r => cases r <;> simp
/-- A call, behind which something is reckoned anew. -/
def callA (D : Decls) (n : Nat) (f : FuncId) (args : List V) (dst : Option Nat) (again : List AOper) (fr : Fr) (M : Mem) (l : List Go.Am.Item) (K : Fr → Mem → Prop) : Prop :=
  Runs D f args M fun v M' => again.all (againOk n fr M M') = true ∧ WI D n l (fr.put n dst v) M' K
theorem callA_of {f : FuncId} {args : List V} {dst : Option Nat} {again : List AOper} {l : List Go.Am.Item} {R : V → Mem → Prop} (h : Runs D f args M R) (hk : ∀ v M', R v M' → again.all (againOk n fr M M') = true ∧ WI D n l (fr.put n dst v) M' K) : callA D n f args dst again fr M l K := h.mono hk
def stepA (D : Decls) (n : Nat) (r : Option Res) (dst : Option Nat) (again : List AOper) (fr : Fr) (M : Mem) (l : List Go.Am.Item) (K : Fr → Mem → Prop) : Prop :=
  match r with
  | some (.val v M') => again.all (againOk n fr M M') = true ∧ WI D n l (fr.put n dst v) M' K
  | some (.call f args) => callA D n f args dst again fr M l K
  | none => False
@[go_sem] theorem stepA_val (v : V) (M' : Mem) (dst : Option Nat) (again : List AOper) (l : List Go.Am.Item) : stepA D n (some (.val v M')) dst again fr M l K = (again.all (againOk n fr M M') = true ∧ WI D n l (fr.put n dst v) M' K) := rfl
@[go_sem] theorem stepA_call (f : FuncId) (args : List V) (dst : Option Nat) (again : List AOper) (l : List Go.Am.Item) : stepA D n (some (.call f args)) dst again fr M l K = callA D n f args dst again fr M l K := rfl
@[go_sem] theorem WI_again (dst : Option Nat) (op : AOp) (x : AOper) (xs : List AOper) (l : List Go.Am.Item) : WI D n (⟨⟨dst, op, none⟩, x :: xs⟩ :: l) fr M K = stepA D n (aop op fr.ev M) dst (x :: xs) fr M l K := by
  show WItem D n _ fr M _ = _
  unfold WItem stepA
  cases aop op fr.ev M with
  | none => rfl
  | some r => cases r <;> simp [wantedA, callA]
@[go_sem] theorem ev_tmp (t : Nat) : fr.ev (.tmp t) = fr.rd t := rfl
@[go_sem] theorem ev_const (v : V) : fr.ev (.const v) = v := rfl
@[go_sem] theorem ev_func (f : FuncId) : fr.ev (.func f) = .fn f [] [] := rfl
@[go_sem] theorem vof_is (v : V) : vof (some v) M = some (.val v M) := rfl

section
variable (k : IntKind) (a b : Int) (x y : List UInt8)
@[go_sem] theorem vb_eql : vbin .eql (.int k a) (.int k b) = some (.bool (decide (a = b))) := by simp [vbin, arInt, cmpInt, isSh, intEq_dec]
@[go_sem] theorem vb_neq : vbin .neq (.int k a) (.int k b) = some (.bool (!decide (a = b))) := by simp [vbin, arInt, cmpInt, isSh, intEq_dec]
@[go_sem] theorem vb_lss : vbin .lss (.int k a) (.int k b) = some (.bool (decide (a < b))) := by
  simp only [vbin, arInt, cmpInt, isSh, cond_false, ikEq_self, cond_true, intLe_iff]
  by_cases h : a < b <;> simp [h] <;> omega
@[go_sem] theorem vb_leq : vbin .leq (.int k a) (.int k b) = some (.bool (decide (a ≤ b))) := by simp [vbin, arInt, cmpInt, isSh, intLe_iff]
@[go_sem] theorem vb_gtr : vbin .gtr (.int k a) (.int k b) = some (.bool (decide (b < a))) := by
  simp only [vbin, arInt, cmpInt, isSh, cond_false, ikEq_self, cond_true, intLe_iff]
  by_cases h : b < a <;> simp [h] <;> omega
@[go_sem] theorem vb_geq : vbin .geq (.int k a) (.int k b) = some (.bool (decide (b ≤ a))) := by simp [vbin, arInt, cmpInt, isSh, intLe_iff]
@[go_sem] theorem vb_add : vbin .add (.int k a) (.int k b) = some (.int k (k.wrap (a + b))) := by simp [vbin, arInt, isSh]
@[go_sem] theorem vb_sub : vbin .sub (.int k a) (.int k b) = some (.int k (k.wrap (a - b))) := by simp [vbin, arInt, isSh]
@[go_sem] theorem vb_mul : vbin .mul (.int k a) (.int k b) = some (.int k (k.wrap (a * b))) := by simp [vbin, arInt, isSh]
@[go_sem] theorem vb_quo (h : b ≠ 0) : vbin .quo (.int k a) (.int k b) = some (.int k (k.wrap (a.tdiv b))) := by simp [vbin, arInt, isSh, intEq_dec, h]
@[go_sem] theorem vb_rem (h : b ≠ 0) : vbin .rem (.int k a) (.int k b) = some (.int k (a.tmod b)) := by simp [vbin, arInt, isSh, intEq_dec, h]
@[go_sem] theorem vs_eql : vbin .eql (.str x) (.str y) = some (.bool (decide (x = y))) := by simp [vbin, binStr, strEq_prop]
@[go_sem] theorem vs_neq : vbin .neq (.str x) (.str y) = some (.bool (!decide (x = y))) := by simp [vbin, binStr, strEq_prop]
@[go_sem] theorem vs_lss : vbin .lss (.str x) (.str y) = some (.bool (strLess x y)) := rfl
@[go_sem] theorem vs_leq : vbin .leq (.str x) (.str y) = some (.bool (strLess x y || decide (x = y))) := by simp [vbin, binStr, strEq_prop]
@[go_sem] theorem vs_gtr : vbin .gtr (.str x) (.str y) = some (.bool (!(strLess x y || decide (x = y)))) := by simp [vbin, binStr, strEq_prop]
@[go_sem] theorem vs_geq : vbin .geq (.str x) (.str y) = some (.bool (!strLess x y)) := rfl
@[go_sem] theorem same_bool (s t : Bool) : vsame ⟨false, [.bool]⟩ (.bool s) (.bool t) = some (decide (s = t)) := by cases s <;> cases t <;> rfl
@[go_sem] theorem same_int : vsame ⟨false, [.int k]⟩ (.int k a) (.int k b) = some (decide (a = b)) := by simp [vsame, Sh.ok, fitAll, SK.fits, V.beq, intEq_dec]
@[go_sem] theorem same_str : vsame ⟨false, [.str]⟩ (.str x) (.str y) = some (decide (x = y)) := by simp [vsame, Sh.ok, fitAll, SK.fits, V.beq, strEq_prop]
@[go_sem] theorem vu_not (t : Bool) : vun .not (.bool t) = some (.bool (!t)) := rfl
@[go_sem] theorem vu_neg : vun .neg (.int k a) = some (.int k (k.wrap (0 - a))) := rfl
theorem as_nat (h : 0 ≤ a) : asNat (.int k a) = some a.toNat := by
  cases a with
  | ofNat n => rfl
  | negSucc n => omega
@[go_sem] theorem as_nat_cast (i : Nat) : asNat (.int k (i : Int)) = some i := rfl
end
@[go_sem ↓] theorem aop_makeSlice (ρ : Opd → V) (es bytes : Nat) (zero : List V) (l c : Opd) : aop (.makeSlice es bytes zero l c) ρ M = match asNat (ρ l), asNat (ρ c) with
    | some l, some c => cond (Nat.ble l c) (cond (Nat.ble (c * bytes) maxRoom) (cond (Nat.ble c maxRoom) (some (.val (.slice (some (M.next, 0)) l (.exact c)) (M.push (.cells (repl c zero) false)))) none) none) none
    | _, _ => none := by
  have e : aop (.makeSlice es bytes zero l c) ρ M = match ρ l, ρ c with
    | .int _ (.ofNat l), .int _ (.ofNat c) => cond (Nat.ble l c) (cond (Nat.ble (c * bytes) maxRoom) (cond (Nat.ble c maxRoom)
        (some (.val (.slice (some (M.next, 0)) l (.exact c)) (M.push (.cells (repl c zero) false)))) none) none) none
    | _, _ => none := rfl
  rw [e]
  generalize ρ l = u
  generalize ρ c = v
  cases u with
  | int k1 a => cases a with
    | ofNat a => cases v with
      | int k2 b => cases b <;> rfl
      | _ => rfl
    | negSucc a => cases v with
      | int k2 b => cases b <;> rfl
      | _ => rfl
  | _ => rfl
attribute [go_sem] aop endQ resultsOf resultOf oneOf nextQ blockQ
attribute [go_sem] List.nil_append List.append_nil eq_self decide_true decide_false Bool.not_true Bool.not_false Bool.not_not Int.neg_neg
attribute [go_sem] Option.bind_some Option.map_some Option.some.injEq List.map_cons List.map_nil cond_true cond_false if_true if_false decide_eq_true_eq Bool.not_eq_true

mutual
theorem V.beq_self : ∀ v : V, V.beq v v = true
  | .bool b => by cases b <;> rfl
  | .int k n => by simp only [V.beq, ikEq_self, cond_true]; exact intEq_iff.2 rfl
  | .str s => by simp only [V.beq]; exact strEq_iff.2 rfl
  | .ptr a => by simp only [V.beq]; exact addrEq_iff.2 rfl
  | .slice a n c => by simp only [V.beq, addrEq_iff.2 (rfl : a = a), Nat.beq_refl, Cap.beq_iff.2 (rfl : c = c), cond_true]
  | .map none => rfl
  | .map (some a) => by simp only [V.beq, Nat.beq_refl]
  | .fn f a b => by simp only [V.beq, Nat.beq_refl, V.beqs_self a, V.beqs_self b, cond_true]
  | .nilFn => rfl
  | .nilIface => rfl
  | .iface t v => by simp only [V.beq, Nat.beq_refl, V.beq_self v, cond_true]
  | .agg a => by simp only [V.beq, V.beqs_self a]
  | .tup a => by simp only [V.beq, V.beqs_self a]
theorem V.beqs_self : ∀ l : List V, V.beqs l l = true
  | [] => rfl
  | a :: l => by simp only [V.beqs, V.beq_self a, V.beqs_self l, cond_true]
end
attribute [go_sem] V.beq_self
@[go_sem] theorem vmax_int (k : IntKind) (a b : Int) : vmax2 (.int k a) (.int k b) = some (.int k (max a b)) := by
  simp only [vmax2, sbin, ikEq_self, cond_true, intLe_iff]
  by_cases h : b ≤ a
  · rw [decide_eq_true h, Int.max_eq_left h]; rfl
  · rw [decide_eq_false h, Int.max_eq_right (by omega)]; rfl
@[go_sem] theorem vmin_int (k : IntKind) (a b : Int) : vmin2 (.int k a) (.int k b) = some (.int k (min a b)) := by
  simp only [vmin2, sbin, ikEq_self, cond_true, intLe_iff]
  by_cases h : a ≤ b
  · rw [decide_eq_true h, Int.min_eq_left h]; rfl
  · rw [decide_eq_false h, Int.min_eq_right (by omega)]; rfl
attribute [go_sem] foldV

/-! ### memory -/
/-- One block is laid anew, all else stays. -/
structure Upd (M : Mem) (b : Nat) (o : O) (M' : Mem) : Prop where
  next : M'.next = M.next
  at_ : M'.get b = some o
  other : ∀ c, c ≠ b → M'.get c = M.get c
theorem Upd.set (M : Mem) (b : Nat) (o : O) : Upd M b o (M.set b o) := ⟨rfl, Mem.get_set_same M b o, fun _ h => Mem.get_set_ne M o h⟩
theorem Upd.same {M : Mem} {b : Nat} {o : O} (h : M.get b = some o) : Upd M b o M := ⟨rfl, h, fun _ _ => rfl⟩
theorem Upd.trans {M M' M'' : Mem} {b : Nat} {o o' : O} (h : Upd M b o M') (h' : Upd M' b o' M'') : Upd M b o' M'' :=
  ⟨h'.next.trans h.next, h'.at_, fun c hc => (h'.other c hc).trans (h.other c hc)⟩
/-- All that was there stays; there may be more. -/
structure Grew (M M' : Mem) : Prop where
  next : M.next ≤ M'.next
  old : ∀ c, c < M.next → M'.get c = M.get c
theorem Grew.refl (M : Mem) : Grew M M := ⟨Nat.le_refl _, fun _ _ => rfl⟩
theorem Grew.trans {M M' M'' : Mem} (h : Grew M M') (h' : Grew M' M'') : Grew M M'' := ⟨Nat.le_trans h.next h'.next, fun c hc => (h'.old c (Nat.lt_of_lt_of_le hc h.next)).trans (h.old c hc)⟩
theorem Grew.push (M : Mem) (o : O) : Grew M (M.push o) := ⟨Nat.le_succ _, fun c hc => Mem.get_push_ne M o (Nat.ne_of_lt hc)⟩
theorem Grew.upd {M M' M'' : Mem} {b : Nat} {o : O} (h : Grew M M') (hb : M.next ≤ b) (hu : Upd M' b o M'') : Grew M M'' :=
  ⟨by rw [hu.next]; exact h.next, fun c hc => (hu.other c (by omega)).trans (h.old c hc)⟩
theorem wr_one (v : V) : ∀ (cs : List V) (o : Nat), wrCells cs o [v] = cs.set o v
  | [], 0 => rfl
  | [], _ + 1 => rfl
  | _ :: cs, 0 => by cases cs <;> simp [wrCells]
  | _ :: cs, o + 1 => by simp only [wrCells, List.set_cons_succ, wr_one v cs o]
theorem len_wr : ∀ (cs : List V) (o : Nat) (vs : List V), (wrCells cs o vs).length = cs.length
  | [], 0, [] => rfl
  | [], _ + 1, [] => rfl
  | _ :: _, 0, [] => rfl
  | _ :: _, _ + 1, [] => rfl
  | [], 0, _ :: _ => rfl
  | [], _ + 1, _ :: _ => rfl
  | _ :: cs, 0, v :: vs => by simp only [wrCells, List.length_cons, len_wr cs 0 vs]
  | _ :: cs, o + 1, v :: vs => by simp only [wrCells, List.length_cons, len_wr cs o (v :: vs)]
/-- A row's cells, from bytes. -/
def bytesC (l : List UInt8) : List V := l.map fun c => .int .u8 (c.toNat : Int)
@[go_sem] theorem bytesC_len (l : List UInt8) : (bytesC l).length = l.length := by simp [bytesC]
theorem bytesC_get (l : List UInt8) (i : Nat) : (bytesC l)[i]? = (l[i]?).map fun c => .int .u8 (c.toNat : Int) := by simp [bytesC]
theorem bytesC_set (l : List UInt8) (i : Nat) (c : UInt8) : (bytesC l).set i (.int .u8 (c.toNat : Int)) = bytesC (l.set i c) := by simp [bytesC, List.map_set]
theorem bytesOf_bytesC : ∀ l : List UInt8, bytesOf (bytesC l) = some l
  | [] => rfl
  | c :: l => by
    simp only [bytesC, List.map_cons, bytesOf]
    rw [show bytesOf (List.map (fun c => V.int .u8 (c.toNat : Int)) l) = some l from bytesOf_bytesC l]
    simp
theorem read_all {M : Mem} {b : Nat} {cs : List V} {ro : Bool} (h : M.get b = some (.cells cs ro)) : M.read b 0 cs.length = some cs := by
  simp [Mem.read, h, rdCells, ble_iff]
theorem write_one {M : Mem} {b o : Nat} {v : V} {cs : List V} (h : M.get b = some (.cells cs false)) (ho : o < cs.length) (hv : v.one = true) : M.write b o [v] = some (M.set b (.cells (cs.set o v) false)) := by
  unfold Mem.write
  simp only [h, List.length_cons, List.length_nil, Nat.zero_add, ble_iff, decide_eq_true (show o + 1 ≤ cs.length from ho), cond_true, allOne, hv, wr_one]

/-- A test. -/
theorem WC.test {c : Opd} {a b : ACode} {t : Bool} {Q : AExit → Fr → Mem → Prop} (hc : fr.ev c = .bool t) (ht : t = true → WC D n a fr M Q) (hf : t = false → WC D n b fr M Q) : WC D n (.cond c a b) fr M Q := by
  cases t
  · exact WC.cond hc (hf rfl)
  · exact WC.cond hc (ht rfl)
end
end Go.Am

/- Of texts: how they stand to each other; and the walk of the law PoskeyOrder on the machine. -/
namespace Go.Am.Try
open Go Go.Am Go.Proofs
set_option maxRecDepth 100000
set_option linter.unusedSimpArgs false
set_option linter.unusedVariables false

abbrev cmpB := Lib.compareBytes
theorem cmp_self : ∀ a : List UInt8, cmpB a a = 0
  | [] => rfl
  | c :: a => by unfold cmpB Lib.compareBytes; simp [UInt8.lt_irrefl]; exact cmp_self a
theorem cmp_neg : ∀ a b : List UInt8, cmpB b a = - cmpB a b
  | [], [] => rfl
  | [], _ :: _ => rfl
  | _ :: _, [] => rfl
  | c :: a, d :: b => by
    unfold cmpB Lib.compareBytes
    by_cases h1 : c < d
    · have : ¬ d < c := fun h => absurd (UInt8.lt_trans h1 h) (UInt8.lt_irrefl _)
      simp [h1, this]
    · by_cases h2 : d < c
      · simp [h1, h2]
      · simp [h1, h2]; exact cmp_neg a b
theorem cmp_eq : ∀ {a b : List UInt8}, cmpB a b = 0 → a = b
  | [], [], _ => rfl
  | [], _ :: _, h => by cases h
  | _ :: _, [], h => by cases h
  | c :: a, d :: b, h => by
    unfold cmpB Lib.compareBytes at h
    split at h
    · cases h
    · split at h
      · cases h
      · rename_i h1 h2
        have : c = d := UInt8.le_antisymm (UInt8.not_lt.1 h2) (UInt8.not_lt.1 h1)
        rw [this, cmp_eq h]
theorem cmp_less : ∀ a b : List UInt8, strLess a b = decide (cmpB a b = -1)
  | [], [] => rfl
  | [], _ :: _ => rfl
  | _ :: _, [] => rfl
  | c :: a, d :: b => by
    unfold cmpB Lib.compareBytes
    simp only [strLess, ble_iff, beq_dec]
    by_cases h1 : c < d
    · have : c.toNat + 1 ≤ d.toNat := h1
      simp [h1, this]
    · have n1 : ¬ c.toNat + 1 ≤ d.toNat := h1
      by_cases h2 : d < c
      · have : ¬ c.toNat = d.toNat := by have : d.toNat < c.toNat := h2; omega
        simp [h1, h2, n1, this]
      · have e : c = d := UInt8.le_antisymm (UInt8.not_lt.1 h2) (UInt8.not_lt.1 h1)
        subst e
        simp only [h1, n1, decide_false, decide_true, cond_false, cond_true, if_false]
        exact cmp_less a b
theorem cmp_three : ∀ a b : List UInt8, cmpB a b = -1 ∨ cmpB a b = 0 ∨ cmpB a b = 1
  | [], [] => .inr (.inl rfl)
  | [], _ :: _ => .inl rfl
  | _ :: _, [] => .inr (.inr rfl)
  | c :: a, d :: b => by
    unfold cmpB Lib.compareBytes
    split
    · exact .inl rfl
    · split
      · exact .inr (.inr rfl)
      · exact cmp_three a b
theorem cmp_trans : ∀ {a b c : List UInt8}, cmpB a b = -1 → cmpB b c = -1 → cmpB a c = -1
  | [], _, [], _, h2 => by rename_i b _; cases b <;> cases h2
  | [], _, _ :: _, _, _ => rfl
  | _ :: _, [], _, h1, _ => by cases h1
  | _ :: _, _ :: _, [], _, h2 => by cases h2
  | x :: a, y :: b, z :: c, h1, h2 => by
    unfold cmpB Lib.compareBytes at h1 h2 ⊢
    by_cases xy : x < y
    · by_cases yz : y < z
      · rw [if_pos (UInt8.lt_trans xy yz)]
      · rw [if_neg yz] at h2
        by_cases zy : z < y
        · rw [if_pos zy] at h2; cases h2
        · have e : y = z := UInt8.le_antisymm (UInt8.not_lt.1 zy) (UInt8.not_lt.1 yz)
          subst e; rw [if_pos xy]
    · rw [if_neg xy] at h1
      by_cases yx : y < x
      · rw [if_pos yx] at h1; cases h1
      · have e : x = y := UInt8.le_antisymm (UInt8.not_lt.1 yx) (UInt8.not_lt.1 xy)
        subst e
        rw [if_neg yx] at h1
        by_cases yz : x < z
        · rw [if_pos yz]
        · rw [if_neg yz] at h2 ⊢
          by_cases zy : z < x
          · rw [if_pos zy] at h2; cases h2
          · rw [if_neg zy] at h2 ⊢
            exact cmp_trans h1 h2
theorem Compare_runs (a b : List UInt8) (M : Mem) : Runs D2 14 [.str a, .str b] M fun v M' => v = .int .i64 (cmpB a b) ∧ M' = M := by
  refine Runs.of (F := A14) rfl (by rfl) (by rfl) ?_
  unfold A14
  refine WC.seq (WC.ops ?_)
  simp only [A14_0, go_sem, ↓reduceIte, Nat.reduceEqDiff, Nat.reduceLT]
  refine WC.seq (WC.ops ?_)
  simp only [A14_1, go_sem, ↓reduceIte, Nat.reduceEqDiff, Nat.reduceLT]
  refine callI_of (compare_runs a b M) ?_
  rintro v M' ⟨rfl, rfl⟩
  simp only [go_sem, ↓reduceIte, Nat.reduceEqDiff, Nat.reduceLT]
  refine WC.ret ?_
  simp only [go_sem, ↓reduceIte, Nat.reduceEqDiff, Nat.reduceLT]
  exact ⟨trivial, trivial⟩

theorem order_runs (a b c : List UInt8) (M : Mem) : Runs D2 6 [.str a, .str b, .str c] M fun v M' => v = .bool true := by
  have hx := cmp_three a b
  have hy := cmp_three b c
  have hz := cmp_three a c
  have t1 : cmpB a b = -1 → cmpB b c = -1 → cmpB a c = -1 := cmp_trans
  have t2 : cmpB a b = 1 → cmpB b c = 1 → cmpB a c = 1 := fun h1 h2 => by
    have := cmp_trans (a := c) (b := b) (c := a) (by rw [cmp_neg b c, h2]) (by rw [cmp_neg a b, h1])
    rw [cmp_neg c a, this]
    rfl
  have hl := cmp_less a b
  have he : decide (a = b) = decide (cmpB a b = 0) := by
    by_cases h : a = b
    · subst h; simp [cmp_self]
    · rw [decide_eq_false h, decide_eq_false fun e => h (cmp_eq e)]
  have hn := cmp_neg a b
  refine Runs.of (F := A6) rfl (by rfl) (by rfl) ?_
  unfold A6
  refine WC.seq (WC.ops ?_)
  simp only [A6_0, go_sem, ↓reduceIte, Nat.reduceEqDiff, Nat.reduceLT]
  refine WC.seq (WC.ops ?_)
  simp only [A6_1, go_sem, ↓reduceIte, Nat.reduceEqDiff, Nat.reduceLT]
  refine callI_of (Compare_runs a b M) ?_
  rintro v M' ⟨rfl, rfl⟩
  simp only [go_sem, ↓reduceIte, Nat.reduceEqDiff, Nat.reduceLT]
  refine WC.seq (WC.ops ?_)
  simp only [A6_2, go_sem, ↓reduceIte, Nat.reduceEqDiff, Nat.reduceLT]
  refine callI_of (Compare_runs b c _) ?_
  rintro v M' ⟨rfl, rfl⟩
  simp only [go_sem, ↓reduceIte, Nat.reduceEqDiff, Nat.reduceLT]
  refine WC.seq (WC.ops ?_)
  simp only [A6_3, go_sem, ↓reduceIte, Nat.reduceEqDiff, Nat.reduceLT]
  refine callI_of (Compare_runs a c _) ?_
  rintro v M' ⟨rfl, rfl⟩
  simp only [go_sem, ↓reduceIte, Nat.reduceEqDiff, Nat.reduceLT]
  refine WC.seq (WC.seq (WC.ops ?_))
  have hb := Compare_runs b a M'
  rw [hn] at hb
  generalize cmpB a b = x at *
  generalize cmpB b c = y at *
  generalize cmpB a c = z at *
  rcases hx with rfl | rfl | rfl <;> rcases hy with rfl | rfl | rfl <;> rcases hz with rfl | rfl | rfl <;> (first | (exfalso; revert t1 t2; decide) | skip) <;> simp only [A6_4, go_sem, ↓reduceIte, Nat.reduceEqDiff, Nat.reduceLT, Int.reduceNeg, Int.reduceLT, Int.reduceLE, Int.reduceEq, reduceCtorEq]
  all_goals (refine WC.test (t := false) (by simp only [go_sem, ↓reduceIte, Nat.reduceEqDiff, Nat.reduceLT]) (fun h => by cases h) (fun _ => WC.skip ?_))
  all_goals simp only [go_sem]
  all_goals refine WC.seq (WC.ops ?_)
  all_goals simp only [A6_6, go_sem, ↓reduceIte, Nat.reduceEqDiff, Nat.reduceLT, Int.reduceNeg, Int.reduceLT, Int.reduceLE, Int.reduceEq, reduceCtorEq, hl, he]
  all_goals (refine callI_of hb ?_; rintro v M'' ⟨rfl, rfl⟩)
  all_goals simp only [go_sem, ↓reduceIte, Nat.reduceEqDiff, Nat.reduceLT, Int.reduceNeg, Int.reduceLT, Int.reduceLE, Int.reduceEq, Int.reduceSub, reduceCtorEq, hl, he]
  all_goals simp (disch := omega) only [go_sem, IntWalk.i64_in, Int.reduceNeg, Int.reduceEq, Int.reduceSub, reduceCtorEq]
  all_goals (refine callI_of (knows_runs _) ?_; rintro v Mk ⟨rfl, rfl⟩)
  all_goals simp only [go_sem, ↓reduceIte, Nat.reduceEqDiff, Nat.reduceLT]
  all_goals (refine WC.ret ?_; simp only [go_sem, ↓reduceIte, Nat.reduceEqDiff, Nat.reduceLT])
end Go.Am.Try

/- The program's digit, above and greatest, on the machine. -/
namespace Go.Am.Try
open Go Go.Am Go.Proofs
set_option maxRecDepth 100000
set_option linter.unusedSimpArgs false
set_option linter.unusedVariables false

def digitL (k : List UInt8) (i : Nat) : Nat := (k.getD i 0).toNat

theorem digit_runs (k : List UInt8) (i : Nat) (hi : i < 2 ^ 62) (M : Mem) : Runs D2 29 [.str k, .int .i64 (i : Int)] M fun v M' => v = .int .i64 (digitL k i : Int) ∧ M' = M := by
  refine Runs.of (F := A29) rfl (by rfl) (by rfl) ?_
  unfold A29
  refine WC.seq (WC.ops ?_)
  simp only [A29_0, go_sem, ↓reduceIte, Nat.reduceEqDiff, Nat.reduceLT]
  refine WC.seq (WC.seq (WC.ops ?_))
  simp only [A29_1, go_sem, ↓reduceIte, Nat.reduceEqDiff, Nat.reduceLT]
  refine WC.test (by simp only [go_sem, ↓reduceIte, Nat.reduceEqDiff, Nat.reduceLT]; rfl) (fun h => ?_) (fun h => ?_)
  · have h : i < k.length := by have := of_decide_eq_true h; omega
    refine WC.seq (WC.ops ?_)
    have hg : k[i]? = some k[i] := List.getElem?_eq_getElem h
    have hd : digitL k i = k[i].toNat := by simp [digitL, List.getD_eq_getElem?_getD, hg]
    have h8 : k[i].toNat < 256 := k[i].toNat_lt
    simp only [A29_2, go_sem, ↓reduceIte, Nat.reduceEqDiff, Nat.reduceLT, hg]
    refine WC.ret ?_
    simp only [go_sem, ↓reduceIte, Nat.reduceEqDiff, Nat.reduceLT]
    rw [IntWalk.i64_in _ (by omega), hd]
    exact ⟨rfl, trivial⟩
  · have h : k.length ≤ i := by have := of_decide_eq_false h; omega
    have hd : digitL k i = 0 := by simp [digitL, List.getD_eq_getElem?_getD, List.getElem?_eq_none h]
    refine WC.skip ?_
    simp only [go_sem]
    refine WC.seq (WC.ops ?_)
    simp only [A29_3, go_sem, ↓reduceIte, Nat.reduceEqDiff, Nat.reduceLT]
    refine WC.ret ?_
    simp only [go_sem, ↓reduceIte, Nat.reduceEqDiff, Nat.reduceLT]
    rw [hd]
    exact ⟨rfl, trivial⟩

/-- One more, from a place on to the left. -/
def incFrom : List UInt8 → Nat → Option (List UInt8)
  | _, 0 => none
  | l, i + 1 => if l.getD i 0 + 1 ≠ 0 then some (l.set i (l.getD i 0 + 1)) else incFrom (l.set i 0) i

theorem u8_succ (c : UInt8) : IntKind.u8.wrap ((c.toNat : Int) + 1) = ((c + 1).toNat : Int) := by
  rw [IntKind.wrap_u8, UInt8.toNat_add]
  simp

theorem above_loop {Q : AExit → Fr → Mem → Prop} (b : Nat) (m : Nat) (hm : m < 2 ^ 62) : ∀ (i : Nat) (l : List UInt8) (fr : Fr) (M : Mem), l.length = m → i ≤ m → fr.rd 6 = .slice (some (b, 0)) m (.exact m) → fr.rd 7 = .int .i64 ((i : Int) - 1) → M.get b = some (.cells (bytesC l) false) →
    (∀ fr' M' l', incFrom l i = some l' → l'.length = m → fr'.rd 4 = .slice (some (b, 0)) m (.exact m) → fr'.rd 5 = .bool true → Upd M b (.cells (bytesC l') false) M' → Q .ret fr' M') →
    (∀ fr' M' l', incFrom l i = none → Upd M b (.cells (bytesC l') false) M' → Q (.exit 0) fr' M') → WC D2 31 (.loop A20_9) fr M Q := by
  intro i
  induction i with
  | zero =>
    intro l fr M hl hi h6 h7 hM hQ1 hQ2
    refine WC.loop ?_
    unfold A20_9
    refine WC.seq (WC.seq (WC.ops ?_))
    simp only [A20_4, go_sem, ↓reduceIte, Nat.reduceEqDiff, Nat.reduceLT, h7]
    refine WC.test (t := false) (by simp only [go_sem, ↓reduceIte, Nat.reduceEqDiff, Nat.reduceLT]; rfl) (fun h => by cases h) (fun _ => ?_)
    refine WC.exit ?_
    simp only [go_sem]
    exact hQ2 _ _ l rfl (Upd.same hM)
  | succ i ih =>
    intro l fr M hl hi h6 h7 hM hQ1 hQ2
    have e7 : ((i + 1 : Nat) : Int) - 1 = (i : Int) := by omega
    rw [e7] at h7
    refine WC.loop ?_
    unfold A20_9
    refine WC.seq (WC.seq (WC.ops ?_))
    simp only [A20_4, go_sem, ↓reduceIte, Nat.reduceEqDiff, Nat.reduceLT, h7]
    refine WC.test (t := true) (by simp only [go_sem, ↓reduceIte, Nat.reduceEqDiff, Nat.reduceLT]; simp) (fun _ => ?_) (fun h => by cases h)
    refine WC.skip ?_
    simp only [go_sem]
    refine WC.seq (WC.block (WC.seq (WC.ops ?_)))
    have hil : i < l.length := by omega
    have hg : l[i]? = some l[i] := List.getElem?_eq_getElem hil
    have hc : (bytesC l)[i]? = some (.int .u8 (l[i].toNat : Int)) := by rw [bytesC_get, hg]; rfl
    have hlt : i + 1 ≤ m := by omega
    have hD : l.getD i 0 = l[i] := by rw [List.getD_eq_getElem?_getD, hg]; rfl
    simp only [A20_5, go_sem, ↓reduceIte, Nat.reduceEqDiff, Nat.reduceLT, h6, h7, decide_eq_true hlt, vload, hM, Nat.zero_add, Nat.mul_one, hc, vstore, V.cells, List.length_cons, List.length_nil, u8_succ]
    rw [write_one hM (by rw [bytesC_len]; omega) rfl, bytesC_set]
    simp only [go_sem, ↓reduceIte, Nat.reduceEqDiff, Nat.reduceLT]
    have hu := Upd.set M b (.cells (bytesC (l.set i (l[i] + 1))) false)
    generalize M.set b _ = M1 at hu
    refine WC.seq (WC.ops ?_)
    have hc1 : (bytesC (l.set i (l[i] + 1)))[i]? = some (.int .u8 ((l[i] + 1).toNat : Int)) := by rw [bytesC_get, List.getElem?_set_self (by omega)]; rfl
    simp only [A20_6, go_sem, ↓reduceIte, Nat.reduceEqDiff, Nat.reduceLT, h6, h7, decide_eq_true hlt, vload, hu.at_, Nat.zero_add, Nat.mul_one, hc1]
    by_cases hz : l[i] + 1 = 0
    · have hz' : ((l[i] + 1).toNat : Int) = 0 := by rw [hz]; rfl
      refine WC.test (t := false) (by simp only [go_sem, ↓reduceIte, Nat.reduceEqDiff, Nat.reduceLT, hz']) (fun h => by cases h) (fun _ => ?_)
      refine WC.skip ?_
      simp only [go_sem]
      refine WC.ops ?_
      simp only [A20_8, go_sem, ↓reduceIte, Nat.reduceEqDiff, Nat.reduceLT, h7]
      rw [IntWalk.i64_in _ (by omega)]
      have hinc : incFrom l (i + 1) = incFrom (l.set i 0) i := by
        simp only [incFrom, hD, hz]
        simp
      rw [hz] at hu
      refine ih (l.set i 0) _ M1 (by simp [hl]) (by omega) (by simp only [go_sem, ↓reduceIte, Nat.reduceEqDiff, Nat.reduceLT, h6]) (by simp only [go_sem, ↓reduceIte, Nat.reduceEqDiff, Nat.reduceLT]) hu.at_ ?_ ?_
      · intro fr' M' l' h1 h2 h3 h4 h5
        exact hQ1 fr' M' l' (hinc.trans h1) h2 h3 h4 (hu.trans h5)
      · intro fr' M' l' h1 h2
        exact hQ2 fr' M' l' (hinc.trans h1) (hu.trans h2)
    · have hz' : ((l[i] + 1).toNat : Int) ≠ 0 := by
        intro e
        exact hz (UInt8.toNat_inj.1 (Int.natCast_eq_zero.1 e))
      refine WC.test (t := true) (by simp only [go_sem, ↓reduceIte, Nat.reduceEqDiff, Nat.reduceLT, decide_eq_false hz']) (fun _ => ?_) (fun h => by cases h)
      refine WC.seq (WC.ops ?_)
      simp only [A20_7, go_sem, ↓reduceIte, Nat.reduceEqDiff, Nat.reduceLT, h6]
      refine WC.ret ?_
      simp only [go_sem]
      refine hQ1 _ M1 (l.set i (l[i] + 1)) ?_ (by simp [hl]) (by simp only [go_sem, ↓reduceIte, Nat.reduceEqDiff, Nat.reduceLT]) (by simp only [go_sem, ↓reduceIte, Nat.reduceEqDiff, Nat.reduceLT]) hu
      simp only [incFrom, hD]
      simp [hz]

def padTo (a : List UInt8) (n : Nat) : List UInt8 := a.take n ++ List.replicate (n - a.length) 0
theorem padTo_len (a : List UInt8) (n : Nat) : (padTo a n).length = n := by simp [padTo]; omega
theorem padTo_get (a : List UInt8) (n i : Nat) (h : i < n) : (padTo a n).getD i 0 = a.getD i 0 := by
  unfold padTo
  simp only [List.getD_eq_getElem?_getD]
  by_cases hi : i < a.length
  · rw [List.getElem?_append_left (by simp; omega), List.getElem?_take_of_lt h]
  · rw [List.getElem?_append_right (by simp; omega), List.getElem?_replicate, List.getElem?_eq_none (l := a) (by omega)]
    split <;> rfl
theorem repl_one (v : V) : ∀ n, repl n [v] = List.replicate n v
  | 0 => rfl
  | n + 1 => by rw [repl, repl_one v n, List.replicate_succ]; rfl
theorem wr_zero : ∀ (cs vs : List V), vs.length ≤ cs.length → wrCells cs 0 vs = vs ++ cs.drop vs.length
  | [], [], _ => rfl
  | _ :: _, [], _ => rfl
  | [], _ :: _, h => by simp at h
  | _ :: cs, v :: vs, h => by simp only [wrCells, wr_zero cs vs (by simpa using h), List.length_cons, List.drop_succ_cons, List.cons_append]
theorem allOne_bytes : ∀ l : List UInt8, allOne (bytesC l) = true
  | [] => rfl
  | _ :: l => by simp only [bytesC, List.map_cons, allOne, V.one, cond_true]; exact allOne_bytes l
theorem copy_str {M : Mem} {b n : Nat} (a : List UInt8) (h : M.get b = some (.cells (bytesC (List.replicate n 0)) false)) : ∃ v M', vcopy 1 M (.slice (some (b, 0)) n (.exact n)) (.str a) = some (v, M') ∧ Upd M b (.cells (bytesC (padTo a n)) false) M' := by
  unfold vcopy
  simp only [srcLen, Option.bind_some, beq_dec]
  by_cases hz : Nat.min a.length n = 0
  · simp only [decide_eq_true hz, cond_true]
    refine ⟨_, _, rfl, ?_⟩
    have : padTo a n = List.replicate n 0 := by
      unfold padTo
      have : a = [] ∨ n = 0 := by
        cases a with
        | nil => exact .inl rfl
        | cons x a => right; simp [Nat.min_def] at hz; split at hz <;> omega
      rcases this with rfl | rfl <;> simp
    rw [this]
    exact Upd.same h
  · have hk : (a.take (Nat.min a.length n)).length = Nat.min a.length n := by
      rw [List.length_take]
      exact Nat.min_eq_left (Nat.min_le_left ..)
    have hle : Nat.min a.length n ≤ n := Nat.min_le_right ..
    simp only [decide_eq_false hz, cond_false, srcCells, beq_dec, decide_true, cond_true, Option.bind_some, Mem.write, h, ble_iff, bytesC_len, List.length_map, hk, List.length_replicate, Nat.zero_add, decide_eq_true hle]
    have e1 : (List.map (fun c => V.int IntKind.u8 (c.toNat : Int)) (List.take (a.length.min n) a)) = bytesC (a.take (Nat.min a.length n)) := rfl
    rw [e1, allOne_bytes]
    simp only [cond_true, Option.map_some]
    refine ⟨_, _, rfl, ?_⟩
    have e2 : wrCells (bytesC (List.replicate n 0)) 0 (bytesC (a.take (Nat.min a.length n))) = bytesC (padTo a n) := by
      rw [wr_zero _ _ (by rw [bytesC_len, bytesC_len, hk, List.length_replicate]; exact hle)]
      rw [bytesC_len, hk]
      simp only [bytesC, ← List.map_drop, ← List.map_append]
      congr 1
      rw [List.drop_replicate]
      unfold padTo
      have e3 : a.take (Nat.min a.length n) = a.take n := by
        rcases Nat.le_total a.length n with hh | hh
        · rw [show Nat.min a.length n = a.length from Nat.min_eq_left hh, List.take_length, List.take_of_length_le hh]
        · rw [show Nat.min a.length n = n from Nat.min_eq_right hh]
      rw [e3]
      congr 2
      rcases Nat.le_total a.length n with hh | hh
      · rw [show Nat.min a.length n = a.length from Nat.min_eq_left hh]
      · rw [show Nat.min a.length n = n from Nat.min_eq_right hh]; omega
    rw [e2]
    exact Upd.set _ _ _

theorem above_runs (a : List UInt8) (n : Nat) (hn : n < 2 ^ 40) (M : Mem) : Runs D2 20 [.str a, .int .i64 (n : Int)] M fun v M' => Grew M M' ∧
    ((∃ l, incFrom (padTo a n) n = some l ∧ l.length = n ∧ v = .tup [.slice (some (M.next, 0)) n (.exact n), .bool true] ∧ M'.get M.next = some (.cells (bytesC l) false) ∧ M.next < M'.next) ∨
     (incFrom (padTo a n) n = none ∧ v = .tup [.slice none 0 (.exact 0), .bool false])) := by
  refine Runs.of (F := A20) rfl (by rfl) (by rfl) ?_
  unfold A20
  refine WC.seq (WC.ops ?_)
  simp only [A20_0, go_sem, ↓reduceIte, Nat.reduceEqDiff, Nat.reduceLT]
  refine WC.seq (WC.ops ?_)
  simp only [A20_1, go_sem, ↓reduceIte, Nat.reduceEqDiff, Nat.reduceLT, Nat.le_refl, Nat.mul_one, decide_eq_true (show n ≤ maxRoom by unfold maxRoom; omega)]
  refine WC.seq (WC.ops ?_)
  have h0 : (M.push (.cells (repl n [.int .u8 0]) false)).get M.next = some (.cells (bytesC (List.replicate n 0)) false) := by
    rw [Mem.get_push_same, repl_one]
    simp [bytesC]
  obtain ⟨vc, M1, hc, hu⟩ := copy_str a h0
  have hg1 : Grew M M1 := (Grew.push M _).upd (Nat.le_refl _) hu
  have hnx : M.next < M1.next := by rw [hu.next]; exact Nat.lt_succ_self _
  simp only [A20_2, go_sem, ↓reduceIte, Nat.reduceEqDiff, Nat.reduceLT, hc]
  refine WC.seq (WC.seq (WC.ops ?_))
  simp only [A20_3, go_sem, ↓reduceIte, Nat.reduceEqDiff, Nat.reduceLT]
  rw [IntWalk.i64_in _ (by omega)]
  refine WC.block (above_loop M.next n (by omega) n (padTo a n) _ M1 (padTo_len a n) (Nat.le_refl _) (by simp only [go_sem, ↓reduceIte, Nat.reduceEqDiff, Nat.reduceLT]) (by simp only [go_sem, ↓reduceIte, Nat.reduceEqDiff, Nat.reduceLT]) hu.at_ ?_ ?_)
  · intro fr' M' l' h1 h2 h3 h4 h5
    simp only [go_sem, h3, h4]
    exact ⟨hg1.upd (Nat.le_refl _) h5, .inl ⟨l', h1, h2, trivial, h5.at_, by rw [h5.next]; exact hnx⟩⟩
  · intro fr' M' l' h1 h5
    simp only [go_sem]
    refine WC.seq (WC.ops ?_)
    simp only [A20_10, go_sem, ↓reduceIte, Nat.reduceEqDiff, Nat.reduceLT]
    refine WC.ret ?_
    simp only [go_sem, ↓reduceIte, Nat.reduceEqDiff, Nat.reduceLT]
    exact ⟨hg1.upd (Nat.le_refl _) h5, .inr ⟨h1, trivial⟩⟩
end Go.Am.Try

/- The program's greatest, on the machine. -/
namespace Go.Am.Try
open Go Go.Am Go.Proofs
set_option maxRecDepth 100000
set_option linter.unusedSimpArgs false
set_option linter.unusedVariables false

def grEnd (b : List UInt8) (n : Nat) : Int := if b = [] then 255 else if n + 1 < b.length then digitL b n else (digitL b n : Int) - 1
def grAt (l b : List UInt8) (n : Nat) : Nat → Nat → Int
  | 0, _ => grEnd b n
  | k + 1, i => if b = [] then 255 else if (l.getD i 0).toNat < digitL b i then 255 else if digitL b i < (l.getD i 0).toNat then -1 else grAt l b n k (i + 1)
def greatL (l b : List UInt8) : Int := grAt l b (l.length - 1) (l.length - 1) 0
theorem digit_lt (b : List UInt8) (i : Nat) : digitL b i < 256 := (b.getD i 0).toNat_lt

theorem great_end (l b : List UInt8) (n : Nat) (hn : n < 2 ^ 40) (fr : Fr) (M : Mem) (h1 : fr.rd 1 = .str b) (h5 : fr.rd 5 = .int .i64 (n : Int)) (hb : b.length < 2 ^ 63) {R : V → Mem → Prop} (hR : R (.int .i64 (grEnd b n)) M) :
    WC D2 55 (.seq (.block 3 (.seq (.ops A21_12) (.cond (r 39) (.seq (.ops A21_13) .ret) (.seq (.ops A21_14) (.cond (r 42) (.seq (.ops A21_15) .ret) .skip))))) (.seq (.ops A21_16) .ret)) fr M (endQ [.tmp 4] R) := by
  refine WC.seq (WC.block (WC.seq (WC.ops ?_)))
  simp only [A21_12, go_sem, ↓reduceIte, Nat.reduceEqDiff, Nat.reduceLT, h1]
  refine WC.test (by simp only [go_sem, ↓reduceIte, Nat.reduceEqDiff, Nat.reduceLT]; rfl) (fun h => ?_) (fun h => ?_)
  · refine WC.seq (WC.ops ?_)
    simp only [A21_13, go_sem, ↓reduceIte, Nat.reduceEqDiff, Nat.reduceLT]
    refine WC.ret ?_
    simp only [go_sem, ↓reduceIte, Nat.reduceEqDiff, Nat.reduceLT]
    simpa only [grEnd, of_decide_eq_true h, if_true] using hR
  · have hne := of_decide_eq_false h
    refine WC.seq (WC.ops ?_)
    simp only [A21_14, go_sem, ↓reduceIte, Nat.reduceEqDiff, Nat.reduceLT, h1, h5]
    rw [IntWalk.i64_in _ (by omega)]
    refine WC.test (by simp only [go_sem, ↓reduceIte, Nat.reduceEqDiff, Nat.reduceLT]; rfl) (fun h => ?_) (fun h => ?_)
    · have hlt : n + 1 < b.length := by have := of_decide_eq_true h; omega
      refine WC.seq (WC.ops ?_)
      simp only [A21_15, go_sem, ↓reduceIte, Nat.reduceEqDiff, Nat.reduceLT, h1, h5]
      refine callI_of (digit_runs b n (by omega) M) ?_
      rintro v M' ⟨rfl, rfl⟩
      simp only [go_sem, ↓reduceIte, Nat.reduceEqDiff, Nat.reduceLT]
      refine WC.ret ?_
      simp only [go_sem, ↓reduceIte, Nat.reduceEqDiff, Nat.reduceLT]
      simpa only [grEnd, hne, hlt, if_true, if_false] using hR
    · have hlt : ¬ n + 1 < b.length := by have := of_decide_eq_false h; omega
      refine WC.skip ?_
      simp only [go_sem]
      refine WC.seq (WC.ops ?_)
      simp only [A21_16, go_sem, ↓reduceIte, Nat.reduceEqDiff, Nat.reduceLT, h1, h5]
      refine callI_of (digit_runs b n (by omega) M) ?_
      rintro v M' ⟨rfl, rfl⟩
      simp only [go_sem, ↓reduceIte, Nat.reduceEqDiff, Nat.reduceLT]
      refine WC.ret ?_
      simp only [go_sem, ↓reduceIte, Nat.reduceEqDiff, Nat.reduceLT]
      have := digit_lt b n
      rw [IntWalk.i64_in _ (by omega)]
      simpa only [grEnd, hne, hlt, if_false] using hR

theorem great_loop (l b : List UInt8) (c : Nat) (n : Nat) (hl : l.length = n + 1) (hn : n < 2 ^ 40) (hb : b.length < 2 ^ 63) (M : Mem) (hM : M.get c = some (.cells (bytesC l) false)) {R : V → Mem → Prop} {cap : Cap} : ∀ (k i : Nat) (fr : Fr), i + k = n →
    fr.rd 1 = .str b → fr.rd 5 = .int .i64 (n : Int) → fr.rd 14 = .slice (some (c, 0)) n cap → fr.rd 15 = .int .i64 (n : Int) → fr.rd 16 = .int .i64 (i : Int) → R (.int .i64 (grAt l b n k i)) M →
    WC D2 55 (.loop A21_11) fr M (blockQ 0 (nextQ (fun fr M => WC D2 55 (.seq (.block 3 (.seq (.ops A21_12) (.cond (r 39) (.seq (.ops A21_13) .ret) (.seq (.ops A21_14) (.cond (r 42) (.seq (.ops A21_15) .ret) .skip))))) (.seq (.ops A21_16) .ret)) fr M (endQ [.tmp 4] R)) (endQ [.tmp 4] R))) := by
  intro k
  induction k with
  | zero =>
    intro i fr hi h1 h5 h14 h15 h16 hR
    refine WC.loop ?_
    unfold A21_11
    refine WC.seq (WC.ops ?_)
    simp only [A21_3, go_sem, ↓reduceIte, Nat.reduceEqDiff, Nat.reduceLT, h15, h16]
    refine WC.seq (WC.test (t := false) (by simp only [go_sem, ↓reduceIte, Nat.reduceEqDiff, Nat.reduceLT]; rw [decide_eq_false (by omega)]) (fun h => by cases h) (fun _ => WC.exit ?_))
    simp only [go_sem]
    exact great_end l b n hn _ M (by simp only [go_sem, ↓reduceIte, Nat.reduceEqDiff, Nat.reduceLT, h1]) (by simp only [go_sem, ↓reduceIte, Nat.reduceEqDiff, Nat.reduceLT, h5]) hb hR
  | succ k ih =>
    intro i fr hi h1 h5 h14 h15 h16 hR
    refine WC.loop ?_
    unfold A21_11
    refine WC.seq (WC.ops ?_)
    simp only [A21_3, go_sem, ↓reduceIte, Nat.reduceEqDiff, Nat.reduceLT, h15, h16]
    refine WC.seq (WC.test (t := true) (by simp only [go_sem, ↓reduceIte, Nat.reduceEqDiff, Nat.reduceLT]; rw [decide_eq_true (by omega)]) (fun _ => WC.skip ?_) (fun h => by cases h))
    simp only [go_sem]
    refine WC.seq (WC.block (WC.seq (WC.ops ?_)))
    have hil : i < l.length := by omega
    have hg : l[i]? = some l[i] := List.getElem?_eq_getElem hil
    have hD : l.getD i 0 = l[i] := by rw [List.getD_eq_getElem?_getD, hg]; rfl
    have hc : (bytesC l)[i]? = some (.int .u8 (l[i].toNat : Int)) := by rw [bytesC_get, hg]; rfl
    have hd := digit_lt b i
    have h8 := l[i].toNat_lt
    simp only [A21_4, go_sem, ↓reduceIte, Nat.reduceEqDiff, Nat.reduceLT, h14, h16, decide_eq_true (show i + 1 ≤ n by omega), vload, hM, Nat.zero_add, Nat.mul_one, hc]
    refine WC.seq (WC.ops ?_)
    simp only [A21_5, go_sem, ↓reduceIte, Nat.reduceEqDiff, Nat.reduceLT, h1]
    refine callI_of (digit_runs b i (by omega) M) ?_
    rintro v M' ⟨rfl, rfl⟩
    simp only [go_sem, ↓reduceIte, Nat.reduceEqDiff, Nat.reduceLT]
    refine WC.block (WC.seq (WC.ops ?_))
    simp only [A21_6, go_sem, ↓reduceIte, Nat.reduceEqDiff, Nat.reduceLT, h1]
    by_cases hbe : b = []
    · simp only [hbe, go_sem, ↓reduceIte, Nat.reduceEqDiff, Nat.reduceLT]
      refine WC.test (t := true) (by simp only [go_sem, ↓reduceIte, Nat.reduceEqDiff, Nat.reduceLT]) (fun _ => ?_) (fun h => by cases h)
      refine WC.seq (WC.ops ?_)
      simp only [A21_7, go_sem, ↓reduceIte, Nat.reduceEqDiff, Nat.reduceLT]
      refine WC.ret ?_
      simp only [go_sem, ↓reduceIte, Nat.reduceEqDiff, Nat.reduceLT]
      simpa only [grAt, hbe, if_true] using hR
    · simp only [decide_eq_false hbe, go_sem, ↓reduceIte, Nat.reduceEqDiff, Nat.reduceLT]
      rw [IntWalk.i64_in _ (by omega)]
      refine WC.test (by simp only [go_sem, ↓reduceIte, Nat.reduceEqDiff, Nat.reduceLT]; rfl) (fun h => ?_) (fun h => ?_)
      · have hlt : l[i].toNat < digitL b i := by have := of_decide_eq_true h; omega
        refine WC.seq (WC.ops ?_)
        simp only [A21_7, go_sem, ↓reduceIte, Nat.reduceEqDiff, Nat.reduceLT]
        refine WC.ret ?_
        simp only [go_sem, ↓reduceIte, Nat.reduceEqDiff, Nat.reduceLT]
        simpa only [grAt, hbe, hD, hlt, if_true, if_false] using hR
      · have hlt : ¬ l[i].toNat < digitL b i := by have := of_decide_eq_false h; omega
        refine WC.seq (WC.ops ?_)
        simp only [A21_8, go_sem, ↓reduceIte, Nat.reduceEqDiff, Nat.reduceLT]
        rw [IntWalk.i64_in _ (by omega)]
        refine WC.test (by simp only [go_sem, ↓reduceIte, Nat.reduceEqDiff, Nat.reduceLT]; rfl) (fun h => ?_) (fun h => ?_)
        · have hgt : digitL b i < l[i].toNat := by have := of_decide_eq_true h; omega
          refine WC.seq (WC.ops ?_)
          simp only [A21_9, go_sem, ↓reduceIte, Nat.reduceEqDiff, Nat.reduceLT]
          refine WC.ret ?_
          simp only [go_sem, ↓reduceIte, Nat.reduceEqDiff, Nat.reduceLT]
          simpa only [grAt, hbe, hD, hlt, hgt, if_true, if_false] using hR
        · have hgt : ¬ digitL b i < l[i].toNat := by have := of_decide_eq_false h; omega
          refine WC.skip ?_
          simp only [go_sem]
          refine WC.ops ?_
          simp only [A21_10, go_sem, ↓reduceIte, Nat.reduceEqDiff, Nat.reduceLT, h16]
          rw [IntWalk.i64_in _ (by omega)]
          refine ih (i + 1) _ (by omega) (by simp only [go_sem, ↓reduceIte, Nat.reduceEqDiff, Nat.reduceLT, h1]) (by simp only [go_sem, ↓reduceIte, Nat.reduceEqDiff, Nat.reduceLT, h5]) (by simp only [go_sem, ↓reduceIte, Nat.reduceEqDiff, Nat.reduceLT, h14]) (by simp only [go_sem, ↓reduceIte, Nat.reduceEqDiff, Nat.reduceLT, h15]) (by simp only [go_sem, ↓reduceIte, Nat.reduceEqDiff, Nat.reduceLT]; rfl) ?_
          simpa only [grAt, hbe, hD, hlt, hgt, if_false] using hR

theorem greatest_runs (l b : List UInt8) (c : Nat) (n : Nat) (hl : l.length = n + 1) (hn : n < 2 ^ 40) (hb : b.length < 2 ^ 63) (M : Mem) (hM : M.get c = some (.cells (bytesC l) false)) :
    Runs D2 21 [.slice (some (c, 0)) (n + 1) (.exact (n + 1)), .str b] M fun v M' => v = .int .i64 (greatL l b) ∧ M' = M := by
  refine Runs.of (F := A21) rfl (by rfl) (by rfl) ?_
  unfold A21
  refine WC.seq (WC.ops ?_)
  simp only [A21_0, go_sem, ↓reduceIte, Nat.reduceEqDiff, Nat.reduceLT]
  refine WC.seq (WC.ops ?_)
  simp only [A21_1, go_sem, ↓reduceIte, Nat.reduceEqDiff, Nat.reduceLT]
  rw [IntWalk.i64_in _ (by omega), show (((n + 1 : Nat) : Int) - 1) = (n : Int) by omega]
  refine WC.seq (WC.seq (WC.ops ?_))
  simp only [A21_2, go_sem, ↓reduceIte, Nat.reduceEqDiff, Nat.reduceLT, vslice, Option.map_none, Option.bind_none, Option.getD_none, Option.getD_some, id, Nat.le_refl, decide_eq_true (show n ≤ n + 1 by omega), Nat.zero_le, Nat.zero_mul, Nat.add_zero, Nat.sub_zero, decide_eq_false (show ¬ n + 1 = 0 by omega)]
  refine WC.block (great_loop (cap := .exact (n + 1)) l b c n hl hn hb M hM n 0 _ (by omega) (by simp only [go_sem, ↓reduceIte, Nat.reduceEqDiff, Nat.reduceLT]) (by simp only [go_sem, ↓reduceIte, Nat.reduceEqDiff, Nat.reduceLT]) (by simp only [go_sem, ↓reduceIte, Nat.reduceEqDiff, Nat.reduceLT]) (by simp only [go_sem, ↓reduceIte, Nat.reduceEqDiff, Nat.reduceLT]) (by simp only [go_sem, ↓reduceIte, Nat.reduceEqDiff, Nat.reduceLT]; rfl) ?_)
  refine ⟨?_, rfl⟩
  simp only [greatL, hl, Nat.add_sub_cancel]
end Go.Am.Try

/- The program's Right and fine, on the machine. -/
namespace Go.Am.Try
open Go Go.Am Go.Proofs
set_option maxRecDepth 100000
set_option linter.unusedSimpArgs false
set_option linter.unusedVariables false

def rightK (k : List UInt8) : Bool := !decide (k = []) && (decide (k.length ≤ 24) && !decide (digitL k (k.length - 1) = 0))

theorem right_runs (k : List UInt8) (M : Mem) : Runs D2 12 [.str k] M fun v M' => v = .bool (rightK k) ∧ M' = M := by
  refine Runs.of (F := A12) rfl (by rfl) (by rfl) ?_
  unfold A12
  refine WC.seq (WC.ops ?_)
  simp only [A12_0, go_sem]
  refine WC.seq (WC.ops ?_)
  simp only [A12_1, go_sem, ↓reduceIte, Nat.reduceEqDiff, Nat.reduceLT]
  by_cases h : k = []
  · simp only [h, go_sem, ↓reduceIte, Nat.reduceEqDiff, Nat.reduceLT]
    refine WC.ret ?_
    simp only [go_sem, ↓reduceIte, Nat.reduceEqDiff, Nat.reduceLT]
    exact ⟨rfl, trivial⟩
  · have hk : 0 < k.length := by cases k <;> simp at h ⊢
    simp only [h, go_sem, ↓reduceIte, Nat.reduceEqDiff, Nat.reduceLT]
    by_cases h2 : (k.length : Int) ≤ 24
    · have hl : k[k.length - 1]? = some k[k.length - 1] := List.getElem?_eq_getElem (by omega)
      have hd : digitL k (k.length - 1) = k[k.length - 1].toNat := by simp [digitL, List.getD_eq_getElem?_getD, hl]
      simp only [h2, go_sem, ↓reduceIte, Nat.reduceEqDiff, Nat.reduceLT]
      rw [IntWalk.i64_in _ (by omega), as_nat _ _ (by omega), show ((k.length : Int) - 1).toNat = k.length - 1 by omega]
      simp only [hl, go_sem, ↓reduceIte, Nat.reduceEqDiff, Nat.reduceLT]
      refine WC.ret ?_
      simp only [go_sem, ↓reduceIte, Nat.reduceEqDiff, Nat.reduceLT]
      refine ⟨?_, trivial⟩
      simp only [rightK, h, hd, show k.length ≤ 24 by omega, Int.natCast_eq_zero, decide_true, decide_false, Bool.not_false, Bool.true_and]
    · simp only [h2, go_sem, ↓reduceIte, Nat.reduceEqDiff, Nat.reduceLT]
      refine WC.ret ?_
      simp only [go_sem, ↓reduceIte, Nat.reduceEqDiff, Nat.reduceLT]
      refine ⟨?_, trivial⟩
      simp only [rightK, h, show ¬ k.length ≤ 24 by omega, decide_true, decide_false, Bool.not_false, Bool.true_and, Bool.false_and]

def inK (k : List UInt8) : Bool := decide (k = []) || rightK k
def fineK (a b : List UInt8) : Bool := inK a && (inK b && (decide (a = []) || (decide (b = []) || strLess a b)))

theorem in_runs (k : List UInt8) (M : Mem) : Runs D2 28 [.str k] M fun v M' => v = .bool (inK k) ∧ M' = M := by
  refine Runs.of (F := A28) rfl (by rfl) (by rfl) ?_
  unfold A28
  refine WC.seq (WC.ops ?_)
  simp only [A28_0, go_sem]
  refine WC.seq (WC.ops ?_)
  simp only [A28_1, go_sem, ↓reduceIte, Nat.reduceEqDiff, Nat.reduceLT]
  by_cases h : k = []
  · simp only [h, go_sem, ↓reduceIte, Nat.reduceEqDiff, Nat.reduceLT]
    refine WC.ret ?_
    simp only [go_sem, ↓reduceIte, Nat.reduceEqDiff, Nat.reduceLT]
    exact ⟨rfl, trivial⟩
  · simp only [h, go_sem, ↓reduceIte, Nat.reduceEqDiff, Nat.reduceLT]
    refine callI_of (right_runs k M) ?_
    rintro v M' ⟨rfl, rfl⟩
    simp only [go_sem, ↓reduceIte, Nat.reduceEqDiff, Nat.reduceLT]
    refine WC.ret ?_
    simp only [go_sem, ↓reduceIte, Nat.reduceEqDiff, Nat.reduceLT]
    refine ⟨?_, trivial⟩
    simp only [inK, h, decide_false, Bool.false_or]

theorem fine_runs (a b : List UInt8) (M : Mem) : Runs D2 19 [.str a, .str b] M fun v M' => v = .bool (fineK a b) ∧ M' = M := by
  refine Runs.of (F := A19) rfl (by rfl) (by rfl) ?_
  unfold A19
  refine WC.seq (WC.ops ?_)
  simp only [A19_0, go_sem]
  refine WC.seq (WC.ops ?_)
  simp only [A19_1, go_sem, ↓reduceIte, Nat.reduceEqDiff, Nat.reduceLT]
  refine WC.seq (WC.ops ?_)
  simp only [A19_2, go_sem, ↓reduceIte, Nat.reduceEqDiff, Nat.reduceLT, List.nil_append, List.append_nil]
  refine callI_of (in_runs a M) ?_
  rintro v M' ⟨rfl, rfl⟩
  simp only [go_sem, ↓reduceIte, Nat.reduceEqDiff, Nat.reduceLT]
  cases hA : inK a with
  | false =>
    simp only [go_sem, ↓reduceIte, Nat.reduceEqDiff, Nat.reduceLT]
    refine WC.ret ?_
    simp only [go_sem, ↓reduceIte, Nat.reduceEqDiff, Nat.reduceLT]
    exact ⟨by simp only [fineK, hA, Bool.false_and], trivial⟩
  | true =>
    simp only [go_sem, ↓reduceIte, Nat.reduceEqDiff, Nat.reduceLT, List.nil_append, List.append_nil]
    refine callI_of (in_runs b M') ?_
    rintro v M'' ⟨rfl, rfl⟩
    simp only [go_sem, ↓reduceIte, Nat.reduceEqDiff, Nat.reduceLT]
    cases hB : inK b with
    | false =>
      simp only [go_sem, ↓reduceIte, Nat.reduceEqDiff, Nat.reduceLT]
      refine WC.ret ?_
      simp only [go_sem, ↓reduceIte, Nat.reduceEqDiff, Nat.reduceLT]
      exact ⟨by simp only [fineK, hA, hB, Bool.false_and, Bool.true_and], trivial⟩
    | true =>
      by_cases ha : a = []
      · simp only [ha, go_sem, ↓reduceIte, Nat.reduceEqDiff, Nat.reduceLT]
        refine WC.ret ?_
        simp only [go_sem, ↓reduceIte, Nat.reduceEqDiff, Nat.reduceLT]
        subst ha
        exact ⟨by simp only [fineK, hA, hB, Bool.true_and, decide_true, Bool.true_or], trivial⟩
      · by_cases hb : b = []
        · simp only [ha, hb, go_sem, ↓reduceIte, Nat.reduceEqDiff, Nat.reduceLT]
          refine WC.ret ?_
          simp only [go_sem, ↓reduceIte, Nat.reduceEqDiff, Nat.reduceLT]
          subst hb
          exact ⟨by simp only [fineK, hA, hB, ha, Bool.true_and, decide_true, decide_false, Bool.true_or, Bool.false_or], trivial⟩
        · simp only [ha, hb, go_sem, ↓reduceIte, Nat.reduceEqDiff, Nat.reduceLT]
          refine WC.ret ?_
          simp only [go_sem, ↓reduceIte, Nat.reduceEqDiff, Nat.reduceLT]
          exact ⟨by simp only [fineK, hA, hB, ha, hb, Bool.true_and, decide_true, decide_false, Bool.true_or, Bool.false_or], trivial⟩
end Go.Am.Try

/- The program's Between, on the machine. -/
namespace Go.Am.Try
open Go Go.Am Go.Proofs
set_option maxRecDepth 100000
set_option linter.unusedSimpArgs false
set_option linter.unusedVariables false

def btwAt (a b : List UInt8) : Nat → Nat → Option (List UInt8)
  | 0, _ => none
  | f + 1, n => match incFrom (padTo a n) n with
    | none => btwAt a b f (n + 1)
    | some l => if greatL l b < max (digitL l (n - 1)) 1 then btwAt a b f (n + 1) else some (l.set (n - 1) (UInt8.ofNat ((max (digitL l (n - 1)) 1 + (greatL l b).toNat) / 2)))
def btwK (a b : List UInt8) : Option (List UInt8) := btwAt a b 24 1
def btwV (a b : List UInt8) : V := if fineK a b = true then (match btwK a b with | some k => .tup [.str k, .int .i64 0] | none => .tup [.str [], .int .i64 32]) else .tup [.str [], .int .i64 1]

theorem grAt_le (l b : List UInt8) (n : Nat) : ∀ k i, -1 ≤ grAt l b n k i ∧ grAt l b n k i ≤ 255
  | 0, _ => by
    have := digit_lt b n
    simp only [grAt, grEnd]
    split
    · omega
    · split <;> omega
  | k + 1, i => by
    simp only [grAt]
    split
    · omega
    · split
      · omega
      · split
        · omega
        · exact grAt_le l b n k (i + 1)
theorem greatL_le (l b : List UInt8) : -1 ≤ greatL l b ∧ greatL l b ≤ 255 := grAt_le _ _ _ _ _

theorem btw_loop (a b : List UInt8) (hb : b.length < 2 ^ 63) {R : V → Mem → Prop} (M0 : Mem) (hR : ∀ l M', Grew M0 M' → btwK a b = some l → R (.tup [.str l, .int .i64 0]) M') (hR2 : ∀ M', Grew M0 M' → btwK a b = none → R (.tup [.str [], .int .i64 32]) M') :
    ∀ (f n : Nat) (fr : Fr) (M : Mem), Grew M0 M → n + f = 25 → 1 ≤ n → btwAt a b f n = btwK a b → fr.rd 0 = .str a → fr.rd 1 = .str b → fr.rd 6 = .int .i64 (n : Int) →
    WC D2 51 (.loop A9_12) fr M (blockQ 0 (nextQ (fun fr M => WC D2 51 (.seq (.ops A9_13) .ret) fr M (endQ [.tmp 4, .tmp 5] R)) (endQ [.tmp 4, .tmp 5] R))) := by
  intro f
  induction f with
  | zero =>
    intro n fr M hG hn h1 hbt h0 h1' h6
    have : n = 25 := by omega
    subst this
    refine WC.loop ?_
    unfold A9_12
    refine WC.seq (WC.seq (WC.ops ?_))
    simp only [A9_4, go_sem, ↓reduceIte, Nat.reduceEqDiff, Nat.reduceLT, h6]
    refine WC.test (t := false) (by simp only [go_sem, ↓reduceIte, Nat.reduceEqDiff, Nat.reduceLT]; rfl) (fun h => by cases h) (fun _ => WC.exit ?_)
    simp only [go_sem]
    refine WC.seq (WC.ops ?_)
    simp only [A9_13, go_sem, ↓reduceIte, Nat.reduceEqDiff, Nat.reduceLT]
    refine WC.ret ?_
    simp only [go_sem, ↓reduceIte, Nat.reduceEqDiff, Nat.reduceLT]
    exact hR2 _ hG hbt.symm
  | succ f ih =>
    intro n fr M hG hn h1 hbt h0 h1' h6
    refine WC.loop ?_
    unfold A9_12
    refine WC.seq (WC.seq (WC.ops ?_))
    simp only [A9_4, go_sem, ↓reduceIte, Nat.reduceEqDiff, Nat.reduceLT, h6]
    refine WC.test (t := true) (by simp only [go_sem, ↓reduceIte, Nat.reduceEqDiff, Nat.reduceLT]; rw [decide_eq_true (by omega)]) (fun _ => WC.skip ?_) (fun h => by cases h)
    simp only [go_sem]
    have hnext : ∀ (fr' : Fr) (M' : Mem), Grew M0 M' → btwAt a b f (n + 1) = btwK a b → fr'.rd 0 = .str a → fr'.rd 1 = .str b → fr'.rd 6 = .int .i64 (n : Int) →
        WC D2 51 (.ops A9_11) fr' M' (nextQ (fun fr M => WC D2 51 (.loop A9_12) fr M (blockQ 0 (nextQ (fun fr M => WC D2 51 (.seq (.ops A9_13) .ret) fr M (endQ [.tmp 4, .tmp 5] R)) (endQ [.tmp 4, .tmp 5] R)))) (blockQ 0 (nextQ (fun fr M => WC D2 51 (.seq (.ops A9_13) .ret) fr M (endQ [.tmp 4, .tmp 5] R)) (endQ [.tmp 4, .tmp 5] R)))) := by
      intro fr' M' hG' hbt' g0 g1 g6
      refine WC.ops ?_
      simp only [A9_11, go_sem, ↓reduceIte, Nat.reduceEqDiff, Nat.reduceLT, g6]
      rw [IntWalk.i64_in _ (by omega)]
      exact ih (n + 1) _ M' hG' (by omega) (by omega) hbt' (by simp only [go_sem, ↓reduceIte, Nat.reduceEqDiff, Nat.reduceLT, g0]) (by simp only [go_sem, ↓reduceIte, Nat.reduceEqDiff, Nat.reduceLT, g1]) (by simp only [go_sem, ↓reduceIte, Nat.reduceEqDiff, Nat.reduceLT]; rfl)
    refine WC.seq (WC.block (WC.seq (WC.ops ?_)))
    simp only [A9_5, go_sem, ↓reduceIte, Nat.reduceEqDiff, Nat.reduceLT, h0, h6]
    refine callI_of (above_runs a n (by omega) M) ?_
    rintro v M1 ⟨hg, hv⟩
    rcases hv with ⟨l, hi, hl, rfl, hM1, hlt⟩ | ⟨hi, rfl⟩
    · simp only [go_sem, ↓reduceIte, Nat.reduceEqDiff, Nat.reduceLT, List.getElem?_cons_zero, List.getElem?_cons_succ]
      refine WC.seq (WC.seq (WC.ops ?_))
      simp only [A9_6, go_sem, ↓reduceIte, Nat.reduceEqDiff, Nat.reduceLT]
      refine WC.test (t := false) (by simp only [go_sem, ↓reduceIte, Nat.reduceEqDiff, Nat.reduceLT]) (fun h => by cases h) (fun _ => WC.skip ?_)
      simp only [go_sem]
      obtain ⟨m, rfl⟩ : ∃ m, n = m + 1 := ⟨n - 1, by omega⟩
      have hm : l[m]? = some l[m] := List.getElem?_eq_getElem (by omega)
      have hc : (bytesC l)[m]? = some (.int .u8 (l[m].toNat : Int)) := by rw [bytesC_get, hm]; rfl
      have hD : digitL l m = l[m].toNat := by simp [digitL, List.getD_eq_getElem?_getD, hm]
      have h8 := l[m].toNat_lt
      refine WC.seq (WC.ops ?_)
      have hw : IntKind.i64.wrap (((m + 1 : Nat) : Int) - 1) = (m : Int) := by rw [IntWalk.i64_in _ (by omega)]; omega
      simp only [A9_7, go_sem, ↓reduceIte, Nat.reduceEqDiff, Nat.reduceLT, h1', h6, hw, decide_eq_true (show m + 1 ≤ m + 1 from Nat.le_refl _), Nat.le_refl, vload, hM1, Nat.zero_add, Nat.mul_one, hc]
      refine callA_of (greatest_runs l b M.next m hl (by omega) hb M1 hM1) ?_
      rintro v M2 ⟨rfl, rfl⟩
      refine ⟨?_, ?_⟩
      · simp only [List.all_cons, List.all_nil, Bool.and_true, againOk, wantedA, cond_true, go_sem, ↓reduceIte, Nat.reduceEqDiff, Nat.reduceLT, Nat.reduceLeDiff, vload, hM1, hc, Nat.reduceAdd]
      · simp only [go_sem, ↓reduceIte, Nat.reduceEqDiff, Nat.reduceLT]
        refine WC.seq (WC.seq (WC.ops ?_))
        simp only [A9_8, go_sem, ↓reduceIte, Nat.reduceEqDiff, Nat.reduceLT]
        have hgr := greatL_le l b
        have hlo : max (IntKind.i64.wrap (l[m].toNat : Int)) 1 = ((max (digitL l m) 1 : Nat) : Int) := by
          rw [IntWalk.i64_in _ (by omega), hD]; omega
        have hmx : max (digitL l m) 1 ≤ 255 ∧ 1 ≤ max (digitL l m) 1 := by omega
        refine WC.test (by simp only [go_sem, ↓reduceIte, Nat.reduceEqDiff, Nat.reduceLT]; rfl) (fun h => WC.exit ?_) (fun h => WC.skip ?_)
        · have h := of_decide_eq_true h
          rw [hlo] at h
          simp only [go_sem]
          refine hnext _ _ (hG.trans hg) ?_ (by simp only [go_sem, ↓reduceIte, Nat.reduceEqDiff, Nat.reduceLT, h0]) (by simp only [go_sem, ↓reduceIte, Nat.reduceEqDiff, Nat.reduceLT, h1']) (by simp only [go_sem, ↓reduceIte, Nat.reduceEqDiff, Nat.reduceLT, h6])
          rw [← hbt]
          simp only [btwAt, hi, Nat.add_sub_cancel]
          rw [if_pos h]
        · have h := of_decide_eq_false h
          rw [hlo] at h
          simp only [go_sem]
          refine WC.seq (WC.ops ?_)
          simp only [A9_9, go_sem, ↓reduceIte, Nat.reduceEqDiff, Nat.reduceLT, h1', h6, hw, ne_eq, Int.reduceEq, not_false_eq_true, Nat.le_refl, Nat.zero_add, Nat.mul_one, hlo]
          have hq : IntKind.u8.wrap (IntKind.i64.wrap ((IntKind.i64.wrap (((max (digitL l m) 1 : Nat) : Int) + greatL l b)).tdiv 2)) = ((UInt8.ofNat ((max (digitL l m) 1 + (greatL l b).toNat) / 2)).toNat : Int) := by
            rw [IntWalk.i64_in (((max (digitL l m) 1 : Nat) : Int) + greatL l b) (by omega), Int.tdiv_eq_ediv_of_nonneg (by omega), IntWalk.i64_in _ (by omega), IntWalk.u8_in _ (by omega)]
            simp only [UInt8.toNat_ofNat']
            omega
          rw [hq]
          simp only [vstore, V.cells, List.length_cons, List.length_nil, Nat.zero_add, Nat.reduceEqDiff, go_sem]
          rw [write_one hM1 (by rw [bytesC_len]; omega) rfl, bytesC_set]
          simp only [go_sem, ↓reduceIte, Nat.reduceEqDiff, Nat.reduceLT]
          have hu := Upd.set M2 M.next (.cells (bytesC (l.set m (UInt8.ofNat ((max (digitL l m) 1 + (greatL l b).toNat) / 2)))) false)
          generalize M2.set M.next _ = M3 at hu
          refine WC.seq (WC.ops ?_)
          have hr := read_all hu.at_
          rw [bytesC_len, List.length_set, hl] at hr
          simp only [A9_10, go_sem, ↓reduceIte, Nat.reduceEqDiff, Nat.reduceLT, show ¬ m + 1 = 0 by omega, hr, bytesOf_bytesC]
          refine WC.ret ?_
          simp only [go_sem, ↓reduceIte, Nat.reduceEqDiff, Nat.reduceLT]
          refine hR _ _ ((hG.trans hg).upd hG.next hu) ?_
          rw [← hbt]
          simp only [btwAt, hi, Nat.add_sub_cancel]
          rw [if_neg h]
    · simp only [go_sem, ↓reduceIte, Nat.reduceEqDiff, Nat.reduceLT, List.getElem?_cons_zero, List.getElem?_cons_succ]
      refine WC.seq (WC.seq (WC.ops ?_))
      simp only [A9_6, go_sem, ↓reduceIte, Nat.reduceEqDiff, Nat.reduceLT]
      refine WC.test (t := true) (by simp only [go_sem, ↓reduceIte, Nat.reduceEqDiff, Nat.reduceLT]) (fun _ => WC.exit ?_) (fun h => by cases h)
      simp only [go_sem]
      refine hnext _ _ (hG.trans hg) ?_ (by simp only [go_sem, ↓reduceIte, Nat.reduceEqDiff, Nat.reduceLT, h0]) (by simp only [go_sem, ↓reduceIte, Nat.reduceEqDiff, Nat.reduceLT, h1']) (by simp only [go_sem, ↓reduceIte, Nat.reduceEqDiff, Nat.reduceLT, h6])
      rw [← hbt]
      simp only [btwAt, hi]

theorem between_runs (a b : List UInt8) (hb : b.length < 2 ^ 63) (M : Mem) : Runs D2 9 [.str a, .str b] M fun v M' => v = btwV a b ∧ Grew M M' := by
  refine Runs.of (F := A9) rfl (by rfl) (by rfl) ?_
  unfold A9
  refine WC.seq (WC.ops ?_)
  simp only [A9_0, go_sem]
  refine WC.scope (WC.seq (WC.seq (WC.ops ?_)))
  simp only [A9_1, go_sem, ↓reduceIte, Nat.reduceEqDiff, Nat.reduceLT]
  refine callI_of (fine_runs a b M) ?_
  rintro v M' ⟨rfl, rfl⟩
  simp only [go_sem, ↓reduceIte, Nat.reduceEqDiff, Nat.reduceLT]
  cases hf : fineK a b with
  | false =>
    refine WC.test (t := true) (by simp only [go_sem, ↓reduceIte, Nat.reduceEqDiff, Nat.reduceLT]) (fun _ => ?_) (fun h => by cases h)
    refine WC.seq (WC.ops ?_)
    simp only [A9_2, go_sem, ↓reduceIte, Nat.reduceEqDiff, Nat.reduceLT]
    refine WC.ret ?_
    simp only [go_sem, ↓reduceIte, Nat.reduceEqDiff, Nat.reduceLT, btwV, hf, Bool.false_eq_true]
    exact ⟨trivial, Grew.refl _⟩
  | true =>
    refine WC.test (t := false) (by simp only [go_sem, ↓reduceIte, Nat.reduceEqDiff, Nat.reduceLT]) (fun h => by cases h) (fun _ => WC.skip ?_)
    simp only [go_sem]
    refine WC.seq (WC.skip ?_)
    simp only [go_sem]
    refine WC.seq (WC.seq (WC.ops ?_))
    simp only [A9_3, go_sem, ↓reduceIte, Nat.reduceEqDiff, Nat.reduceLT]
    refine WC.block (btw_loop a b hb M' ?_ ?_ 24 1 _ M' (Grew.refl _) rfl (Nat.le_refl _) rfl (by simp only [go_sem, ↓reduceIte, Nat.reduceEqDiff, Nat.reduceLT]) (by simp only [go_sem, ↓reduceIte, Nat.reduceEqDiff, Nat.reduceLT]) (by simp only [go_sem, ↓reduceIte, Nat.reduceEqDiff, Nat.reduceLT]; rfl))
    · intro l M2 hg h
      exact ⟨by simp only [btwV, hf, h, if_true], hg⟩
    · intro M2 hg h
      exact ⟨by simp only [btwV, hf, h, if_true], hg⟩
end Go.Am.Try

/- The plain law of a key between: it stands between, and may be; where there is room there is one. -/
namespace Go.Am.Try
open Go Go.Am Go.Proofs
set_option maxRecDepth 100000
set_option linter.unusedSimpArgs false
set_option linter.unusedVariables false

theorem digit_cons (c : UInt8) (a : List UInt8) (i : Nat) : digitL (c :: a) (i + 1) = digitL a i := by simp [digitL]
theorem digit_zero (c : UInt8) (a : List UInt8) : digitL (c :: a) 0 = c.toNat := by simp [digitL]
theorem digit_nil (i : Nat) : digitL [] i = 0 := by simp [digitL]
theorem digit_out {a : List UInt8} {i : Nat} (h : a.length ≤ i) : digitL a i = 0 := by simp [digitL, List.getD_eq_getElem?_getD, List.getElem?_eq_none h]

/-- By the first digit in which they differ. -/
theorem less_of_digit : ∀ (i : Nat) (a k : List UInt8), i < k.length → (∀ j, j < i → digitL k j = digitL a j) → digitL a i < digitL k i → strLess a k = true
  | _, _, [], h, _, _ => by simp at h
  | _, [], _ :: _, _, _, _ => rfl
  | 0, x :: a, y :: k, _, _, h => by
    rw [digit_zero, digit_zero] at h
    simp only [strLess, ble_iff, decide_eq_true (show x.toNat + 1 ≤ y.toNat from h), cond_true]
  | i + 1, x :: a, y :: k, hk, hj, h => by
    have h0 := hj 0 (by omega)
    rw [digit_zero, digit_zero] at h0
    rw [digit_cons, digit_cons] at h
    have := less_of_digit i a k (by simpa using hk) (fun j hji => by have := hj (j + 1) (by omega); rwa [digit_cons, digit_cons] at this) h
    simp only [strLess, ble_iff, beq_dec, decide_eq_false (show ¬ x.toNat + 1 ≤ y.toNat by omega), decide_eq_true h0.symm, cond_false, cond_true, this]
/-- The beginning of another. -/
theorem less_of_begin : ∀ (a k : List UInt8), a.length < k.length → (∀ j, j < a.length → digitL k j = digitL a j) → strLess a k = true
  | _, [], h, _ => by simp at h
  | [], _ :: _, _, _ => rfl
  | x :: a, y :: k, hl, hj => by
    have h0 := hj 0 (by simp)
    rw [digit_zero, digit_zero] at h0
    have := less_of_begin a k (by simpa using hl) (fun j hji => by have := hj (j + 1) (by simpa using hji); rwa [digit_cons, digit_cons] at this)
    simp only [strLess, ble_iff, beq_dec, decide_eq_false (show ¬ x.toNat + 1 ≤ y.toNat by omega), decide_eq_true h0.symm, cond_false, cond_true, this]

theorem digit_set (l : List UInt8) (i j : Nat) (c : UInt8) (h : i < l.length) : digitL (l.set i c) j = if j = i then c.toNat else digitL l j := by
  unfold digitL
  simp only [List.getD_eq_getElem?_getD]
  by_cases e : j = i
  · subst e; rw [if_pos rfl, List.getElem?_set_self h]; rfl
  · rw [if_neg e, List.getElem?_set_ne (by omega)]
theorem digit_pad (a : List UInt8) (n i : Nat) (h : i < n) : digitL (padTo a n) i = digitL a i := by
  unfold digitL; rw [padTo_get a n i h]

/-- What one more is: one digit is more by one, those behind it nought. -/
theorem inc_spec : ∀ (m : Nat) (l l' : List UInt8), m ≤ l.length → incFrom l m = some l' → l'.length = l.length ∧ ∃ i, i < m ∧ (∀ j, j < i → digitL l' j = digitL l j) ∧ digitL l' i = digitL l i + 1 ∧ (∀ j, i < j → j < m → digitL l' j = 0 ∧ digitL l j = 255) ∧ (∀ j, m ≤ j → digitL l' j = digitL l j)
  | 0, _, _, _, h => by cases h
  | m + 1, l, l', hl, h => by
    simp only [incFrom] at h
    have hm : m < l.length := by omega
    have hc : (l.getD m 0).toNat = digitL l m := rfl
    by_cases hz : l.getD m 0 + 1 = 0
    · have h255 : digitL l m = 255 := by
        have : ((l.getD m 0) + 1).toNat = (0 : UInt8).toNat := by rw [hz]
        rw [UInt8.toNat_add] at this
        have h2 := (l.getD m 0).toNat_lt
        rw [← hc]
        simp at this
        simp at h2 ⊢
        omega
      rw [if_neg (by simpa using hz)] at h
      obtain ⟨h1, i, h2, h3, h4, h5, h6⟩ := inc_spec m (l.set m 0) l' (by simp; omega) h
      have hs : ∀ j, digitL (l.set m 0) j = if j = m then 0 else digitL l j := fun j => by rw [digit_set l m j 0 hm]; rfl
      refine ⟨by simpa using h1, i, by omega, fun j hj => ?_, ?_, fun j hij hjm => ?_, fun j hj => ?_⟩
      · rw [h3 j hj, hs, if_neg (by omega)]
      · rw [h4, hs, if_neg (by omega)]
      · by_cases e : j = m
        · subst e
          exact ⟨by rw [h6 j (Nat.le_refl _), hs, if_pos rfl], h255⟩
        · obtain ⟨q1, q2⟩ := h5 j hij (by omega)
          rw [hs, if_neg e] at q2
          exact ⟨q1, q2⟩
      · rw [h6 j (by omega), hs, if_neg (by omega)]
    · rw [if_pos (by simpa using hz)] at h
      cases h
      refine ⟨by simp, m, by omega, fun j hj => ?_, ?_, fun j hij hjm => by omega, fun j hj => ?_⟩
      · rw [digit_set _ _ _ _ hm, if_neg (by omega)]
      · rw [digit_set _ _ _ _ hm, if_pos rfl, UInt8.toNat_add, hc]
        have : digitL l m ≠ 255 := by
          intro e
          apply hz
          apply UInt8.toNat_inj.1
          rw [UInt8.toNat_add, hc, e]
          rfl
        have h2 := digit_lt l m
        simp
        omega
      · rw [digit_set _ _ _ _ hm, if_neg (by omega)]

/-- What the greatest last byte is. -/
theorem gr_spec (l b : List UInt8) (hb : b ≠ []) (n : Nat) (c : Nat) (hc : 1 ≤ c) : ∀ (k i : Nat), i + k = n → (∀ j, j < i → digitL l j = digitL b j) → (c : Int) ≤ grAt l b n k i →
    (∃ i, i < n ∧ (∀ j, j < i → digitL l j = digitL b j) ∧ digitL l i < digitL b i) ∨ ((∀ j, j < n → digitL l j = digitL b j) ∧ ((n + 1 < b.length ∧ c ≤ digitL b n) ∨ c < digitL b n))
  | 0, i, hi, hj, h => by
    have : i = n := by omega
    subst this
    simp only [grAt, grEnd, hb, if_false] at h
    refine .inr ⟨hj, ?_⟩
    split at h
    · rename_i h1; exact .inl ⟨h1, by omega⟩
    · exact .inr (by omega)
  | k + 1, i, hi, hj, h => by
    simp only [grAt, hb, if_false] at h
    have hd : (l.getD i 0).toNat = digitL l i := rfl
    rw [hd] at h
    by_cases h1 : digitL l i < digitL b i
    · exact .inl ⟨i, by omega, hj, h1⟩
    · rw [if_neg h1] at h
      by_cases h2 : digitL b i < digitL l i
      · rw [if_pos h2] at h; omega
      · rw [if_neg h2] at h
        exact gr_spec l b hb n c hc k (i + 1) (by omega) (fun j hj' => by
          by_cases e : j = i
          · subst e; omega
          · exact hj j (by omega)) h

/-- The key that is found. -/
theorem btw_one {a b l : List UInt8} {n : Nat} (hn : 1 ≤ n) (hn2 : n ≤ 24) (hi : incFrom (padTo a n) n = some l) (hg : ¬ greatL l b < max (digitL l (n - 1)) 1) :
    let k := l.set (n - 1) (UInt8.ofNat ((max (digitL l (n - 1)) 1 + (greatL l b).toNat) / 2))
    k.length = n ∧ rightK k = true ∧ strLess a k = true ∧ (b ≠ [] → strLess k b = true) := by
  intro k
  obtain ⟨m, rfl⟩ : ∃ m, n = m + 1 := ⟨n - 1, by omega⟩
  have hgl := greatL_le l b
  have hpl := padTo_len a (m + 1)
  obtain ⟨hl, i, hi1, hi2, hi3, hi4, _⟩ := inc_spec (m + 1) _ _ (by rw [hpl]; exact Nat.le_refl _) hi
  rw [hpl] at hl
  have h8 := digit_lt l m
  simp only [Nat.add_sub_cancel] at hg
  generalize hc : (max (digitL l m) 1 + (greatL l b).toNat) / 2 = c
  have hc1 : max (digitL l m) 1 ≤ c ∧ c ≤ 255 ∧ (c : Int) ≤ greatL l b := by omega
  have hk : k = l.set m (UInt8.ofNat c) := by simp only [k, Nat.add_sub_cancel, hc]
  have hcn : (UInt8.ofNat c).toNat = c := by simp only [UInt8.toNat_ofNat']; omega
  have hd : ∀ j, digitL k j = if j = m then c else digitL l j := fun j => by rw [hk, digit_set l m j _ (by omega), hcn]
  have hkl : k.length = m + 1 := by rw [hk, List.length_set, hl]
  have hp : ∀ j, j < m + 1 → digitL (padTo a (m + 1)) j = digitL a j := fun j hj => digit_pad a (m + 1) j hj
  refine ⟨hkl, ?_, ?_, fun hb => ?_⟩
  · have e1 : k ≠ [] := by intro e; rw [e] at hkl; simp at hkl
    have e2 : digitL k (k.length - 1) ≠ 0 := by rw [hkl, hd]; simp; omega
    simp only [rightK, e1, e2, show k.length ≤ 24 by omega, decide_true, decide_false, Bool.not_false, Bool.true_and]
  · refine less_of_digit i a k (by omega) (fun j hj => ?_) ?_
    · rw [hd, if_neg (by omega), hi2 j hj, hp j (by omega)]
    · rw [hd]
      rw [hp i hi1] at hi3
      split
      · rename_i e; subst e; omega
      · omega
  · have hgs := gr_spec l b hb m c (by omega) m 0 (by omega) (fun j hj => by omega) (by have := hc1.2.2; simpa only [greatL, hl, Nat.add_sub_cancel] using this)
    rcases hgs with ⟨i, h1, h2, h3⟩ | ⟨h1, h2⟩
    · have hib : i < b.length := by
        apply Nat.lt_of_not_le
        intro h
        rw [digit_out h] at h3
        omega
      exact less_of_digit i k b hib (fun j hj => by rw [hd, if_neg (by omega)]; exact (h2 j hj).symm) (by rw [hd, if_neg (by omega)]; exact h3)
    · have hpre : ∀ j, j < m → digitL b j = digitL k j := fun j hj => by rw [hd, if_neg (by omega)]; exact (h1 j hj).symm
      by_cases hlt : c < digitL b m
      · have hib : m < b.length := by
          apply Nat.lt_of_not_le
          intro h
          rw [digit_out h] at hlt
          omega
        exact less_of_digit m k b hib hpre (by rw [hd, if_pos rfl]; exact hlt)
      · rcases h2 with ⟨h2, h3⟩ | h2
        · refine less_of_begin k b (by omega) fun j hj => ?_
          by_cases e : j = m
          · subst e; rw [hd, if_pos rfl]; omega
          · exact hpre j (by omega)
        · exact absurd h2 hlt

theorem btw_spec {a b : List UInt8} : ∀ (f n : Nat) (k : List UInt8), 1 ≤ n → n + f = 25 → btwAt a b f n = some k → rightK k = true ∧ strLess a k = true ∧ (b ≠ [] → strLess k b = true)
  | 0, _, _, _, _, h => by cases h
  | f + 1, n, k, h1, h2, h => by
    simp only [btwAt] at h
    cases hi : incFrom (padTo a n) n with
    | none => rw [hi] at h; exact btw_spec f (n + 1) k (by omega) (by omega) h
    | some l =>
      rw [hi] at h
      simp only at h
      by_cases hg : greatL l b < max (digitL l (n - 1)) 1
      · rw [if_pos hg] at h; exact btw_spec f (n + 1) k (by omega) (by omega) h
      · rw [if_neg hg] at h
        cases h
        exact (btw_one h1 (by omega) hi hg).2
/-- Where a length will do, one is found, of that length at most. -/
theorem btw_found {a b l : List UInt8} (n0 : Nat) (hi0 : incFrom (padTo a n0) n0 = some l) (hg0 : ¬ greatL l b < max (digitL l (n0 - 1)) 1) : ∀ (f n : Nat), 1 ≤ n → n + f = 25 → n ≤ n0 → n0 ≤ 24 → ∃ k, btwAt a b f n = some k ∧ k.length ≤ n0
  | 0, n, h1, h2, h3, h4 => by omega
  | f + 1, n, h1, h2, h3, h4 => by
    simp only [btwAt]
    by_cases e : n = n0
    · subst e
      rw [hi0]
      simp only
      rw [if_neg hg0]
      exact ⟨_, rfl, Nat.le_of_eq (btw_one h1 h4 hi0 hg0).1⟩
    · cases hi : incFrom (padTo a n) n with
      | none => exact btw_found n0 hi0 hg0 f (n + 1) (by omega) (by omega) (by omega) h4
      | some l' =>
        simp only
        by_cases hg : greatL l' b < max (digitL l' (n - 1)) 1
        · rw [if_pos hg]; exact btw_found n0 hi0 hg0 f (n + 1) (by omega) (by omega) (by omega) h4
        · rw [if_neg hg]
          exact ⟨_, rfl, by rw [(btw_one h1 (by omega) hi hg).1]; omega⟩
end Go.Am.Try

/- The plain law of a key between: where both ends are short there is one. -/
namespace Go.Am.Try
open Go Go.Am Go.Proofs
set_option maxRecDepth 100000
set_option linter.unusedSimpArgs false
set_option linter.unusedVariables false

theorem first_digit : ∀ (b : List UInt8), b ≠ [] → digitL b (b.length - 1) ≠ 0 → ∃ i, i < b.length ∧ (∀ j, j < i → digitL b j = 0) ∧ 0 < digitL b i
  | [], h, _ => absurd rfl h
  | y :: b, _, h2 => by
    by_cases h0 : y.toNat = 0
    · cases b with
      | nil => exact absurd (by rw [List.length_cons, List.length_nil, Nat.zero_add, Nat.sub_self, digit_zero]; exact h0) h2
      | cons z b =>
        obtain ⟨i, h3, h4, h5⟩ := first_digit (z :: b) (by simp) (by
          have : (y :: z :: b).length - 1 = ((z :: b).length - 1) + 1 := by simp
          rw [this, digit_cons] at h2
          exact h2)
        refine ⟨i + 1, by simpa using h3, fun j hj => ?_, by rw [digit_cons]; exact h5⟩
        cases j with
        | zero => rw [digit_zero]; exact h0
        | succ j => rw [digit_cons]; exact h4 j (by omega)
    · exact ⟨0, by simp, fun j hj => by omega, by rw [digit_zero]; omega⟩
theorem digit_of_less : ∀ (a b : List UInt8), strLess a b = true → digitL b (b.length - 1) ≠ 0 → ∃ i, i < b.length ∧ (∀ j, j < i → digitL a j = digitL b j) ∧ digitL a i < digitL b i
  | _, [], h, _ => by cases ‹List UInt8› <;> simp [strLess] at h
  | [], y :: b, _, h2 => by
    obtain ⟨i, h3, h4, h5⟩ := first_digit (y :: b) (by simp) h2
    exact ⟨i, h3, fun j hj => by rw [digit_nil, h4 j hj], by rw [digit_nil]; exact h5⟩
  | x :: a, y :: b, h, h2 => by
    simp only [strLess, ble_iff, beq_dec] at h
    by_cases h1 : x.toNat + 1 ≤ y.toNat
    · exact ⟨0, by simp, fun j hj => by omega, by rw [digit_zero, digit_zero]; omega⟩
    · rw [decide_eq_false h1] at h
      by_cases h3 : x.toNat = y.toNat
      · rw [decide_eq_true h3] at h
        simp only [cond_false, cond_true] at h
        have hne : b ≠ [] := by intro e; subst e; cases a <;> simp [strLess] at h
        have hl : (y :: b).length - 1 = (b.length - 1) + 1 := by cases b <;> simp at hne ⊢
        rw [hl, digit_cons] at h2
        obtain ⟨i, h4, h5, h6⟩ := digit_of_less a b h h2
        refine ⟨i + 1, by simpa using h4, fun j hj => ?_, by rw [digit_cons, digit_cons]; exact h6⟩
        cases j with
        | zero => rw [digit_zero, digit_zero, h3]
        | succ j => rw [digit_cons, digit_cons]; exact h5 j (by omega)
      · rw [decide_eq_false h3] at h; cases h

theorem right_last {k : List UInt8} (h : rightK k = true) : k ≠ [] ∧ k.length ≤ 24 ∧ digitL k (k.length - 1) ≠ 0 := by
  simp only [rightK, Bool.and_eq_true, Bool.not_eq_true', decide_eq_false_iff_not, decide_eq_true_eq] at h
  exact ⟨h.1, h.2.1, h.2.2⟩
theorem fine_parts {a b : List UInt8} (h : fineK a b = true) : (a = [] ∨ rightK a = true) ∧ (b = [] ∨ rightK b = true) ∧ (a = [] ∨ b = [] ∨ strLess a b = true) := by
  simpa only [fineK, inK, Bool.and_eq_true, Bool.or_eq_true, decide_eq_true_eq] using h

theorem gr_less (l b : List UInt8) (hb : b ≠ []) (n i : Nat) (hi : i < n) (h1 : ∀ j, j < i → digitL l j = digitL b j) (h2 : digitL l i < digitL b i) : ∀ (k s : Nat), s + k = n → s ≤ i → grAt l b n k s = 255
  | 0, s, h, hs => by omega
  | k + 1, s, h, hs => by
    simp only [grAt, hb, if_false]
    have hd : (l.getD s 0).toNat = digitL l s := rfl
    rw [hd]
    by_cases e : s = i
    · subst e; rw [if_pos h2]
    · have := h1 s (by omega)
      rw [if_neg (by omega), if_neg (by omega)]
      exact gr_less l b hb n i hi h1 h2 k (s + 1) (by omega) (by omega)
theorem gr_open (l : List UInt8) (n : Nat) : ∀ (k s : Nat), grAt l [] n k s = 255
  | 0, _ => rfl
  | _ + 1, _ => rfl

theorem fine_found {a b : List UInt8} (h : fineK a b = true) (hl : max a.length b.length + 1 ≤ 24) : ∃ k, btwK a b = some k ∧ k.length ≤ max a.length b.length + 1 := by
  obtain ⟨ha, hb, hab⟩ := fine_parts h
  generalize hm : max a.length b.length = m at hl ⊢
  have hma : a.length ≤ m ∧ b.length ≤ m := by omega
  have hp := padTo_len a (m + 1)
  have hz : (padTo a (m + 1)).getD m 0 = 0 := by
    rw [padTo_get a _ _ (by omega), List.getD_eq_getElem?_getD, List.getElem?_eq_none (by omega)]; rfl
  have hi : incFrom (padTo a (m + 1)) (m + 1) = some ((padTo a (m + 1)).set m 1) := by
    simp only [incFrom, hz]
    rfl
  have hd : ∀ j, digitL ((padTo a (m + 1)).set m 1) j = if j = m then 1 else digitL (padTo a (m + 1)) j := fun j => digit_set _ m j 1 (by omega)
  have hg : ¬ greatL ((padTo a (m + 1)).set m 1) b < max (digitL ((padTo a (m + 1)).set m 1) m) 1 := by
    have h255 : greatL ((padTo a (m + 1)).set m 1) b = 255 := by
      unfold greatL
      have hlen : ((padTo a (m + 1)).set m 1).length - 1 = m := by rw [List.length_set, hp]; rfl
      rw [hlen]
      by_cases hbe : b = []
      · subst hbe; exact gr_open _ _ _ _
      · have hbr := right_last (hb.resolve_left hbe)
        have hs : strLess a b = true := by
          rcases hab with rfl | e | e
          · cases b with
            | nil => exact absurd rfl hbe
            | cons y b => rfl
          · exact absurd e hbe
          · exact e
        obtain ⟨i, h1, h2, h3⟩ := digit_of_less a b hs hbr.2.2
        refine gr_less _ b hbe m i (by omega) (fun j hj => ?_) ?_ m 0 (by omega) (Nat.zero_le _)
        · rw [hd, if_neg (by omega), digit_pad a _ _ (by omega)]; exact h2 j hj
        · rw [hd, if_neg (by omega), digit_pad a _ _ (by omega)]; exact h3
    rw [h255, hd, if_pos rfl]
    decide
  exact btw_found (m + 1) hi (by rw [Nat.add_sub_cancel]; exact hg) 24 1 (Nat.le_refl _) rfl (by omega) hl
theorem btw_right {a b k : List UInt8} (h : btwK a b = some k) : rightK k = true ∧ strLess a k = true ∧ (b ≠ [] → strLess k b = true) := btw_spec 24 1 k (Nat.le_refl _) rfl h
end Go.Am.Try

/- The walk of the law PoskeyLies on the machine. -/
namespace Go.Am.Try
open Go Go.Am Go.Proofs
set_option maxRecDepth 100000
set_option linter.unusedSimpArgs false
set_option linter.unusedVariables false

theorem num_runs (n : Int) (M : Mem) : Runs D2 11 [.int .i64 n] M fun v M' => v = .int .i64 n ∧ M' = M := by
  refine Runs.of (F := A11) rfl (by rfl) (by rfl) ?_
  unfold A11
  refine WC.seq (WC.ops ?_)
  simp only [A11_0, go_sem]
  refine WC.seq (WC.ops ?_)
  simp only [A11_1, go_sem, ↓reduceIte, Nat.reduceEqDiff, Nat.reduceLT]
  refine WC.ret ?_
  simp only [go_sem, ↓reduceIte, Nat.reduceEqDiff, Nat.reduceLT]
  exact ⟨trivial, trivial⟩

theorem fine_row (a b : List UInt8) (fr : Fr) (M : Mem) (x y : V) (h0 : fr.rd 0 = .str a) (h1 : fr.rd 1 = .str b) (h5 : fr.rd 5 = x) (h6 : fr.rd 6 = y) {K : Fr → Mem → Prop}
    (hK : ∀ fr', fr'.rd 0 = .str a → fr'.rd 1 = .str b → fr'.rd 5 = x → fr'.rd 6 = y → fr'.rd 7 = .bool (fineK a b) → K fr' M) : WI D2 113 A4_2 fr M K := by
  have hKf : ∀ fr', fr'.rd 0 = .str a → fr'.rd 1 = .str b → fr'.rd 5 = x → fr'.rd 6 = y → ∀ t, fr'.rd 7 = .bool t → t = fineK a b → K fr' M := fun fr' q0 q1 q5 q6 t q7 e => hK fr' q0 q1 q5 q6 (by rw [q7, e])
  have hA : ∀ {l : List Go.Am.Item} {fr' : Fr} {d : Option Nat} {k : List UInt8} {K' : Fr → Mem → Prop}, WI D2 113 l (fr'.put 113 d (.bool (rightK k))) M K' → callI D2 113 12 [.str k] d fr' M l K' := fun h => callI_of (right_runs _ M) (by rintro v M' ⟨rfl, rfl⟩; exact h)
  simp only [A4_2, go_sem, ↓reduceIte, Nat.reduceEqDiff, Nat.reduceLT, h0, h1]
  by_cases ha : a = [] <;> by_cases hb : b = []
  all_goals simp only [ha, hb, go_sem, ↓reduceIte, Nat.reduceEqDiff, Nat.reduceLT, h0, h1]
  · refine hKf _ ?_ ?_ ?_ ?_ true ?_ ?_
    all_goals try simp only [go_sem, ↓reduceIte, Nat.reduceEqDiff, Nat.reduceLT, h0, h1, h5, h6, ha, hb]
    simp [fineK, inK]
  · refine hA ?_
    cases hr : rightK b <;> simp only [ha, hb, go_sem, ↓reduceIte, Nat.reduceEqDiff, Nat.reduceLT, h0, h1]
    · refine hKf _ ?_ ?_ ?_ ?_ false ?_ ?_
      all_goals try simp only [go_sem, ↓reduceIte, Nat.reduceEqDiff, Nat.reduceLT, h0, h1, h5, h6, ha]
      simp [fineK, inK, hb, hr]
    · refine hKf _ ?_ ?_ ?_ ?_ true ?_ ?_
      all_goals try simp only [go_sem, ↓reduceIte, Nat.reduceEqDiff, Nat.reduceLT, h0, h1, h5, h6, ha]
      simp [fineK, inK, hb, hr]
  · refine hA ?_
    cases hr : rightK a <;> simp only [ha, hb, go_sem, ↓reduceIte, Nat.reduceEqDiff, Nat.reduceLT, h0, h1]
    · refine hKf _ ?_ ?_ ?_ ?_ false ?_ ?_
      all_goals try simp only [go_sem, ↓reduceIte, Nat.reduceEqDiff, Nat.reduceLT, h0, h1, h5, h6, hb]
      simp [fineK, inK, ha, hr]
    · refine hKf _ ?_ ?_ ?_ ?_ true ?_ ?_
      all_goals try simp only [go_sem, ↓reduceIte, Nat.reduceEqDiff, Nat.reduceLT, h0, h1, h5, h6, hb]
      simp [fineK, inK, ha, hr]
  · refine hA ?_
    cases hr : rightK a <;> simp only [ha, hb, go_sem, ↓reduceIte, Nat.reduceEqDiff, Nat.reduceLT, h0, h1]
    · refine hKf _ ?_ ?_ ?_ ?_ false ?_ ?_
      all_goals try simp only [go_sem, ↓reduceIte, Nat.reduceEqDiff, Nat.reduceLT, h0, h1, h5, h6]
      simp [fineK, inK, ha, hr]
    · refine hA ?_
      cases hr2 : rightK b <;> simp only [ha, hb, go_sem, ↓reduceIte, Nat.reduceEqDiff, Nat.reduceLT, h0, h1]
      · refine hKf _ ?_ ?_ ?_ ?_ false ?_ ?_
        all_goals try simp only [go_sem, ↓reduceIte, Nat.reduceEqDiff, Nat.reduceLT, h0, h1, h5, h6]
        simp [fineK, inK, ha, hb, hr, hr2]
      · refine hKf _ ?_ ?_ ?_ ?_ (strLess a b) ?_ ?_
        all_goals try simp only [go_sem, ↓reduceIte, Nat.reduceEqDiff, Nat.reduceLT, h0, h1, h5, h6]
        simp [fineK, inK, ha, hb, hr, hr2]

set_option maxHeartbeats 400000 in
theorem lies_runs (a b : List UInt8) (ha : a.length < 2 ^ 63) (hb : b.length < 2 ^ 63) (M : Mem) : Runs D2 4 [.str a, .str b] M fun v _ => v = .bool true := by
  have hcmp : ∀ {x y : List UInt8}, strLess x y = true → cmpB x y = -1 := fun h => by rw [cmp_less] at h; exact of_decide_eq_true h
  refine Runs.of (F := A4) rfl (by rfl) (by rfl) ?_
  unfold A4
  refine WC.seq (WC.ops ?_)
  simp only [A4_0, go_sem]
  refine WC.seq (WC.ops ?_)
  simp only [A4_1, go_sem, ↓reduceIte, Nat.reduceEqDiff, Nat.reduceLT]
  refine callI_of (between_runs a b hb M) ?_
  rintro v M1 ⟨rfl, _⟩
  obtain ⟨k, e, hv⟩ : ∃ k e, btwV a b = .tup [.str k, .int .i64 e] := by
    unfold btwV
    split
    · split <;> exact ⟨_, _, rfl⟩
    · exact ⟨_, _, rfl⟩
  simp only [hv, go_sem, ↓reduceIte, Nat.reduceEqDiff, Nat.reduceLT, List.getElem?_cons_zero, List.getElem?_cons_succ]
  refine WC.seq (WC.ops ?_)
  refine fine_row a b _ M1 (.str k) (.int .i64 e) ?_ ?_ ?_ ?_ ?_
  · simp only [go_sem, ↓reduceIte, Nat.reduceEqDiff, Nat.reduceLT]
  · simp only [go_sem, ↓reduceIte, Nat.reduceEqDiff, Nat.reduceLT]
  · simp only [go_sem, ↓reduceIte, Nat.reduceEqDiff, Nat.reduceLT]
  · simp only [go_sem, ↓reduceIte, Nat.reduceEqDiff, Nat.reduceLT]
  intro fr h0 h1 h5 h6 h7
  refine WC.seq (WC.seq (WC.ops ?_))
  simp only [A4_3, go_sem, ↓reduceIte, Nat.reduceEqDiff, Nat.reduceLT, h7]
  cases hf : fineK a b with
  | false =>
    have hke : k = [] ∧ e = 1 := by simp only [btwV, hf] at hv; simp at hv; first | exact hv | exact ⟨hv.1.symm, hv.2⟩ | exact ⟨hv.1, hv.2.symm⟩ | exact ⟨hv.1.symm, hv.2.symm⟩
    obtain ⟨rfl, rfl⟩ := hke
    refine WC.test (t := true) (by simp only [go_sem, ↓reduceIte, Nat.reduceEqDiff, Nat.reduceLT]) (fun _ => ?_) (fun h => by cases h)
    refine WC.seq (WC.ops ?_)
    simp only [A4_4, go_sem, ↓reduceIte, Nat.reduceEqDiff, Nat.reduceLT, h5, h6]
    refine callI_eq (num_runs _ _) ?_
    simp only [go_sem, ↓reduceIte, Nat.reduceEqDiff, Nat.reduceLT]
    refine callI_eq (knows_runs _) ?_
    simp only [go_sem, ↓reduceIte, Nat.reduceEqDiff, Nat.reduceLT]
    refine WC.ret ?_
    simp only [go_sem, ↓reduceIte, Nat.reduceEqDiff, Nat.reduceLT]
  | true =>
    refine WC.test (t := false) (by simp only [go_sem, ↓reduceIte, Nat.reduceEqDiff, Nat.reduceLT]) (fun h => by cases h) (fun _ => WC.skip ?_)
    simp only [go_sem]
    refine WC.seq (WC.seq (WC.ops ?_))
    simp only [A4_5, go_sem, ↓reduceIte, Nat.reduceEqDiff, Nat.reduceLT, h5, h6]
    refine callI_eq (num_runs _ _) ?_
    simp only [go_sem, ↓reduceIte, Nat.reduceEqDiff, Nat.reduceLT]
    cases hk : btwK a b with
    | none =>
      have hke : k = [] ∧ e = 32 := by simp only [btwV, hf, hk] at hv; simp at hv; first | exact hv | exact ⟨hv.1.symm, hv.2⟩ | exact ⟨hv.1, hv.2.symm⟩ | exact ⟨hv.1.symm, hv.2.symm⟩
      obtain ⟨rfl, rfl⟩ := hke
      have hroom : (24 : Int) ≤ max (a.length : Int) (b.length : Int) := by
        have : ¬ max a.length b.length + 1 ≤ 24 := by
          intro hle
          obtain ⟨k, h, _⟩ := fine_found hf hle
          rw [hk] at h; cases h
        omega
      refine WC.test (t := true) (by simp only [go_sem, ↓reduceIte, Nat.reduceEqDiff, Nat.reduceLT, Int.reduceEq]) (fun _ => ?_) (fun h => by cases h)
      refine WC.seq (WC.ops ?_)
      simp only [A4_6, go_sem, ↓reduceIte, Nat.reduceEqDiff, Nat.reduceLT, h5, h6]
      refine callI_eq (num_runs _ _) ?_
      simp only [go_sem, ↓reduceIte, Nat.reduceEqDiff, Nat.reduceLT, h0, h1, decide_eq_true hroom]
      refine callI_eq (knows_runs _) ?_
      simp only [go_sem, ↓reduceIte, Nat.reduceEqDiff, Nat.reduceLT]
      refine WC.ret ?_
      simp only [go_sem, ↓reduceIte, Nat.reduceEqDiff, Nat.reduceLT]
    | some k' =>
      have hke : k = k' ∧ e = 0 := by simp only [btwV, hf, hk] at hv; simp at hv; first | exact hv | exact ⟨hv.1.symm, hv.2⟩ | exact ⟨hv.1, hv.2.symm⟩ | exact ⟨hv.1.symm, hv.2.symm⟩
      obtain ⟨rfl, rfl⟩ := hke
      obtain ⟨g1, g2, g3⟩ := btw_right hk
      refine WC.test (t := false) (by simp only [go_sem, ↓reduceIte, Nat.reduceEqDiff, Nat.reduceLT]) (fun h => by cases h) (fun _ => WC.skip ?_)
      simp only [go_sem]
      refine WC.seq (WC.ops ?_)
      simp only [A4_7, go_sem, ↓reduceIte, Nat.reduceEqDiff, Nat.reduceLT, h5, h6]
      refine callI_eq (right_runs _ _) ?_
      simp only [go_sem, ↓reduceIte, Nat.reduceEqDiff, Nat.reduceLT, h0, h1, g1]
      have c1 := hcmp g2
      by_cases hae : a = [] <;> by_cases hbe : b = []
      · simp only [hae, hbe, go_sem, ↓reduceIte, Nat.reduceEqDiff, Nat.reduceLT, h0, h1, h5]
        rw [hae] at g2
        simp only [g2, go_sem, ↓reduceIte, Nat.reduceEqDiff, Nat.reduceLT, h0, h1, h5, hbe]
        refine callI_eq (knows_runs _) ?_
        simp only [go_sem, ↓reduceIte, Nat.reduceEqDiff, Nat.reduceLT]
        refine WC.ret ?_
        simp only [go_sem, ↓reduceIte, Nat.reduceEqDiff, Nat.reduceLT]
      · have c2 := hcmp (g3 hbe)
        have g4 := g3 hbe
        simp only [hae, hbe, go_sem, ↓reduceIte, Nat.reduceEqDiff, Nat.reduceLT, h0, h1, h5]
        refine callI_eq (Compare_runs _ _ _) ?_
        rw [hae] at g2
        simp only [c2, g2, g4, hbe, hae, go_sem, ↓reduceIte, Nat.reduceEqDiff, Nat.reduceLT, h0, h1, h5]
        refine callI_eq (knows_runs _) ?_
        simp only [go_sem, ↓reduceIte, Nat.reduceEqDiff, Nat.reduceLT]
        refine WC.ret ?_
        simp only [go_sem, ↓reduceIte, Nat.reduceEqDiff, Nat.reduceLT]
      · simp only [hae, hbe, go_sem, ↓reduceIte, Nat.reduceEqDiff, Nat.reduceLT, h0, h1, h5]
        refine callI_eq (Compare_runs _ _ _) ?_
        simp only [c1, g2, hbe, hae, go_sem, ↓reduceIte, Nat.reduceEqDiff, Nat.reduceLT, h0, h1, h5]
        refine callI_eq (knows_runs _) ?_
        simp only [go_sem, ↓reduceIte, Nat.reduceEqDiff, Nat.reduceLT]
        refine WC.ret ?_
        simp only [go_sem, ↓reduceIte, Nat.reduceEqDiff, Nat.reduceLT]
      · have c2 := hcmp (g3 hbe)
        have g4 := g3 hbe
        simp only [hae, hbe, go_sem, ↓reduceIte, Nat.reduceEqDiff, Nat.reduceLT, h0, h1, h5]
        refine callI_eq (Compare_runs _ _ _) ?_
        simp only [c1, hbe, hae, go_sem, ↓reduceIte, Nat.reduceEqDiff, Nat.reduceLT, h0, h1, h5]
        refine callI_eq (Compare_runs _ _ _) ?_
        simp only [c2, g2, g4, hbe, hae, go_sem, ↓reduceIte, Nat.reduceEqDiff, Nat.reduceLT, h0, h1, h5]
        refine callI_eq (knows_runs _) ?_
        simp only [go_sem, ↓reduceIte, Nat.reduceEqDiff, Nat.reduceLT]
        refine WC.ret ?_
        simp only [go_sem, ↓reduceIte, Nat.reduceEqDiff, Nat.reduceLT]

theorem len_ok (a : ByteArray) (h : a.size ≤ maxLen) : a.data.toList.length < 2 ^ 63 := by
  have : a.data.toList.length = a.size := by simp
  rw [this]
  have : maxLen < 2 ^ 63 := by decide
  omega
end Go.Am.Try

/- The walk of the law PoskeyDense on the machine. -/
namespace Go.Am.Try
open Go Go.Am Go.Proofs
set_option maxRecDepth 100000
set_option linter.unusedSimpArgs false
set_option linter.unusedVariables false

theorem less_not {a b : List UInt8} (h : strLess a b = true) : strLess b a = false ∧ b ≠ a := by
  have h1 := cmp_less a b
  rw [h] at h1
  have h1 : cmpB a b = -1 := of_decide_eq_true h1.symm
  refine ⟨?_, fun e => ?_⟩
  · rw [cmp_less, cmp_neg a b, h1]; rfl
  · subst e; rw [cmp_self] at h1; cases h1

theorem dense_loop (wh : Int) : ∀ (f i : Nat) (fr : Fr) (M : Mem) (lo hi : List UInt8), i + f = 20 → fineK lo hi = true → lo.length ≤ 4 + i → hi.length ≤ 4 + i →
    fr.rd 1 = .int .i64 wh → fr.rd 5 = .str lo → fr.rd 6 = .str hi → fr.rd 7 = .int .i64 (i : Int) →
    WC D2 53 (.loop A5_14) fr M (blockQ 0 (nextQ (fun fr M => WC D2 53 (.seq (.ops A5_15) .ret) fr M (endQ [.tmp 4] fun v _ => v = .bool true)) (endQ [.tmp 4] fun v _ => v = .bool true))) := by
  intro f
  induction f with
  | zero =>
    intro i fr M lo hi hi20 hf hl1 hl2 h1 h5 h6 h7
    have : i = 20 := by omega
    subst this
    refine WC.loop ?_
    unfold A5_14
    refine WC.seq (WC.seq (WC.ops ?_))
    simp only [A5_6, go_sem, ↓reduceIte, Nat.reduceEqDiff, Nat.reduceLT, h7]
    refine WC.test (t := false) (by simp only [go_sem, ↓reduceIte, Nat.reduceEqDiff, Nat.reduceLT]; rfl) (fun h => by cases h) (fun _ => WC.exit ?_)
    simp only [go_sem]
    refine WC.seq (WC.ops ?_)
    simp only [A5_15, go_sem, ↓reduceIte, Nat.reduceEqDiff, Nat.reduceLT]
    refine callI_eq (knows_runs _) ?_
    simp only [go_sem, ↓reduceIte, Nat.reduceEqDiff, Nat.reduceLT]
    refine WC.ret ?_
    simp only [go_sem, ↓reduceIte, Nat.reduceEqDiff, Nat.reduceLT]
  | succ f ih =>
    intro i fr M lo hi hi20 hf hl1 hl2 h1 h5 h6 h7
    obtain ⟨k, hk, hkl⟩ := fine_found hf (by omega)
    obtain ⟨g1, g2, g3⟩ := btw_right hk
    have hv : btwV lo hi = .tup [.str k, .int .i64 0] := by simp only [btwV, hf, hk, if_true]
    have hfp : inK lo = true ∧ inK hi = true := by
      simp only [fineK, Bool.and_eq_true] at hf
      exact ⟨hf.1, hf.2.1⟩
    have hki : inK k = true := by simp only [inK, g1, Bool.or_true]
    refine WC.loop ?_
    unfold A5_14
    refine WC.seq (WC.seq (WC.ops ?_))
    simp only [A5_6, go_sem, ↓reduceIte, Nat.reduceEqDiff, Nat.reduceLT, h7]
    refine WC.test (t := true) (by simp only [go_sem, ↓reduceIte, Nat.reduceEqDiff, Nat.reduceLT]; rw [decide_eq_true (by omega)]) (fun _ => WC.skip ?_) (fun h => by cases h)
    simp only [go_sem]
    refine WC.seq (WC.block (WC.seq (WC.ops ?_)))
    simp only [A5_7, go_sem, ↓reduceIte, Nat.reduceEqDiff, Nat.reduceLT, h5, h6]
    refine callI_of (between_runs lo hi (by omega) M) ?_
    rintro v M1 ⟨rfl, _⟩
    simp only [hv, go_sem, ↓reduceIte, Nat.reduceEqDiff, Nat.reduceLT, List.getElem?_cons_zero, List.getElem?_cons_succ]
    refine WC.seq (WC.seq (WC.ops ?_))
    simp only [A5_8, go_sem, ↓reduceIte, Nat.reduceEqDiff, Nat.reduceLT, h5, h6]
    refine callI_eq (num_runs _ _) ?_
    have hn := less_not g2
    simp only [go_sem, ↓reduceIte, Nat.reduceEqDiff, Nat.reduceLT, h5, h6, hn.1, decide_eq_false (Ne.symm hn.2), decide_eq_false hn.2, Bool.or_false, Bool.false_or]
    have hnext : ∀ (fr' : Fr) (M' : Mem) (lo' hi' : List UInt8), fineK lo' hi' = true → lo'.length ≤ 4 + (i + 1) → hi'.length ≤ 4 + (i + 1) → fr'.rd 1 = .int .i64 wh → fr'.rd 5 = .str lo' → fr'.rd 6 = .str hi' → fr'.rd 7 = .int .i64 (i : Int) →
        WC D2 53 (.ops A5_13) fr' M' (nextQ (fun fr M => WC D2 53 (.loop A5_14) fr M (blockQ 0 (nextQ (fun fr M => WC D2 53 (.seq (.ops A5_15) .ret) fr M (endQ [.tmp 4] fun v _ => v = .bool true)) (endQ [.tmp 4] fun v _ => v = .bool true)))) (blockQ 0 (nextQ (fun fr M => WC D2 53 (.seq (.ops A5_15) .ret) fr M (endQ [.tmp 4] fun v _ => v = .bool true)) (endQ [.tmp 4] fun v _ => v = .bool true)))) := by
      intro fr' M' lo' hi' q1 q2 q3 q4 q5 q6 q7
      refine WC.ops ?_
      simp only [A5_13, go_sem, ↓reduceIte, Nat.reduceEqDiff, Nat.reduceLT, q7]
      rw [IntWalk.i64_in _ (by omega)]
      exact ih (i + 1) _ M' lo' hi' (by omega) q1 q2 q3 (by simp only [go_sem, ↓reduceIte, Nat.reduceEqDiff, Nat.reduceLT, q4]) (by simp only [go_sem, ↓reduceIte, Nat.reduceEqDiff, Nat.reduceLT, q5]) (by simp only [go_sem, ↓reduceIte, Nat.reduceEqDiff, Nat.reduceLT, q6]) (by simp only [go_sem, ↓reduceIte, Nat.reduceEqDiff, Nat.reduceLT]; rfl)
    have hrest : ∀ (fr' : Fr) (M' : Mem), fr'.rd 1 = .int .i64 wh → fr'.rd 5 = .str lo → fr'.rd 6 = .str hi → fr'.rd 7 = .int .i64 (i : Int) → fr'.rd 8 = .str k →
        WC D2 53 (.seq (.ops A5_10) (.cond (r 49) (.ops A5_11) (.ops A5_12))) fr' M' (blockQ 1 (nextQ (fun fr M => WC D2 53 (.ops A5_13) fr M (nextQ (fun fr M => WC D2 53 (.loop A5_14) fr M (blockQ 0 (nextQ (fun fr M => WC D2 53 (.seq (.ops A5_15) .ret) fr M (endQ [.tmp 4] fun v _ => v = .bool true)) (endQ [.tmp 4] fun v _ => v = .bool true)))) (blockQ 0 (nextQ (fun fr M => WC D2 53 (.seq (.ops A5_15) .ret) fr M (endQ [.tmp 4] fun v _ => v = .bool true)) (endQ [.tmp 4] fun v _ => v = .bool true))))) (nextQ (fun fr M => WC D2 53 (.loop A5_14) fr M (blockQ 0 (nextQ (fun fr M => WC D2 53 (.seq (.ops A5_15) .ret) fr M (endQ [.tmp 4] fun v _ => v = .bool true)) (endQ [.tmp 4] fun v _ => v = .bool true)))) (blockQ 0 (nextQ (fun fr M => WC D2 53 (.seq (.ops A5_15) .ret) fr M (endQ [.tmp 4] fun v _ => v = .bool true)) (endQ [.tmp 4] fun v _ => v = .bool true)))))) := by
      intro fr' M' q1 q5 q6 q7 q8
      refine WC.seq (WC.ops ?_)
      simp only [A5_10, go_sem, ↓reduceIte, Nat.reduceEqDiff, Nat.reduceLT, q1, ne_eq, Int.reduceEq, not_false_eq_true]
      refine WC.test (by simp only [go_sem, ↓reduceIte, Nat.reduceEqDiff, Nat.reduceLT]; rfl) (fun _ => ?_) (fun _ => ?_)
      · refine WC.ops ?_
        simp only [A5_11, go_sem, ↓reduceIte, Nat.reduceEqDiff, Nat.reduceLT, q8]
        refine hnext _ _ k hi ?_ (by omega) (by omega) ?_ ?_ ?_ ?_
        · by_cases hh : hi = []
          · subst hh
            simp only [fineK, hki, hfp.2, decide_true, Bool.true_and, Bool.or_true, Bool.true_or]
          · simp only [fineK, hki, hfp.2, g3 hh, Bool.true_and, Bool.or_true]
        all_goals simp only [go_sem, ↓reduceIte, Nat.reduceEqDiff, Nat.reduceLT, q1, q5, q6, q7, q8]
      · refine WC.ops ?_
        simp only [A5_12, go_sem, ↓reduceIte, Nat.reduceEqDiff, Nat.reduceLT, q8]
        refine hnext _ _ lo k ?_ (by omega) (by omega) ?_ ?_ ?_ ?_
        · simp only [fineK, hki, hfp.1, g2, Bool.true_and, Bool.or_true]
        all_goals simp only [go_sem, ↓reduceIte, Nat.reduceEqDiff, Nat.reduceLT, q1, q5, q6, q7, q8]
    by_cases hh : hi = []
    · simp only [hh, go_sem, ↓reduceIte, Nat.reduceEqDiff, Nat.reduceLT, h5, h6]
      refine WC.test (t := false) (by simp only [go_sem, ↓reduceIte, Nat.reduceEqDiff, Nat.reduceLT]) (fun h => by cases h) (fun _ => WC.skip ?_)
      simp only [nextQ]
      refine hrest _ _ ?_ ?_ ?_ ?_ ?_
      all_goals simp only [go_sem, ↓reduceIte, Nat.reduceEqDiff, Nat.reduceLT, h1, h5, h6, h7, hh]
    · have g4 := g3 hh
      simp only [hh, go_sem, ↓reduceIte, Nat.reduceEqDiff, Nat.reduceLT, h5, h6, g4]
      refine WC.test (t := false) (by simp only [go_sem, ↓reduceIte, Nat.reduceEqDiff, Nat.reduceLT]) (fun h => by cases h) (fun _ => WC.skip ?_)
      simp only [nextQ]
      refine hrest _ _ ?_ ?_ ?_ ?_ ?_
      all_goals simp only [go_sem, ↓reduceIte, Nat.reduceEqDiff, Nat.reduceLT, h1, h5, h6, h7]

theorem dense_runs (a : List UInt8) (wh : Int) (M : Mem) : Runs D2 5 [.str a, .int .i64 wh] M fun v _ => v = .bool true := by
  refine Runs.of (F := A5) rfl (by rfl) (by rfl) ?_
  unfold A5
  refine WC.seq (WC.ops ?_)
  simp only [A5_0, go_sem]
  refine WC.seq (WC.seq (WC.ops ?_))
  simp only [A5_1, go_sem, ↓reduceIte, Nat.reduceEqDiff, Nat.reduceLT]
  refine callI_eq (right_runs _ _) ?_
  simp only [go_sem, ↓reduceIte, Nat.reduceEqDiff, Nat.reduceLT]
  have hout : ∀ (fr : Fr) (Q : AExit → Fr → Mem → Prop), (∀ fr, fr.rd 4 = .bool true → Q .ret fr M) → WC D2 53 (.seq (.ops A5_2) .ret) fr M Q := by
    intro fr Q hQ
    refine WC.seq (WC.ops ?_)
    simp only [A5_2, go_sem, ↓reduceIte, Nat.reduceEqDiff, Nat.reduceLT]
    refine callI_eq (knows_runs _) ?_
    simp only [go_sem, ↓reduceIte, Nat.reduceEqDiff, Nat.reduceLT]
    exact WC.ret (hQ _ (by simp only [go_sem, ↓reduceIte, Nat.reduceEqDiff, Nat.reduceLT]))
  cases hr : rightK a with
  | false =>
    simp only [go_sem, ↓reduceIte, Nat.reduceEqDiff, Nat.reduceLT]
    refine WC.test (t := true) (by simp only [go_sem, ↓reduceIte, Nat.reduceEqDiff, Nat.reduceLT]) (fun _ => ?_) (fun h => by cases h)
    refine hout _ _ fun fr h => ?_
    simp only [go_sem, h]
  | true =>
    simp only [go_sem, ↓reduceIte, Nat.reduceEqDiff, Nat.reduceLT]
    by_cases h4 : (4 : Int) < (a.length : Int)
    · simp only [h4, go_sem, ↓reduceIte, Nat.reduceEqDiff, Nat.reduceLT]
      refine WC.test (t := true) (by simp only [go_sem, ↓reduceIte, Nat.reduceEqDiff, Nat.reduceLT]) (fun _ => ?_) (fun h => by cases h)
      refine hout _ _ fun fr h => ?_
      simp only [go_sem, h]
    · simp only [h4, go_sem, ↓reduceIte, Nat.reduceEqDiff, Nat.reduceLT]
      refine WC.test (t := false) (by simp only [go_sem, ↓reduceIte, Nat.reduceEqDiff, Nat.reduceLT]) (fun h => by cases h) (fun _ => WC.skip ?_)
      simp only [nextQ]
      refine WC.seq (WC.ops ?_)
      simp only [A5_3, go_sem, ↓reduceIte, Nat.reduceEqDiff, Nat.reduceLT]
      refine WC.seq (WC.ops ?_)
      simp only [A5_4, go_sem, ↓reduceIte, Nat.reduceEqDiff, Nat.reduceLT]
      refine WC.seq (WC.seq (WC.ops ?_))
      simp only [A5_5, go_sem, ↓reduceIte, Nat.reduceEqDiff, Nat.reduceLT]
      refine WC.block (dense_loop wh 20 0 _ M a [] rfl ?_ (by omega) (by simp) ?_ ?_ ?_ ?_)
      · simp only [fineK, inK, hr, decide_true, Bool.or_true, Bool.true_or, Bool.true_and]
      all_goals simp only [go_sem, ↓reduceIte, Nat.reduceEqDiff, Nat.reduceLT]
      rfl
end Go.Am.Try

/- The reference's digit, Right, Compare and fine, on the machine. -/
namespace Go.Am.Try
open Go Go.Am Go.Proofs
set_option maxRecDepth 100000
set_option linter.unusedSimpArgs false
set_option linter.unusedVariables false

theorem rdigit_runs (k : List UInt8) (i : Nat) (hi : i < 2 ^ 62) (M : Mem) : Runs D2 30 [.str k, .int .i64 (i : Int)] M fun v M' => v = .int .i64 (digitL k i : Int) ∧ M' = M := by
  refine Runs.of (F := A30) rfl (by rfl) (by rfl) ?_
  unfold A30
  refine WC.seq (WC.ops ?_)
  simp only [A30_0, go_sem, ↓reduceIte, Nat.reduceEqDiff, Nat.reduceLT]
  refine WC.seq (WC.seq (WC.ops ?_))
  simp only [A30_1, go_sem, ↓reduceIte, Nat.reduceEqDiff, Nat.reduceLT]
  refine WC.test (by simp only [go_sem, ↓reduceIte, Nat.reduceEqDiff, Nat.reduceLT]; rfl) (fun h => ?_) (fun h => ?_)
  · have h : i < k.length := by have := of_decide_eq_true h; omega
    refine WC.seq (WC.ops ?_)
    have hg : k[i]? = some k[i] := List.getElem?_eq_getElem h
    have hd : digitL k i = k[i].toNat := by simp [digitL, List.getD_eq_getElem?_getD, hg]
    have h8 : k[i].toNat < 256 := k[i].toNat_lt
    simp only [A30_2, go_sem, ↓reduceIte, Nat.reduceEqDiff, Nat.reduceLT, hg]
    refine WC.ret ?_
    simp only [go_sem, ↓reduceIte, Nat.reduceEqDiff, Nat.reduceLT]
    rw [IntWalk.i64_in _ (by omega), hd]
    exact ⟨rfl, trivial⟩
  · have h : k.length ≤ i := by have := of_decide_eq_false h; omega
    have hd : digitL k i = 0 := by simp [digitL, List.getD_eq_getElem?_getD, List.getElem?_eq_none h]
    refine WC.skip ?_
    simp only [go_sem]
    refine WC.seq (WC.ops ?_)
    simp only [A30_3, go_sem, ↓reduceIte, Nat.reduceEqDiff, Nat.reduceLT]
    refine WC.ret ?_
    simp only [go_sem, ↓reduceIte, Nat.reduceEqDiff, Nat.reduceLT]
    rw [hd]
    exact ⟨rfl, trivial⟩


theorem rright_runs (k : List UInt8) (M : Mem) : Runs D2 13 [.str k] M fun v M' => v = .bool (rightK k) ∧ M' = M := by
  refine Runs.of (F := A13) rfl (by rfl) (by rfl) ?_
  unfold A13
  refine WC.seq (WC.ops ?_)
  simp only [A13_0, go_sem]
  refine WC.seq (WC.ops ?_)
  simp only [A13_1, go_sem, ↓reduceIte, Nat.reduceEqDiff, Nat.reduceLT]
  by_cases h : k = []
  · subst h
    simp only [List.length_nil, Int.ofNat_zero, Int.reduceLE, go_sem, ↓reduceIte, Nat.reduceEqDiff, Nat.reduceLT, Int.natCast_zero, Int.cast_ofNat_Int]
    refine WC.ret ?_
    simp only [go_sem, ↓reduceIte, Nat.reduceEqDiff, Nat.reduceLT]
    exact ⟨rfl, trivial⟩
  · have hk : 0 < k.length := by cases k <;> simp at h ⊢
    have h1 : (1 : Int) ≤ (k.length : Int) := by omega
    simp only [h1, go_sem, ↓reduceIte, Nat.reduceEqDiff, Nat.reduceLT]
    by_cases h2 : (k.length : Int) ≤ 24
    · have hl : k[k.length - 1]? = some k[k.length - 1] := List.getElem?_eq_getElem (by omega)
      have hd : digitL k (k.length - 1) = k[k.length - 1].toNat := by simp [digitL, List.getD_eq_getElem?_getD, hl]
      simp only [h2, go_sem, ↓reduceIte, Nat.reduceEqDiff, Nat.reduceLT]
      rw [IntWalk.i64_in _ (by omega), as_nat _ _ (by omega), show ((k.length : Int) - 1).toNat = k.length - 1 by omega]
      simp only [hl, go_sem, ↓reduceIte, Nat.reduceEqDiff, Nat.reduceLT]
      refine WC.ret ?_
      simp only [go_sem, ↓reduceIte, Nat.reduceEqDiff, Nat.reduceLT]
      refine ⟨?_, trivial⟩
      simp only [rightK, h, hd, show k.length ≤ 24 by omega, Int.natCast_eq_zero, decide_true, decide_false, Bool.not_false, Bool.true_and]
    · simp only [h2, go_sem, ↓reduceIte, Nat.reduceEqDiff, Nat.reduceLT]
      refine WC.ret ?_
      simp only [go_sem, ↓reduceIte, Nat.reduceEqDiff, Nat.reduceLT]
      refine ⟨?_, trivial⟩
      simp only [rightK, h, show ¬ k.length ≤ 24 by omega, decide_true, decide_false, Bool.not_false, Bool.true_and, Bool.false_and]

/-- The order of texts, from a place on. -/
theorem cmp_drop_lt {a b : List UInt8} {i : Nat} (ha : i < a.length) (hb : i < b.length) : cmpB (a.drop i) (b.drop i) = if a[i] < b[i] then -1 else if b[i] < a[i] then 1 else cmpB (a.drop (i + 1)) (b.drop (i + 1)) := by
  rw [List.drop_eq_getElem_cons ha, List.drop_eq_getElem_cons hb]
  rfl
theorem cmp_loop (a b : List UInt8) (ha : a.length < 2 ^ 63) (hb : b.length < 2 ^ 63) {Q : AExit → Fr → Mem → Prop} (M : Mem) (hQ : ∀ fr, fr.rd 4 = .int .i64 (cmpB a b) → Q .ret fr M)
    (hQ2 : ∀ fr i, fr.rd 0 = .str a → fr.rd 1 = .str b → i ≤ a.length → i ≤ b.length → (i = a.length ∨ i = b.length) → cmpB a b = cmpB (a.drop i) (b.drop i) → Q (.exit 0) fr M) :
    ∀ (f i : Nat) (fr : Fr), i + f = min a.length b.length → cmpB a b = cmpB (a.drop i) (b.drop i) → fr.rd 0 = .str a → fr.rd 1 = .str b → fr.rd 5 = .int .i64 (i : Int) → WC D2 42 (.loop A15_8) fr M Q := by
  intro f
  induction f with
  | zero =>
    intro i fr hi hc h0 h1 h5
    refine WC.loop ?_
    unfold A15_8
    refine WC.seq (WC.seq (WC.ops ?_))
    simp only [A15_2, go_sem, ↓reduceIte, Nat.reduceEqDiff, Nat.reduceLT, h0, h1, h5]
    by_cases hia : (i : Int) < (a.length : Int)
    · have hib : ¬ (i : Int) < (b.length : Int) := by omega
      simp only [hia, hib, go_sem, ↓reduceIte, Nat.reduceEqDiff, Nat.reduceLT, h0, h1, h5]
      refine WC.test (t := false) (by simp only [go_sem, ↓reduceIte, Nat.reduceEqDiff, Nat.reduceLT]) (fun h => by cases h) (fun _ => WC.exit ?_)
      simp only [nextQ]
      exact hQ2 _ i (by simp only [go_sem, ↓reduceIte, Nat.reduceEqDiff, Nat.reduceLT, h0]) (by simp only [go_sem, ↓reduceIte, Nat.reduceEqDiff, Nat.reduceLT, h1]) (by omega) (by omega) (by omega) hc
    · simp only [hia, go_sem, ↓reduceIte, Nat.reduceEqDiff, Nat.reduceLT, h0, h1, h5]
      refine WC.test (t := false) (by simp only [go_sem, ↓reduceIte, Nat.reduceEqDiff, Nat.reduceLT]) (fun h => by cases h) (fun _ => WC.exit ?_)
      simp only [nextQ]
      exact hQ2 _ i (by simp only [go_sem, ↓reduceIte, Nat.reduceEqDiff, Nat.reduceLT, h0]) (by simp only [go_sem, ↓reduceIte, Nat.reduceEqDiff, Nat.reduceLT, h1]) (by omega) (by omega) (by omega) hc
  | succ f ih =>
    intro i fr hi hc h0 h1 h5
    have hia : (i : Int) < (a.length : Int) := by omega
    have hib : (i : Int) < (b.length : Int) := by omega
    have hla : i < a.length := by omega
    have hlb : i < b.length := by omega
    have ga : a[i]? = some a[i] := List.getElem?_eq_getElem hla
    have gb : b[i]? = some b[i] := List.getElem?_eq_getElem hlb
    rw [cmp_drop_lt hla hlb] at hc
    refine WC.loop ?_
    unfold A15_8
    refine WC.seq (WC.seq (WC.ops ?_))
    simp only [A15_2, hia, hib, go_sem, ↓reduceIte, Nat.reduceEqDiff, Nat.reduceLT, h0, h1, h5]
    refine WC.test (t := true) (by simp only [go_sem, ↓reduceIte, Nat.reduceEqDiff, Nat.reduceLT]) (fun _ => WC.skip ?_) (fun h => by cases h)
    simp only [nextQ]
    refine WC.seq (WC.block (WC.seq (WC.seq (WC.ops ?_))))
    simp only [A15_3, ga, gb, go_sem, ↓reduceIte, Nat.reduceEqDiff, Nat.reduceLT, h0, h1, h5]
    refine WC.test (by simp only [go_sem, ↓reduceIte, Nat.reduceEqDiff, Nat.reduceLT]; rfl) (fun h => ?_) (fun h => WC.skip ?_)
    · have hlt : a[i] < b[i] := by have := of_decide_eq_true h; exact UInt8.lt_iff_toNat_lt.2 (by omega)
      refine WC.seq (WC.ops ?_)
      simp only [A15_4, go_sem, ↓reduceIte, Nat.reduceEqDiff, Nat.reduceLT]
      refine WC.ret ?_
      simp only [nextQ, blockQ]
      refine hQ _ ?_
      simp only [go_sem, ↓reduceIte, Nat.reduceEqDiff, Nat.reduceLT]
      rw [hc, if_pos hlt]
    · have hlt : ¬ a[i] < b[i] := by
        have := of_decide_eq_false h
        intro e
        have := UInt8.lt_iff_toNat_lt.1 e
        omega
      simp only [nextQ]
      refine WC.seq (WC.ops ?_)
      simp only [A15_5, ga, gb, go_sem, ↓reduceIte, Nat.reduceEqDiff, Nat.reduceLT, h0, h1, h5]
      refine WC.test (by simp only [go_sem, ↓reduceIte, Nat.reduceEqDiff, Nat.reduceLT]; rfl) (fun h => ?_) (fun h => WC.skip ?_)
      · have hgt : b[i] < a[i] := by have := of_decide_eq_true h; exact UInt8.lt_iff_toNat_lt.2 (by omega)
        refine WC.seq (WC.ops ?_)
        simp only [A15_6, go_sem, ↓reduceIte, Nat.reduceEqDiff, Nat.reduceLT]
        refine WC.ret ?_
        simp only [nextQ, blockQ]
        refine hQ _ ?_
        simp only [go_sem, ↓reduceIte, Nat.reduceEqDiff, Nat.reduceLT]
        rw [hc, if_neg hlt, if_pos hgt]
      · have hgt : ¬ b[i] < a[i] := by
          have := of_decide_eq_false h
          intro e
          have := UInt8.lt_iff_toNat_lt.1 e
          omega
        simp only [nextQ, blockQ]
        refine WC.ops ?_
        simp only [A15_7, go_sem, ↓reduceIte, Nat.reduceEqDiff, Nat.reduceLT, h5]
        rw [IntWalk.i64_in _ (by omega)]
        rw [if_neg hlt, if_neg hgt] at hc
        exact ih (i + 1) _ (by omega) hc (by simp only [go_sem, ↓reduceIte, Nat.reduceEqDiff, Nat.reduceLT, h0]) (by simp only [go_sem, ↓reduceIte, Nat.reduceEqDiff, Nat.reduceLT, h1]) (by simp only [go_sem, ↓reduceIte, Nat.reduceEqDiff, Nat.reduceLT]; rfl)

theorem cmp_end (a b : List UInt8) (i : Nat) (h1 : i ≤ a.length) (h2 : i ≤ b.length) (h3 : i = a.length ∨ i = b.length) : cmpB (a.drop i) (b.drop i) = if a.length < b.length then -1 else if b.length < a.length then 1 else 0 := by
  rcases h3 with rfl | rfl
  · rw [List.drop_length]
    cases hd : b.drop a.length with
    | nil =>
      have := List.drop_eq_nil_iff.1 hd
      rw [if_neg (by omega), if_neg (by omega)]; rfl
    | cons y l =>
      have : a.length < b.length := by
        apply Nat.lt_of_not_le
        intro h
        rw [List.drop_eq_nil_of_le h] at hd; cases hd
      rw [if_pos this]; rfl
  · rw [List.drop_length]
    cases hd : a.drop b.length with
    | nil =>
      have := List.drop_eq_nil_iff.1 hd
      rw [if_neg (by omega), if_neg (by omega)]; rfl
    | cons y l =>
      have : b.length < a.length := by
        apply Nat.lt_of_not_le
        intro h
        rw [List.drop_eq_nil_of_le h] at hd; cases hd
      rw [if_neg (by omega), if_pos this]; rfl

theorem rcompare_runs (a b : List UInt8) (ha : a.length < 2 ^ 63) (hb : b.length < 2 ^ 63) (M : Mem) : Runs D2 15 [.str a, .str b] M fun v M' => v = .int .i64 (cmpB a b) ∧ M' = M := by
  refine Runs.of (F := A15) rfl (by rfl) (by rfl) ?_
  unfold A15
  refine WC.seq (WC.ops ?_)
  simp only [A15_0, go_sem]
  refine WC.seq (WC.seq (WC.ops ?_))
  simp only [A15_1, go_sem, ↓reduceIte, Nat.reduceEqDiff, Nat.reduceLT]
  refine WC.block (cmp_loop a b ha hb M ?_ ?_ (min a.length b.length) 0 _ (by omega) rfl (by simp only [go_sem, ↓reduceIte, Nat.reduceEqDiff, Nat.reduceLT]) (by simp only [go_sem, ↓reduceIte, Nat.reduceEqDiff, Nat.reduceLT]) (by simp only [go_sem, ↓reduceIte, Nat.reduceEqDiff, Nat.reduceLT]; rfl))
  · intro fr h
    simp only [go_sem, h]
    exact ⟨trivial, trivial⟩
  · intro fr i h0 h1 l1 l2 l3 hc
    rw [cmp_end a b i l1 l2 l3] at hc
    simp only [go_sem]
    refine WC.seq (WC.seq (WC.ops ?_))
    simp only [A15_9, go_sem, ↓reduceIte, Nat.reduceEqDiff, Nat.reduceLT, h0, h1]
    refine WC.test (by simp only [go_sem, ↓reduceIte, Nat.reduceEqDiff, Nat.reduceLT]; rfl) (fun h => ?_) (fun h => WC.skip ?_)
    · have hlt : a.length < b.length := by have := of_decide_eq_true h; omega
      refine WC.seq (WC.ops ?_)
      simp only [A15_10, go_sem, ↓reduceIte, Nat.reduceEqDiff, Nat.reduceLT]
      refine WC.ret ?_
      simp only [go_sem, ↓reduceIte, Nat.reduceEqDiff, Nat.reduceLT]
      rw [hc, if_pos hlt]
      exact ⟨rfl, trivial⟩
    · have hlt : ¬ a.length < b.length := by have := of_decide_eq_false h; omega
      simp only [nextQ]
      refine WC.seq (WC.seq (WC.ops ?_))
      simp only [A15_11, go_sem, ↓reduceIte, Nat.reduceEqDiff, Nat.reduceLT, h0, h1]
      refine WC.test (by simp only [go_sem, ↓reduceIte, Nat.reduceEqDiff, Nat.reduceLT]; rfl) (fun h => ?_) (fun h => WC.skip ?_)
      · have hgt : b.length < a.length := by have := of_decide_eq_true h; omega
        refine WC.seq (WC.ops ?_)
        simp only [A15_12, go_sem, ↓reduceIte, Nat.reduceEqDiff, Nat.reduceLT]
        refine WC.ret ?_
        simp only [go_sem, ↓reduceIte, Nat.reduceEqDiff, Nat.reduceLT]
        rw [hc, if_neg hlt, if_pos hgt]
        exact ⟨rfl, trivial⟩
      · have hgt : ¬ b.length < a.length := by have := of_decide_eq_false h; omega
        simp only [nextQ]
        refine WC.seq (WC.ops ?_)
        simp only [A15_13, go_sem, ↓reduceIte, Nat.reduceEqDiff, Nat.reduceLT]
        refine WC.ret ?_
        simp only [go_sem, ↓reduceIte, Nat.reduceEqDiff, Nat.reduceLT]
        rw [hc, if_neg hlt, if_neg hgt]
        exact ⟨rfl, trivial⟩
end Go.Am.Try

/- The reference's fine, carry and first, on the machine. -/
namespace Go.Am.Try
open Go Go.Am Go.Proofs
set_option maxRecDepth 100000
set_option linter.unusedSimpArgs false
set_option linter.unusedVariables false

theorem rfine_runs (a b : List UInt8) (ha : a.length < 2 ^ 63) (hb : b.length < 2 ^ 63) (M : Mem) : Runs D2 22 [.str a, .str b] M fun v M' => v = .bool (fineK a b) ∧ M' = M := by
  have hl : decide (cmpB a b < 0) = strLess a b := by
    rw [cmp_less]
    rcases cmp_three a b with h | h | h <;> rw [h] <;> rfl
  refine Runs.of (F := A22) rfl (by rfl) (by rfl) ?_
  unfold A22
  refine WC.seq (WC.ops ?_)
  simp only [A22_0, go_sem]
  have hno : ∀ (fr : Fr) (Q : AExit → Fr → Mem → Prop), (∀ fr, fr.rd 4 = .bool false → Q .ret fr M) → WC D2 33 (.seq (.ops A22_2) .ret) fr M Q := by
    intro fr Q hQ
    refine WC.seq (WC.ops ?_)
    simp only [A22_2, go_sem, ↓reduceIte, Nat.reduceEqDiff, Nat.reduceLT]
    exact WC.ret (hQ _ (by simp only [go_sem, ↓reduceIte, Nat.reduceEqDiff, Nat.reduceLT]))
  have hyes : ∀ (fr : Fr) (Q : AExit → Fr → Mem → Prop), fr.rd 0 = .str a → fr.rd 1 = .str b → (∀ fr, fr.rd 4 = .bool (decide (a = []) || (decide (b = []) || strLess a b)) → Q .ret fr M) → WC D2 33 (.seq (.ops A22_3) .ret) fr M Q := by
    intro fr Q h0 h1 hQ
    refine WC.seq (WC.ops ?_)
    simp only [A22_3, go_sem, ↓reduceIte, Nat.reduceEqDiff, Nat.reduceLT, h0, h1]
    by_cases hae : a = [] <;> by_cases hbe : b = []
    · simp only [hae, hbe, go_sem, ↓reduceIte, Nat.reduceEqDiff, Nat.reduceLT, h0, h1]
      refine WC.ret (hQ _ ?_)
      simp only [go_sem, ↓reduceIte, Nat.reduceEqDiff, Nat.reduceLT, hae] <;> simp
    · simp only [hae, hbe, go_sem, ↓reduceIte, Nat.reduceEqDiff, Nat.reduceLT, h0, h1]
      refine WC.ret (hQ _ ?_)
      simp only [go_sem, ↓reduceIte, Nat.reduceEqDiff, Nat.reduceLT, hae] <;> simp
    · simp only [hae, hbe, go_sem, ↓reduceIte, Nat.reduceEqDiff, Nat.reduceLT, h0, h1]
      refine WC.ret (hQ _ ?_)
      simp only [go_sem, ↓reduceIte, Nat.reduceEqDiff, Nat.reduceLT, hae, hbe] <;> simp
    · simp only [hae, hbe, go_sem, ↓reduceIte, Nat.reduceEqDiff, Nat.reduceLT, h0, h1]
      refine callI_eq (rcompare_runs a b ha hb M) ?_
      simp only [hae, hbe, hl, go_sem, ↓reduceIte, Nat.reduceEqDiff, Nat.reduceLT, h0, h1]
      refine WC.ret (hQ _ ?_)
      simp only [go_sem, ↓reduceIte, Nat.reduceEqDiff, Nat.reduceLT, hae, hbe] <;> simp
  refine WC.seq (WC.seq (WC.ops ?_))
  simp only [A22_1, go_sem, ↓reduceIte, Nat.reduceEqDiff, Nat.reduceLT]
  have hB : ∀ t, inK a = true → t = fineK a b → t = (inK b && (decide (a = []) || (decide (b = []) || strLess a b))) := fun t h e => by rw [e, fineK, h, Bool.true_and]
  have fin : ∀ (fr : Fr), fr.rd 0 = .str a → fr.rd 1 = .str b → inK a = true → inK b = true → nextQ (fun fr M_1 => WC D2 33 (.seq (.ops A22_3) .ret) fr M_1 (endQ [.tmp 4] fun v M' => v = .bool (fineK a b) ∧ M' = M)) (endQ [.tmp 4] fun v M' => v = .bool (fineK a b) ∧ M' = M) .normal fr M := by
    intro fr h0 h1 hia hib
    refine hyes fr _ h0 h1 fun fr h4 => ?_
    simp only [go_sem, h4]
    exact ⟨by simp only [fineK, hia, hib, Bool.true_and], trivial⟩
  by_cases hae : a = []
  · by_cases hbe : b = []
    · simp only [hae, hbe, go_sem, ↓reduceIte, Nat.reduceEqDiff, Nat.reduceLT]
      refine WC.test (t := false) (by simp only [go_sem, ↓reduceIte, Nat.reduceEqDiff, Nat.reduceLT]) (fun h => by cases h) (fun _ => WC.skip ?_)
      rw [hae, hbe] at fin
      refine fin _ ?_ ?_ rfl rfl
      all_goals simp only [go_sem, ↓reduceIte, Nat.reduceEqDiff, Nat.reduceLT]
    · simp only [hae, hbe, go_sem, ↓reduceIte, Nat.reduceEqDiff, Nat.reduceLT]
      refine callI_eq (rright_runs _ _) ?_
      have hia : inK a = true := by rw [hae]; rfl
      cases hr : rightK b with
      | false =>
        simp only [go_sem, ↓reduceIte, Nat.reduceEqDiff, Nat.reduceLT]
        refine WC.test (t := true) (by simp only [go_sem, ↓reduceIte, Nat.reduceEqDiff, Nat.reduceLT]) (fun _ => ?_) (fun h => by cases h)
        refine hno _ _ fun fr h4 => ?_
        simp only [go_sem, h4]
        exact ⟨by simp only [fineK, inK, hbe, hr, decide_false, Bool.false_or, Bool.false_and, Bool.and_false], trivial⟩
      | true =>
        simp only [go_sem, ↓reduceIte, Nat.reduceEqDiff, Nat.reduceLT]
        refine WC.test (t := false) (by simp only [go_sem, ↓reduceIte, Nat.reduceEqDiff, Nat.reduceLT]) (fun h => by cases h) (fun _ => WC.skip ?_)
        rw [hae] at fin
        refine fin _ ?_ ?_ rfl (by simp only [inK, hr, Bool.or_true])
        all_goals simp only [go_sem, ↓reduceIte, Nat.reduceEqDiff, Nat.reduceLT]
  · simp only [hae, go_sem, ↓reduceIte, Nat.reduceEqDiff, Nat.reduceLT]
    refine callI_eq (rright_runs _ _) ?_
    cases hr : rightK a with
    | false =>
      simp only [go_sem, ↓reduceIte, Nat.reduceEqDiff, Nat.reduceLT]
      refine WC.test (t := true) (by simp only [go_sem, ↓reduceIte, Nat.reduceEqDiff, Nat.reduceLT]) (fun _ => ?_) (fun h => by cases h)
      refine hno _ _ fun fr h4 => ?_
      simp only [go_sem, h4]
      exact ⟨by simp only [fineK, inK, hae, hr, decide_false, Bool.false_or, Bool.false_and], trivial⟩
    | true =>
      have hia : inK a = true := by simp only [inK, hr, Bool.or_true]
      simp only [go_sem, ↓reduceIte, Nat.reduceEqDiff, Nat.reduceLT]
      by_cases hbe : b = []
      · simp only [hbe, go_sem, ↓reduceIte, Nat.reduceEqDiff, Nat.reduceLT]
        refine WC.test (t := false) (by simp only [go_sem, ↓reduceIte, Nat.reduceEqDiff, Nat.reduceLT]) (fun h => by cases h) (fun _ => WC.skip ?_)
        rw [hbe] at fin
        refine fin _ ?_ ?_ hia rfl
        all_goals simp only [go_sem, ↓reduceIte, Nat.reduceEqDiff, Nat.reduceLT]
      · simp only [hbe, go_sem, ↓reduceIte, Nat.reduceEqDiff, Nat.reduceLT]
        refine callI_eq (rright_runs _ _) ?_
        cases hr2 : rightK b with
        | false =>
          simp only [go_sem, ↓reduceIte, Nat.reduceEqDiff, Nat.reduceLT]
          refine WC.test (t := true) (by simp only [go_sem, ↓reduceIte, Nat.reduceEqDiff, Nat.reduceLT]) (fun _ => ?_) (fun h => by cases h)
          refine hno _ _ fun fr h4 => ?_
          simp only [go_sem, h4]
          exact ⟨by simp only [fineK, inK, hbe, hr2, decide_false, Bool.false_or, Bool.false_and, Bool.and_false], trivial⟩
        | true =>
          simp only [go_sem, ↓reduceIte, Nat.reduceEqDiff, Nat.reduceLT]
          refine WC.test (t := false) (by simp only [go_sem, ↓reduceIte, Nat.reduceEqDiff, Nat.reduceLT]) (fun h => by cases h) (fun _ => WC.skip ?_)
          refine fin _ ?_ ?_ hia (by simp only [inK, hr2, Bool.or_true])
          all_goals simp only [go_sem, ↓reduceIte, Nat.reduceEqDiff, Nat.reduceLT]
end Go.Am.Try

/- The reference's carry, first and text, on the machine. -/
namespace Go.Am.Try
open Go Go.Am Go.Proofs
set_option maxRecDepth 100000
set_option linter.unusedSimpArgs false
set_option linter.unusedVariables false

/-- A row's cells: bytes, as numbers. -/
def numsC (l : List UInt8) : List V := l.map fun c => .int .i64 (c.toNat : Int)
@[go_sem] theorem numsC_len (l : List UInt8) : (numsC l).length = l.length := by simp [numsC]
theorem numsC_get (l : List UInt8) (i : Nat) : (numsC l)[i]? = (l[i]?).map fun c => .int .i64 (c.toNat : Int) := by simp [numsC]
theorem numsC_set (l : List UInt8) (i : Nat) (c : UInt8) : (numsC l).set i (.int .i64 (c.toNat : Int)) = numsC (l.set i c) := by simp [numsC, List.map_set]

theorem carry_loop {Q : AExit → Fr → Mem → Prop} (b : Nat) (m : Nat) (hm : m < 2 ^ 40) : ∀ (i : Nat) (l : List UInt8) (fr : Fr) (M : Mem), l.length = m → i ≤ m → fr.rd 0 = .slice (some (b, 0)) m (.exact m) → fr.rd 3 = .int .i64 ((i : Int) - 1) → M.get b = some (.cells (numsC l) false) →
    (∀ fr' M' l', incFrom l i = some l' → l'.length = m → fr'.rd 2 = .bool true → Upd M b (.cells (numsC l') false) M' → Q .ret fr' M') →
    (∀ fr' M' l', incFrom l i = none → Upd M b (.cells (numsC l') false) M' → Q (.exit 0) fr' M') → WC D2 25 (.loop A31_8) fr M Q := by
  intro i
  induction i with
  | zero =>
    intro l fr M hl hi h6 h7 hM hQ1 hQ2
    refine WC.loop ?_
    unfold A31_8
    refine WC.seq (WC.seq (WC.ops ?_))
    simp only [A31_2, go_sem, ↓reduceIte, Nat.reduceEqDiff, Nat.reduceLT, h7]
    refine WC.test (t := false) (by simp only [go_sem, ↓reduceIte, Nat.reduceEqDiff, Nat.reduceLT]; rfl) (fun h => by cases h) (fun _ => ?_)
    refine WC.exit ?_
    simp only [go_sem]
    exact hQ2 _ _ l rfl (Upd.same hM)
  | succ i ih =>
    intro l fr M hl hi h6 h7 hM hQ1 hQ2
    have e7 : ((i + 1 : Nat) : Int) - 1 = (i : Int) := by omega
    rw [e7] at h7
    refine WC.loop ?_
    unfold A31_8
    refine WC.seq (WC.seq (WC.ops ?_))
    simp only [A31_2, go_sem, ↓reduceIte, Nat.reduceEqDiff, Nat.reduceLT, h7]
    refine WC.test (t := true) (by simp only [go_sem, ↓reduceIte, Nat.reduceEqDiff, Nat.reduceLT]; simp) (fun _ => ?_) (fun h => by cases h)
    refine WC.skip ?_
    simp only [go_sem]
    have hil : i < l.length := by omega
    have hg : l[i]? = some l[i] := List.getElem?_eq_getElem hil
    have hc : (numsC l)[i]? = some (.int .i64 (l[i].toNat : Int)) := by rw [numsC_get, hg]; rfl
    have hlt : i + 1 ≤ m := by omega
    have hD : l.getD i 0 = l[i] := by rw [List.getD_eq_getElem?_getD, hg]; rfl
    have h8 := l[i].toNat_lt
    refine WC.seq (WC.block (WC.seq (WC.seq (WC.ops ?_))))
    simp only [A31_3, go_sem, ↓reduceIte, Nat.reduceEqDiff, Nat.reduceLT, h6, h7, decide_eq_true hlt, vload, hM, Nat.zero_add, Nat.mul_one, hc]
    refine WC.test (by simp only [go_sem, ↓reduceIte, Nat.reduceEqDiff, Nat.reduceLT]; rfl) (fun h => ?_) (fun h => WC.skip ?_)
    · have hlt5 : l[i].toNat < 255 := by have := of_decide_eq_true h; omega
      have hs : ((l[i] + 1).toNat : Int) = (l[i].toNat : Int) + 1 := by
        rw [UInt8.toNat_add]
        simp
        omega
      refine WC.seq (WC.ops ?_)
      simp only [A31_4, go_sem, ↓reduceIte, Nat.reduceEqDiff, Nat.reduceLT, h6, h7, decide_eq_true hlt, vload, hM, Nat.zero_add, Nat.mul_one, hc, vstore, V.cells, List.length_cons, List.length_nil]
      rw [IntWalk.i64_in _ (by omega), ← hs, write_one hM (by rw [numsC_len]; omega) rfl, numsC_set]
      simp only [go_sem, ↓reduceIte, Nat.reduceEqDiff, Nat.reduceLT]
      have hu := Upd.set M b (.cells (numsC (l.set i (l[i] + 1))) false)
      generalize M.set b _ = M1 at hu
      refine WC.seq (WC.ops ?_)
      simp only [A31_5, go_sem, ↓reduceIte, Nat.reduceEqDiff, Nat.reduceLT]
      refine WC.ret ?_
      simp only [go_sem]
      refine hQ1 _ M1 (l.set i (l[i] + 1)) ?_ (by simp [hl]) (by simp only [go_sem, ↓reduceIte, Nat.reduceEqDiff, Nat.reduceLT]) hu
      have hnz : l[i] + 1 ≠ 0 := by
        intro e
        rw [e] at hs
        simp at hs
        omega
      simp only [incFrom, hD]
      simp [hnz]
    · have h255 : l[i].toNat = 255 := by have := of_decide_eq_false h; omega
      have hz : l[i] + 1 = 0 := by
        apply UInt8.toNat_inj.1
        rw [UInt8.toNat_add, h255]
        rfl
      simp only [nextQ]
      refine WC.ops ?_
      simp only [A31_6, go_sem, ↓reduceIte, Nat.reduceEqDiff, Nat.reduceLT, h6, h7, decide_eq_true hlt, Nat.zero_add, Nat.mul_one, vstore, V.cells, List.length_cons, List.length_nil]
      have h0 : (V.int .i64 0) = .int .i64 (((0 : UInt8).toNat : Nat) : Int) := rfl
      rw [h0, write_one hM (by rw [numsC_len]; omega) rfl, numsC_set]
      simp only [go_sem, ↓reduceIte, Nat.reduceEqDiff, Nat.reduceLT]
      have hu := Upd.set M b (.cells (numsC (l.set i 0)) false)
      generalize M.set b _ = M1 at hu
      refine WC.ops ?_
      simp only [A31_7, go_sem, ↓reduceIte, Nat.reduceEqDiff, Nat.reduceLT, h7]
      rw [IntWalk.i64_in _ (by omega)]
      have hinc : incFrom l (i + 1) = incFrom (l.set i 0) i := by
        simp only [incFrom, hD, hz]
        simp
      refine ih (l.set i 0) _ M1 (by simp [hl]) (by omega) (by simp only [go_sem, ↓reduceIte, Nat.reduceEqDiff, Nat.reduceLT, h6]) (by simp only [go_sem, ↓reduceIte, Nat.reduceEqDiff, Nat.reduceLT]) hu.at_ ?_ ?_
      · intro fr' M' l' h1 h2 h3 h5
        exact hQ1 fr' M' l' (hinc.trans h1) h2 h3 (hu.trans h5)
      · intro fr' M' l' h1 h2
        exact hQ2 fr' M' l' (hinc.trans h1) (hu.trans h2)

theorem carry_runs (b : Nat) (l : List UInt8) (hm : l.length < 2 ^ 40) (M : Mem) (hM : M.get b = some (.cells (numsC l) false)) : Runs D2 31 [.slice (some (b, 0)) l.length (.exact l.length)] M fun v M' =>
    (∃ l', incFrom l l.length = some l' ∧ l'.length = l.length ∧ v = .bool true ∧ Upd M b (.cells (numsC l') false) M') ∨ (∃ l', incFrom l l.length = none ∧ v = .bool false ∧ Upd M b (.cells (numsC l') false) M') := by
  refine Runs.of (F := A31) rfl (by rfl) (by rfl) ?_
  unfold A31
  refine WC.seq (WC.ops ?_)
  simp only [A31_0, go_sem]
  refine WC.seq (WC.seq (WC.ops ?_))
  simp only [A31_1, go_sem, ↓reduceIte, Nat.reduceEqDiff, Nat.reduceLT]
  rw [IntWalk.i64_in _ (by omega)]
  refine WC.block (carry_loop b l.length hm l.length l _ M rfl (Nat.le_refl _) (by simp only [go_sem, ↓reduceIte, Nat.reduceEqDiff, Nat.reduceLT]) (by simp only [go_sem, ↓reduceIte, Nat.reduceEqDiff, Nat.reduceLT]) hM ?_ ?_)
  · intro fr' M' l' h1 h2 h3 h5
    simp only [go_sem, h3]
    exact .inl ⟨l', h1, h2, trivial, h5⟩
  · intro fr' M' l' h1 h5
    simp only [go_sem]
    refine WC.seq (WC.ops ?_)
    simp only [A31_9, go_sem, ↓reduceIte, Nat.reduceEqDiff, Nat.reduceLT]
    refine WC.ret ?_
    simp only [go_sem, ↓reduceIte, Nat.reduceEqDiff, Nat.reduceLT]
    exact .inr ⟨l', h1, trivial, h5⟩
end Go.Am.Try

/- The reference's first and text, on the machine. -/
namespace Go.Am.Try
open Go Go.Am Go.Proofs
set_option maxRecDepth 100000
set_option linter.unusedSimpArgs false
set_option linter.unusedVariables false

def stage (p : List UInt8) (i : Nat) : List UInt8 := p.take i ++ List.replicate (p.length - i) 0
theorem stage_len (p : List UInt8) (i : Nat) (h : i ≤ p.length) : (stage p i).length = p.length := by simp [stage]; omega
theorem stage_next (p : List UInt8) (i : Nat) (h : i < p.length) : (stage p i).set i p[i] = stage p (i + 1) := by
  unfold stage
  rw [List.set_append_right _ _ (by simp; omega)]
  have e : i - (p.take i).length = 0 := by simp; omega
  rw [e, show p.length - i = (p.length - (i + 1)) + 1 by omega, List.replicate_succ, List.set_cons_zero, List.take_succ_eq_append_getElem h, List.append_assoc]
  rfl
theorem stage_full (p : List UInt8) : stage p p.length = p := by simp [stage]

theorem first_loop {Q : AExit → Fr → Mem → Prop} (a : List UInt8) (b : Nat) (n : Nat) (hn : n < 2 ^ 40) : ∀ (f i : Nat) (fr : Fr) (M M0 : Mem), i + f = n → fr.rd 0 = .str a → fr.rd 1 = .int .i64 (n : Int) → fr.rd 5 = .slice (some (b, 0)) n (.exact n) → fr.rd 6 = .int .i64 (i : Int) →
    Upd M0 b (.cells (numsC (stage (padTo a n) i)) false) M →
    (∀ fr' M', fr'.rd 5 = .slice (some (b, 0)) n (.exact n) → Upd M0 b (.cells (numsC (padTo a n)) false) M' → Q (.exit 0) fr' M') → WC D2 24 (.loop A23_6) fr M Q := by
  have hp := padTo_len a n
  intro f
  induction f with
  | zero =>
    intro i fr M M0 hi h0 h1 h5 h6 hM hQ
    have : i = n := by omega
    subst this
    refine WC.loop ?_
    unfold A23_6
    refine WC.seq (WC.seq (WC.ops ?_))
    simp only [A23_3, go_sem, ↓reduceIte, Nat.reduceEqDiff, Nat.reduceLT, h6, h1]
    refine WC.test (t := false) (by simp only [go_sem, ↓reduceIte, Nat.reduceEqDiff, Nat.reduceLT]; simp) (fun h => by cases h) (fun _ => WC.exit ?_)
    simp only [nextQ]
    have := stage_full (padTo a i)
    rw [hp] at this
    rw [this] at hM
    exact hQ _ _ (by simp only [go_sem, ↓reduceIte, Nat.reduceEqDiff, Nat.reduceLT, h5]) hM
  | succ f ih =>
    intro i fr M M0 hi h0 h1 h5 h6 hM hQ
    refine WC.loop ?_
    unfold A23_6
    refine WC.seq (WC.seq (WC.ops ?_))
    simp only [A23_3, go_sem, ↓reduceIte, Nat.reduceEqDiff, Nat.reduceLT, h6, h1]
    refine WC.test (t := true) (by simp only [go_sem, ↓reduceIte, Nat.reduceEqDiff, Nat.reduceLT]; rw [decide_eq_true (by omega)]) (fun _ => WC.skip ?_) (fun h => by cases h)
    simp only [nextQ]
    refine WC.seq (WC.block (WC.ops ?_))
    simp only [A23_4, go_sem, ↓reduceIte, Nat.reduceEqDiff, Nat.reduceLT, h0, h5, h6]
    refine callI_eq (rdigit_runs a i (by omega) M) ?_
    have hpi : (digitL a i : Int) = ((padTo a n)[i]'(by omega)).toNat := by
      have := digit_pad a n i (by omega)
      rw [← this]
      simp [digitL, List.getD_eq_getElem?_getD, List.getElem?_eq_getElem (show i < (padTo a n).length by omega)]
    simp only [go_sem, ↓reduceIte, Nat.reduceEqDiff, Nat.reduceLT, h5, h6, decide_eq_true (show i + 1 ≤ n by omega), Nat.zero_add, Nat.mul_one, vstore, V.cells, List.length_cons, List.length_nil, hpi]
    rw [write_one hM.at_ (by rw [numsC_len, stage_len _ _ (by omega), hp]; omega) rfl, numsC_set, stage_next _ _ (by omega)]
    simp only [go_sem, ↓reduceIte, Nat.reduceEqDiff, Nat.reduceLT]
    have hu := hM.trans (Upd.set M b (.cells (numsC (stage (padTo a n) (i + 1))) false))
    generalize M.set b _ = M1 at hu
    refine WC.ops ?_
    simp only [A23_5, go_sem, ↓reduceIte, Nat.reduceEqDiff, Nat.reduceLT, h6]
    rw [IntWalk.i64_in _ (by omega)]
    exact ih (i + 1) _ M1 M0 (by omega) (by simp only [go_sem, ↓reduceIte, Nat.reduceEqDiff, Nat.reduceLT, h0]) (by simp only [go_sem, ↓reduceIte, Nat.reduceEqDiff, Nat.reduceLT, h1]) (by simp only [go_sem, ↓reduceIte, Nat.reduceEqDiff, Nat.reduceLT, h5]) (by simp only [go_sem, ↓reduceIte, Nat.reduceEqDiff, Nat.reduceLT]; rfl) hu hQ

theorem first_runs (a : List UInt8) (n : Nat) (h1n : 1 ≤ n) (hn : n < 2 ^ 40) (M : Mem) : Runs D2 23 [.str a, .int .i64 (n : Int)] M fun v M' => Grew M M' ∧
    ((∃ l, incFrom (padTo a n) n = some l ∧ l.length = n ∧ v = .slice (some (M.next, 0)) n (.exact n) ∧ M'.get M.next = some (.cells (numsC l) false) ∧ M.next < M'.next) ∨
     (incFrom (padTo a n) n = none ∧ v = .slice none 0 (.exact 0))) := by
  have hp := padTo_len a n
  refine Runs.of (F := A23) rfl (by rfl) (by rfl) ?_
  unfold A23
  refine WC.seq (WC.ops ?_)
  simp only [A23_0, go_sem]
  refine WC.seq (WC.ops ?_)
  simp only [A23_1, go_sem, ↓reduceIte, Nat.reduceEqDiff, Nat.reduceLT, Nat.le_refl, decide_eq_true (show n * 8 ≤ maxRoom by unfold maxRoom; omega), decide_eq_true (show n ≤ maxRoom by unfold maxRoom; omega)]
  refine WC.seq (WC.seq (WC.ops ?_))
  simp only [A23_2, go_sem, ↓reduceIte, Nat.reduceEqDiff, Nat.reduceLT]
  have h0 : (M.push (.cells (repl n [.int .i64 0]) false)).get M.next = some (.cells (numsC (stage (padTo a n) 0)) false) := by
    rw [Mem.get_push_same, repl_one]
    simp [numsC, stage, hp]
  have hg : Grew M (M.push (.cells (repl n [.int .i64 0]) false)) := Grew.push M _
  have hnx : M.next < (M.push (.cells (repl n [.int .i64 0]) false)).next := Nat.lt_succ_self _
  generalize M.push (.cells (repl n [.int .i64 0]) false) = M1 at h0 hg hnx
  refine WC.block (first_loop a M.next n hn n 0 _ M1 M1 (by omega) (by simp only [go_sem, ↓reduceIte, Nat.reduceEqDiff, Nat.reduceLT]) (by simp only [go_sem, ↓reduceIte, Nat.reduceEqDiff, Nat.reduceLT]) (by simp only [go_sem, ↓reduceIte, Nat.reduceEqDiff, Nat.reduceLT]) (by simp only [go_sem, ↓reduceIte, Nat.reduceEqDiff, Nat.reduceLT]; rfl) (Upd.same h0) ?_)
  intro fr M2 h5 hu
  simp only [go_sem]
  refine WC.seq (WC.seq (WC.ops ?_))
  simp only [A23_7, go_sem, ↓reduceIte, Nat.reduceEqDiff, Nat.reduceLT, h5]
  have hc := carry_runs M.next (padTo a n) (by omega) M2 hu.at_
  rw [hp] at hc
  refine callI_of hc ?_
  intro v M3 hv
  rcases hv with ⟨l, h1, h2, rfl, h4⟩ | ⟨l, h1, rfl, h4⟩
  · simp only [go_sem, ↓reduceIte, Nat.reduceEqDiff, Nat.reduceLT]
    refine WC.test (t := false) (by simp only [go_sem, ↓reduceIte, Nat.reduceEqDiff, Nat.reduceLT]) (fun h => by cases h) (fun _ => WC.skip ?_)
    simp only [nextQ]
    refine WC.seq (WC.ops ?_)
    simp only [A23_9, go_sem, ↓reduceIte, Nat.reduceEqDiff, Nat.reduceLT, h5]
    refine WC.ret ?_
    simp only [go_sem, ↓reduceIte, Nat.reduceEqDiff, Nat.reduceLT]
    exact ⟨hg.upd (Nat.le_refl _) (hu.trans h4), .inl ⟨l, h1, h2, trivial, h4.at_, by rw [(hu.trans h4).next]; exact hnx⟩⟩
  · simp only [go_sem, ↓reduceIte, Nat.reduceEqDiff, Nat.reduceLT]
    refine WC.test (t := true) (by simp only [go_sem, ↓reduceIte, Nat.reduceEqDiff, Nat.reduceLT]) (fun _ => ?_) (fun h => by cases h)
    refine WC.seq (WC.ops ?_)
    simp only [A23_8, go_sem, ↓reduceIte, Nat.reduceEqDiff, Nat.reduceLT, h5]
    refine WC.ret ?_
    simp only [go_sem, ↓reduceIte, Nat.reduceEqDiff, Nat.reduceLT]
    exact ⟨hg.upd (Nat.le_refl _) (hu.trans h4), .inr ⟨h1, trivial⟩⟩
end Go.Am.Try

/- The reference's text, on the machine. -/
namespace Go.Am.Try
open Go Go.Am Go.Proofs
set_option maxRecDepth 100000
set_option linter.unusedSimpArgs false
set_option linter.unusedVariables false

theorem text_loop {Q : AExit → Fr → Mem → Prop} (l : List UInt8) (c b : Nat) (hcb : c ≠ b) (hn : l.length < 2 ^ 40) : ∀ (f i : Nat) (fr : Fr) (M M0 : Mem), i + f = l.length → fr.rd 0 = .slice (some (c, 0)) l.length (.exact l.length) → fr.rd 3 = .slice (some (b, 0)) l.length (.exact l.length) → fr.rd 4 = .int .i64 (i : Int) →
    M0.get c = some (.cells (numsC l) false) → Upd M0 b (.cells (bytesC (stage l i)) false) M →
    (∀ fr' M', fr'.rd 3 = .slice (some (b, 0)) l.length (.exact l.length) → Upd M0 b (.cells (bytesC l) false) M' → Q (.exit 0) fr' M') → WC D2 24 (.loop A25_6) fr M Q := by
  intro f
  induction f with
  | zero =>
    intro i fr M M0 hi h0 h3 h4 hc hM hQ
    have : i = l.length := by omega
    subst this
    refine WC.loop ?_
    unfold A25_6
    refine WC.seq (WC.seq (WC.ops ?_))
    simp only [A25_3, go_sem, ↓reduceIte, Nat.reduceEqDiff, Nat.reduceLT, h0, h4]
    refine WC.test (t := false) (by simp only [go_sem, ↓reduceIte, Nat.reduceEqDiff, Nat.reduceLT]; simp) (fun h => by cases h) (fun _ => WC.exit ?_)
    simp only [nextQ]
    rw [stage_full] at hM
    exact hQ _ _ (by simp only [go_sem, ↓reduceIte, Nat.reduceEqDiff, Nat.reduceLT, h3]) hM
  | succ f ih =>
    intro i fr M M0 hi h0 h3 h4 hc hM hQ
    have hil : i < l.length := by omega
    have hg : (numsC l)[i]? = some (.int .i64 (l[i].toNat : Int)) := by rw [numsC_get, List.getElem?_eq_getElem hil]; rfl
    have h8 := l[i].toNat_lt
    have hcM : M.get c = some (.cells (numsC l) false) := (hM.other c hcb).trans hc
    refine WC.loop ?_
    unfold A25_6
    refine WC.seq (WC.seq (WC.ops ?_))
    simp only [A25_3, go_sem, ↓reduceIte, Nat.reduceEqDiff, Nat.reduceLT, h0, h4]
    refine WC.test (t := true) (by simp only [go_sem, ↓reduceIte, Nat.reduceEqDiff, Nat.reduceLT]; rw [decide_eq_true (by omega)]) (fun _ => WC.skip ?_) (fun h => by cases h)
    simp only [nextQ]
    refine WC.seq (WC.block (WC.ops ?_))
    simp only [A25_4, go_sem, ↓reduceIte, Nat.reduceEqDiff, Nat.reduceLT, h0, h3, h4, decide_eq_true (show i + 1 ≤ l.length by omega), vload, hcM, hg, Nat.zero_add, Nat.mul_one, vstore, V.cells, List.length_cons, List.length_nil]
    rw [IntWalk.u8_in _ (by omega), write_one hM.at_ (by rw [bytesC_len, stage_len _ _ (by omega)]; omega) rfl, bytesC_set, stage_next _ _ hil]
    simp only [go_sem, ↓reduceIte, Nat.reduceEqDiff, Nat.reduceLT]
    have hu := hM.trans (Upd.set M b (.cells (bytesC (stage l (i + 1))) false))
    generalize M.set b _ = M1 at hu
    refine WC.ops ?_
    simp only [A25_5, go_sem, ↓reduceIte, Nat.reduceEqDiff, Nat.reduceLT, h4]
    rw [IntWalk.i64_in _ (by omega)]
    exact ih (i + 1) _ M1 M0 (by omega) (by simp only [go_sem, ↓reduceIte, Nat.reduceEqDiff, Nat.reduceLT, h0]) (by simp only [go_sem, ↓reduceIte, Nat.reduceEqDiff, Nat.reduceLT, h3]) (by simp only [go_sem, ↓reduceIte, Nat.reduceEqDiff, Nat.reduceLT]; rfl) hc hu hQ

theorem text_runs (l : List UInt8) (c : Nat) (h0l : 0 < l.length) (hn : l.length < 2 ^ 40) (M : Mem) (hM : M.get c = some (.cells (numsC l) false)) (hc : c < M.next) : Runs D2 25 [.slice (some (c, 0)) l.length (.exact l.length)] M fun v M' => v = .str l ∧ Grew M M' := by
  refine Runs.of (F := A25) rfl (by rfl) (by rfl) ?_
  unfold A25
  refine WC.seq (WC.ops ?_)
  simp only [A25_0, go_sem]
  refine WC.seq (WC.ops ?_)
  simp only [A25_1, go_sem, ↓reduceIte, Nat.reduceEqDiff, Nat.reduceLT, Nat.le_refl, Nat.mul_one, decide_eq_true (show l.length ≤ maxRoom by unfold maxRoom; omega)]
  refine WC.seq (WC.seq (WC.ops ?_))
  simp only [A25_2, go_sem, ↓reduceIte, Nat.reduceEqDiff, Nat.reduceLT]
  have h0 : (M.push (.cells (repl l.length [.int .u8 0]) false)).get M.next = some (.cells (bytesC (stage l 0)) false) := by
    rw [Mem.get_push_same, repl_one]
    simp [bytesC, stage]
  have hc1 : (M.push (.cells (repl l.length [.int .u8 0]) false)).get c = some (.cells (numsC l) false) := by
    rw [Mem.get_push_ne _ _ (by omega)]; exact hM
  have hg : Grew M (M.push (.cells (repl l.length [.int .u8 0]) false)) := Grew.push M _
  generalize M.push (.cells (repl l.length [.int .u8 0]) false) = M1 at h0 hc1 hg
  refine WC.block (text_loop l c M.next (by omega) hn l.length 0 _ M1 M1 (by omega) (by simp only [go_sem, ↓reduceIte, Nat.reduceEqDiff, Nat.reduceLT]) (by simp only [go_sem, ↓reduceIte, Nat.reduceEqDiff, Nat.reduceLT]) (by simp only [go_sem, ↓reduceIte, Nat.reduceEqDiff, Nat.reduceLT]; rfl) hc1 (Upd.same h0) ?_)
  intro fr M2 h3 hu
  simp only [go_sem]
  refine WC.seq (WC.ops ?_)
  have hr := read_all hu.at_
  rw [bytesC_len] at hr
  simp only [A25_7, go_sem, ↓reduceIte, Nat.reduceEqDiff, Nat.reduceLT, h3, show ¬ l.length = 0 by omega, hr, bytesOf_bytesC]
  refine WC.ret ?_
  simp only [go_sem, ↓reduceIte, Nat.reduceEqDiff, Nat.reduceLT]
  exact ⟨trivial, hg.upd (Nat.le_refl _) hu⟩
end Go.Am.Try

/- The reference's below, on the machine. -/
namespace Go.Am.Try
open Go Go.Am Go.Proofs
set_option maxRecDepth 100000
set_option linter.unusedSimpArgs false
set_option linter.unusedVariables false

def belAt (l b : List UInt8) : Nat → Nat → Bool
  | 0, _ => false
  | k + 1, i => if digitL l i = digitL b i then belAt l b k (i + 1) else decide (digitL l i < digitL b i)
def belowL (l b : List UInt8) : Bool := decide (b = []) || belAt l b (max l.length b.length) 0

theorem below_loop {Q : AExit → Fr → Mem → Prop} (l b : List UInt8) (c : Nat) (hl : l.length < 2 ^ 40) (hb : b.length < 2 ^ 40) (M : Mem) (hM : M.get c = some (.cells (numsC l) false)) (t : Bool) (hQ : ∀ fr, fr.rd 4 = .bool t → Q .ret fr M) (hQ2 : ∀ fr, t = false → Q (.exit 0) fr M) : ∀ (f i : Nat) (fr : Fr), i + f = max l.length b.length → belAt l b f i = t →
    fr.rd 0 = .slice (some (c, 0)) l.length (.exact l.length) → fr.rd 1 = .str b → fr.rd 5 = .int .i64 (i : Int) → WC D2 39 (.loop A24_11) fr M Q := by
  intro f
  induction f with
  | zero =>
    intro i fr hi ht h0 h1 h5
    have hia : ¬ (i : Int) < (l.length : Int) := by omega
    have hib : ¬ (i : Int) < (b.length : Int) := by omega
    refine WC.loop ?_
    unfold A24_11
    refine WC.seq (WC.seq (WC.ops ?_))
    simp only [A24_4, hia, hib, go_sem, ↓reduceIte, Nat.reduceEqDiff, Nat.reduceLT, h0, h1, h5]
    refine WC.test (t := false) (by simp only [go_sem, ↓reduceIte, Nat.reduceEqDiff, Nat.reduceLT]) (fun h => by cases h) (fun _ => WC.exit ?_)
    simp only [nextQ]
    exact hQ2 _ ht.symm
  | succ f ih =>
    intro i fr hi ht h0 h1 h5
    have hd := digit_lt b i
    have hd' := digit_lt l i
    simp only [belAt] at ht
    refine WC.loop ?_
    unfold A24_11
    refine WC.seq (WC.seq (WC.ops ?_))
    have hin : (i : Int) < (l.length : Int) ∨ (i : Int) < (b.length : Int) := by omega
    have hgo : ∀ fr' : Fr, fr'.rd 18 = .bool true → fr'.rd 0 = .slice (some (c, 0)) l.length (.exact l.length) → fr'.rd 1 = .str b → fr'.rd 5 = .int .i64 (i : Int) →
        WC D2 39 (.cond (r 18) .skip (.exit 0)) fr' M (nextQ (fun fr M => WC D2 39 (.seq (.block 1 (.seq (.ops A24_5) (.seq (.seq (.ops A24_6) (.cond (r 24) (.ops A24_7) .skip)) (.seq (.ops A24_8) (.cond (r 33) (.seq (.ops A24_9) .ret) .skip))))) (.ops A24_10)) fr M (nextQ (fun fr M => WC D2 39 (.loop A24_11) fr M Q) Q)) (nextQ (fun fr M => WC D2 39 (.loop A24_11) fr M Q) Q)) := by
      intro fr' q18 q0 q1 q5
      refine WC.test (t := true) (by simp only [go_sem, q18]) (fun _ => WC.skip ?_) (fun h => by cases h)
      simp only [nextQ]
      refine WC.seq (WC.block (WC.seq (WC.ops ?_)))
      simp only [A24_5, go_sem, ↓reduceIte, Nat.reduceEqDiff, Nat.reduceLT]
      have hmid : ∀ fr2 : Fr, fr2.rd 6 = .int .i64 (digitL l i : Int) → fr2.rd 0 = .slice (some (c, 0)) l.length (.exact l.length) → fr2.rd 1 = .str b → fr2.rd 5 = .int .i64 (i : Int) →
          WC D2 39 (.seq (.ops A24_8) (.cond (r 33) (.seq (.ops A24_9) .ret) .skip)) fr2 M (blockQ 1 (nextQ (fun fr M => WC D2 39 (.ops A24_10) fr M (nextQ (fun fr M => WC D2 39 (.loop A24_11) fr M Q) Q)) (nextQ (fun fr M => WC D2 39 (.loop A24_11) fr M Q) Q))) := by
        intro fr2 p6 p0 p1 p5
        refine WC.seq (WC.ops ?_)
        simp only [A24_8, go_sem, ↓reduceIte, Nat.reduceEqDiff, Nat.reduceLT, p6, p1, p5]
        refine callI_eq (rdigit_runs b i (by omega) M) ?_
        simp only [go_sem, ↓reduceIte, Nat.reduceEqDiff, Nat.reduceLT, p6, p1, p5]
        by_cases he : digitL l i = digitL b i
        · have he' : (digitL l i : Int) = (digitL b i : Int) := by omega
          rw [if_pos he] at ht
          refine WC.test (t := false) (by simp only [he', go_sem, ↓reduceIte, Nat.reduceEqDiff, Nat.reduceLT]) (fun h => by cases h) (fun _ => WC.skip ?_)
          simp only [nextQ, blockQ]
          refine WC.ops ?_
          simp only [A24_10, go_sem, ↓reduceIte, Nat.reduceEqDiff, Nat.reduceLT, p5]
          rw [IntWalk.i64_in _ (by omega)]
          exact ih (i + 1) _ (by omega) ht (by simp only [go_sem, ↓reduceIte, Nat.reduceEqDiff, Nat.reduceLT, p0]) (by simp only [go_sem, ↓reduceIte, Nat.reduceEqDiff, Nat.reduceLT, p1]) (by simp only [go_sem, ↓reduceIte, Nat.reduceEqDiff, Nat.reduceLT]; rfl)
        · have he' : ¬ (digitL l i : Int) = (digitL b i : Int) := by omega
          rw [if_neg he] at ht
          refine WC.test (t := true) (by simp only [he', go_sem, ↓reduceIte, Nat.reduceEqDiff, Nat.reduceLT]) (fun _ => ?_) (fun h => by cases h)
          refine WC.seq (WC.ops ?_)
          simp only [A24_9, go_sem, ↓reduceIte, Nat.reduceEqDiff, Nat.reduceLT, p6, p1, p5]
          refine callI_eq (rdigit_runs b i (by omega) M) ?_
          simp only [go_sem, ↓reduceIte, Nat.reduceEqDiff, Nat.reduceLT, p6, p1, p5]
          refine WC.ret ?_
          simp only [nextQ, blockQ]
          refine hQ _ ?_
          simp only [go_sem, ↓reduceIte, Nat.reduceEqDiff, Nat.reduceLT]
          rw [← ht]
          simp only [Int.ofNat_lt]
      refine WC.seq (WC.seq (WC.ops ?_))
      simp only [A24_6, go_sem, ↓reduceIte, Nat.reduceEqDiff, Nat.reduceLT, q0, q5]
      refine WC.test (by simp only [go_sem, ↓reduceIte, Nat.reduceEqDiff, Nat.reduceLT]; rfl) (fun h => WC.ops ?_) (fun h => WC.skip ?_)
      · have hil : i < l.length := by have := of_decide_eq_true h; omega
        have hg : (numsC l)[i]? = some (.int .i64 (l[i].toNat : Int)) := by rw [numsC_get, List.getElem?_eq_getElem hil]; rfl
        have hD : digitL l i = l[i].toNat := by simp [digitL, List.getD_eq_getElem?_getD, List.getElem?_eq_getElem hil]
        simp only [A24_7, go_sem, ↓reduceIte, Nat.reduceEqDiff, Nat.reduceLT, q0, q5, decide_eq_true (show i + 1 ≤ l.length by omega), vload, hM, hg, Nat.zero_add, Nat.mul_one]
        refine hmid _ ?_ ?_ ?_ ?_
        all_goals simp only [go_sem, ↓reduceIte, Nat.reduceEqDiff, Nat.reduceLT, q0, q1, q5, hD]
      · have hil : l.length ≤ i := by have := of_decide_eq_false h; omega
        simp only [nextQ]
        refine hmid _ ?_ ?_ ?_ ?_
        all_goals simp only [go_sem, ↓reduceIte, Nat.reduceEqDiff, Nat.reduceLT, q0, q1, q5, digit_out hil]
        rfl
    simp only [A24_4, go_sem, ↓reduceIte, Nat.reduceEqDiff, Nat.reduceLT, h0, h1, h5]
    by_cases hia : (i : Int) < (l.length : Int)
    · simp only [hia, go_sem, ↓reduceIte, Nat.reduceEqDiff, Nat.reduceLT, h0, h1, h5]
      refine hgo _ ?_ ?_ ?_ ?_
      all_goals simp only [go_sem, ↓reduceIte, Nat.reduceEqDiff, Nat.reduceLT, h0, h1, h5]
    · have hib := hin.resolve_left hia
      simp only [hia, hib, go_sem, ↓reduceIte, Nat.reduceEqDiff, Nat.reduceLT, h0, h1, h5]
      refine hgo _ ?_ ?_ ?_ ?_
      all_goals simp only [go_sem, ↓reduceIte, Nat.reduceEqDiff, Nat.reduceLT, h0, h1, h5]

theorem below_runs (l b : List UInt8) (c : Nat) (hl : l.length < 2 ^ 40) (hb : b.length < 2 ^ 40) (M : Mem) (hM : M.get c = some (.cells (numsC l) false)) : Runs D2 24 [.slice (some (c, 0)) l.length (.exact l.length), .str b] M fun v M' => v = .bool (belowL l b) ∧ M' = M := by
  refine Runs.of (F := A24) rfl (by rfl) (by rfl) ?_
  unfold A24
  refine WC.seq (WC.ops ?_)
  simp only [A24_0, go_sem]
  refine WC.seq (WC.seq (WC.ops ?_))
  simp only [A24_1, go_sem, ↓reduceIte, Nat.reduceEqDiff, Nat.reduceLT]
  by_cases hbe : b = []
  · refine WC.test (t := true) (by simp only [hbe, go_sem, ↓reduceIte, Nat.reduceEqDiff, Nat.reduceLT]) (fun _ => ?_) (fun h => by cases h)
    refine WC.seq (WC.ops ?_)
    simp only [A24_2, go_sem, ↓reduceIte, Nat.reduceEqDiff, Nat.reduceLT]
    refine WC.ret ?_
    simp only [go_sem, ↓reduceIte, Nat.reduceEqDiff, Nat.reduceLT]
    exact ⟨by simp [belowL, hbe], trivial⟩
  · refine WC.test (t := false) (by simp only [hbe, go_sem, ↓reduceIte, Nat.reduceEqDiff, Nat.reduceLT]) (fun h => by cases h) (fun _ => WC.skip ?_)
    simp only [nextQ]
    refine WC.seq (WC.seq (WC.ops ?_))
    simp only [A24_3, go_sem, ↓reduceIte, Nat.reduceEqDiff, Nat.reduceLT]
    have hB : belowL l b = belAt l b (max l.length b.length) 0 := by simp [belowL, hbe]
    refine WC.block (below_loop l b c hl hb M hM (belowL l b) ?_ ?_ (max l.length b.length) 0 _ (by omega) hB.symm ?_ ?_ ?_)
    · intro fr h4
      simp only [go_sem, h4]
      exact ⟨trivial, trivial⟩
    · intro fr hf
      simp only [go_sem]
      refine WC.seq (WC.ops ?_)
      simp only [A24_12, go_sem, ↓reduceIte, Nat.reduceEqDiff, Nat.reduceLT]
      refine WC.ret ?_
      simp only [go_sem, ↓reduceIte, Nat.reduceEqDiff, Nat.reduceLT]
      exact ⟨by rw [hf], trivial⟩
    all_goals simp only [go_sem, ↓reduceIte, Nat.reduceEqDiff, Nat.reduceLT]
    rfl
end Go.Am.Try

/- The plain law of the reference's scan: the last byte that is below is the greatest. -/
namespace Go.Am.Try
open Go Go.Am Go.Proofs
set_option maxRecDepth 100000
set_option linter.unusedSimpArgs false
set_option linter.unusedVariables false

/-- Behind the end of a number the other one has a digit that is not nought. -/
theorem bel_tail (l b : List UInt8) (hb : b ≠ []) (hr : digitL b (b.length - 1) ≠ 0) : ∀ (k i : Nat), l.length ≤ i → i + k = max l.length b.length → belAt l b k i = decide (i < b.length)
  | 0, i, hl, hi => by
    simp only [belAt]
    rw [decide_eq_false (by omega)]
  | k + 1, i, hl, hi => by
    simp only [belAt, digit_out hl]
    by_cases he : 0 = digitL b i
    · rw [if_pos he, bel_tail l b hb hr k (i + 1) (by omega) (by omega)]
      have : i ≠ b.length - 1 := by intro e; rw [e] at he; exact hr he.symm
      by_cases h : i < b.length
      · rw [decide_eq_true h, decide_eq_true (by omega)]
      · rw [decide_eq_false h, decide_eq_false (by omega)]
    · rw [if_neg he, decide_eq_true (by omega)]
      rw [decide_eq_true]
      apply Nat.lt_of_not_le
      intro h
      exact he (digit_out h).symm
theorem bel_great (l b : List UInt8) (m c : Nat) (hl : l.length = m + 1) (hc : 1 ≤ c) (hc2 : c ≤ 255) (hb : b ≠ []) (hr : digitL b (b.length - 1) ≠ 0) : ∀ (j i k : Nat), i + j = m → i + k = max (m + 1) b.length →
    belAt (l.set m (UInt8.ofNat c)) b k i = decide ((c : Int) ≤ grAt l b m j i)
  | 0, i, k, hi, hk => by
    have : i = m := by omega
    subst this
    obtain ⟨k, rfl⟩ : ∃ k', k = k' + 1 := ⟨k - 1, by omega⟩
    have hcn : (UInt8.ofNat c).toNat = c := by simp only [UInt8.toNat_ofNat']; omega
    have hd : digitL (l.set i (UInt8.ofNat c)) i = c := by rw [digit_set _ _ _ _ (by omega), if_pos rfl, hcn]
    simp only [belAt, hd, grAt, grEnd, hb, if_false]
    by_cases he : c = digitL b i
    · rw [if_pos he, bel_tail _ b hb hr k (i + 1) (by simp [hl]) (by simp only [List.length_set, hl]; omega)]
      by_cases h : i + 1 < b.length
      · rw [if_pos h, decide_eq_true h, decide_eq_true (by omega)]
      · rw [if_neg h, decide_eq_false h, decide_eq_false (by omega)]
    · rw [if_neg he]
      by_cases h : i + 1 < b.length
      · rw [if_pos h]
        by_cases h2 : c < digitL b i
        · rw [decide_eq_true h2, decide_eq_true (by omega)]
        · rw [decide_eq_false h2, decide_eq_false (by omega)]
      · rw [if_neg h]
        by_cases h2 : c < digitL b i
        · rw [decide_eq_true h2, decide_eq_true (by omega)]
        · rw [decide_eq_false h2, decide_eq_false (by omega)]
  | j + 1, i, k, hi, hk => by
    obtain ⟨k, rfl⟩ : ∃ k', k = k' + 1 := ⟨k - 1, by omega⟩
    have hd : digitL (l.set m (UInt8.ofNat c)) i = digitL l i := by rw [digit_set _ _ _ _ (by omega), if_neg (by omega)]
    have hl2 : (l.getD i 0).toNat = digitL l i := rfl
    simp only [belAt, hd, grAt, hb, if_false, hl2]
    by_cases he : digitL l i = digitL b i
    · rw [if_pos he, if_neg (by omega), if_neg (by omega)]
      exact bel_great l b m c hl hc hc2 hb hr j (i + 1) k (by omega) (by omega)
    · rw [if_neg he]
      by_cases h : digitL l i < digitL b i
      · rw [if_pos h, decide_eq_true h, decide_eq_true (by omega)]
      · rw [if_neg h, if_pos (by omega), decide_eq_false h, decide_eq_false (by omega)]
theorem below_great {l b : List UInt8} {m c : Nat} (hl : l.length = m + 1) (hc : 1 ≤ c) (hc2 : c ≤ 255) (hb : b = [] ∨ rightK b = true) : belowL (l.set m (UInt8.ofNat c)) b = decide ((c : Int) ≤ greatL l b) := by
  by_cases hbe : b = []
  · subst hbe
    simp only [belowL, decide_true, Bool.true_or]
    unfold greatL
    rw [gr_open, decide_eq_true (by omega)]
  · have hr := (right_last (hb.resolve_left hbe)).2.2
    simp only [belowL, hbe, decide_false, Bool.false_or, List.length_set, hl]
    rw [bel_great l b m c hl hc hc2 hbe hr m 0 _ (by omega) (by omega)]
    simp only [greatL, hl, Nat.add_sub_cancel]
end Go.Am.Try

/- The reference's scan for the last byte, on the machine. -/
namespace Go.Am.Try
open Go Go.Am Go.Proofs
set_option maxRecDepth 100000
set_option linter.unusedSimpArgs false
set_option linter.unusedVariables false

theorem scan_loop {Q : AExit → Fr → Mem → Prop} (a b l : List UInt8) (p m lo : Nat) (hl : l.length = m + 1) (hm : m < 24) (hlo : 1 ≤ lo) (hlo2 : lo ≤ 255) (hb : b = [] ∨ rightK b = true) (hbl : b.length < 2 ^ 40) (M0 : Mem)
    (hQ : ∀ fr M x, fr.rd 0 = .str a → fr.rd 1 = .str b → fr.rd 6 = .int .i64 ((m + 1 : Nat) : Int) → fr.rd 7 = .slice (some (p, 0)) (m + 1) (.exact (m + 1)) → fr.rd 8 = .int .i64 (lo : Int) → fr.rd 9 = .int .i64 (if greatL l b < lo then (lo : Int) - 1 else greatL l b) →
      Upd M0 p (.cells (numsC (l.set m x)) false) M → Q (.exit 2) fr M) :
    ∀ (f c : Nat) (fr : Fr) (M : Mem) (x : UInt8), c + f = 256 → lo ≤ c → (c = lo ∨ (c : Int) - 1 ≤ greatL l b) → Upd M0 p (.cells (numsC (l.set m x)) false) M →
      fr.rd 0 = .str a → fr.rd 1 = .str b → fr.rd 6 = .int .i64 ((m + 1 : Nat) : Int) → fr.rd 7 = .slice (some (p, 0)) (m + 1) (.exact (m + 1)) → fr.rd 8 = .int .i64 (lo : Int) → fr.rd 9 = .int .i64 ((c : Int) - 1) → fr.rd 10 = .int .i64 (c : Int) →
      WC D2 60 (.loop A10_15) fr M Q := by
  have hG := greatL_le l b
  intro f
  induction f with
  | zero =>
    intro c fr M x hc hcl hinv hM h0 h1 h6 h7 h8 h9 h10
    have : c = 256 := by omega
    subst this
    refine WC.loop ?_
    unfold A10_15
    refine WC.seq (WC.seq (WC.ops ?_))
    simp only [A10_10, go_sem, ↓reduceIte, Nat.reduceEqDiff, Nat.reduceLT, h10]
    refine WC.test (t := false) (by simp only [go_sem, ↓reduceIte, Nat.reduceEqDiff, Nat.reduceLT]; rfl) (fun h => by cases h) (fun _ => WC.exit ?_)
    simp only [nextQ]
    refine hQ _ M x ?_ ?_ ?_ ?_ ?_ ?_ hM
    all_goals simp only [go_sem, ↓reduceIte, Nat.reduceEqDiff, Nat.reduceLT, h0, h1, h6, h7, h8, h9]
    rw [if_neg (by omega)]
    congr 1
    omega
  | succ f ih =>
    intro c fr M x hc hcl hinv hM h0 h1 h6 h7 h8 h9 h10
    have hcn : (UInt8.ofNat c).toNat = c := by simp only [UInt8.toNat_ofNat']; omega
    have hw : IntKind.i64.wrap (((m + 1 : Nat) : Int) - 1) = (m : Int) := by rw [IntWalk.i64_in _ (by omega)]; omega
    refine WC.loop ?_
    unfold A10_15
    refine WC.seq (WC.seq (WC.ops ?_))
    simp only [A10_10, go_sem, ↓reduceIte, Nat.reduceEqDiff, Nat.reduceLT, h10]
    refine WC.test (t := true) (by simp only [go_sem, ↓reduceIte, Nat.reduceEqDiff, Nat.reduceLT]; rw [decide_eq_true (by omega)]) (fun _ => WC.skip ?_) (fun h => by cases h)
    simp only [nextQ]
    refine WC.seq (WC.block (WC.seq (WC.ops ?_)))
    have hcell : (V.int .i64 (c : Int)) = .int .i64 ((UInt8.ofNat c).toNat : Int) := by rw [hcn]
    simp only [A10_11, go_sem, ↓reduceIte, Nat.reduceEqDiff, Nat.reduceLT, h6, h7, h10, hw, Nat.le_refl, vstore, V.cells, List.length_cons, List.length_nil, Nat.zero_add, Nat.mul_one]
    rw [hcell, write_one hM.at_ (by rw [numsC_len, List.length_set]; omega) rfl, numsC_set, List.set_set]
    simp only [go_sem, ↓reduceIte, Nat.reduceEqDiff, Nat.reduceLT]
    have hu := hM.trans (Upd.set M p (.cells (numsC (l.set m (UInt8.ofNat c))) false))
    generalize M.set p _ = M1 at hu
    refine WC.seq (WC.seq (WC.ops ?_))
    simp only [A10_12, go_sem, ↓reduceIte, Nat.reduceEqDiff, Nat.reduceLT, h7, h1]
    have hbr := below_runs (l.set m (UInt8.ofNat c)) b p (by rw [List.length_set]; omega) hbl M1 hu.at_
    rw [List.length_set, hl, below_great hl (by omega) (by omega) hb] at hbr
    refine callI_eq hbr ?_
    simp only [go_sem, ↓reduceIte, Nat.reduceEqDiff, Nat.reduceLT]
    refine WC.test (by simp only [go_sem, ↓reduceIte, Nat.reduceEqDiff, Nat.reduceLT]; rfl) (fun h => WC.exit ?_) (fun h => WC.skip ?_)
    · have hgt : ¬ (c : Int) ≤ greatL l b := by simpa using h
      simp only [nextQ, blockQ, Nat.reduceEqDiff, beq_dec, decide_false, cond_false]
      refine hQ _ M1 (UInt8.ofNat c) ?_ ?_ ?_ ?_ ?_ ?_ hu
      all_goals simp only [go_sem, ↓reduceIte, Nat.reduceEqDiff, Nat.reduceLT, h0, h1, h6, h7, h8, h9]
      congr 1
      split <;> omega
    · have hle : (c : Int) ≤ greatL l b := by simpa using h
      simp only [nextQ]
      refine WC.ops ?_
      simp only [A10_13, go_sem, ↓reduceIte, Nat.reduceEqDiff, Nat.reduceLT, h10]
      refine WC.ops ?_
      simp only [A10_14, go_sem, ↓reduceIte, Nat.reduceEqDiff, Nat.reduceLT, h10]
      rw [IntWalk.i64_in _ (by omega)]
      refine ih (c + 1) _ M1 (UInt8.ofNat c) (by omega) (by omega) (.inr (by omega)) hu ?_ ?_ ?_ ?_ ?_ ?_ ?_
      all_goals simp only [go_sem, ↓reduceIte, Nat.reduceEqDiff, Nat.reduceLT, h0, h1, h6, h7, h8, h9]
      · congr 1; omega
      · rfl
end Go.Am.Try
