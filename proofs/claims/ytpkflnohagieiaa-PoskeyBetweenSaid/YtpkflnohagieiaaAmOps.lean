/- The abstract machine: its operations and its code. -/
import Derived.Test.YtpkflnohagieiaaAmBase
set_option linter.unusedSimpArgs false
set_option linter.unusedVariables false
namespace Go.Am
open Go

inductive Opd where
  | tmp (t : Nat)
  | const (v : V)
  | func (f : FuncId)

/-- The kind of one cell that can be compared. -/
inductive SK where
  | int (k : IntKind) | str | bool
/-- What can be compared: an aggregate or not, its cells. -/
structure Sh where
  agg : Bool
  sk : List SK

/-- What can be nil. -/
inductive NK where
  | ptr | slice | map | fn | iface

inductive AOp where
  | mv (x : Opd)
  | pick (c a b : Opd)
  | alloc (zero : List V)
  | box (x : Opd)
  | build (zero : List V) (parts : List (Nat × Nat × Opd))
  | buildSlice (len : Nat) (zero : List V) (parts : List (Nat × Nat × Opd))
  | load (n : Option Nat) (a : Opd)
  | store (n : Nat) (a v : Opd)
  | nilCheck (x : Opd)
  | bin (op : BinOp) (x y : Opd)
  | eq (neg : Bool) (sh : Sh) (x y : Opd)
  | eqNil (neg : Bool) (k : NK) (x y : Opd)
  | un (op : UnOp) (x : Opd)
  | convInt (k : IntKind) (x : Opd)
  | convStr (x : Opd)
  | strBytes (x : Opd)
  | bytesStr (x : Opd)
  | makeFunc (f : FuncId) (first captured : List Opd)
  | makeMap
  | makeSlice (es : Nat) (bytes : Nat) (zero : List V) (l c : Opd)
  | sliceStr (x : Opd) (lo hi : Option Opd)
  | slice (es : Nat) (x : Opd) (lo hi mx : Option Opd)
  | sliceArr (es n : Nat) (x : Opd) (lo hi mx : Option Opd)
  | fieldAddr (off : Nat) (x : Opd)
  | field (off : Nat) (n : Option Nat) (x : Opd)
  | indexAddr (es : Nat) (x i : Opd)
  | indexArr (len es : Nat) (x i : Opd)
  | indexStr (x i : Opd)
  | indexAgg (len es : Nat) (n : Option Nat) (x i : Opd)
  | lookup (sh : Sh) (zero : V) (ok : Bool) (m k : Opd)
  | mapUpdate (sh : Sh) (m k v : Opd)
  | delete (sh : Sh) (m k : Opd)
  | extract (x : Opd) (i : Nat)
  | lenStr (x : Opd)
  | lenSlice (x : Opd)
  | lenMap (x : Opd)
  | lenConst (n : Nat)
  | append (es bytes : Nat) (a b : Opd)
  | copy (es : Nat) (a b : Opd)
  | min (xs : List Opd)
  | max (xs : List Opd)
  | call (f : Opd) (args : List Opd)
  | rangeStr (x : Opd)
  | nextStr (x : Opd)
  | makeIface (t : TypeId) (x : Opd)
  | fail

/-- What an operation comes to: a value and memory, or a call. -/
inductive Res where
  | val (v : V) (M : Mem)
  | call (f : FuncId) (args : List V)

/-! ### cells of memory -/
def rdCells (cs : List V) (o n : Nat) : Option (List V) := cond (Nat.ble (o + n) cs.length) (some ((cs.drop o).take n)) none
def wrCells : List V → Nat → List V → List V
  | cs, _, [] => cs
  | [], _, _ :: _ => []
  | _ :: cs, 0, v :: vs => v :: wrCells cs 0 vs
  | c :: cs, o + 1, v :: vs => c :: wrCells cs o (v :: vs)
def allOne : List V → Bool
  | [] => true
  | v :: vs => cond v.one (allOne vs) false

def Mem.read (M : Mem) (b o n : Nat) : Option (List V) :=
  match M.get b with
  | some (.cells cs _) => rdCells cs o n
  | _ => none
def Mem.write (M : Mem) (b o : Nat) (vs : List V) : Option Mem :=
  match M.get b with
  | some (.cells cs false) => cond (Nat.ble (o + vs.length) cs.length) (cond (allOne vs) (some (M.set b (.cells (wrCells cs o vs) false))) none) none
  | _ => none

/-! ### pure operations -/
def strLess : List UInt8 → List UInt8 → Bool
  | _, [] => false
  | [], _ :: _ => true
  | a :: x, b :: y => cond (Nat.ble (a.toNat + 1) b.toNat) true (cond (Nat.beq a.toNat b.toNat) (strLess x y) false)
def intLe : Int → Int → Bool
  | .ofNat a, .ofNat b => Nat.ble a b
  | .negSucc a, .negSucc b => Nat.ble b a
  | .negSucc _, .ofNat _ => true
  | .ofNat _, .negSucc _ => false
def maxStr : Nat := 9223372036854775807

def cmpInt (op : BinOp) (a b : Int) : Option V :=
  match op with
  | .eql => some (.bool (intEq a b))
  | .neq => some (.bool (!intEq a b))
  | .lss => some (.bool (!intLe b a))
  | .leq => some (.bool (intLe a b))
  | .gtr => some (.bool (!intLe a b))
  | .geq => some (.bool (intLe b a))
  | _ => none
def arInt (op : BinOp) (k : IntKind) (a b : Int) : Option V :=
  match op with
  | .add => some (.int k (k.wrap (a + b)))
  | .sub => some (.int k (k.wrap (a - b)))
  | .mul => some (.int k (k.wrap (a * b)))
  | .quo => cond (intEq b 0) none (some (.int k (k.wrap (a.tdiv b))))
  | .rem => cond (intEq b 0) none (some (.int k (a.tmod b)))
  | .and => some (.int k (k.wrap (BitVec.ofInt k.bits a &&& BitVec.ofInt k.bits b).toNat))
  | .or => some (.int k (k.wrap (BitVec.ofInt k.bits a ||| BitVec.ofInt k.bits b).toNat))
  | .xor => some (.int k (k.wrap (BitVec.ofInt k.bits a ^^^ BitVec.ofInt k.bits b).toNat))
  | .andNot => some (.int k (k.wrap (BitVec.ofInt k.bits a &&& ~~~BitVec.ofInt k.bits b).toNat))
  | op => cmpInt op a b
def shInt (op : BinOp) (k : IntKind) (a b : Int) : Option V :=
  match b with
  | .negSucc _ => none
  | .ofNat n =>
    match op with
    | .shl => some (.int k (k.wrap (a * 2 ^ Nat.min n k.bits)))
    | .shr => some (.int k (a.fdiv (2 ^ Nat.min n k.bits)))
    | _ => none
def binStr (op : BinOp) (a b : List UInt8) : Option V :=
  match op with
  | .add => cond (Nat.ble (a.length + b.length) maxStr) (some (.str (a ++ b))) none
  | .eql => some (.bool (strEq a b))
  | .neq => some (.bool (!strEq a b))
  | .lss => some (.bool (strLess a b))
  | .leq => some (.bool (strLess a b || strEq a b))
  | .gtr => some (.bool (!(strLess a b || strEq a b)))
  | .geq => some (.bool (!strLess a b))
  | _ => none
def isSh : BinOp → Bool
  | .shl => true
  | .shr => true
  | _ => false
def vbin (op : BinOp) (x y : V) : Option V :=
  match x, y with
  | .int k a, .int j b => cond (isSh op) (shInt op k a b) (cond (ikEq k j) (arInt op k a b) none)
  | .str a, .str b => binStr op a b
  | _, _ => none
/-- Does a cell fit its kind? -/
def SK.fits : SK → V → Bool
  | .int k, .int j _ => ikEq k j
  | .str, .str _ => true
  | .bool, .bool _ => true
  | _, _ => false
def fitAll : List SK → List V → Bool
  | [], [] => true
  | s :: ss, v :: vs => cond (s.fits v) (fitAll ss vs) false
  | _, _ => false
def Sh.ok (sh : Sh) (x : V) : Bool :=
  match x with
  | .agg cs => cond sh.agg (fitAll sh.sk cs) false
  | v => cond sh.agg false (fitAll sh.sk [v])
/-- '==' of two values that are nothing but comparable cells. -/
def vsame (sh : Sh) (x y : V) : Option Bool :=
  cond (sh.ok x) (cond (sh.ok y) (some (V.beq x y)) none) none
/-- '==' where one side is nil. -/
def vnil (k : NK) (x y : V) : Option Bool :=
  match k, x, y with
  | .ptr, .ptr none, .ptr b => some b.isNone
  | .ptr, .ptr (some _), .ptr none => some false
  | .slice, .slice none 0 (.exact 0), .slice b _ _ => some b.isNone
  | .slice, .slice (some _) _ _, .slice none 0 (.exact 0) => some false
  | .map, .map none, .map b => some b.isNone
  | .map, .map (some _), .map none => some false
  | .fn, .nilFn, .nilFn => some true
  | .fn, .nilFn, .fn _ _ _ => some false
  | .fn, .fn _ _ _, .nilFn => some false
  | .iface, .nilIface, .nilIface => some true
  | .iface, .nilIface, .iface _ _ => some false
  | .iface, .iface _ _, .nilIface => some false
  | _, _, _ => none
def vun (op : UnOp) (x : V) : Option V :=
  match op, x with
  | .neg, .int k n => some (.int k (k.wrap (0 - n)))
  | .not, .bool b => some (.bool (!b))
  | _, _ => none
/-- One part of an aggregate: an aggregate of so many cells, or one cell. -/
def partOf (cs : List V) (off : Nat) (n : Option Nat) : Option V :=
  match n with
  | some n => (rdCells cs off n).map .agg
  | none => cs[off]?
def fillCells : List V → List (Nat × Nat × V) → Option (List V)
  | cs, [] => some cs
  | cs, (off, n, v) :: rest => cond (Nat.beq v.cells.length n) (cond (Nat.ble (off + n) cs.length) (fillCells (wrCells cs off v.cells) rest) none) none
def asNat (v : V) : Option Nat :=
  match v with
  | .int _ (.ofNat n) => some n
  | _ => none
def optNat (ρ : Opd → V) : Option Opd → Nat → Option Nat
  | none, d => some d
  | some x, _ => asNat (ρ x)
def vslStr (s : List UInt8) (l h : Nat) : Option V := cond (Nat.ble l h) (cond (Nat.ble h s.length) (some (.str ((s.drop l).take (h - l)))) none) none
def sbin (f : Int → Int → Bool) (g : List UInt8 → List UInt8 → Bool) : V → V → Option V
  | .int k a, .int j b => cond (ikEq k j) (some (.int k (cond (f a b) b a))) none
  | .str a, .str b => some (.str (cond (g a b) a b))
  | _, _ => none
def vmin2 : V → V → Option V := sbin (fun a b => !intLe a b) (fun a b => strLess a b || strEq a b)
def vmax2 : V → V → Option V := sbin (fun a b => !intLe b a) (fun a b => !strLess a b)
def foldV (f : V → V → Option V) : V → List V → Option V
  | x, [] => some x
  | x, y :: l => (f x y).bind fun z => foldV f z l
def repl (n : Nat) (cs : List V) : List V :=
  match n with
  | 0 => []
  | n + 1 => cs ++ repl n cs
def utf8 (s : List UInt8) (pos : Nat) : Nat × Nat := Utf8.decode ⟨s.toArray⟩ pos

/-- Slicing: the bounds are known to lie within. -/
def vslice (es : Nat) (x : V) (lo hi mx : Option Nat) : Option V :=
  match x with
  | .slice a len (.exact c) =>
    let m := mx.getD c
    let h := hi.getD len
    let l := lo.getD 0
    cond (Nat.ble m c) (cond (Nat.ble h m) (cond (Nat.ble l h)
      (some (.slice (cond (Nat.beq m l) a (a.map fun p => (p.1, p.2 + l * es))) (h - l) (.exact (m - l)))) none) none) none
  | .slice (some (b, o)) len (.upto e) =>
    let h := hi.getD len
    let l := lo.getD 0
    cond (Nat.beq e es) (cond (Nat.ble h len) (cond (Nat.ble l h)
      (match mx with
       | none => some (.slice (some (b, o + l * es)) (h - l) (.upto e))
       | some m => cond (Nat.ble h m) (cond (Nat.ble m len)
           (some (.slice (some (b, cond (Nat.beq m l) o (o + l * es))) (h - l) (.exact (m - l)))) none) none) none) none) none
  | _ => none

/-! ### operations on memory -/
/-- The cells that are appended or copied: of the first n elements. -/
def srcCells (es : Nat) (M : Mem) (n : Nat) (x : V) : Option (List V) :=
  match x with
  | .slice none 0 (.exact 0) => some []
  | .slice (some (b, o)) _ _ => cond (Nat.beq n 0) (some []) (M.read b o (n * es))
  | .str s => cond (Nat.beq es 1) (some ((s.take n).map fun c => .int .u8 (c.toNat : Int))) none
  | _ => none
def srcLen : V → Option Nat
  | .slice _ n _ => some n
  | .str s => some s.length
  | _ => none
def maxRoom : Nat := 17592186044416
def vappend (es bytes : Nat) (M : Mem) (s x : V) : Option (V × Mem) :=
  (srcLen x).bind fun n => (srcCells es M n x).bind fun new =>
  match s with
  | .slice none 0 (.exact 0) =>
    cond (Nat.beq n 0) (some (s, M)) (cond (Nat.ble (n * bytes) maxRoom) (some (.slice (some (M.next, 0)) n (.upto es), M.push (.cells new false))) none)
  | .slice (some (b, o)) len (.exact c) =>
    cond (Nat.beq n 0) (some (s, M)) (
    cond (Nat.ble (len + n) c) ((M.write b (o + len * es) new).map fun M' => (.slice (some (b, o)) (len + n) (.exact c), M'))
      (cond (Nat.ble ((len + n) * bytes) maxRoom)
        ((cond (Nat.beq len 0) (some []) (M.read b o (len * es))).map fun old => (.slice (some (M.next, 0)) (len + n) (.upto es), M.push (.cells (old ++ new) false))) none))
  | .slice (some (b, o)) len (.upto e) =>
    cond (Nat.beq e es) (cond (Nat.beq n 0) (some (s, M)) (
    match M.get b with
    | some (.cells cs false) =>
      cond (Nat.beq (o + len * es) cs.length)
        (cond (Nat.ble ((len + n) * bytes) maxRoom) (cond (allOne new) (some (.slice (some (M.next, 0)) (len + n) (.upto es), (M.set b .dead).push (.cells (cs.drop o ++ new) false))) none) none)
        (cond (Nat.ble (o + (len + n) * es) cs.length) ((M.write b (o + len * es) new).map fun M' => (.slice (some (b, o)) (len + n) (.upto es), M')) none)
    | _ => none)) none
  | _ => none
def vcopy (es : Nat) (M : Mem) (d x : V) : Option (V × Mem) :=
  (srcLen x).bind fun m =>
  match d with
  | .slice a len _ =>
    let n := Nat.min m len
    cond (Nat.beq n 0) (some (.int .i64 0, M))
      ((srcCells es M n x).bind fun new => match a with
        | some (b, o) => (M.write b o new).map fun M' => (.int .i64 n, M')
        | none => none)
  | _ => none
/-- Where a key stands in a map: none: nowhere; no answer: a key that can't be compared. -/
def mapIdx (sh : Sh) (k : V) : List (V × V) → Option (Option Nat)
  | [] => some none
  | (k', _) :: es => match vsame sh k k' with
    | some true => some (some 0)
    | some false => (mapIdx sh k es).map (Option.map (· + 1))
    | none => none
def mapOf (M : Mem) (b : Nat) : Option (List (V × V)) :=
  match M.get b with
  | some (.map es) => some es
  | _ => none
def putOk (ok : Bool) (zero : V) (r : Option V) : V :=
  match r with
  | some v => cond ok (.tup [v, .bool true]) v
  | none => cond ok (.tup [zero, .bool false]) zero
def vlookup (sh : Sh) (zero : V) (ok : Bool) (M : Mem) (m k : V) : Option V :=
  match m with
  | .map none => cond (sh.ok k) (some (putOk ok zero none)) none
  | .map (some b) => (mapOf M b).bind fun es => cond (sh.ok k) ((mapIdx sh k es).map fun r => putOk ok zero (r.bind fun i => es[i]?.map (·.2))) none
  | _ => none
def mapPut (es : List (V × V)) (k v : V) : Option Nat → List (V × V)
  | some i => es.set i (k, v)
  | none => es ++ [(k, v)]
def vmapUpdate (sh : Sh) (M : Mem) (m k v : V) : Option Mem :=
  match m with
  | .map (some b) => (mapOf M b).bind fun es => cond (sh.ok k) ((mapIdx sh k es).map fun r => M.set b (.map (mapPut es k v r))) none
  | _ => none
def mapDel (es : List (V × V)) : Option Nat → List (V × V)
  | some i => es.eraseIdx i
  | none => es
def vdelete (sh : Sh) (M : Mem) (m k : V) : Option Mem :=
  match m with
  | .map none => cond (sh.ok k) (some M) none
  | .map (some b) => (mapOf M b).bind fun es => cond (sh.ok k) ((mapIdx sh k es).map fun r => M.set b (.map (mapDel es r))) none
  | _ => none
def vlenMap (M : Mem) (m : V) : Option V :=
  match m with
  | .map none => some (.int .i64 0)
  | .map (some b) => (mapOf M b).map fun es => .int .i64 es.length
  | _ => none
def vload (n : Option Nat) (M : Mem) (a : V) : Option V :=
  match a with
  | .ptr (some (b, o)) => match n with
    | some n => cond (Nat.beq n 0) none ((M.read b o n).map .agg)
    | none => match M.get b with
      | some (.cells cs _) => cs[o]?
      | _ => none
  | _ => none
def vstore (n : Nat) (M : Mem) (a v : V) : Option Mem :=
  match a with
  | .ptr (some (b, o)) => cond (Nat.beq v.cells.length n) (cond (Nat.beq n 0) none (M.write b o v.cells)) none
  | _ => none
def vnext (M : Mem) (it : V) : Option (V × Mem) :=
  match it with
  | .ptr (some (b, 0)) => match M.get b with
    | some (.strIter s pos) => cond (Nat.ble (pos + 1) s.length)
        (let r := utf8 s pos; some (.tup [.bool true, .int .i64 pos, .int .i32 r.1], M.set b (.strIter s (pos + r.2))))
        (some (.tup [.bool false], M))
    | _ => none
  | _ => none

def bytesOf : List V → Option (List UInt8)
  | [] => some []
  | .int .u8 c :: cs => (bytesOf cs).map (UInt8.ofNat c.toNat :: ·)
  | _ :: _ => none
def vof (v : Option V) (M : Mem) : Option Res := v.map fun v => .val v M
def vptr (f : Nat → Nat) (x : V) : Option V :=
  match x with
  | .ptr (some (b, o)) => some (.ptr (some (b, f o)))
  | _ => none

def aop (o : AOp) (ρ : Opd → V) (M : Mem) : Option Res :=
  match o with
  | .mv x => some (.val (ρ x) M)
  | .pick c a b => match ρ c with
    | .bool t => some (.val (cond t (ρ a) (ρ b)) M)
    | _ => none
  | .alloc zero => some (.val (.ptr (some (M.next, 0))) (M.push (.cells zero false)))
  | .box x => some (.val (.ptr (some (M.next, 0))) (M.push (.cells (ρ x).cells false)))
  | .build zero parts => vof ((fillCells zero (parts.map fun p => (p.1, p.2.1, ρ p.2.2))).map .agg) M
  | .buildSlice len zero parts => (fillCells zero (parts.map fun p => (p.1, p.2.1, ρ p.2.2))).map fun cs => .val (.slice (some (M.next, 0)) len (.exact len)) (M.push (.cells cs false))
  | .load n a => vof (vload n M (ρ a)) M
  | .store n a v => (vstore n M (ρ a) (ρ v)).map (.val .undef)
  | .nilCheck x => match ρ x with
    | .ptr (some a) => some (.val (.ptr (some a)) M)
    | .fn f a b => some (.val (.fn f a b) M)
    | _ => none
  | .bin op x y => vof (vbin op (ρ x) (ρ y)) M
  | .eq neg sh x y => vof ((vsame sh (ρ x) (ρ y)).map fun b => .bool (cond neg (!b) b)) M
  | .eqNil neg k x y => vof ((vnil k (ρ x) (ρ y)).map fun b => .bool (cond neg (!b) b)) M
  | .un op x => vof (vun op (ρ x)) M
  | .convInt k x => match ρ x with
    | .int _ n => some (.val (.int k (k.wrap n)) M)
    | _ => none
  | .convStr x => match ρ x with
    | .str s => some (.val (.str s) M)
    | _ => none
  | .strBytes x => match ρ x with
    | .str s => some (.val (.slice (some (M.next, 0)) s.length (.upto 1)) (M.push (.cells (s.map fun c => .int .u8 (c.toNat : Int)) false)))
    | _ => none
  | .bytesStr x => match ρ x with
    | .slice none 0 (.exact 0) => some (.val (.str []) M)
    | .slice (some (b, o)) n _ => (cond (Nat.beq n 0) (some []) (M.read b o n)).bind fun cs => (bytesOf cs).map fun s => .val (.str s) M
    | _ => none
  | .makeFunc f first captured => some (.val (.fn f (first.map ρ) (captured.map ρ)) M)
  | .makeMap => some (.val (.map (some M.next)) (M.push (.map [])))
  | .makeSlice _ bytes zero l c => match ρ l, ρ c with
    | .int _ (.ofNat l), .int _ (.ofNat c) => cond (Nat.ble l c) (cond (Nat.ble (c * bytes) maxRoom) (cond (Nat.ble c maxRoom)
        (some (.val (.slice (some (M.next, 0)) l (.exact c)) (M.push (.cells (repl c zero) false)))) none) none) none
    | _, _ => none
  | .sliceStr x lo hi => match ρ x with
    | .str s => vof ((optNat ρ lo 0).bind fun l => (optNat ρ hi s.length).bind fun h => vslStr s l h) M
    | _ => none
  | .slice es x lo hi mx =>
    vof (match lo.map fun x => asNat (ρ x), hi.map fun x => asNat (ρ x), mx.map fun x => asNat (ρ x) with
      | some none, _, _ | _, some none, _ | _, _, some none => none
      | l, h, m => vslice es (ρ x) (l.bind id) (h.bind id) (m.bind id)) M
  | .sliceArr es n x lo hi mx =>
    vof (match ρ x, lo.map fun x => asNat (ρ x), hi.map fun x => asNat (ρ x), mx.map fun x => asNat (ρ x) with
      | _, some none, _, _ | _, _, some none, _ | _, _, _, some none => none
      | .ptr (some a), l, h, m => vslice es (.slice (some a) n (.exact n)) (l.bind id) (h.bind id) (m.bind id)
      | _, _, _, _ => none) M
  | .fieldAddr off x => vof (vptr (· + off) (ρ x)) M
  | .field off n x => match ρ x with
    | .agg cs => vof (partOf cs off n) M
    | _ => none
  | .indexAddr es x i => match ρ x, asNat (ρ i) with
    | .slice (some (b, o)) n _, some j => cond (Nat.ble (j + 1) n) (some (.val (.ptr (some (b, o + j * es))) M)) none
    | _, _ => none
  | .indexArr len es x i => match ρ x, asNat (ρ i) with
    | .ptr (some (b, o)), some j => cond (Nat.ble (j + 1) len) (some (.val (.ptr (some (b, o + j * es))) M)) none
    | _, _ => none
  | .indexStr x i => match ρ x, asNat (ρ i) with
    | .str s, some j => match s[j]? with
      | some c => some (.val (.int .u8 (c.toNat : Int)) M)
      | none => none
    | _, _ => none
  | .indexAgg len es n x i => match ρ x, asNat (ρ i) with
    | .agg cs, some j => cond (Nat.ble (j + 1) len) (vof (partOf cs (j * es) n) M) none
    | _, _ => none
  | .lookup sh zero ok m k => vof (vlookup sh zero ok M (ρ m) (ρ k)) M
  | .mapUpdate sh m k v => (vmapUpdate sh M (ρ m) (ρ k) (ρ v)).map (.val .undef)
  | .delete sh m k => (vdelete sh M (ρ m) (ρ k)).map (.val .undef)
  | .extract x i => match ρ x with
    | .tup vs => vof vs[i]? M
    | _ => none
  | .lenStr x => match ρ x with
    | .str s => some (.val (.int .i64 s.length) M)
    | _ => none
  | .lenSlice x => match ρ x with
    | .slice _ n _ => some (.val (.int .i64 n) M)
    | _ => none
  | .lenMap x => vof (vlenMap M (ρ x)) M
  | .lenConst n => some (.val (.int .i64 n) M)
  | .append es bytes a b => (vappend es bytes M (ρ a) (ρ b)).map fun r => .val r.1 r.2
  | .copy es a b => (vcopy es M (ρ a) (ρ b)).map fun r => .val r.1 r.2
  | .min xs => match xs.map ρ with
    | x :: l => vof (foldV vmin2 x l) M
    | [] => none
  | .max xs => match xs.map ρ with
    | x :: l => vof (foldV vmax2 x l) M
    | [] => none
  | .call f args => match ρ f with
    | .fn f first captured => some (.call f (first ++ args.map ρ ++ captured))
    | _ => none
  | .rangeStr x => match ρ x with
    | .str s => some (.val (.ptr (some (M.next, 0))) (M.push (.strIter s 0)))
    | _ => none
  | .nextStr x => (vnext M (ρ x)).map fun r => .val r.1 r.2
  | .makeIface t x => some (.val (.iface t (ρ x)) M)
  | .fail => none

/-- The operands that an operation looks at. -/
def AOp.opds : AOp → List Opd
  | .mv x | .box x | .load _ x | .nilCheck x | .un _ x | .convInt _ x | .convStr x | .strBytes x | .bytesStr x | .fieldAddr _ x | .field _ _ x | .extract x _ | .lenStr x | .lenSlice x | .lenMap x
  | .rangeStr x | .nextStr x | .makeIface _ x => [x]
  | .alloc _ | .makeMap | .lenConst _ | .fail => []
  | .pick c a b => [c, a, b]
  | .build _ ps | .buildSlice _ _ ps => ps.map (·.2.2)
  | .store _ a v | .bin _ a v | .eq _ _ a v | .eqNil _ _ a v | .makeSlice _ _ _ a v | .indexAddr _ a v | .indexArr _ _ a v | .indexStr a v | .indexAgg _ _ _ a v | .lookup _ _ _ a v | .delete _ a v
  | .append _ _ a v | .copy _ a v => [a, v]
  | .makeFunc _ a b => a ++ b
  | .sliceStr x lo hi => x :: (lo.toList ++ hi.toList)
  | .slice _ x lo hi mx | .sliceArr _ _ x lo hi mx => x :: (lo.toList ++ hi.toList ++ mx.toList)
  | .mapUpdate _ m k v => [m, k, v]
  | .min xs | .max xs => xs
  | .call f args => f :: args

/-! ### code -/
structure AOper where
  dst : Option Nat
  op : AOp
  guard : Option (Nat × Bool)

/-- An operation; behind it these are reckoned anew, and must come to what they came to. -/
structure Item where
  op : AOper
  again : List AOper

inductive ACode where
  | skip
  | ops (l : List Item)
  | seq (a b : ACode)
  | cond (c : Opd) (a b : ACode)
  | block (id : Nat) (body : ACode)
  | loop (body : ACode)
  | scope (body : ACode)
  | exit (id : Nat)
  | ret
  | fail

inductive ARes where
  | tmp (t : Nat)
  | cell (t : Nat) (n : Option Nat)

structure AFunc where
  ntmps : Nat
  results : List ARes
  body : ACode

inductive AExit where
  | normal
  | exit (id : Nat)
  | ret

abbrev Fr := T V
def Fr.rd (fr : Fr) (t : Nat) : V := (T.get fr t).getD .undef
def Fr.ev (fr : Fr) : Opd → V
  | .tmp t => fr.rd t
  | .const v => v
  | .func f => .fn f [] []
def Fr.put (n : Nat) (fr : Fr) (dst : Option Nat) (v : V) : Fr :=
  match dst with
  | some d => cond (Nat.ble (d + 1) n) (T.set fr d v) fr
  | none => fr

abbrev CallF := FuncId → List V → Mem → Option (V × Mem)

def wantedA (fr : Fr) : Option (Nat × Bool) → Bool
  | none => true
  | some (t, b) => match fr.rd t with
    | .bool x => cond b x (!x)
    | _ => false

/-- Two rows of cells are the same. -/
def sameCells : Option O → Option O → Bool
  | some (.cells a false), some (.cells b false) => V.beqs a b
  | _, _ => false
/-- The value of an operation that is reckoned anew: a look at memory comes to the same; a block that was new is as it was. -/
def againOk (n : Nat) (fr : Fr) (M M' : Mem) (o : AOper) : Bool :=
  cond (wantedA fr o.guard)
    (match o.op with
     | .load .. | .lookup .. | .lenMap .. | .bytesStr .. => (match o.dst, aop o.op fr.ev M' with
        | some d, some (.val v _) => cond (Nat.ble (d + 1) n) (V.beq (fr.rd d) v) false
        | _, _ => false)
     | .alloc .. | .box .. => (match o.dst with
        | some d => cond (Nat.ble (d + 1) n) (match fr.rd d with
          | .ptr (some (b, 0)) => sameCells (M.get b) (M'.get b)
          | _ => false) false
        | none => false)
     | .buildSlice .. => (match o.dst with
        | some d => cond (Nat.ble (d + 1) n) (match fr.rd d with
          | .slice (some (b, 0)) _ _ => sameCells (M.get b) (M'.get b)
          | _ => false) false
        | none => false)
     | _ => false) true

def execItem (call : CallF) (n : Nat) (i : Item) (fr : Fr) (M : Mem) : Option (Fr × Mem) :=
  cond (wantedA fr i.op.guard)
    (match aop i.op.op fr.ev M with
     | some (.val v M') => cond (i.again.all (againOk n fr M M')) (some (fr.put n i.op.dst v, M')) none
     | some (.call f args) => (match call f args M with
        | some (v, M') => cond (i.again.all (againOk n fr M M')) (some (fr.put n i.op.dst v, M')) none
        | none => none)
     | none => none)
    (some (fr.put n i.op.dst .undef, M))

def execItems (call : CallF) (n : Nat) : List Item → Fr → Mem → Option (Fr × Mem)
  | [], fr, M => some (fr, M)
  | i :: l, fr, M => match execItem call n i fr M with
    | some (fr', M') => execItems call n l fr' M'
    | none => none

def loopN (step : Fr → Mem → Option (AExit × Fr × Mem)) : Nat → Fr → Mem → Option (AExit × Fr × Mem)
  | 0, _, _ => none
  | k + 1, fr, M => match step fr M with
    | some (.normal, fr', M') => loopN step k fr' M'
    | r => r

def exec (call : CallF) (n : Nat) (fuel : Nat) : ACode → Fr → Mem → Option (AExit × Fr × Mem)
  | .skip, fr, M => some (.normal, fr, M)
  | .ops l, fr, M => (execItems call n l fr M).map fun r => (.normal, r.1, r.2)
  | .seq a b, fr, M => match exec call n fuel a fr M with
    | some (.normal, fr', M') => exec call n fuel b fr' M'
    | r => r
  | .cond c a b, fr, M => match fr.ev c with
    | .bool t => cond t (exec call n fuel a fr M) (exec call n fuel b fr M)
    | _ => none
  | .block id body, fr, M => match exec call n fuel body fr M with
    | some (.exit j, fr', M') => cond (Nat.beq j id) (some (.normal, fr', M')) (some (.exit j, fr', M'))
    | r => r
  | .loop body, fr, M => loopN (exec call n fuel body) fuel fr M
  | .scope body, fr, M => exec call n fuel body fr M
  | .exit id, fr, M => some (.exit id, fr, M)
  | .ret, fr, M => some (.ret, fr, M)
  | .fail, _, _ => none

def frameOf : Nat → List V → Fr → Fr
  | _, [], fr => fr
  | i, v :: vs, fr => frameOf (i + 1) vs (T.set fr i v)

def resultOf (fr : Fr) (M : Mem) : ARes → Option V
  | .tmp t => some (fr.rd t)
  | .cell t n => vload n M (fr.rd t)
def resultsOf (fr : Fr) (M : Mem) : List ARes → Option (List V)
  | [] => some []
  | r :: rs => (resultOf fr M r).bind fun v => (resultsOf fr M rs).map (v :: ·)
def oneOf : List V → V
  | [v] => v
  | vs => .tup vs

structure Decls where
  code : T AFunc
  prim : FuncId → Option (List V → Mem → Option (V × Mem))

def callN (D : Decls) : Nat → CallF
  | 0, _, _, _ => none
  | n + 1, f, args, M => match D.prim f with
    | some g => g args M
    | none => match D.code.get f with
      | none => none
      | some F => cond (Nat.ble args.length F.ntmps) (match exec (callN D n) F.ntmps n F.body (frameOf 0 args .nil) M with
        | some (.normal, fr, M') | some (.ret, fr, M') => (resultsOf fr M' F.results).map fun vs => (oneOf vs, M')
        | _ => none) none

end Go.Am
