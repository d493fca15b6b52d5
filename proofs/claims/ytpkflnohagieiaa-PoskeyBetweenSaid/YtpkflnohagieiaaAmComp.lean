/- From the program's own code to the machine's. -/
import Derived.Test.YtpkflnohagieiaaAmOps
set_option linter.unusedSimpArgs false
set_option linter.unusedVariables false
namespace Go.Am
open Go

def vOf1 : Value → Option V
  | .bool b => some (.bool b)
  | .int k n => some (.int k n)
  | .string s => some (.str s.data.toList)
  | .pointer none => some (.ptr none)
  | .slice none 0 0 => some (.slice none 0 (.exact 0))
  | .map none => some (.map none)
  | .nilFunc => some .nilFn
  | .nilIface => some .nilIface
  | _ => none
def vsOf1 : List Value → Option (List V)
  | [] => some []
  | v :: vs => (vOf1 v).bind fun x => (vsOf1 vs).map (x :: ·)
def vOf : Value → Option V
  | .agg cs => (vsOf1 cs.toList).map .agg
  | .tuple cs => (vsOf1 cs.toList).map .tup
  | v => vOf1 v

section
variable (gl : Nat → Bool)
def cOpd : Operand → Option Opd
  | .tmp t => some (.tmp t)
  | .const v => (vOf v).map .const
  | .func f => some (.func f)
  | .global g => cond (gl g) (some (.const (.ptr (some (g, 0))))) none
def cOpds : List Operand → Option (List Opd)
  | [] => some []
  | x :: xs => (cOpd gl x).bind fun y => (cOpds xs).map (y :: ·)
def cOpt : Option Operand → Option (Option Opd)
  | none => some none
  | some x => (cOpd gl x).map some
def cParts (place : Nat → Option (Nat × Nat)) : List (Nat × Operand) → Option (List (Nat × Nat × Opd))
  | [] => some []
  | (i, x) :: ps => (place i).bind fun p => (cOpd gl x).bind fun y => (cParts place ps).map ((p.1, p.2, y) :: ·)
end

section
variable (P : Program) (gl : Nat → Bool)
def szE (t : TypeId) : Option Nat := (P.info? t).map (·.size)
def bytesE (t : TypeId) : Option Nat := (P.info? t).map (·.bytes)
def zeroE (t : TypeId) : Option V := (P.info? t).bind fun i => i.zero.bind vOf
def ldE (t : TypeId) : Option (Option Nat) :=
  match P.underlying t with
  | some (.struct _) | some (.array _ _) => (szE P t).map some
  | some _ => some none
  | none => none
def shFields (rec : TypeId → Option (List SK)) : List Field → Nat → Option (List SK)
  | [], _ => some []
  | f :: fs, off => cond (Nat.beq f.offset off && f.name != "_") ((rec f.type).bind fun a => (shFields rec fs (off + a.length)).map (a ++ ·)) none
def replS (n : Nat) (l : List SK) : List SK :=
  match n with
  | 0 => []
  | n + 1 => l ++ replS n l
def shAt (t : TypeId) (sh : Option (List SK)) : Option (List SK) :=
  sh.bind fun l => match szE P t with
    | some n => cond (Nat.beq n l.length) (some l) none
    | none => none
def shE : Nat → TypeId → Option (List SK)
  | 0, _ => none
  | d + 1, t => shAt P t (match P.underlying t with
    | some (.int k) => some [.int k]
    | some .string => some [.str]
    | some .bool => some [.bool]
    | some (.struct fs) => cond (P.stoodInHeld t) none (shFields (shE d) fs.toList 0)
    | _ => none)
def depthE : Nat := 20
def shT (t : TypeId) : Option Sh :=
  match P.underlying t with
  | some (.struct _) => (shE P depthE t).map fun l => ⟨true, l⟩
  | _ => (shE P depthE t).map fun l => ⟨false, l⟩

def cBuiltin (b : Builtin) (ts : List TypeId) (xs : List Opd) : Option AOp :=
  match b, ts, xs with
  | .len, [t], [x] => match P.underlying t with
    | some .string => some (.lenStr x)
    | some (.slice _) => some (.lenSlice x)
    | some (.map _ _) => some (.lenMap x)
    | some (.array n _) => some (.lenConst n)
    | _ => none
  | .append, [t, u], [x, y] => match P.underlying t with
    | some (.slice e) => match P.underlying u with
      | some (.int _) => none
      | some _ => (szE P e).bind fun s => (bytesE P e).bind fun n => (zeroE P e).bind fun z => cond (Nat.beq s 0) none (cond (Nat.beq n 0) none (cond (Nat.beq z.cells.length s) (some (.append s n x y)) none))
      | none => none
    | _ => none
  | .copy, [t, _], [x, y] => match P.underlying t with
    | some (.slice e) => (szE P e).bind fun s => cond (Nat.beq s 0) none (some (.copy s x y))
    | _ => none
  | .delete, [t, _], [m, k] => match P.underlying t with
    | some (.map kt _) => (shT P kt).map fun sh => .delete sh m k
    | _ => none
  | .min, _, xs => some (.min xs)
  | .max, _, xs => some (.max xs)
  | _, _, _ => none

def isAggT (t : TypeId) : Option Bool :=
  match P.underlying t with
  | some (.struct _) | some (.array _ _) => some true
  | some _ => some false
  | none => none

def isConstO : Opd → Bool
  | .const _ => true
  | _ => false
def cBin (op : BinOp) (t : TypeId) (x y : Opd) : Option AOp :=
  match op with
  | .eql | .neq =>
    match P.underlying t with
    | some (.int _) | some .string => some (.bin op x y)
    | some .bool | some (.struct _) => cond (P.eqGuardType P.depth t) none ((shT P t).map fun sh => .eq (op matches .neq) sh x y)
    | some (.pointer _) => some (.eqNil (op matches .neq) .ptr x y)
    | some (.slice _) => some (.eqNil (op matches .neq) .slice x y)
    | some (.map _ _) => some (.eqNil (op matches .neq) .map x y)
    | some (.func _ _ _) => some (.eqNil (op matches .neq) .fn x y)
    | some (.interface _) => cond (isConstO x || isConstO y) (some (.eqNil (op matches .neq) .iface x y)) none
    | _ => none
  | op => some (.bin op x y)

def fieldE (t : TypeId) (i : Nat) : Option Field :=
  match P.underlying t with
  | some (.struct fs) => fs[i]?
  | _ => none

def cOp (o : Oper) : Option AOp :=
  match o.op with
  | .move x | .assign x => (cOpd gl x).map .mv
  | .pick c a b => (cOpd gl c).bind fun c => (cOpd gl a).bind fun a => (cOpd gl b).map fun b => .pick c a b
  | .alloc e => (zeroE P e).map fun z => .alloc z.cells
  | .box _ x => (cOpd gl x).map .box
  | .build t parts =>
    (zeroE P t).bind fun z =>
    match P.underlying t with
    | some (.struct fs) => cond (fs.toList.all fun f => (P.info? f.type).isSome) ((cParts gl (fun i => fs[i]?.bind fun f => (szE P f.type).map fun n => (f.offset, n)) parts.toList).map fun ps => .build z.cells ps) none
    | some (.array _ e) => (szE P e).bind fun n => (cParts gl (fun i => some (i * n, n)) parts.toList).map fun ps => .build z.cells ps
    | _ => none
  | .buildSlice t len parts =>
    match P.underlying t with
    | some (.slice e) => (szE P e).bind fun n => (zeroE P e).bind fun z =>
      cond (Nat.beq n 0) none (cond (Nat.ble (len * n) 16777216) (cond (Nat.beq z.cells.length n)
        ((cParts gl (fun i => some (i * n, n)) parts.toList).map fun ps => .buildSlice len (repl len z.cells) ps) none) none)
    | _ => none
  | .load t a => (ldE P t).bind fun n => (cOpd gl a).map fun a => .load n a
  | .store t a v => (szE P t).bind fun n => (cOpd gl a).bind fun a => (cOpd gl v).map fun v => .store n a v
  | .nilCheck x => (cOpd gl x).map .nilCheck
  | .binOp op t x y _ => (cOpd gl x).bind fun x => (cOpd gl y).bind fun y => cBin P op t x y
  | .unOp op _ x => (cOpd gl x).map fun x => .un op x
  | .convert s d x => (cOpd gl x).bind fun x =>
    match P.underlying s, P.underlying d with
    | some (.int _), some (.int k) => some (.convInt k x)
    | some .string, some .string => some (.convStr x)
    | some .string, some (.slice e) => (match P.underlying e with | some (.int .u8) => some (.strBytes x) | _ => none)
    | some (.slice e), some .string => (match P.underlying e with | some (.int .u8) => some (.bytesStr x) | _ => none)
    | _, _ => none
  | .makeFunc (.func f) a b => (cOpds gl a.toList).bind fun a => (cOpds gl b.toList).map fun b => .makeFunc f a b
  | .makeMap _ none => some .makeMap
  | .makeSlice t l c =>
    match P.underlying t with
    | some (.slice e) => (szE P e).bind fun n => (bytesE P e).bind fun m => (zeroE P e).bind fun z => (cOpd gl l).bind fun l => (cOpd gl c).bind fun c =>
      cond (Nat.beq n 0) none (cond (Nat.beq z.cells.length n) (some (.makeSlice n m z.cells l c)) none)
    | _ => none
  | .slice t x lo hi mx => (cOpd gl x).bind fun x => (cOpt gl lo).bind fun lo => (cOpt gl hi).bind fun hi => (cOpt gl mx).bind fun mx =>
    match P.underlying t with
    | some .string => (match mx with | none => some (.sliceStr x lo hi) | some _ => none)
    | some (.slice e) => cond (mx.isSome && hi.isNone) none ((szE P e).map fun n => .slice n x lo hi mx)
    | some (.array m e) => cond (mx.isSome && hi.isNone) none ((szE P e).map fun n => .sliceArr n m x lo hi mx)
    | _ => none
  | .fieldAddr t x i => (fieldE P t i).bind fun f => (szE P f.type).bind fun n => (cOpd gl x).bind fun x => cond (Nat.beq n 0) none (some (.fieldAddr f.offset x))
  | .field t x i => (fieldE P t i).bind fun f => (ldE P f.type).bind fun n => (cOpd gl x).map fun x => .field f.offset n x
  | .indexAddr t x i => (cOpd gl x).bind fun x => (cOpd gl i).bind fun i =>
    match P.underlying t with
    | some (.slice e) => (szE P e).map fun n => .indexAddr n x i
    | some (.array m e) => (szE P e).map fun n => .indexArr m n x i
    | _ => none
  | .index t x i => (cOpd gl x).bind fun x => (cOpd gl i).bind fun i =>
    match P.underlying t with
    | some .string => some (.indexStr x i)
    | some (.array m e) => (szE P e).bind fun n => (ldE P e).map fun l => .indexAgg m n l x i
    | _ => none
  | .lookup t m k ok => (cOpd gl m).bind fun m => (cOpd gl k).bind fun k =>
    match P.underlying t with
    | some (.map kt e) => (shT P kt).bind fun sh => (zeroE P e).map fun z => .lookup sh z ok m k
    | _ => none
  | .mapUpdate t m k v | .insert t m k v => (cOpd gl m).bind fun m => (cOpd gl k).bind fun k => (cOpd gl v).bind fun v =>
    match P.underlying t with
    | some (.map kt _) => (shT P kt).map fun sh => .mapUpdate sh m k v
    | _ => none
  | .extract x i => (cOpd gl x).map fun x => .extract x i
  | .call c => (cOpds gl c.args.toList).bind fun xs =>
    match c.callee with
    | .value f => (cOpd gl f).map fun f => .call f xs
    | .builtin b => cBuiltin P b c.argTypes.toList xs
    | .invoke _ _ => none
  | .range t x => (cOpd gl x).bind fun x => (match P.underlying t with | some .string => some (.rangeStr x) | _ => none)
  | .next x true => (cOpd gl x).map .nextStr
  | .makeInterface t x => (cOpd gl x).bind fun x => (match P.underlying t with | some (.interface _) => none | some _ => some (.makeIface t x) | none => none)
  | _ => none

/-- An operation, its guard by the slot that it looks at. -/
def cOper (ops : Array Oper) (o : Oper) : Option AOper :=
  let a := (cOp P gl o).getD .fail
  match o.guard with
  | none => some ⟨o.dst, a, none⟩
  | some (j, b) => match (ops[j]?).bind (·.dst) with
    | some t => some ⟨o.dst, a, some (t, b)⟩
    | none => none

/-! ### a region that draws its order -/
inductive Cls where | p | r | a | w
def clsOf : AOp → Cls
  | .load .. | .lookup .. | .lenMap .. | .bytesStr .. => .r
  | .alloc .. | .box .. | .buildSlice .. => .a
  | .store .. | .makeMap | .makeSlice .. | .strBytes .. | .mapUpdate .. | .delete .. | .append .. | .copy .. | .call .. | .rangeStr .. | .nextStr .. => .w
  | _ => .p
def Cls.isW : Cls → Bool
  | .w => true
  | _ => false
def Cls.isP : Cls → Bool
  | .p => true
  | _ => false

/-- Of each operation the bits of all that must have run ahead of it. -/
def needBits (acc : List Nat) (o : Oper) : Nat := o.after.toList.foldl (fun s e => cond (Region.binds .any e) (s ||| 2 ^ e.on ||| acc.getD e.on 0) s) 0
def bitsOf : List Oper → List Nat → List Nat
  | [], acc => acc
  | o :: os, acc => bitsOf os (acc ++ [needBits acc o])

/-- An order in which what makes or looks runs as early as it may, what writes as late as it must. -/
def pickNext (bits : List Nat) (cls : List Cls) (done : Nat) : List Nat → Option Nat
  | [] => none
  | i :: is => cond (Nat.beq (bits.getD i 0 &&& done) (bits.getD i 0) && !(cls.getD i .w).isW) (some i) (pickNext bits cls done is)
def pickW (bits : List Nat) (done : Nat) : List Nat → Option Nat
  | [] => none
  | i :: is => cond (Nat.beq (bits.getD i 0 &&& done) (bits.getD i 0)) (some i) (pickW bits done is)
def orderOf (bits : List Nat) (cls : List Cls) : Nat → Nat → List Nat → List Nat
  | 0, _, _ => []
  | f + 1, done, left => match pickNext bits cls done left with
    | some i => i :: orderOf bits cls f (done ||| 2 ^ i) (left.filter fun j => !Nat.beq i j)
    | none => match pickW bits done left with
      | some i => i :: orderOf bits cls f (done ||| 2 ^ i) (left.filter fun j => !Nat.beq i j)
      | none => []
def againOf (bits : List Nat) (cls : List Cls) (i : Nat) (ahead : List Nat) : List Nat :=
  cond (cls.getD i .w).isW (ahead.filter fun j => !(cls.getD j .w).isP && !(cls.getD j .w).isW && !(bits.getD i 0).testBit j) []

def tmpOf : Opd → List Nat
  | .tmp t => [t]
  | _ => []
/-- The slots that an operation looks at. -/
def AOper.looks (o : AOper) : List Nat := o.op.opds.flatMap tmpOf ++ (match o.guard with | some (t, _) => [t] | none => [])
def dstIn (o : AOper) (l : List Nat) : Bool :=
  match o.dst with
  | some d => l.any (Nat.beq d ·)
  | none => false
def sameDst (o p : AOper) : Bool :=
  match o.dst, p.dst with
  | some d, some e => Nat.beq d e
  | _, _ => false
/-- Two operations that do not look at each other's slots. -/
def apartA (o p : AOper) : Bool := !dstIn o p.looks && !sameDst o p && !dstIn p o.looks
/-- An operation leaves the slots of another as they are. -/
def leaves (o p : AOper) : Bool := !dstIn o p.looks && !sameDst o p

def unlook : AOper := ⟨none, .lenConst 0, none⟩
section
variable (aops : List AOper) (bits : List Nat)
def needs (i j : Nat) : Bool := (bits.getD i 0).testBit j
def opA (i : Nat) : AOper := aops.getD i unlook
def clsA (i : Nat) : Cls := clsOf (opA aops i).op
/-- Of the operations ahead (the last one first) those that are to be reckoned anew behind i; between them and i none writes their slots. -/
def againIs (i : Nat) : List Nat → List Nat
  | [] => []
  | j :: js => cond (!(clsA aops j).isP && !(clsA aops j).isW && !needs bits i j) (j :: againIs i js) (againIs i js)
def betweenOk (i : Nat) : List Nat → List Nat → Bool
  | _, [] => true
  | mid, j :: js => cond (cond (!(clsA aops j).isP && !(clsA aops j).isW && !needs bits i j) (mid.all (fun k => leaves (opA aops k) (opA aops j)) && !dstIn (opA aops j) (opA aops j).looks) true) (betweenOk i (j :: mid) js) false
def orderOk (N : Nat) : List Nat → List Nat → Bool
  | ahead, [] => (List.range N).all fun j => ahead.any (Nat.beq j ·)
  | ahead, i :: rest =>
    Nat.ble (i + 1) N && !ahead.any (Nat.beq i ·) && Nat.ble (bits.getD i 0 + 1) (2 ^ N) &&
    (List.range N).all (fun j => !needs bits i j || ahead.any (Nat.beq j ·)) &&
    rest.all (fun k => needs bits k i || (apartA (opA aops i) (opA aops k) && !(clsA aops i).isW)) &&
    cond (clsA aops i).isW (betweenOk aops bits i [] ahead) true &&
    orderOk N (i :: ahead) rest
def itemsOf : List Nat → List Nat → List Item
  | _, [] => []
  | ahead, i :: rest => ⟨opA aops i, cond (clsA aops i).isW ((againIs aops bits i ahead).map (opA aops)) []⟩ :: itemsOf (i :: ahead) rest
end

def cOpers (P : Program) (gl : Nat → Bool) (ops : Array Oper) : List Oper → Option (List AOper)
  | [] => some []
  | o :: os => (cOper P gl ops o).bind fun a => (cOpers P gl ops os).map (a :: ·)

def cRegion (P : Program) (gl : Nat → Bool) (ops : Array Oper) (draw : Bool) : Option (List Item) :=
  (cOpers P gl ops ops.toList).bind fun aops =>
  cond draw
    (let bits := bitsOf ops.toList []
     let order := orderOf bits (aops.map fun o => clsOf o.op) ops.size 0 (List.range ops.size)
     cond (orderOk aops bits ops.size [] order) (some (itemsOf aops bits [] order)) none)
    (some (aops.map fun o => ⟨o, []⟩))

def cCode (P : Program) (gl : Nat → Bool) : Code → ACode
  | .skip => .skip
  | .label _ => .skip
  | .region _ ops draw => match cRegion P gl ops draw with
    | some l => .ops l
    | none => .fail
  | .seq a b => .seq (cCode P gl a) (cCode P gl b)
  | .cond c a b => match cOpd gl c with
    | some c => .cond c (cCode P gl a) (cCode P gl b)
    | none => .fail
  | .block id b => .block id (cCode P gl b)
  | .loop b => .loop (cCode P gl b)
  | .scope b => .scope (cCode P gl b)
  | .exit id => .exit id
  | .ret => .ret
  | _ => .fail

def cRes (P : Program) : List ResultVar → Option (List ARes)
  | [] => some []
  | .tmp t :: rs => (cRes P rs).map (.tmp t :: ·)
  | .cell a t :: rs => (ldE P t).bind fun n => (cRes P rs).map (.cell a n :: ·)

def cFunc (P : Program) (gl : Nat → Bool) (f : Func) : Option AFunc :=
  f.body.bind fun b => (cRes P f.results.toList).map fun rs => ⟨f.ntmps, rs, cCode P gl b⟩

end
end Go.Am
