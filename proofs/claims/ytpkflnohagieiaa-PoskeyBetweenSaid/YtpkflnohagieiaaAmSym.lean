/- The laws by which a run of the machine is reckoned with values that are not known. -/
import Derived.Test.YtpkflnohagieiaaAmPrim
import Derived.IntWalk
set_option linter.unusedSimpArgs false
set_option linter.unusedVariables false
namespace Go.Am
open Go

section
variable {D : Decls} {n : Nat} {fr : Fr} {M : Mem}

@[go_sem] theorem beq_dec (a b : Nat) : Nat.beq a b = decide (a = b) := by
  cases h : Nat.beq a b with
  | true => rw [Nat.eq_of_beq_eq_true h]; simp
  | false => rw [decide_eq_false (Nat.ne_of_beq_eq_false h)]
attribute [go_sem] ble_iff intEq_dec intLe_iff
@[go_sem] theorem strEq_prop (a b : List UInt8) : strEq a b = decide (a = b) := by
  by_cases h : a = b
  · rw [strEq_iff.2 h]; simp [h]
  · rw [decide_eq_false h]; cases e : strEq a b
    · rfl
    · exact absurd (strEq_iff.1 e) h
@[go_sem] theorem rd_put_some (d t : Nat) (v : V) : (fr.put n (some d) v).rd t = if t = d then (if d < n then v else fr.rd t) else fr.rd t := by
  rw [show (if t = d then (if d < n then v else fr.rd t) else fr.rd t) = if t = d ∧ d < n then v else fr.rd t from by by_cases h : t = d <;> by_cases h2 : d < n <;> simp [h, h2]]
  unfold Fr.put
  simp only [ble_iff]
  by_cases hd : d + 1 ≤ n
  · simp only [hd, decide_true, cond_true]
    unfold Fr.rd
    rw [T.get_set]
    by_cases e : t = d
    · rw [if_pos e, if_pos ⟨e, by omega⟩]; rfl
    · rw [if_neg e, if_neg (fun h => e h.1)]
  · simp only [hd, decide_false, cond_false]
    rw [if_neg (fun h => hd h.2)]
@[go_sem] theorem put_none (v : V) : fr.put n none v = fr := rfl
@[go_sem] theorem rd_frame0 (t : Nat) : Fr.rd (frameOf 0 [] .nil) t = .undef := rfl
@[go_sem] theorem rd_frame1 (a : V) (t : Nat) : Fr.rd (frameOf 0 [a] .nil) t = if t = 0 then a else .undef := by
  rw [rd_frameOf]; simp only [List.length_cons, List.length_nil]
  by_cases h : t = 0
  · subst h; simp
  · rw [if_neg (by omega), if_neg h]; rfl
@[go_sem] theorem rd_frame2 (a b : V) (t : Nat) : Fr.rd (frameOf 0 [a, b] .nil) t = if t = 0 then a else if t = 1 then b else .undef := by
  rw [rd_frameOf]; simp only [List.length_cons, List.length_nil]
  by_cases h : t = 0
  · subst h; simp
  · by_cases h1 : t = 1
    · subst h1; simp
    · rw [if_neg (by omega), if_neg h, if_neg h1]; rfl
@[go_sem] theorem rd_frame3 (a b c : V) (t : Nat) : Fr.rd (frameOf 0 [a, b, c] .nil) t = if t = 0 then a else if t = 1 then b else if t = 2 then c else .undef := by
  rw [rd_frameOf]; simp only [List.length_cons, List.length_nil]
  by_cases h : t = 0
  · subst h; simp
  · by_cases h1 : t = 1
    · subst h1; simp
    · by_cases h2 : t = 2
      · subst h2; simp
      · rw [if_neg (by omega), if_neg h, if_neg h1, if_neg h2]; rfl


/-! ### operations -/
variable {K : Fr → Mem → Prop}
@[go_sem] theorem WI_nil : WI D n [] fr M K = K fr M := rfl
/-- One operation carried out; then the rest. -/
def stepI (D : Decls) (n : Nat) (r : Option Res) (dst : Option Nat) (fr : Fr) (M : Mem) (l : List Go.Am.Item) (K : Fr → Mem → Prop) : Prop :=
  match r with
  | some (.val v M') => WI D n l (fr.put n dst v) M' K
  | some (.call f args) => Runs D f args M fun v M' => WI D n l (fr.put n dst v) M' K
  | none => False
/-- A call; then the rest. -/
def callI (D : Decls) (n : Nat) (f : FuncId) (args : List V) (dst : Option Nat) (fr : Fr) (M : Mem) (l : List Go.Am.Item) (K : Fr → Mem → Prop) : Prop :=
  Runs D f args M fun v M' => WI D n l (fr.put n dst v) M' K
@[go_sem] theorem stepI_val (v : V) (M' : Mem) (dst : Option Nat) (l : List Go.Am.Item) : stepI D n (some (.val v M')) dst fr M l K = WI D n l (fr.put n dst v) M' K := rfl
@[go_sem] theorem stepI_call (f : FuncId) (args : List V) (dst : Option Nat) (l : List Go.Am.Item) : stepI D n (some (.call f args)) dst fr M l K = callI D n f args dst fr M l K := rfl
theorem callI_of {f : FuncId} {args : List V} {dst : Option Nat} {l : List Go.Am.Item} {R : V → Mem → Prop} (h : Runs D f args M R) (hk : ∀ v M', R v M' → WI D n l (fr.put n dst v) M' K) : callI D n f args dst fr M l K := h.mono hk
theorem callI_eq {f : FuncId} {args : List V} {dst : Option Nat} {l : List Go.Am.Item} {v : V} (h : Runs D f args M fun v' M' => v' = v ∧ M' = M) (hk : WI D n l (fr.put n dst v) M K) : callI D n f args dst fr M l K :=
  callI_of h fun v' M' h => by rw [h.1, h.2]; exact hk
@[go_sem] theorem WI_plain (dst : Option Nat) (op : AOp) (l : List Go.Am.Item) : WI D n (⟨⟨dst, op, none⟩, []⟩ :: l) fr M K = stepI D n (aop op fr.ev M) dst fr M l K := by
  show WItem D n _ fr M _ = _
  unfold WItem stepI
  cases aop op fr.ev M with
  | none => rfl
  | some r => cases r <;> simp [wantedA]
def guardB (v : V) (b : Bool) : Bool :=
  match v with
  | .bool x => cond b x (!x)
  | _ => false
@[go_sem] theorem guardB_true (x : Bool) : guardB (.bool x) true = x := rfl
@[go_sem] theorem guardB_false (x : Bool) : guardB (.bool x) false = !x := rfl
@[go_sem] theorem guardB_undef (b : Bool) : guardB .undef b = false := rfl
theorem wanted_guard (t : Nat) (b : Bool) : wantedA fr (some (t, b)) = guardB (fr.rd t) b := by
  simp only [wantedA, guardB]
  generalize fr.rd t = v
  cases v <;> rfl
/-- An operation behind a guard; then the rest. -/
def guardI (D : Decls) (n : Nat) (g : Bool) (dst : Option Nat) (op : AOp) (fr : Fr) (M : Mem) (l : List Go.Am.Item) (K : Fr → Mem → Prop) : Prop :=
  match g with
  | true => stepI D n (aop op fr.ev M) dst fr M l K
  | false => WI D n l (fr.put n dst .undef) M K
@[go_sem] theorem guardI_true (dst : Option Nat) (op : AOp) (l : List Go.Am.Item) : guardI D n true dst op fr M l K = stepI D n (aop op fr.ev M) dst fr M l K := rfl
@[go_sem] theorem guardI_false (dst : Option Nat) (op : AOp) (l : List Go.Am.Item) : guardI D n false dst op fr M l K = WI D n l (fr.put n dst .undef) M K := rfl
theorem guardI_split {g : Bool} {dst : Option Nat} {op : AOp} {l : List Go.Am.Item} (ht : g = true → guardI D n true dst op fr M l K) (hf : g = false → guardI D n false dst op fr M l K) : guardI D n g dst op fr M l K := by
  cases g
  · exact hf rfl
  · exact ht rfl
@[go_sem] theorem WI_guard (dst : Option Nat) (op : AOp) (t : Nat) (b : Bool) (l : List Go.Am.Item) : WI D n (⟨⟨dst, op, some (t, b)⟩, []⟩ :: l) fr M K = guardI D n (guardB (fr.rd t) b) dst op fr M l K := by
  show WItem D n _ fr M _ = _
  unfold WItem guardI stepI
  simp only [wanted_guard]
  cases guardB (fr.rd t) b
  · simp
  · cases aop op fr.ev M with
    | none => simp
    | some r => cases r <;> simp
/-- A call, behind which something is reckoned anew. -/
def callA (D : Decls) (n : Nat) (f : FuncId) (args : List V) (dst : Option Nat) (again : List AOper) (fr : Fr) (M : Mem) (l : List Go.Am.Item) (K : Fr → Mem → Prop) : Prop :=
  Runs D f args M fun v M' => again.all (againOk n fr M M') = true ∧ WI D n l (fr.put n dst v) M' K
theorem callA_of {f : FuncId} {args : List V} {dst : Option Nat} {again : List AOper} {l : List Go.Am.Item} {R : V → Mem → Prop} (h : Runs D f args M R) (hk : ∀ v M', R v M' → again.all (againOk n fr M M') = true ∧ WI D n l (fr.put n dst v) M' K) : callA D n f args dst again fr M l K := h.mono hk
def stepA (D : Decls) (n : Nat) (r : Option Res) (dst : Option Nat) (again : List AOper) (fr : Fr) (M : Mem) (l : List Go.Am.Item) (K : Fr → Mem → Prop) : Prop :=
  match r with
  | some (.val v M') => again.all (againOk n fr M M') = true ∧ WI D n l (fr.put n dst v) M' K
  | some (.call f args) => callA D n f args dst again fr M l K
  | none => False
@[go_sem] theorem stepA_val (v : V) (M' : Mem) (dst : Option Nat) (again : List AOper) (l : List Go.Am.Item) : stepA D n (some (.val v M')) dst again fr M l K = (again.all (againOk n fr M M') = true ∧ WI D n l (fr.put n dst v) M' K) := rfl
@[go_sem] theorem stepA_call (f : FuncId) (args : List V) (dst : Option Nat) (again : List AOper) (l : List Go.Am.Item) : stepA D n (some (.call f args)) dst again fr M l K = callA D n f args dst again fr M l K := rfl
@[go_sem] theorem WI_again (dst : Option Nat) (op : AOp) (x : AOper) (xs : List AOper) (l : List Go.Am.Item) : WI D n (⟨⟨dst, op, none⟩, x :: xs⟩ :: l) fr M K = stepA D n (aop op fr.ev M) dst (x :: xs) fr M l K := by
  show WItem D n _ fr M _ = _
  unfold WItem stepA
  cases aop op fr.ev M with
  | none => rfl
  | some r => cases r <;> simp [wantedA, callA]
@[go_sem] theorem ev_tmp (t : Nat) : fr.ev (.tmp t) = fr.rd t := rfl
@[go_sem] theorem ev_const (v : V) : fr.ev (.const v) = v := rfl
@[go_sem] theorem ev_func (f : FuncId) : fr.ev (.func f) = .fn f [] [] := rfl
@[go_sem] theorem vof_is (v : V) : vof (some v) M = some (.val v M) := rfl

section
variable (k : IntKind) (a b : Int) (x y : List UInt8)
@[go_sem] theorem vb_eql : vbin .eql (.int k a) (.int k b) = some (.bool (decide (a = b))) := by simp [vbin, arInt, cmpInt, isSh, intEq_dec]
@[go_sem] theorem vb_neq : vbin .neq (.int k a) (.int k b) = some (.bool (!decide (a = b))) := by simp [vbin, arInt, cmpInt, isSh, intEq_dec]
@[go_sem] theorem vb_lss : vbin .lss (.int k a) (.int k b) = some (.bool (decide (a < b))) := by
  simp only [vbin, arInt, cmpInt, isSh, cond_false, ikEq_self, cond_true, intLe_iff]
  by_cases h : a < b <;> simp [h] <;> omega
@[go_sem] theorem vb_leq : vbin .leq (.int k a) (.int k b) = some (.bool (decide (a ≤ b))) := by simp [vbin, arInt, cmpInt, isSh, intLe_iff]
@[go_sem] theorem vb_gtr : vbin .gtr (.int k a) (.int k b) = some (.bool (decide (b < a))) := by
  simp only [vbin, arInt, cmpInt, isSh, cond_false, ikEq_self, cond_true, intLe_iff]
  by_cases h : b < a <;> simp [h] <;> omega
@[go_sem] theorem vb_geq : vbin .geq (.int k a) (.int k b) = some (.bool (decide (b ≤ a))) := by simp [vbin, arInt, cmpInt, isSh, intLe_iff]
@[go_sem] theorem vb_add : vbin .add (.int k a) (.int k b) = some (.int k (k.wrap (a + b))) := by simp [vbin, arInt, isSh]
@[go_sem] theorem vb_sub : vbin .sub (.int k a) (.int k b) = some (.int k (k.wrap (a - b))) := by simp [vbin, arInt, isSh]
@[go_sem] theorem vb_mul : vbin .mul (.int k a) (.int k b) = some (.int k (k.wrap (a * b))) := by simp [vbin, arInt, isSh]
@[go_sem] theorem vb_quo (h : b ≠ 0) : vbin .quo (.int k a) (.int k b) = some (.int k (k.wrap (a.tdiv b))) := by simp [vbin, arInt, isSh, intEq_dec, h]
@[go_sem] theorem vb_rem (h : b ≠ 0) : vbin .rem (.int k a) (.int k b) = some (.int k (a.tmod b)) := by simp [vbin, arInt, isSh, intEq_dec, h]
@[go_sem] theorem vs_eql : vbin .eql (.str x) (.str y) = some (.bool (decide (x = y))) := by simp [vbin, binStr, strEq_prop]
@[go_sem] theorem vs_neq : vbin .neq (.str x) (.str y) = some (.bool (!decide (x = y))) := by simp [vbin, binStr, strEq_prop]
@[go_sem] theorem vs_lss : vbin .lss (.str x) (.str y) = some (.bool (strLess x y)) := rfl
@[go_sem] theorem vs_leq : vbin .leq (.str x) (.str y) = some (.bool (strLess x y || decide (x = y))) := by simp [vbin, binStr, strEq_prop]
@[go_sem] theorem vs_gtr : vbin .gtr (.str x) (.str y) = some (.bool (!(strLess x y || decide (x = y)))) := by simp [vbin, binStr, strEq_prop]
@[go_sem] theorem vs_geq : vbin .geq (.str x) (.str y) = some (.bool (!strLess x y)) := rfl
@[go_sem] theorem same_bool (s t : Bool) : vsame ⟨false, [.bool]⟩ (.bool s) (.bool t) = some (decide (s = t)) := by cases s <;> cases t <;> rfl
@[go_sem] theorem same_int : vsame ⟨false, [.int k]⟩ (.int k a) (.int k b) = some (decide (a = b)) := by simp [vsame, Sh.ok, fitAll, SK.fits, V.beq, intEq_dec]
@[go_sem] theorem same_str : vsame ⟨false, [.str]⟩ (.str x) (.str y) = some (decide (x = y)) := by simp [vsame, Sh.ok, fitAll, SK.fits, V.beq, strEq_prop]
@[go_sem] theorem vu_not (t : Bool) : vun .not (.bool t) = some (.bool (!t)) := rfl
@[go_sem] theorem vu_neg : vun .neg (.int k a) = some (.int k (k.wrap (0 - a))) := rfl
theorem as_nat (h : 0 ≤ a) : asNat (.int k a) = some a.toNat := by
  cases a with
  | ofNat n => rfl
  | negSucc n => omega
@[go_sem] theorem as_nat_cast (i : Nat) : asNat (.int k (i : Int)) = some i := rfl
end
@[go_sem ↓] theorem aop_makeSlice (ρ : Opd → V) (es bytes : Nat) (zero : List V) (l c : Opd) : aop (.makeSlice es bytes zero l c) ρ M = match asNat (ρ l), asNat (ρ c) with
    | some l, some c => cond (Nat.ble l c) (cond (Nat.ble (c * bytes) maxRoom) (cond (Nat.ble c maxRoom) (some (.val (.slice (some (M.next, 0)) l (.exact c)) (M.push (.cells (repl c zero) false)))) none) none) none
    | _, _ => none := by
  have e : aop (.makeSlice es bytes zero l c) ρ M = match ρ l, ρ c with
    | .int _ (.ofNat l), .int _ (.ofNat c) => cond (Nat.ble l c) (cond (Nat.ble (c * bytes) maxRoom) (cond (Nat.ble c maxRoom)
        (some (.val (.slice (some (M.next, 0)) l (.exact c)) (M.push (.cells (repl c zero) false)))) none) none) none
    | _, _ => none := rfl
  rw [e]
  generalize ρ l = u
  generalize ρ c = v
  cases u with
  | int k1 a => cases a with
    | ofNat a => cases v with
      | int k2 b => cases b <;> rfl
      | _ => rfl
    | negSucc a => cases v with
      | int k2 b => cases b <;> rfl
      | _ => rfl
  | _ => rfl
attribute [go_sem] aop endQ resultsOf resultOf oneOf nextQ blockQ
attribute [go_sem] List.nil_append List.append_nil eq_self decide_true decide_false Bool.not_true Bool.not_false Bool.not_not Int.neg_neg
attribute [go_sem] Option.bind_some Option.map_some Option.some.injEq List.map_cons List.map_nil cond_true cond_false if_true if_false decide_eq_true_eq Bool.not_eq_true

mutual
theorem V.beq_self : ∀ v : V, V.beq v v = true
  | .bool b => by cases b <;> rfl
  | .int k n => by simp only [V.beq, ikEq_self, cond_true]; exact intEq_iff.2 rfl
  | .str s => by simp only [V.beq]; exact strEq_iff.2 rfl
  | .ptr a => by simp only [V.beq]; exact addrEq_iff.2 rfl
  | .slice a n c => by simp only [V.beq, addrEq_iff.2 (rfl : a = a), Nat.beq_refl, Cap.beq_iff.2 (rfl : c = c), cond_true]
  | .map none => rfl
  | .map (some a) => by simp only [V.beq, Nat.beq_refl]
  | .fn f a b => by simp only [V.beq, Nat.beq_refl, V.beqs_self a, V.beqs_self b, cond_true]
  | .nilFn => rfl
  | .nilIface => rfl
  | .iface t v => by simp only [V.beq, Nat.beq_refl, V.beq_self v, cond_true]
  | .agg a => by simp only [V.beq, V.beqs_self a]
  | .tup a => by simp only [V.beq, V.beqs_self a]
theorem V.beqs_self : ∀ l : List V, V.beqs l l = true
  | [] => rfl
  | a :: l => by simp only [V.beqs, V.beq_self a, V.beqs_self l, cond_true]
end
attribute [go_sem] V.beq_self
@[go_sem] theorem vmax_int (k : IntKind) (a b : Int) : vmax2 (.int k a) (.int k b) = some (.int k (max a b)) := by
  simp only [vmax2, sbin, ikEq_self, cond_true, intLe_iff]
  by_cases h : b ≤ a
  · rw [decide_eq_true h, Int.max_eq_left h]; rfl
  · rw [decide_eq_false h, Int.max_eq_right (by omega)]; rfl
@[go_sem] theorem vmin_int (k : IntKind) (a b : Int) : vmin2 (.int k a) (.int k b) = some (.int k (min a b)) := by
  simp only [vmin2, sbin, ikEq_self, cond_true, intLe_iff]
  by_cases h : a ≤ b
  · rw [decide_eq_true h, Int.min_eq_left h]; rfl
  · rw [decide_eq_false h, Int.min_eq_right (by omega)]; rfl
attribute [go_sem] foldV

/-! ### memory -/
/-- One block is laid anew, all else stays. -/
structure Upd (M : Mem) (b : Nat) (o : O) (M' : Mem) : Prop where
  next : M'.next = M.next
  at_ : M'.get b = some o
  other : ∀ c, c ≠ b → M'.get c = M.get c
theorem Upd.set (M : Mem) (b : Nat) (o : O) : Upd M b o (M.set b o) := ⟨rfl, Mem.get_set_same M b o, fun _ h => Mem.get_set_ne M o h⟩
theorem Upd.same {M : Mem} {b : Nat} {o : O} (h : M.get b = some o) : Upd M b o M := ⟨rfl, h, fun _ _ => rfl⟩
theorem Upd.trans {M M' M'' : Mem} {b : Nat} {o o' : O} (h : Upd M b o M') (h' : Upd M' b o' M'') : Upd M b o' M'' :=
  ⟨h'.next.trans h.next, h'.at_, fun c hc => (h'.other c hc).trans (h.other c hc)⟩
/-- All that was there stays; there may be more. -/
structure Grew (M M' : Mem) : Prop where
  next : M.next ≤ M'.next
  old : ∀ c, c < M.next → M'.get c = M.get c
theorem Grew.refl (M : Mem) : Grew M M := ⟨Nat.le_refl _, fun _ _ => rfl⟩
theorem Grew.trans {M M' M'' : Mem} (h : Grew M M') (h' : Grew M' M'') : Grew M M'' := ⟨Nat.le_trans h.next h'.next, fun c hc => (h'.old c (Nat.lt_of_lt_of_le hc h.next)).trans (h.old c hc)⟩
theorem Grew.push (M : Mem) (o : O) : Grew M (M.push o) := ⟨Nat.le_succ _, fun c hc => Mem.get_push_ne M o (Nat.ne_of_lt hc)⟩
theorem Grew.upd {M M' M'' : Mem} {b : Nat} {o : O} (h : Grew M M') (hb : M.next ≤ b) (hu : Upd M' b o M'') : Grew M M'' :=
  ⟨by rw [hu.next]; exact h.next, fun c hc => (hu.other c (by omega)).trans (h.old c hc)⟩
theorem wr_one (v : V) : ∀ (cs : List V) (o : Nat), wrCells cs o [v] = cs.set o v
  | [], 0 => rfl
  | [], _ + 1 => rfl
  | _ :: cs, 0 => by cases cs <;> simp [wrCells]
  | _ :: cs, o + 1 => by simp only [wrCells, List.set_cons_succ, wr_one v cs o]
theorem len_wr : ∀ (cs : List V) (o : Nat) (vs : List V), (wrCells cs o vs).length = cs.length
  | [], 0, [] => rfl
  | [], _ + 1, [] => rfl
  | _ :: _, 0, [] => rfl
  | _ :: _, _ + 1, [] => rfl
  | [], 0, _ :: _ => rfl
  | [], _ + 1, _ :: _ => rfl
  | _ :: cs, 0, v :: vs => by simp only [wrCells, List.length_cons, len_wr cs 0 vs]
  | _ :: cs, o + 1, v :: vs => by simp only [wrCells, List.length_cons, len_wr cs o (v :: vs)]
/-- A row's cells, from bytes. -/
def bytesC (l : List UInt8) : List V := l.map fun c => .int .u8 (c.toNat : Int)
@[go_sem] theorem bytesC_len (l : List UInt8) : (bytesC l).length = l.length := by simp [bytesC]
theorem bytesC_get (l : List UInt8) (i : Nat) : (bytesC l)[i]? = (l[i]?).map fun c => .int .u8 (c.toNat : Int) := by simp [bytesC]
theorem bytesC_set (l : List UInt8) (i : Nat) (c : UInt8) : (bytesC l).set i (.int .u8 (c.toNat : Int)) = bytesC (l.set i c) := by simp [bytesC, List.map_set]
theorem bytesOf_bytesC : ∀ l : List UInt8, bytesOf (bytesC l) = some l
  | [] => rfl
  | c :: l => by
    simp only [bytesC, List.map_cons, bytesOf]
    rw [show bytesOf (List.map (fun c => V.int .u8 (c.toNat : Int)) l) = some l from bytesOf_bytesC l]
    simp
theorem read_all {M : Mem} {b : Nat} {cs : List V} {ro : Bool} (h : M.get b = some (.cells cs ro)) : M.read b 0 cs.length = some cs := by
  simp [Mem.read, h, rdCells, ble_iff]
theorem write_one {M : Mem} {b o : Nat} {v : V} {cs : List V} (h : M.get b = some (.cells cs false)) (ho : o < cs.length) (hv : v.one = true) : M.write b o [v] = some (M.set b (.cells (cs.set o v) false)) := by
  unfold Mem.write
  simp only [h, List.length_cons, List.length_nil, Nat.zero_add, ble_iff, decide_eq_true (show o + 1 ≤ cs.length from ho), cond_true, allOne, hv, wr_one]

/-- A test. -/
theorem WC.test {c : Opd} {a b : ACode} {t : Bool} {Q : AExit → Fr → Mem → Prop} (hc : fr.ev c = .bool t) (ht : t = true → WC D n a fr M Q) (hf : t = false → WC D n b fr M Q) : WC D n (.cond c a b) fr M Q := by
  cases t
  · exact WC.cond hc (hf rfl)
  · exact WC.cond hc (ht rfl)
end
end Go.Am
