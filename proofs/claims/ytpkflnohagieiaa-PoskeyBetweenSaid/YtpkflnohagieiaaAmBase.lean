/- The abstract machine: its values, its memory. Nothing here speaks of a program or of a world. -/
import GoSem.Dispatch
set_option linter.unusedSimpArgs false
set_option linter.unusedVariables false
namespace Go.Am
open Go

/-- How far a slice may be grown in place: exactly so many elements; or as far as its block's row goes (elements of so many cells). -/
inductive Cap where
  | exact (n : Nat)
  | upto (es : Nat)

inductive V where
  | bool (b : Bool)
  | int (k : IntKind) (n : Int)
  | str (s : List UInt8)
  | ptr (a : Option (Nat × Nat))
  | slice (a : Option (Nat × Nat)) (len : Nat) (cap : Cap)
  | map (r : Option Nat)
  | fn (f : FuncId) (first captured : List V)
  | nilFn
  | nilIface
  | iface (t : TypeId) (v : V)
  | agg (cs : List V)
  | tup (vs : List V)

def V.undef : V := .tup []
def V.cells : V → List V
  | .agg cs => cs
  | v => [v]

/-- Is it the value of one cell? -/
def V.one : V → Bool
  | .agg _ => false
  | .tup _ => false
  | _ => true

def Cap.beq : Cap → Cap → Bool
  | .exact a, .exact b => Nat.beq a b
  | .upto a, .upto b => Nat.beq a b
  | _, _ => false
def ikNum : IntKind → Nat
  | .i8 => 0 | .i16 => 1 | .i32 => 2 | .i64 => 3 | .u8 => 4 | .u16 => 5 | .u32 => 6 | .u64 => 7
theorem ikNum_inj {a b : IntKind} (h : ikNum a = ikNum b) : a = b := by cases a <;> cases b <;> simp_all [ikNum]
def ikEq (a b : IntKind) : Bool := Nat.beq (ikNum a) (ikNum b)
theorem ikEq_iff {a b : IntKind} : ikEq a b = true ↔ a = b := by
  unfold ikEq
  rw [Nat.beq_eq]
  exact ⟨ikNum_inj, fun h => by rw [h]⟩
@[simp] theorem ikEq_self (a : IntKind) : ikEq a a = true := ikEq_iff.2 rfl
def intEq : Int → Int → Bool
  | .ofNat a, .ofNat b => Nat.beq a b
  | .negSucc a, .negSucc b => Nat.beq a b
  | _, _ => false
theorem intEq_iff {a b : Int} : intEq a b = true ↔ a = b := by
  cases a <;> cases b <;> simp [intEq, Nat.beq_eq]
  exact Int.ofNat_inj.symm
def u8Eq (a b : UInt8) : Bool := Nat.beq a.toNat b.toNat
theorem u8Eq_iff {a b : UInt8} : u8Eq a b = true ↔ a = b := by
  unfold u8Eq
  rw [Nat.beq_eq]
  exact ⟨fun h => UInt8.toNat_inj.1 h, fun h => by rw [h]⟩
def strEq : List UInt8 → List UInt8 → Bool
  | [], [] => true
  | a :: x, b :: y => cond (u8Eq a b) (strEq x y) false
  | _, _ => false
theorem strEq_iff : ∀ {x y : List UInt8}, strEq x y = true ↔ x = y
  | [], [] => by simp [strEq]
  | [], _ :: _ => by simp [strEq]
  | _ :: _, [] => by simp [strEq]
  | a :: x, b :: y => by
    simp only [strEq]
    cases h : u8Eq a b
    · simp; intro e; exact absurd (u8Eq_iff.2 e) (by simp [h])
    · simp [u8Eq_iff.1 h, strEq_iff (x := x) (y := y)]
def addrEq : Option (Nat × Nat) → Option (Nat × Nat) → Bool
  | none, none => true
  | some (a, b), some (c, d) => cond (Nat.beq a c) (Nat.beq b d) false
  | _, _ => false
theorem addrEq_iff {a b : Option (Nat × Nat)} : addrEq a b = true ↔ a = b := by
  rcases a with _ | ⟨a, b'⟩ <;> rcases b with _ | ⟨c, d⟩ <;> simp [addrEq]
theorem Cap.beq_iff {a b : Cap} : Cap.beq a b = true ↔ a = b := by
  cases a <;> cases b <;> simp [Cap.beq]

mutual
def V.beq : V → V → Bool
  | .bool a, .bool b => cond a b (!b)
  | .int k a, .int j b => cond (ikEq k j) (intEq a b) false
  | .str a, .str b => strEq a b
  | .ptr a, .ptr b => addrEq a b
  | .slice a n c, .slice b m d => cond (addrEq a b) (cond (Nat.beq n m) (Cap.beq c d) false) false
  | .map none, .map none => true
  | .map (some a), .map (some b) => Nat.beq a b
  | .fn f a b, .fn g c d => cond (Nat.beq f g) (cond (V.beqs a c) (V.beqs b d) false) false
  | .nilFn, .nilFn => true
  | .nilIface, .nilIface => true
  | .iface t v, .iface u x => cond (Nat.beq t u) (V.beq v x) false
  | .agg a, .agg b => V.beqs a b
  | .tup a, .tup b => V.beqs a b
  | _, _ => false
def V.beqs : List V → List V → Bool
  | [], [] => true
  | a :: x, b :: y => cond (V.beq a b) (V.beqs x y) false
  | _, _ => false
end
theorem cond_true_iff {a b : Bool} : cond a b false = true ↔ a = true ∧ b = true := by cases a <;> simp
mutual
theorem V.beq_eq : ∀ {a b : V}, V.beq a b = true → a = b
  | .bool a, .bool b, h => by cases a <;> cases b <;> simp_all [V.beq]
  | .int k a, .int j b, h => by
    simp only [V.beq, cond_true_iff] at h
    rw [ikEq_iff.1 h.1, intEq_iff.1 h.2]
  | .str a, .str b, h => by simp only [V.beq] at h; rw [strEq_iff.1 h]
  | .ptr a, .ptr b, h => by simp only [V.beq] at h; rw [addrEq_iff.1 h]
  | .slice a n c, .slice b m d, h => by
    simp only [V.beq, cond_true_iff] at h
    rw [addrEq_iff.1 h.1, Nat.eq_of_beq_eq_true h.2.1, Cap.beq_iff.1 h.2.2]
  | .map none, .map none, _ => rfl
  | .map (some a), .map (some b), h => by simp only [V.beq] at h; rw [Nat.eq_of_beq_eq_true h]
  | .fn f a b, .fn g c d, h => by
    simp only [V.beq, cond_true_iff] at h
    rw [Nat.eq_of_beq_eq_true h.1, V.beqs_eq h.2.1, V.beqs_eq h.2.2]
  | .nilFn, .nilFn, _ => rfl
  | .nilIface, .nilIface, _ => rfl
  | .iface t v, .iface u x, h => by
    simp only [V.beq, cond_true_iff] at h
    rw [Nat.eq_of_beq_eq_true h.1, V.beq_eq h.2]
  | .agg a, .agg b, h => by simp only [V.beq] at h; rw [V.beqs_eq h]
  | .tup a, .tup b, h => by simp only [V.beq] at h; rw [V.beqs_eq h]
theorem V.beqs_eq : ∀ {a b : List V}, V.beqs a b = true → a = b
  | [], [], _ => rfl
  | a :: x, b :: y, h => by
    simp only [V.beqs, cond_true_iff] at h
    rw [V.beq_eq h.1, V.beqs_eq h.2]
end

/-! ### a finite map on numbers -/
inductive T (α : Type) where
  | nil
  | node (o : Option α) (l r : T α)

def T.get {α : Type} : T α → Nat → Option α
  | .nil, _ => none
  | .node o l r, n => cond (Nat.beq n 0) o (cond (Nat.beq (n % 2) 1) (l.get (n / 2)) (r.get (n / 2 - 1)))

def T.setF {α : Type} : Nat → T α → Nat → α → T α
  | 0, t, _, _ => t
  | f + 1, .nil, n, a => cond (Nat.beq n 0) (.node (some a) .nil .nil) (cond (Nat.beq (n % 2) 1) (.node none (T.setF f .nil (n / 2) a) .nil) (.node none .nil (T.setF f .nil (n / 2 - 1) a)))
  | f + 1, .node o l r, n, a => cond (Nat.beq n 0) (.node (some a) l r) (cond (Nat.beq (n % 2) 1) (.node o (T.setF f l (n / 2) a) r) (.node o l (T.setF f r (n / 2 - 1) a)))

def T.set {α : Type} (t : T α) (n : Nat) (a : α) : T α := T.setF (n + 1) t n a

theorem T.get_setF {α : Type} (a : α) : ∀ (f : Nat) (t : T α) (n m : Nat), n < f → (T.setF f t n a).get m = if m = n then some a else t.get m := by
  intro f
  induction f with
  | zero => intro t n m h; omega
  | succ f ih =>
    intro t n m h
    have key : ∀ (o : Option α) (l r : T α), (T.node o l r).get m = (cond (Nat.beq m 0) o (cond (Nat.beq (m % 2) 1) (l.get (m / 2)) (r.get (m / 2 - 1)))) := fun _ _ _ => rfl
    have b1 : ∀ x y : Nat, Nat.beq x y = decide (x = y) := fun x y => by
      cases h : Nat.beq x y with
      | true => rw [Nat.eq_of_beq_eq_true h]; simp
      | false => rw [decide_eq_false (Nat.ne_of_beq_eq_false h)]
    cases t with
    | nil =>
      simp only [T.setF]
      by_cases n0 : n = 0
      · subst n0
        simp only [b1, decide_true, cond_true, key]
        by_cases m0 : m = 0 <;> simp [m0, T.get]
      · by_cases n1 : n % 2 = 1
        · simp only [b1, n0, n1, decide_true, decide_false, cond_true, cond_false, key]
          by_cases m0 : m = 0
          · have : ¬ (0 = n) := fun e => n0 e.symm
            simp [m0, this, T.get]
          · by_cases m1 : m % 2 = 1
            · simp only [m0, m1, decide_true, decide_false, cond_true, cond_false]
              rw [ih _ _ _ (by omega)]
              by_cases e : m = n
              · simp [e]
              · rw [if_neg (by omega), if_neg e]; simp [T.get]
            · have : ¬ m = n := fun e => m1 (e ▸ n1)
              simp [m0, m1, this, T.get]
        · simp only [b1, n0, n1, decide_false, cond_false, key]
          by_cases m0 : m = 0
          · have : ¬ (0 = n) := fun e => n0 e.symm
            simp [m0, this, T.get]
          · by_cases m1 : m % 2 = 1
            · have : ¬ m = n := fun e => n1 (e ▸ m1)
              simp [m0, m1, this, T.get]
            · simp only [m0, m1, decide_false, cond_false]
              rw [ih _ _ _ (by omega)]
              by_cases e : m = n
              · simp [e]
              · rw [if_neg (by omega), if_neg e]; simp [T.get]
    | node o l r =>
      simp only [T.setF]
      by_cases n0 : n = 0
      · subst n0
        simp only [b1, decide_true, cond_true, key]
        by_cases m0 : m = 0 <;> simp [m0]
      · by_cases n1 : n % 2 = 1
        · simp only [b1, n0, n1, decide_true, decide_false, cond_true, cond_false, key]
          by_cases m0 : m = 0
          · have : ¬ (0 = n) := fun e => n0 e.symm
            simp [m0, this]
          · by_cases m1 : m % 2 = 1
            · simp only [m0, m1, decide_true, decide_false, cond_true, cond_false]
              rw [ih _ _ _ (by omega)]
              by_cases e : m = n
              · simp [e]
              · rw [if_neg (by omega), if_neg e]
            · have : ¬ m = n := fun e => m1 (e ▸ n1)
              simp [m0, m1, this]
        · simp only [b1, n0, n1, decide_false, cond_false, key]
          by_cases m0 : m = 0
          · have : ¬ (0 = n) := fun e => n0 e.symm
            simp [m0, this]
          · by_cases m1 : m % 2 = 1
            · have : ¬ m = n := fun e => n1 (e ▸ m1)
              simp [m0, m1, this]
            · simp only [m0, m1, decide_false, cond_false]
              rw [ih _ _ _ (by omega)]
              by_cases e : m = n
              · simp [e]
              · rw [if_neg (by omega), if_neg e]

theorem T.get_set {α : Type} (t : T α) (n m : Nat) (a : α) : (t.set n a).get m = if m = n then some a else t.get m :=
  T.get_setF a (n + 1) t n m (by omega)
@[simp] theorem T.get_nil {α : Type} (n : Nat) : (T.nil : T α).get n = none := rfl

/-! ### memory -/
/-- A row of cells (only read, or the machine's own: behind what is seen there may be room); a map, its entries in the order in which they came; a range over a string; what is no longer looked at. -/
inductive O where
  | cells (cs : List V) (ro : Bool)
  | map (es : List (V × V))
  | strIter (s : List UInt8) (pos : Nat)
  | dead

structure Mem where
  next : Nat
  tr : T O

def Mem.empty : Mem := ⟨0, .nil⟩
def Mem.get (M : Mem) (b : Nat) : Option O := M.tr.get b
def Mem.set (M : Mem) (b : Nat) (o : O) : Mem := ⟨M.next, M.tr.set b o⟩
def Mem.push (M : Mem) (o : O) : Mem := ⟨M.next + 1, M.tr.set M.next o⟩

theorem Mem.get_set (M : Mem) (b c : Nat) (o : O) : (M.set b o).get c = if c = b then some o else M.get c := T.get_set _ _ _ _
theorem Mem.get_push (M : Mem) (c : Nat) (o : O) : (M.push o).get c = if c = M.next then some o else M.get c := T.get_set _ _ _ _
@[simp] theorem Mem.next_set (M : Mem) (b : Nat) (o : O) : (M.set b o).next = M.next := rfl
@[simp] theorem Mem.next_push (M : Mem) (o : O) : (M.push o).next = M.next + 1 := rfl
theorem Mem.get_set_same (M : Mem) (b : Nat) (o : O) : (M.set b o).get b = some o := by rw [Mem.get_set, if_pos rfl]
theorem Mem.get_set_ne (M : Mem) {b c : Nat} (o : O) (h : c ≠ b) : (M.set b o).get c = M.get c := by rw [Mem.get_set, if_neg h]
theorem Mem.get_push_same (M : Mem) (o : O) : (M.push o).get M.next = some o := by rw [Mem.get_push, if_pos rfl]
theorem Mem.get_push_ne (M : Mem) {c : Nat} (o : O) (h : c ≠ M.next) : (M.push o).get c = M.get c := by rw [Mem.get_push, if_neg h]

end Go.Am
