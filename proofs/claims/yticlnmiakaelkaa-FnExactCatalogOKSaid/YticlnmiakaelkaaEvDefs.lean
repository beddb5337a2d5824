/- The evaluator: abstract values, environments, one step a construct. No program of the claim is named here. -/
import Derived.Calls
namespace Go.Ev

/-- How a value is read: a Lean type for it. A struct is pairs, closed by 'unit'. -/
inductive Ty where
  | int (k : IntKind) | bool | str | sl (t : Ty) | pair (a b : Ty) | unit

def kEq : IntKind → IntKind → Bool
  | .i8, .i8 | .i16, .i16 | .i32, .i32 | .i64, .i64 | .u8, .u8 | .u16, .u16 | .u32, .u32 | .u64, .u64 => true
  | _, _ => false

@[reducible] def Ty.den : Ty → Type
  | .int _ => Int
  | .bool => Bool
  | .str => List UInt8
  | .sl t => List t.den
  | .pair a b => a.den × b.den
  | .unit => Unit

/-- The zero value. -/
def Ty.zero : (t : Ty) → t.den
  | .int _ => (0 : Int)
  | .bool => false
  | .str => ([] : List UInt8)
  | .sl _ => []
  | .pair a b => (a.zero, b.zero)
  | .unit => ()

def Ty.size : Ty → Nat
  | .pair a b => a.size + b.size
  | .unit => 0
  | _ => 1

def Ty.isAgg : Ty → Bool
  | .pair .. | .unit => true
  | _ => false

theorem kEq_eq : ∀ {a b : IntKind}, kEq a b = true → a = b := by intro a b; cases a <;> cases b <;> simp [kEq]

def Ty.decEq : (a b : Ty) → Decidable (a = b)
  | .int j, .int k => match h : kEq j k with
    | true => .isTrue (by rw [kEq_eq h])
    | false => .isFalse (by intro e; cases e; cases j <;> simp [kEq] at h)
  | .bool, .bool => .isTrue rfl
  | .str, .str => .isTrue rfl
  | .unit, .unit => .isTrue rfl
  | .sl a, .sl b => match Ty.decEq a b with
    | .isTrue h => .isTrue (by rw [h])
    | .isFalse h => .isFalse (by intro e; cases e; exact h rfl)
  | .pair a b, .pair c d => match Ty.decEq a c, Ty.decEq b d with
    | .isTrue h, .isTrue g => .isTrue (by rw [h, g])
    | .isFalse h, _ => .isFalse (by intro e; cases e; exact h rfl)
    | _, .isFalse h => .isFalse (by intro e; cases e; exact h rfl)
  | .int _, .bool | .int _, .str | .int _, .sl _ | .int _, .pair .. | .int _, .unit
  | .bool, .int _ | .bool, .str | .bool, .sl _ | .bool, .pair .. | .bool, .unit
  | .str, .int _ | .str, .bool | .str, .sl _ | .str, .pair .. | .str, .unit
  | .sl _, .int _ | .sl _, .bool | .sl _, .str | .sl _, .pair .. | .sl _, .unit
  | .pair .., .int _ | .pair .., .bool | .pair .., .str | .pair .., .sl _ | .pair .., .unit
  | .unit, .int _ | .unit, .bool | .unit, .str | .unit, .sl _ | .unit, .pair .. => .isFalse (by intro e; cases e)

/-- What a closure has captured: a variable of the frame's own, or memory that only is read. -/
inductive Cap where
  | loc (id : Nat)
  | el (t : Ty) (x : t.den)

/-- The value of one cell. -/
inductive V where
  | i (k : IntKind) (n : Int)
  | b (x : Bool)
  | s (x : List UInt8)
  /-- a slice whose cells nobody writes any more -/
  | sl (t : Ty) (xs : List t.den)
  | nil
  /-- a row of the frame's own -/
  | row (id : Nat)
  /-- a place in a variable of the frame's own -/
  | loc (id off : Nat)
  /-- a place in a value that nobody writes any more -/
  | el (t : Ty) (x : t.den) (off : Nat)
  /-- a place in an element of a row of the frame's own: the row, an element's size, which, where in it -/
  | rel (id sz j off : Nat)
  | clo (f : Nat) (caps : List Cap)

inductive SV where
  | one (v : V)
  | agg (vs : List V)
  | tup (vs : List (Bool × List V))

inductive Obj where
  | var (vs : List V)
  /-- a row that only this frame knows: its element's type number -/
  | row (T : Nat) (t : Ty) (xs : List t.den)
  /-- a row that is written no more -/
  | frow (t : Ty) (xs : List t.den)

structure Env where
  slots : List (Nat × SV)
  objs : List (Nat × Obj)
  next : Nat

def find {α : Type} : List (Nat × α) → Nat → Option α
  | [], _ => none
  | (k, v) :: r, i => match Nat.beq k i with
    | true => some v
    | false => find r i

def upd {α : Type} : List (Nat × α) → Nat → α → List (Nat × α)
  | [], _, _ => []
  | (k, v) :: r, i, x => match Nat.beq k i with
    | true => (k, x) :: r
    | false => (k, v) :: upd r i x

def Env.get (e : Env) (t : Nat) : Option SV := find e.slots t
def Env.set (e : Env) (t : Nat) (v : SV) : Env := ⟨(t, v) :: e.slots, e.objs, e.next⟩
def Env.put (e : Env) (d : Option Nat) (v : SV) : Env := match d with
  | some t => e.set t v
  | none => e
def Env.obj (e : Env) (i : Nat) : Option Obj := find e.objs i
def Env.setObj (e : Env) (i : Nat) (o : Obj) : Env := ⟨e.slots, upd e.objs i o, e.next⟩
def Env.new (e : Env) (o : Obj) : Env := ⟨e.slots, (e.next, o) :: e.objs, e.next + 1⟩

/-! ### a typed value and its cells -/
def enc : (t : Ty) → t.den → List V → List V
  | .int k, x, r => V.i k x :: r
  | .bool, x, r => V.b x :: r
  | .str, x, r => V.s x :: r
  | .sl t, xs, r => V.sl t xs :: r
  | .pair a b, x, r => enc a x.1 (enc b x.2 r)
  | .unit, _, r => r

def cast? (a b : Ty) (x : a.den) : Option b.den := match Ty.decEq a b with
  | .isTrue h => some (h ▸ x)
  | .isFalse _ => none

/-- A value out of its cells; the frame's own rows are read as they are, unless 'st'. -/
def dec (st : Bool) (os : List (Nat × Obj)) : (t : Ty) → List V → Option (t.den × List V)
  | .int k, V.i j n :: r => match kEq k j with
    | true => some (n, r)
    | false => none
  | .bool, V.b x :: r => some (x, r)
  | .str, V.s x :: r => some (x, r)
  | .sl t, V.sl u xs :: r => match cast? (.sl u) (.sl t) xs with
    | some ys => some (ys, r)
    | none => none
  | .sl _, V.nil :: r => some ([], r)
  | .sl t, V.row id :: r => match find os id with
    | some (.row _ u xs) => match st with
      | true => none
      | false => match cast? (.sl u) (.sl t) xs with
        | some ys => some (ys, r)
        | none => none
    | some (.frow u xs) => match cast? (.sl u) (.sl t) xs with
      | some ys => some (ys, r)
      | none => none
    | _ => none
  | .pair a b, l => match dec st os a l with
    | some (x, r) => match dec st os b r with
      | some (y, r') => some ((x, y), r')
      | none => none
    | none => none
  | .unit, l => some ((), l)
  | _, _ => none

/-- A value of a type out of all its cells. -/
def decCells (st : Bool) (os : List (Nat × Obj)) (t : Ty) (l : List V) : Option t.den := match dec st os t l with
  | some (y, []) => some y
  | _ => none

def SV.cells : SV → List V
  | .one v => [v]
  | .agg vs => vs
  | .tup _ => []
def SV.isTup : SV → Bool
  | .tup _ => true
  | _ => false
def ofTy (t : Ty) (x : t.den) : SV := match t.isAgg with
  | true => .agg (enc t x [])
  | false => match enc t x [] with
    | [v] => .one v
    | _ => .tup []
def SV.aggness : SV → Bool
  | .agg _ => true
  | _ => false

/-- A whole value of a type. -/
def decAll (st : Bool) (os : List (Nat × Obj)) (t : Ty) (v : SV) : Option t.den :=
  match v with
  | .tup _ => none
  | .one x => match t.isAgg with
    | true => none
    | false => decCells st os t [x]
  | .agg l => match t.isAgg with
    | false => none
    | true => decCells st os t l

def constV : Value → Option V
  | .int k n => some (.i k n)
  | .bool b => some (.b b)
  | .string s => some (.s s.data.toList)
  | .slice none 0 0 => some .nil
  | _ => none
def constVs : List Value → Option (List V)
  | [] => some []
  | v :: r => match constV v, constVs r with
    | some x, some l => some (x :: l)
    | _, _ => none
def constSV : Value → Option SV
  | .agg cs => match constVs cs.toList with
    | some l => some (.agg l)
    | none => none
  | v => match constV v with
    | some x => some (.one x)
    | none => none

def Env.val (e : Env) : Operand → Option SV
  | .tmp t => e.get t
  | .const v => constSV v
  | .func f => some (.one (.clo f []))
  | .global _ => none
def Env.one (e : Env) (o : Operand) : Option V := match e.val o with
  | some (.one v) => some v
  | _ => none

/-! ### the table of types -/
structure TI where
  /-- the value's own type -/
  ty : Ty
  bytes : Nat
  /-- the places of a struct's fields, and their sizes -/
  offs : List Nat
  sizes : List Nat
  /-- a slice's element -/
  elem : Nat
abbrev Tab := List (Nat × TI)

/-- The greatest length that a row is let grow to. -/
def capN : Nat := 68719476736

/-- How a function is called: what it takes, what it answers. -/
inductive AT where
  /-- a value -/
  | val (t : Ty)
  /-- the address of memory that is read alone -/
  | ptr (t : Ty)
  /-- a closure over memory that is read alone -/
  | clo (f : Nat) (ts : List Ty)

@[reducible] def dens : List Ty → Type
  | [] => Unit
  | t :: r => t.den × dens r
@[reducible] def AT.den : AT → Type
  | .val t | .ptr t => t.den
  | .clo _ ts => dens ts
@[reducible] def ATs.den : List AT → Type
  | [] => Unit
  | a :: r => a.den × ATs.den r
/-- Several values; no unit behind the last. -/
@[reducible] def den1 : List Ty → Type
  | [] => Unit
  | [t] => t.den
  | t :: u :: r => t.den × den1 (u :: r)
structure Con where
  args : List AT
  res : List Ty
  fn : Nat → ATs.den args → Option (den1 res)

/-- No slice in it. -/
def Ty.flat : Ty → Bool
  | .sl _ => false
  | .pair a b => a.flat && b.flat
  | _ => true
def flatAll : List Ty → Bool
  | [] => true
  | t :: r => t.flat && flatAll r

/-! ### packs: what lives on at a loop's head -/
inductive Item where
  /-- a slot with a value -/
  | val (s : Nat) (t : Ty)
  /-- a slot with the address of a variable of the frame's own; which of its cells are rows of the frame's own, and their elements' type numbers -/
  | var (s : Nat) (t : Ty) (own : List (Nat × Nat))
  /-- a slot with a row of the frame's own -/
  | row (s : Nat) (T : Nat) (t : Ty)
  /-- a slot with the address of a value that nobody writes -/
  | el (s : Nat) (t : Ty)
  /-- a slot with a closure over memory that is read alone -/
  | clo (s : Nat) (f : Nat) (ts : List Ty)
@[reducible] def Item.den : Item → Type
  | .val _ t | .var _ t _ | .el _ t => t.den
  | .row _ _ t => List t.den
  | .clo _ _ ts => dens ts
@[reducible] def Items.den : List Item → Type
  | [] => Unit
  | [a] => a.den
  | a :: b :: r => a.den × Items.den (b :: r)

end Go.Ev
