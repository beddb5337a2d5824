/- The evaluator and its soundness, part 1. -/
import Derived.Calls
import Derived.Laws.Entries
import Derived.Below
import Derived.Deep.MidRow
import Derived.Great.BuildSlice
import Derived.Laws.MakeOwn
import Derived.Laws.OwnMore
import Derived.Laws.Slices
import Derived.Laws.StructEq
import Derived.Laws.Small
import Derived.ChangeKeysEq
section
/- The evaluator: abstract values, environments, one step a construct. No program of the claim is named here. -/
namespace Go.Ev

/-- How a value is read: a Lean type for it. A struct is pairs, closed by 'unit'. -/
inductive Ty where
  | int (k : IntKind) | bool | str | sl (t : Ty) | pair (a b : Ty) | unit
  /-- one cell of which nothing is known -/
  | any

def kEq : IntKind → IntKind → Bool
  | .i8, .i8 | .i16, .i16 | .i32, .i32 | .i64, .i64 | .u8, .u8 | .u16, .u16 | .u32, .u32 | .u64, .u64 => true
  | _, _ => false

@[reducible] def Ty.den : Ty → Type
  | .int _ => Int
  | .bool => Bool
  | .str => List UInt8
  | .sl t => List t.den
  | .pair a b => a.den × b.den
  | .unit => Unit
  | .any => Unit

/-- An array, as its elements one by one. -/
def arrTy : Nat → Ty → Ty
  | 0, _ => .unit
  | n + 1, t => .pair t (arrTy n t)
/-- The zero value. -/
def Ty.zero : (t : Ty) → t.den
  | .int _ => (0 : Int)
  | .bool => false
  | .str => ([] : List UInt8)
  | .sl _ => []
  | .pair a b => (a.zero, b.zero)
  | .unit => ()
  | .any => ()

def Ty.size : Ty → Nat
  | .pair a b => a.size + b.size
  | .unit => 0
  | _ => 1

def Ty.isAgg : Ty → Bool
  | .pair .. | .unit => true
  | _ => false

theorem kEq_eq : ∀ {a b : IntKind}, kEq a b = true → a = b := by intro a b; cases a <;> cases b <;> simp [kEq]

def Ty.decEq : (a b : Ty) → Decidable (a = b)
  | .int j, .int k => match h : kEq j k with
    | true => .isTrue (by rw [kEq_eq h])
    | false => .isFalse (by intro e; cases e; cases j <;> simp [kEq] at h)
  | .bool, .bool => .isTrue rfl
  | .str, .str => .isTrue rfl
  | .unit, .unit => .isTrue rfl
  | .any, .any => .isTrue rfl
  | .sl a, .sl b => match Ty.decEq a b with
    | .isTrue h => .isTrue (by rw [h])
    | .isFalse h => .isFalse (by intro e; cases e; exact h rfl)
  | .pair a b, .pair c d => match Ty.decEq a c, Ty.decEq b d with
    | .isTrue h, .isTrue g => .isTrue (by rw [h, g])
    | .isFalse h, _ => .isFalse (by intro e; cases e; exact h rfl)
    | _, .isFalse h => .isFalse (by intro e; cases e; exact h rfl)
  | .int _, .bool | .int _, .str | .int _, .sl _ | .int _, .pair .. | .int _, .unit
  | .bool, .int _ | .bool, .str | .bool, .sl _ | .bool, .pair .. | .bool, .unit
  | .str, .int _ | .str, .bool | .str, .sl _ | .str, .pair .. | .str, .unit
  | .sl _, .int _ | .sl _, .bool | .sl _, .str | .sl _, .pair .. | .sl _, .unit
  | .pair .., .int _ | .pair .., .bool | .pair .., .str | .pair .., .sl _ | .pair .., .unit
  | .unit, .int _ | .unit, .bool | .unit, .str | .unit, .sl _ | .unit, .pair ..
  | .any, .int _ | .any, .bool | .any, .str | .any, .sl _ | .any, .pair .. | .any, .unit
  | .int _, .any | .bool, .any | .str, .any | .sl _, .any | .pair .., .any | .unit, .any => .isFalse (by intro e; cases e)

/-- What a closure has captured: a variable of the frame's own, or memory that only is read. -/
inductive Cap where
  | loc (id : Nat)
  | el (t : Ty) (x : t.den)

/-- The value of one cell. -/
inductive V where
  | i (k : IntKind) (n : Int)
  | b (x : Bool)
  | s (x : List UInt8)
  /-- a slice whose cells nobody writes any more -/
  | sl (t : Ty) (xs : List t.den)
  | nil
  /-- a row of the frame's own -/
  | row (id : Nat)
  /-- a place in a variable of the frame's own -/
  | loc (id off : Nat)
  /-- a place in a value that nobody writes any more -/
  | el (t : Ty) (x : t.den) (off : Nat)
  /-- a place in an element of a row of the frame's own: the row, an element's size, which, where in it -/
  | rel (id sz j off : Nat)
  | clo (f : Nat) (caps : List Cap)
  /-- a row of the frame's own in an interface of a slice's type -/
  | ifc (T id : Nat)
  /-- one cell of which nothing is known -/
  | any

inductive SV where
  | one (v : V)
  | agg (vs : List V)
  | tup (vs : List (Bool × List V))

inductive Obj where
  | var (vs : List V)
  /-- a row that only this frame knows: its element's type number -/
  | row (T : Nat) (t : Ty) (xs : List t.den)
  /-- a row that is written no more -/
  | frow (t : Ty) (xs : List t.den)

structure Env where
  slots : List (Nat × SV)
  objs : List (Nat × Obj)
  next : Nat

def find {α : Type} : List (Nat × α) → Nat → Option α
  | [], _ => none
  | (k, v) :: r, i => match Nat.beq k i with
    | true => some v
    | false => find r i

def upd {α : Type} : List (Nat × α) → Nat → α → List (Nat × α)
  | [], _, _ => []
  | (k, v) :: r, i, x => match Nat.beq k i with
    | true => (k, x) :: r
    | false => (k, v) :: upd r i x

def Env.get (e : Env) (t : Nat) : Option SV := find e.slots t
def Env.set (e : Env) (t : Nat) (v : SV) : Env := ⟨(t, v) :: e.slots, e.objs, e.next⟩
def Env.put (e : Env) (d : Option Nat) (v : SV) : Env := match d with
  | some t => e.set t v
  | none => e
def Env.obj (e : Env) (i : Nat) : Option Obj := find e.objs i
def Env.setObj (e : Env) (i : Nat) (o : Obj) : Env := ⟨e.slots, upd e.objs i o, e.next⟩
def Env.new (e : Env) (o : Obj) : Env := ⟨e.slots, (e.next, o) :: e.objs, e.next + 1⟩

/-! ### a typed value and its cells -/
def enc : (t : Ty) → t.den → List V → List V
  | .int k, x, r => V.i k x :: r
  | .bool, x, r => V.b x :: r
  | .str, x, r => V.s x :: r
  | .sl t, xs, r => V.sl t xs :: r
  | .pair a b, x, r => enc a x.1 (enc b x.2 r)
  | .unit, _, r => r
  | .any, _, r => V.any :: r

def cast? (a b : Ty) (x : a.den) : Option b.den := match Ty.decEq a b with
  | .isTrue h => some (h ▸ x)
  | .isFalse _ => none

/-- A value out of its cells; the frame's own rows are read as they are, unless 'st'. -/
def dec (st : Bool) (os : List (Nat × Obj)) : (t : Ty) → List V → Option (t.den × List V)
  | .int k, V.i j n :: r => match kEq k j with
    | true => some (n, r)
    | false => none
  | .bool, V.b x :: r => some (x, r)
  | .str, V.s x :: r => some (x, r)
  | .sl t, V.sl u xs :: r => match cast? (.sl u) (.sl t) xs with
    | some ys => some (ys, r)
    | none => none
  | .sl _, V.nil :: r => some ([], r)
  | .sl t, V.row id :: r => match find os id with
    | some (.row _ u xs) => match st with
      | true => none
      | false => match cast? (.sl u) (.sl t) xs with
        | some ys => some (ys, r)
        | none => none
    | some (.frow u xs) => match cast? (.sl u) (.sl t) xs with
      | some ys => some (ys, r)
      | none => none
    | _ => none
  | .pair a b, l => match dec st os a l with
    | some (x, r) => match dec st os b r with
      | some (y, r') => some ((x, y), r')
      | none => none
    | none => none
  | .unit, l => some ((), l)
  | .any, V.any :: r => some ((), r)
  | _, _ => none

/-- A value of a type out of all its cells. -/
def decCells (st : Bool) (os : List (Nat × Obj)) (t : Ty) (l : List V) : Option t.den := match dec st os t l with
  | some (y, []) => some y
  | _ => none

def SV.cells : SV → List V
  | .one v => [v]
  | .agg vs => vs
  | .tup _ => []
def SV.isTup : SV → Bool
  | .tup _ => true
  | _ => false
def ofTy (t : Ty) (x : t.den) : SV := match t.isAgg with
  | true => .agg (enc t x [])
  | false => match enc t x [] with
    | [v] => .one v
    | _ => .tup []
def SV.aggness : SV → Bool
  | .agg _ => true
  | _ => false

/-- A whole value of a type. -/
def decAll (st : Bool) (os : List (Nat × Obj)) (t : Ty) (v : SV) : Option t.den :=
  match v with
  | .tup _ => none
  | .one x => match t.isAgg with
    | true => none
    | false => decCells st os t [x]
  | .agg l => match t.isAgg with
    | false => none
    | true => decCells st os t l

def constV : Value → Option V
  | .int k n => some (.i k n)
  | .bool b => some (.b b)
  | .string s => some (.s s.data.toList)
  | .slice none 0 0 => some .nil
  | _ => none
def constVs : List Value → Option (List V)
  | [] => some []
  | v :: r => match constV v, constVs r with
    | some x, some l => some (x :: l)
    | _, _ => none
def constSV : Value → Option SV
  | .agg cs => match constVs cs.toList with
    | some l => some (.agg l)
    | none => none
  | v => match constV v with
    | some x => some (.one x)
    | none => none

def Env.val (e : Env) : Operand → Option SV
  | .tmp t => e.get t
  | .const v => constSV v
  | .func f => some (.one (.clo f []))
  | .global _ => none
def Env.one (e : Env) (o : Operand) : Option V := match e.val o with
  | some (.one v) => some v
  | _ => none

/-! ### the table of types -/
structure TI where
  /-- the value's own type -/
  ty : Ty
  bytes : Nat
  /-- the places of a struct's fields, and their sizes -/
  offs : List Nat
  sizes : List Nat
  /-- a slice's element -/
  elem : Nat
abbrev Tab := List (Nat × TI)

/-- The greatest length that a row is let grow to. -/
def capN : Nat := 68719476736

/-- How a function is called: what it takes, what it answers. -/
inductive AT where
  /-- a value -/
  | val (t : Ty)
  /-- the address of memory that is read alone -/
  | ptr (t : Ty)
  /-- a closure over memory that is read alone -/
  | clo (f : Nat) (ts : List Ty)
  /-- a slice that is sorted in place: of which types -/
  | srt (Ts : List Nat)

@[reducible] def dens : List Ty → Type
  | [] => Unit
  | t :: r => t.den × dens r
@[reducible] def AT.den : AT → Type
  | .val t | .ptr t => t.den
  | .clo _ ts => dens ts
  | .srt _ => Unit
@[reducible] def ATs.den : List AT → Type
  | [] => Unit
  | a :: r => a.den × ATs.den r
/-- Several values; no unit behind the last. -/
@[reducible] def den1 : List Ty → Type
  | [] => Unit
  | [t] => t.den
  | t :: u :: r => t.den × den1 (u :: r)
structure Con where
  args : List AT
  res : List Ty
  fn : Nat → ATs.den args → Option (den1 res)

/-- No slice in it. -/
def Ty.flat : Ty → Bool
  | .sl _ => false
  | .any => false
  | .pair a b => a.flat && b.flat
  | _ => true
def flatAll : List Ty → Bool
  | [] => true
  | t :: r => t.flat && flatAll r

/-! ### packs: what lives on at a loop's head -/
inductive Item where
  /-- a slot with a value -/
  | val (s : Nat) (t : Ty)
  /-- a slot with the address of a variable of the frame's own; which of its cells are rows of the frame's own, and their elements' type numbers -/
  | var (s : Nat) (t : Ty) (own : List (Nat × Nat))
  /-- a slot with a row of the frame's own -/
  | row (s : Nat) (T : Nat) (t : Ty)
  /-- a slot with the address of a value that nobody writes -/
  | el (s : Nat) (t : Ty)
  /-- a slot with a closure over memory that is read alone -/
  | clo (s : Nat) (f : Nat) (ts : List Ty)
@[reducible] def Item.den : Item → Type
  | .val _ t | .var _ t _ | .el _ t => t.den
  | .row _ _ t => List t.den
  | .clo _ _ ts => dens ts
@[reducible] def Items.den : List Item → Type
  | [] => Unit
  | [a] => a.den
  | a :: b :: r => a.den × Items.den (b :: r)

end Go.Ev
end

section
/- Stable order: merging sorted lists, plain. -/
set_option linter.unusedSimpArgs false
set_option linter.unusedVariables false
namespace Go.Ev
/-- a strict weak order -/
structure Weak {α : Type} (lt : α → α → Bool) : Prop where
  asym : ∀ a b, lt a b = true → lt b a = false
  neg : ∀ a b c, lt a b = false → lt b c = false → lt a c = false
section
variable {α : Type} {lt : α → α → Bool}
theorem Weak.irr (h : Weak lt) (a : α) : lt a a = false := by
  cases e : lt a a with
  | false => rfl
  | true => exact absurd (h.asym a a e) (by simp [e])
theorem Weak.trans (h : Weak lt) {a b c : α} (h1 : lt a b = true) (h2 : lt b c = true) : lt a c = true := by
  cases e : lt a c with
  | true => rfl
  | false =>
    have := h.neg a c b e (h.asym b c h2)
    rw [h1] at this; cases this
theorem Weak.left (h : Weak lt) {a b c : α} (h1 : lt a b = true) (h2 : lt c b = false) : lt a c = true := by
  cases e : lt a c with
  | true => rfl
  | false =>
    have := h.neg a c b e h2
    rw [h1] at this; cases this
theorem Weak.right (h : Weak lt) {a b c : α} (h1 : lt b a = false) (h2 : lt b c = true) : lt a c = true := by
  cases e : lt a c with
  | true => rfl
  | false =>
    have := h.neg b a c h1 e
    rw [h2] at this; cases this
/-- two lists as one: of equals, the first list's first -/
def mrg (lt : α → α → Bool) : List α → List α → List α
  | [], ys => ys
  | xs, [] => xs
  | x :: xs, y :: ys => if lt y x = true then y :: mrg lt (x :: xs) ys else x :: mrg lt xs (y :: ys)
termination_by xs ys => xs.length + ys.length
theorem mrg_nil (xs : List α) : mrg lt xs [] = xs := by cases xs <;> simp [mrg]
theorem nil_mrg (ys : List α) : mrg lt [] ys = ys := by simp [mrg]
theorem mrg_cons (x y : α) (xs ys : List α) : mrg lt (x :: xs) (y :: ys) = if lt y x = true then y :: mrg lt (x :: xs) ys else x :: mrg lt xs (y :: ys) := by rw [mrg]
theorem mrg_length : ∀ (xs ys : List α), (mrg lt xs ys).length = xs.length + ys.length
  | [], ys => by simp [mrg]
  | x :: xs, [] => by simp [mrg]
  | x :: xs, y :: ys => by
    rw [mrg_cons]
    split
    · simp [mrg_length (x :: xs) ys]; omega
    · simp [mrg_length xs (y :: ys)]; omega
termination_by xs ys => xs.length + ys.length
theorem mrg_perm : ∀ (xs ys : List α), (mrg lt xs ys).Perm (xs ++ ys)
  | [], ys => by simp [mrg]
  | x :: xs, [] => by simp [mrg]
  | x :: xs, y :: ys => by
    rw [mrg_cons]
    split
    · exact ((mrg_perm (x :: xs) ys).cons y).trans (List.perm_middle (l₁ := x :: xs)).symm
    · exact (mrg_perm xs (y :: ys)).cons x
termination_by xs ys => xs.length + ys.length
theorem mem_mrg {a : α} {xs ys : List α} : a ∈ mrg lt xs ys ↔ a ∈ xs ∨ a ∈ ys := by rw [(mrg_perm xs ys).mem_iff, List.mem_append]
/-- in order: none is less than one ahead of it -/
def Srt (lt : α → α → Bool) (xs : List α) : Prop := xs.Pairwise fun a b => lt b a = false
theorem mrg_srt (h : Weak lt) : ∀ {xs ys : List α}, Srt lt xs → Srt lt ys → Srt lt (mrg lt xs ys)
  | [], ys, _, hy => by simpa [mrg] using hy
  | x :: xs, [], hx, _ => by simpa [mrg] using hx
  | x :: xs, y :: ys, hx, hy => by
    have hx' := List.pairwise_cons.1 hx
    have hy' := List.pairwise_cons.1 hy
    rw [mrg_cons]
    split
    · rename_i e
      refine List.pairwise_cons.2 ⟨fun a ha => ?_, mrg_srt h hx hy'.2⟩
      rcases mem_mrg.1 ha with ha | ha
      · rcases List.mem_cons.1 ha with rfl | ha
        · exact h.asym _ _ e
        · exact h.neg _ _ _ (hx'.1 a ha) (h.asym _ _ e)
      · exact hy'.1 a ha
    · rename_i e
      have e : lt y x = false := by simpa using e
      refine List.pairwise_cons.2 ⟨fun a ha => ?_, mrg_srt h hx'.2 hy⟩
      rcases mem_mrg.1 ha with ha | ha
      · exact hx'.1 a ha
      · rcases List.mem_cons.1 ha with rfl | ha
        · exact e
        · exact h.neg _ _ _ (hy'.1 a ha) e
termination_by xs ys => xs.length + ys.length
theorem mrg_assoc (h : Weak lt) : ∀ (xs ys zs : List α), mrg lt xs (mrg lt ys zs) = mrg lt (mrg lt xs ys) zs
  | [], ys, zs => by simp [mrg]
  | x :: xs, [], zs => by simp [mrg]
  | x :: xs, y :: ys, [] => by simp [mrg_nil]
  | x :: xs, y :: ys, z :: zs => by
    rw [mrg_cons y z, mrg_cons x y]
    by_cases a : lt z y = true
    · rw [if_pos a, mrg_cons x z]
      by_cases b : lt y x = true
      · rw [if_pos b, if_pos (h.trans a b), mrg_cons y z, if_pos a]
        have := mrg_assoc h (x :: xs) (y :: ys) zs
        rw [this, mrg_cons x y, if_pos b]
      · rw [if_neg b, mrg_cons x z]
        by_cases c : lt z x = true
        · rw [if_pos c, if_pos c]
          have := mrg_assoc h (x :: xs) (y :: ys) zs
          rw [this, mrg_cons x y, if_neg b]
        · rw [if_neg c, if_neg c]
          have := mrg_assoc h xs (y :: ys) (z :: zs)
          rw [mrg_cons y z, if_pos a] at this
          rw [this]
    · have a' : lt z y = false := by simpa using a
      rw [if_neg a, mrg_cons x y]
      by_cases b : lt y x = true
      · rw [if_pos b, if_pos b, mrg_cons y z, if_neg a]
        have := mrg_assoc h (x :: xs) ys (z :: zs)
        rw [this]
      · have b' : lt y x = false := by simpa using b
        rw [if_neg b, if_neg b, mrg_cons x z, if_neg (by simp [h.neg z y x a' b'])]
        have := mrg_assoc h xs (y :: ys) (z :: zs)
        rw [mrg_cons y z, if_neg a] at this
        rw [this]
termination_by xs ys zs => xs.length + ys.length + zs.length
/-- the stable order of a list -/
def stab (lt : α → α → Bool) : List α → List α
  | [] => []
  | x :: xs => mrg lt [x] (stab lt xs)
theorem stab_append (h : Weak lt) : ∀ (xs ys : List α), stab lt (xs ++ ys) = mrg lt (stab lt xs) (stab lt ys)
  | [], ys => by simp [stab, mrg]
  | x :: xs, ys => by
    simp only [List.cons_append, stab]
    rw [stab_append h xs ys, mrg_assoc h]
theorem stab_one (x : α) : stab lt [x] = [x] := by simp [stab, mrg]
theorem stab_perm : ∀ (xs : List α), (stab lt xs).Perm xs
  | [] => by simp [stab]
  | x :: xs => by
    simp only [stab]
    exact (mrg_perm [x] (stab lt xs)).trans ((stab_perm xs).cons x)
theorem stab_length (xs : List α) : (stab lt xs).length = xs.length := (stab_perm xs).length_eq
theorem stab_srt (h : Weak lt) : ∀ (xs : List α), Srt lt (stab lt xs)
  | [] => List.Pairwise.nil
  | x :: xs => mrg_srt h (List.pairwise_singleton _ _) (stab_srt h xs)
/-- Two cuts that fit: each half by itself. -/
theorem mrg_split (h : Weak lt) : ∀ (A1 B1 A2 B2 : List α), (∀ x ∈ A1, ∀ y ∈ B2, lt y x = false) → (∀ y ∈ B1, ∀ x ∈ A2, lt y x = true) → mrg lt (A1 ++ A2) (B1 ++ B2) = mrg lt A1 B1 ++ mrg lt A2 B2
  | [], [], A2, B2, _, _ => by simp [mrg]
  | [], b :: B1, A2, B2, h1, h2 => by
    have ih := mrg_split h [] B1 A2 B2 (fun x hx => by simp at hx) (fun y hy => h2 y (List.mem_cons_of_mem _ hy))
    simp only [List.nil_append, nil_mrg] at ih ⊢
    cases A2 with
    | nil => simp [mrg]
    | cons a A2 =>
      simp only [List.cons_append]
      rw [mrg_cons, if_pos (h2 b List.mem_cons_self a List.mem_cons_self), ih]
  | a :: A1, [], A2, B2, h1, h2 => by
    have ih := mrg_split h A1 [] A2 B2 (fun x hx => h1 x (List.mem_cons_of_mem _ hx)) (fun y hy => by simp at hy)
    simp only [List.nil_append, mrg_nil] at ih ⊢
    cases B2 with
    | nil => simp [mrg_nil]
    | cons b B2 =>
      simp only [List.cons_append]
      rw [mrg_cons, if_neg (by simp [h1 a List.mem_cons_self b List.mem_cons_self]), ih]
  | a :: A1, b :: B1, A2, B2, h1, h2 => by
    simp only [List.cons_append]
    rw [mrg_cons, mrg_cons]
    split
    · have ih := mrg_split h (a :: A1) B1 A2 B2 h1 (fun y hy => h2 y (List.mem_cons_of_mem _ hy))
      simp only [List.cons_append] at ih
      rw [ih]; rfl
    · have ih := mrg_split h A1 (b :: B1) A2 B2 (fun x hx => h1 x (List.mem_cons_of_mem _ hx)) h2
      simp only [List.cons_append] at ih
      rw [ih]; rfl
termination_by A1 B1 => A1.length + B1.length
/-- one more behind a sorted list -/
theorem mrg_one (h : Weak lt) (x : α) : ∀ (A1 A2 : List α), (∀ a ∈ A1, lt x a = false) → (∀ a ∈ A2, lt x a = true) → mrg lt (A1 ++ A2) [x] = A1 ++ x :: A2
  | [], [], _, _ => by simp [mrg]
  | [], a :: A2, _, h2 => by
    simp only [List.nil_append]
    rw [mrg_cons, if_pos (h2 a List.mem_cons_self), mrg_nil]
  | a :: A1, A2, h1, h2 => by
    simp only [List.cons_append]
    rw [mrg_cons, if_neg (by simp [h1 a List.mem_cons_self]), mrg_one h x A1 A2 (fun b hb => h1 b (List.mem_cons_of_mem _ hb)) h2]
theorem one_mrg (h : Weak lt) (x : α) : ∀ (B1 B2 : List α), (∀ b ∈ B1, lt b x = true) → (∀ b ∈ B2, lt b x = false) → mrg lt [x] (B1 ++ B2) = B1 ++ x :: B2
  | [], [], _, _ => by simp [mrg]
  | [], b :: B2, _, h2 => by
    simp only [List.nil_append]
    rw [mrg_cons, if_neg (by simp [h2 b List.mem_cons_self]), nil_mrg]
  | b :: B1, B2, h1, h2 => by
    simp only [List.cons_append]
    rw [mrg_cons, if_pos (h1 b List.mem_cons_self), one_mrg h x B1 B2 (fun c hc => h1 c (List.mem_cons_of_mem _ hc)) h2]
end
end Go.Ev
end

section
/- What a stable sort with a given 'less' makes of a row. -/
set_option linter.unusedVariables false
namespace Go.Ev
/-- 'less' tells, of every order of the elements, what 'lt' tells. -/
def SrtOk {α : Type} (z : α) (less : List α → Int → Int → Option Bool) (xs : List α) (lt : α → α → Bool) : Prop :=
  Weak lt ∧ ∀ ys : List α, ys.length = xs.length → (∀ y ∈ ys, y ∈ xs) → ∀ i j : Nat, i < xs.length → j < xs.length → less ys i j = some (lt (ys.getD i z) (ys.getD j z))
open Classical in
noncomputable def srt {α : Type} (z : α) (less : List α → Int → Int → Option Bool) (xs : List α) : Option (List α) :=
  if xs.length ≤ 1 then some xs else if h : ∃ lt, SrtOk z less xs lt then some (stab (Classical.choose h) xs) else none
theorem srt_small {α : Type} {z : α} {less : List α → Int → Int → Option Bool} {xs : List α} (h : xs.length ≤ 1) : srt z less xs = some xs := by
  unfold srt; rw [if_pos h]
theorem srt_some {α : Type} {z : α} {less : List α → Int → Int → Option Bool} {xs ys : List α} (h : srt z less xs = some ys) (h1 : ¬ xs.length ≤ 1) : ∃ lt, SrtOk z less xs lt ∧ ys = stab lt xs := by
  unfold srt at h
  rw [if_neg h1] at h
  split at h
  · rename_i hh
    exact ⟨_, Classical.choose_spec hh, (Option.some.inj h).symm⟩
  · cases h
theorem mrg_congr {α : Type} {l l' : α → α → Bool} : ∀ (xs ys : List α), (∀ a ∈ xs, ∀ b ∈ ys, l b a = l' b a) → mrg l xs ys = mrg l' xs ys
  | [], ys, _ => by rw [nil_mrg, nil_mrg]
  | x :: xs, [], _ => by rw [mrg_nil, mrg_nil]
  | x :: xs, y :: ys, h => by
    rw [mrg_cons, mrg_cons, h x (by simp) y (by simp), mrg_congr (x :: xs) ys (fun a ha b hb => h a ha b (by simp [hb])), mrg_congr xs (y :: ys) (fun a ha b hb => h a (by simp [ha]) b hb)]
termination_by xs ys => xs.length + ys.length
theorem stab_congr {α : Type} {l l' : α → α → Bool} : ∀ (xs : List α), (∀ a ∈ xs, ∀ b ∈ xs, l a b = l' a b) → stab l xs = stab l' xs
  | [], _ => rfl
  | x :: xs, h => by
    have ih := stab_congr xs fun a ha b hb => h a (by simp [ha]) b (by simp [hb])
    simp only [stab]
    rw [ih]
    exact mrg_congr _ _ fun a ha b hb => by
      have hb' := (stab_perm (lt := l') xs).mem_iff.1 hb
      simp at ha; subst ha
      exact h b (by simp [hb']) a (by simp)
theorem srt_eq {α : Type} {z : α} {less : List α → Int → Int → Option Bool} {xs : List α} {lt : α → α → Bool} (h : SrtOk z less xs lt) : srt z less xs = some (stab lt xs) := by
  by_cases h1 : xs.length ≤ 1
  · rw [srt_small h1]
    match xs, h1 with
    | [], _ => rfl
    | [x], _ => rw [stab_one]
  · have hex : ∃ lt, SrtOk z less xs lt := ⟨lt, h⟩
    unfold srt
    rw [if_neg h1, dif_pos hex]
    congr 1
    refine stab_congr xs fun a ha b hb => ?_
    -- a row that has a and b ahead
    have h0 := Classical.choose_spec hex
    generalize Classical.choose hex = l at h0
    have hlen : 2 ≤ xs.length := by omega
    have e1 := h0.2 (a :: b :: xs.drop 2) (by simp; omega) (by intro y hy; simp at hy; rcases hy with rfl | rfl | hy; exact ha; exact hb; exact List.mem_of_mem_drop hy) 0 1 (by omega) (by omega)
    have e2 := h.2 (a :: b :: xs.drop 2) (by simp; omega) (by intro y hy; simp at hy; rcases hy with rfl | rfl | hy; exact ha; exact hb; exact List.mem_of_mem_drop hy) 0 1 (by omega) (by omega)
    rw [e1] at e2
    simpa using e2
theorem mrg_map {α β : Type} {lt : β → β → Bool} (f : α → β) : ∀ (xs ys : List α), (mrg (fun a b => lt (f a) (f b)) xs ys).map f = mrg lt (xs.map f) (ys.map f)
  | [], ys => by rw [nil_mrg, List.map_nil, nil_mrg]
  | x :: xs, [] => by rw [mrg_nil, List.map_nil, mrg_nil]
  | x :: xs, y :: ys => by
    rw [mrg_cons, List.map_cons, List.map_cons, mrg_cons]
    split
    · rw [List.map_cons, mrg_map f (x :: xs) ys]; rfl
    · rw [List.map_cons, mrg_map f xs (y :: ys)]; rfl
termination_by xs ys => xs.length + ys.length
theorem stab_map {α β : Type} {lt : β → β → Bool} (f : α → β) : ∀ (xs : List α), (stab (fun a b => lt (f a) (f b)) xs).map f = stab lt (xs.map f)
  | [] => rfl
  | x :: xs => by
    simp only [stab, List.map_cons]
    rw [mrg_map, stab_map f xs]; rfl
theorem Weak.on {α β : Type} {lt : β → β → Bool} (h : Weak lt) (f : α → β) : Weak fun a b => lt (f a) (f b) := ⟨fun a b => h.asym _ _, fun a b c => h.neg _ _ _⟩
end Go.Ev
end

section
/- The evaluator's steps. -/
namespace Go.Ev
noncomputable section

def zeros : Ty → List V → List V
  | .int k, r => V.i k 0 :: r
  | .bool, r => V.b false :: r
  | .str, r => V.s [] :: r
  | .sl _, r => V.nil :: r
  | .pair a b, r => zeros a (zeros b r)
  | .unit, r => r
  | .any, r => V.any :: r

def takeN {α : Type} : Nat → List α → List α
  | 0, _ => []
  | _ + 1, [] => []
  | n + 1, a :: l => a :: takeN n l
def dropN {α : Type} : Nat → List α → List α
  | 0, l => l
  | _ + 1, [] => []
  | n + 1, _ :: l => dropN n l
def nth {α : Type} : List α → Nat → Option α
  | [], _ => none
  | a :: _, 0 => some a
  | _ :: l, n + 1 => nth l n
/-- ys in the place of what lies from off on -/
def paste {α : Type} : List α → Nat → List α → List α
  | l, 0, [] => l
  | [], _, _ => []
  | _ :: l, 0, y :: ys => y :: paste l 0 ys
  | a :: l, n + 1, ys => a :: paste l n ys
def lenN {α : Type} : List α → Nat
  | [] => 0
  | _ :: l => lenN l + 1

def br {ρ : Type} (b : Bool) (x y : Option ρ) : Option ρ := cond b x y
def bnd {α ρ : Type} (m : Option α) (f : α → Option ρ) : Option ρ := m.bind f
def onSum {α ρ σ : Type} (r : α ⊕ ρ) (f : α → Option σ) (g : ρ → Option σ) : Option σ := match r with
  | .inl y => f y
  | .inr z => g z
def chk {ρ : Type} (b : Bool) (x : Option ρ) : Option ρ := br b x none

/-- Cells as a value of a type. -/
def asSV (t : Ty) (l : List V) : Option SV := match t.isAgg with
  | true => some (.agg l)
  | false => match l with
    | [v] => some (.one v)
    | _ => none

/-! ### rows that are written no more -/
def freezeRow (os : List (Nat × Obj)) (id : Nat) : List (Nat × Obj) := match find os id with
  | some (.row _ t xs) => upd os id (.frow t xs)
  | _ => os
def freezeAll : List Nat → List (Nat × Obj) → List (Nat × Obj)
  | [], os => os
  | i :: r, os => freezeAll r (freezeRow os i)
def rowIds : List V → List Nat
  | [] => []
  | .row id :: r => id :: rowIds r
  | _ :: r => rowIds r
def rowsOfVar (os : List (Nat × Obj)) (id : Nat) : List Nat := match find os id with
  | some (.var vs) => rowIds vs
  | _ => []
def rowsOfCaps (os : List (Nat × Obj)) : List Cap → List Nat
  | [] => []
  | .loc id :: r => rowsOfVar os id ++ rowsOfCaps os r
  | _ :: r => rowsOfCaps os r
/-- all rows that a callee may come to -/
def reach (os : List (Nat × Obj)) : List V → List Nat
  | [] => []
  | .row id :: r => id :: reach os r
  | .loc id _ :: r => rowsOfVar os id ++ reach os r
  | .clo _ caps :: r => rowsOfCaps os caps ++ reach os r
  | _ :: r => reach os r
def reachAll (os : List (Nat × Obj)) : List SV → List Nat
  | [] => []
  | v :: r => reach os v.cells ++ reachAll os r
def Env.freeze (e : Env) (l : List Nat) : Env := ⟨e.slots, freezeAll l e.objs, e.next⟩

section
variable {ρ : Type} (Γ : Tab)

def evLoad (T : Nat) (a : V) (e : Env) (K : SV → Env → Option ρ) : Option ρ :=
  match find Γ T with
  | some ti => match a with
    | .loc id off => match e.obj id with
      | some (.var vs) => match Nat.ble ti.ty.size (lenN (dropN off vs)) with
        | true => match asSV ti.ty (takeN ti.ty.size (dropN off vs)) with
          | some v => K v e
          | none => none
        | false => none
      | _ => none
    | .el t x off => match Nat.ble ti.ty.size (lenN (dropN off (enc t x []))) with
        | true => match asSV ti.ty (takeN ti.ty.size (dropN off (enc t x []))) with
          | some v => K v e
          | none => none
        | false => none
    | .rel id sz j off => match e.obj id with
      | some (.row _ t xs) => match Nat.beq sz t.size, Nat.ble ti.ty.size (lenN (dropN off (enc t (xs.getD j t.zero) []))) with
        | true, true => match asSV ti.ty (takeN ti.ty.size (dropN off (enc t (xs.getD j t.zero) []))) with
          | some v => K v e
          | none => none
        | _, _ => none
      | _ => none
    | _ => none
  | none => none

def evStore (T : Nat) (a : V) (v : SV) (e : Env) (K : SV → Env → Option ρ) : Option ρ :=
  match find Γ T with
  | some ti => match Nat.beq (lenN v.cells) ti.ty.size, v.isTup with
    | true, false => match a with
      | .loc id off => match e.obj id with
        | some (.var vs) => match Nat.ble (off + ti.ty.size) (lenN vs) with
          | true => K (.tup []) (e.setObj id (.var (paste vs off v.cells)))
          | false => none
        | _ => none
      | .rel id sz j off => match (e.freeze (rowIds v.cells)).obj id with
        | some (.row U t xs) => match Nat.beq sz t.size, Nat.ble (off + ti.ty.size) t.size with
          | true, true => match decCells true (e.freeze (rowIds v.cells)).objs t (paste (enc t (xs.getD j t.zero) []) off v.cells) with
            | some y => K (.tup []) ((e.freeze (rowIds v.cells)).setObj id (.row U t (xs.set j y)))
            | none => none
          | _, _ => none
        | _ => none
      | _ => none
    | _, _ => none
  | none => none

def tyEq (a b : Ty) : Bool := match Ty.decEq a b with
  | .isTrue _ => true
  | .isFalse _ => false

def evInt (op : BinOp) (k : IntKind) (a b : Int) (K : SV → Option ρ) : Option ρ :=
  match op with
  | .add => K (.one (.i k (k.wrap (a + b))))
  | .sub => K (.one (.i k (k.wrap (a - b))))
  | .mul => K (.one (.i k (k.wrap (a * b))))
  | .quo => chk (!(b == 0)) (K (.one (.i k (k.wrap (a.tdiv b)))))
  | .rem => chk (!(b == 0)) (K (.one (.i k (a.tmod b))))
  | .eql => K (.one (.b (a == b)))
  | .neq => K (.one (.b (a != b)))
  | .lss => K (.one (.b (decide (a < b))))
  | .leq => K (.one (.b (decide (a ≤ b))))
  | .gtr => K (.one (.b (decide (a > b))))
  | .geq => K (.one (.b (decide (a ≥ b))))
  | .and => K (.one (.i k (bits .and k a b)))
  | .or => K (.one (.i k (bits .or k a b)))
  | .xor => K (.one (.i k (bits .xor k a b)))
  | .andNot => K (.one (.i k (bits .andNot k a b)))
  | _ => none

def evStr (op : BinOp) (a b : List UInt8) (K : SV → Option ρ) : Option ρ :=
  match op with
  | .add => chk (decide (a.length + b.length ≤ capN)) (K (.one (.s (a ++ b))))
  | .eql => K (.one (.b (a == b)))
  | .neq => K (.one (.b (!(a == b))))
  | .lss => K (.one (.b (Op.bytesLess a b)))
  | .leq => K (.one (.b (Op.bytesLess a b || a == b)))
  | .gtr => K (.one (.b (!(Op.bytesLess a b || a == b))))
  | .geq => K (.one (.b (!Op.bytesLess a b)))
  | _ => none

def eqI (a b : Int) : Bool := a == b
def eqB (a b : Bool) : Bool := a == b
def eqS (a b : List UInt8) : Bool := a == b
def andB (a b : Bool) : Bool := a && b
/-- '==' of two values of a type without slices. -/
def eqT : (t : Ty) → t.den → t.den → Bool
  | .int _, a, b => eqI a b
  | .bool, a, b => eqB a b
  | .str, a, b => eqS a b
  | .sl _, _, _ => false
  | .unit, _, _ => true
  | .any, _, _ => false
  | .pair p q, x, y => andB (eqT p x.1 y.1) (eqT q x.2 y.2)

def evBin (u : Ty) (op : BinOp) (x y : SV) (K : SV → Option ρ) : Option ρ :=
  match x, y with
  | .one (.i k a), .one (.i j b) => match op with
    | .shl => chk (decide (0 ≤ b)) (K (.one (.i k (k.wrap (a * 2 ^ (min b.toNat k.bits))))))
    | .shr => chk (decide (0 ≤ b)) (K (.one (.i k (a.fdiv (2 ^ (min b.toNat k.bits))))))
    | op => match kEq k j with
      | true => evInt op k a b K
      | false => none
  | .one (.b a), .one (.b b) => match u with
    | .bool => match op with
      | .eql => K (.one (.b (a == b)))
      | .neq => K (.one (.b (!(a == b))))
      | _ => none
    | _ => none
  | .one (.s a), .one (.s b) => evStr op a b K
  | .agg l, .agg l' => match u.isAgg && u.flat with
    | true => match op with
      | .eql => match decCells false [] u l, decCells false [] u l' with
        | some a, some b => K (.one (.b (eqT u a b)))
        | _, _ => none
      | .neq => match decCells false [] u l, decCells false [] u l' with
        | some a, some b => K (.one (.b (!eqT u a b)))
        | _, _ => none
      | _ => none
    | false => none
  | _, _ => none

def evUn (op : UnOp) (x : V) (K : SV → Option ρ) : Option ρ :=
  match op, x with
  | .not, .b a => K (.one (.b (!a)))
  | .neg, .i k n => K (.one (.i k (k.wrap (0 - n))))
  | _, _ => none

def lenOf (e : Env) (u : Ty) (v : V) : Option Nat := match u with
  | .str => match v with
    | .s x => some x.length
    | _ => none
  | .sl _ => match v with
    | .sl _ xs => some xs.length
    | .nil => some 0
    | .row id => match e.obj id with
      | some (.row _ _ xs) => some xs.length
      | some (.frow _ xs) => some xs.length
      | _ => none
    | _ => none
  | _ => none

def evIndexAddr (u : Ty) (s : V) (n : Int) (e : Env) (K : SV → Option ρ) : Option ρ :=
  match s with
  | .sl t xs => match tyEq u (.sl t) with
    | true => chk (decide (0 ≤ n)) (chk (decide (n < xs.length)) (K (.one (.el t (xs.getD n.toNat t.zero) 0))))
    | false => none
  | .row id => match e.obj id with
    | some (.row _ t xs) => match tyEq u (.sl t) with
      | true => chk (decide (0 ≤ n)) (chk (decide (n < xs.length)) (K (.one (.rel id t.size n.toNat 0))))
      | false => none
    | some (.frow t xs) => match tyEq u (.sl t) with
      | true => chk (decide (0 ≤ n)) (chk (decide (n < xs.length)) (K (.one (.el t (xs.getD n.toNat t.zero) 0))))
      | false => none
    | _ => none
  | _ => none

/-- 'lo' and 'hi' are numbers, or left out -/
def evSliceN (t : Ty) (xs : List t.den) (lo hi : Option Int) (K : SV → Option ρ) : Option ρ :=
  match lo, hi with
  | none, none => K (.one (.sl t xs))
  | some l, none => chk (decide (0 ≤ l)) (chk (decide (l ≤ xs.length)) (K (.one (.sl t (xs.drop l.toNat)))))
  | none, some h => chk (decide (0 ≤ h)) (chk (decide (h ≤ xs.length)) (K (.one (.sl t (xs.take h.toNat)))))
  | some l, some h => chk (decide (0 ≤ l)) (chk (decide (l ≤ h)) (chk (decide (h ≤ xs.length)) (K (.one (.sl t ((xs.take h.toNat).drop l.toNat))))))
def evSliceS (s : List UInt8) (lo hi : Option Int) (K : SV → Option ρ) : Option ρ :=
  match lo, hi with
  | none, none => K (.one (.s s))
  | some l, none => chk (decide (0 ≤ l)) (chk (decide (l ≤ s.length)) (K (.one (.s (s.drop l.toNat)))))
  | none, some h => chk (decide (0 ≤ h)) (chk (decide (h ≤ s.length)) (K (.one (.s (s.take h.toNat)))))
  | some l, some h => chk (decide (0 ≤ l)) (chk (decide (l ≤ h)) (chk (decide (h ≤ s.length)) (K (.one (.s ((s.take h.toNat).drop l.toNat))))))

def bound (e : Env) : Option Operand → Option (Option Int)
  | none => some none
  | some o => match e.one o with
    | some (.i _ n) => some (some n)
    | _ => none

def evSlice (u : Ty) (x : V) (lo hi : Option Operand) (e : Env) (K : SV → Env → Option ρ) : Option ρ :=
  match bound e lo, bound e hi with
  | some l, some h => match x with
    | .s a => match tyEq u .str with
      | true => evSliceS a l h (fun v => K v e)
      | false => none
    | .sl t xs => match tyEq u (.sl t) with
      | true => evSliceN t xs l h (fun v => K v e)
      | false => none
    | .row id => match (e.freeze [id]).obj id with
      | some (.frow t xs) => match tyEq u (.sl t) with
        | true => evSliceN t xs l h (fun v => K v (e.freeze [id]))
        | false => none
      | _ => none
    | _ => none
  | _, _ => none

/-- What is appended: its type and elements. -/
def source (e : Env) : V → Option (Sigma fun t : Ty => List t.den)
  | .sl t xs => some ⟨t, xs⟩
  | .row id => match e.obj id with
    | some (.row _ t xs) => some ⟨t, xs⟩
    | some (.frow t xs) => some ⟨t, xs⟩
    | _ => none
  | _ => none

def erase (os : List (Nat × Obj)) (id : Nat) : List (Nat × Obj) := match os with
  | [] => []
  | (k, v) :: r => match Nat.beq k id with
    | true => erase r id
    | false => (k, v) :: erase r id

/-- append: T, t: the element's type; ys: what is appended -/
def evAppendTo (T : Nat) (t : Ty) (ys : List t.den) (s : V) (e : Env) (K : SV → Env → Option ρ) : Option ρ :=
  match s with
  | .nil => chk (decide (ys.length ≤ capN)) (K (.one (.row e.next)) (e.new (.row T t ys)))
  | .row id => match e.obj id with
    | some (.row U u xs) => match Nat.beq U T, cast? (.sl u) (.sl t) xs with
      | true, some xs => chk (decide (xs.length + ys.length ≤ capN)) (K (.one (.row e.next)) (Env.new ⟨e.slots, erase e.objs id, e.next⟩ (.row T t (xs ++ ys))))
      | _, _ => none
    | _ => none
  | _ => none

/-- may the appended row be the same row? then no -/
def sameRow : V → V → Bool
  | .row i, .row j => Nat.beq i j
  | _, _ => false

def evAppend (T : Nat) (s x : V) (e : Env) (K : SV → Env → Option ρ) : Option ρ :=
  match find Γ T with
  | some ti => match find Γ ti.elem with
    | some tj => match tyEq ti.ty (.sl tj.ty), sameRow s x with
      | true, false => match source e x with
        | some ⟨t, ys⟩ => match cast? (.sl t) (.sl tj.ty) ys with
          | some ys => evAppendTo ti.elem tj.ty ys s e K
          | none => none
        | none => none
      | _, _ => none
    | none => none
  | none => none

def evBuild (ti : TI) (e : Env) : List (Nat × Operand) → List V → Option (List V)
  | [], acc => some acc
  | (i, o) :: r, acc => match nth ti.offs i, nth ti.sizes i, e.val o with
    | some off, some sz, some v => match v.isTup, Nat.beq sz (lenN v.cells), Nat.ble (off + lenN v.cells) (lenN acc) with
      | false, true, true => evBuild ti e r (paste acc off v.cells)
      | _, _, _ => none
    | _, _, _ => none

/-- an array's elements, each of sz cells -/
def evBuildA (sz : Nat) (e : Env) : List (Nat × Operand) → List V → Option (List V)
  | [], acc => some acc
  | (i, o) :: r, acc => match e.val o with
    | some v => match v.isTup, Nat.beq sz (lenN v.cells), Nat.ble (i * sz + lenN v.cells) (lenN acc) with
      | false, true, true => evBuildA sz e r (paste acc (i * sz) v.cells)
      | _, _, _ => none
    | none => none
/-- cells that are numbers of one kind -/
def intsOf (k : IntKind) : List V → Option (List Int)
  | [] => some []
  | .i j n :: r => match kEq k j, intsOf k r with
    | true, some l => some (n :: l)
    | _, _ => none
  | _ => none
/-- an array's element: numbers alone -/
def evIndexArr (ti : TI) (v : SV) (n : Int) (e : Env) (K : SV → Env → Option ρ) : Option ρ :=
  match v with
  | .agg l => match Nat.beq ti.elem 0, ti.ty.isAgg with
    | false, true => match find Γ ti.elem with
      | some tj => match tj.ty with
        | .int k => match intsOf k l, Nat.beq (lenN l) ti.ty.size with
          | some xs, true => chk (decide (0 ≤ n)) (chk (decide (n < xs.length)) (K (.one (.i k (xs.getD n.toNat 0))) e))
          | _, _ => none
        | _ => none
      | none => none
    | _, _ => none
  | _ => none

def evElems (t : Ty) (e : Env) : Nat → List (Nat × Operand) → Option (List t.den)
  | _, [] => some []
  | n, (i, o) :: r => match Nat.beq i n with
    | true => match e.val o with
      | some v => match decAll true e.objs t v, evElems t e (n + 1) r with
        | some x, some l => some (x :: l)
        | _, _ => none
      | none => none
    | false => none
def partIds (e : Env) : List (Nat × Operand) → List Nat
  | [] => []
  | (_, o) :: r => match e.val o with
    | some v => rowIds v.cells ++ partIds e r
    | none => partIds e r

def evCaps (e : Env) : List Operand → Option (List Cap)
  | [] => some []
  | o :: r => match evCaps e r with
    | some l => match e.one o with
      | some (.loc id 0) => some (.loc id :: l)
      | some (.el t x 0) => some (.el t x :: l)
      | _ => none
    | none => none

def evConv (src dst : Ty) (x : V) (e : Env) (K : SV → Env → Option ρ) : Option ρ :=
  match dst with
  | .int k => match x with
    | .i _ n => K (.one (.i k (k.wrap n))) e
    | _ => none
  | .str => match src with
    | .str => match x with
      | .s a => K (.one (.s a)) e
      | _ => none
    | .sl (.int .u8) => match x with
      | .nil => K (.one (.s [])) e
      | x => match source e x with
        | some ⟨t, xs⟩ => match cast? (.sl t) (.sl (.int .u8)) xs with
          | some ys => K (.one (.s (ys.map fun (n : Int) => UInt8.ofNat n.toNat))) e
          | none => none
        | none => none
    | _ => none
  | .sl (.int .u8) => match src with
    | .str => match x with
      | .s a => K (.one (.sl (.int .u8) (a.map fun b => ((b.toNat : Nat) : Int)))) e
      | _ => none
    | _ => none
  | _ => none

/-! ### calls -/
def varTy (st : Bool) (os : List (Nat × Obj)) (t : Ty) (id : Nat) : Option t.den := match find os id with
  | some (.var vs) => decCells st os t vs
  | _ => none
def capTy (st : Bool) (os : List (Nat × Obj)) (t : Ty) : Cap → Option t.den
  | .loc id => varTy st os t id
  | .el u x => cast? u t x
def bindCaps (st : Bool) (os : List (Nat × Obj)) : (ts : List Ty) → List Cap → Option (dens ts)
  | [], [] => some ()
  | t :: r, c :: cs => match capTy st os t c, bindCaps st os r cs with
    | some x, some y => some (x, y)
    | _, _ => none
  | _, _ => none

def bindArg (st : Bool) (os : List (Nat × Obj)) : (a : AT) → SV → Option a.den
  | .val t, v => decAll st os t v
  | .ptr t, .one (.loc id 0) => varTy st os t id
  | .ptr t, .one (.el u x 0) => cast? u t x
  | .clo f ts, .one (.clo g caps) => match Nat.beq f g with
    | true => bindCaps st os ts caps
    | false => none
  | _, _ => none
def bindArgs (st : Bool) (os : List (Nat × Obj)) : (ats : List AT) → List SV → Option (ATs.den ats)
  | [], [] => some ()
  | a :: r, v :: vs => match bindArg st os a v, bindArgs st os r vs with
    | some x, some y => some (x, y)
    | _, _ => none
  | _, _ => none
/-- Several values, one behind the other. -/
def svs : (ts : List Ty) → den1 ts → List (Bool × List V)
  | [], _ => []
  | [t], x => [(t.isAgg, enc t x [])]
  | t :: u :: r, x => (t.isAgg, enc t x.1 []) :: svs (u :: r) x.2
def resAll : (ts : List Ty) → den1 ts → SV
  | [], _ => .tup []
  | [t], x => ofTy t x
  | t :: u :: r, x => .tup (svs (t :: u :: r) x)

def valAll (e : Env) : List Operand → Option (List SV)
  | [] => some []
  | o :: r => match e.val o, valAll e r with
    | some v, some l => some (v :: l)
    | _, _ => none

def memT : List Nat → Nat → Bool
  | [], _ => false
  | a :: r, x => match Nat.beq a x with
    | true => true
    | false => memT r x
def capSV : Cap → SV
  | .loc id => .one (.loc id 0)
  | .el t x => .one (.el t x 0)

variable (Δ : List (Nat × Con)) (k : Nat)

def evCall (f : Nat) (vs : List SV) (e : Env) (K : SV → Env → Option ρ) : List (Nat × Con) → Option ρ
  | [] => none
  | (g, c) :: r => match Nat.beq f g with
    | true => match flatAll c.res with
      | true => match bindArgs false e.objs c.args vs with
        | some x => bnd (c.fn k x) fun y => K (resAll c.res y) e
        | none => evCall f vs e K r
      | false => match bindArgs true (e.freeze (reachAll e.objs vs)).objs c.args vs with
        | some x => bnd (c.fn k x) fun y => K (resAll c.res y) (e.freeze (reachAll e.objs vs))
        | none => evCall f vs e K r
    | false => evCall f vs e K r

/-! ### a stable sort of a row of the frame's own -/
def asBoolV : SV → Option Bool
  | .one (.b x) => some x
  | _ => none
/-- may f sort a slice of type T? -/
def sortAt (f T : Nat) : List (Nat × Con) → Bool
  | [] => false
  | (g, c) :: r => match Nat.beq f g with
    | true => match c.args with
      | [.srt Ts] => memT Ts T
      | _ => false
    | false => sortAt f T r
/-- what the closure h tells of two places -/
def evLess (h : Nat) (cs : List Cap) (os : List (Nat × Obj)) (i j : Int) : List (Nat × Con) → Option Bool
  | [] => none
  | (g, c) :: r => match Nat.beq h g with
    | true => match flatAll c.res with
      | true => match bindArgs false os c.args (.one (.i .i64 i) :: .one (.i .i64 j) :: cs.map capSV) with
        | some x => bnd (c.fn k x) fun y => asBoolV (resAll c.res y)
        | none => none
      | false => none
    | false => evLess h cs os i j r
def sortArgs : List SV → Option (Nat × Nat × Nat × List Cap)
  | [.one (.ifc T id), .one (.clo h cs)] => some (T, id, h, cs)
  | _ => none
def evSort (f T id h : Nat) (cs : List Cap) (e : Env) (K : SV → Env → Option ρ) : Option ρ :=
  match sortAt f T Δ, find Γ T, e.obj id with
  | true, some ti, some (.row U t xs) => match tyEq ti.ty (.sl t) with
    | true => chk (decide (xs.length ≤ capN)) (bnd (srt t.zero (fun ys i j => evLess k h cs (upd e.objs id (.row U t ys)) i j Δ) xs) fun ys => K (.tup []) (e.setObj id (.row U t ys)))
    | false => none
  | _, _, _ => none

def evBuiltin (b : Builtin) (ts : List Nat) (vs : List SV) (e : Env) (K : SV → Env → Option ρ) : Option ρ :=
  match b, vs with
  | .len, [.one v] => match ts with
    | T :: _ => match find Γ T with
      | some ti => match lenOf e ti.ty v with
        | some n => K (.one (.i .i64 n)) e
        | none => none
      | none => none
    | [] => none
  | .append, [.one s, .one x] => match ts with
    | [T, U] => match Nat.beq T U with
      | true => evAppend Γ T s x e K
      | false => none
    | _ => none
  | .min, [.one (.i k a), .one (.i j b)] => match kEq k j with
    | true => K (.one (.i k (min a b))) e
    | false => none
  | .max, [.one (.i k a), .one (.i j b)] => match kEq k j with
    | true => K (.one (.i k (max a b))) e
    | false => none
  | _, _ => none

def evOp (o : Op) (e : Env) (K : SV → Env → Option ρ) : Option ρ :=
  match o with
  | .move x | .assign x => match e.val x with
    | some v => K v e
    | none => none
  | .pick c a b => match e.one c with
    | some (.b x) => br x (match e.val a with
        | some v => K v e
        | none => none) (match e.val b with
        | some v => K v e
        | none => none)
    | _ => none
  | .alloc T => match find Γ T with
    | some ti => K (.one (.loc e.next 0)) (e.new (.var (zeros ti.ty [])))
    | none => none
  | .box _ x => match e.val x with
    | some v => match v.isTup with
      | false => K (.one (.loc e.next 0)) (e.new (.var v.cells))
      | true => none
    | none => none
  | .makeInterface T x => match find Γ T, e.one x with
    | some ti, some (.row id) => match ti.ty with
      | .sl _ => K (.one (.ifc T id)) e
      | _ => none
    | _, _ => none
  | .build T parts => match find Γ T with
    | some ti => match Nat.beq ti.elem 0 with
      | true => match evBuild ti e parts.toList (zeros ti.ty []) with
        | some l => match ti.ty.isAgg with
          | true => K (.agg l) e
          | false => none
        | none => none
      | false => match find Γ ti.elem with
        | some tj => match evBuildA tj.ty.size e parts.toList (zeros ti.ty []) with
          | some l => match ti.ty.isAgg with
            | true => K (.agg l) e
            | false => none
          | none => none
        | none => none
    | none => none
  | .buildSlice T n parts => match find Γ T with
    | some ti => match find Γ ti.elem with
      | some tj => match evElems tj.ty (e.freeze (partIds e parts.toList)) 0 parts.toList with
        | some xs => match Nat.beq (lenN parts.toList) n, Nat.ble (n * tj.ty.size) 16777216 with
          | true, true => match tyEq ti.ty (.sl tj.ty) with
            | true => K (.one (.row (e.freeze (partIds e parts.toList)).next)) ((e.freeze (partIds e parts.toList)).new (.row ti.elem tj.ty xs))
            | false => none
          | _, _ => none
        | none => none
      | none => none
    | none => none
  | .load T a => match e.one a with
    | some v => evLoad Γ T v e K
    | none => none
  | .store T a x => match e.one a, e.val x with
    | some p, some v => evStore Γ T p v e K
    | _, _ => none
  | .nilCheck x => match e.one x with
    | some (.loc i o) => K (.one (.loc i o)) e
    | some (.el t y o) => K (.one (.el t y o)) e
    | some (.rel i z j o) => K (.one (.rel i z j o)) e
    | _ => none
  | .binOp op T x y _ => match find Γ T, e.val x, e.val y with
    | some ti, some a, some b => match ti.ty.isAgg && !Nat.beq ti.elem 0 with
      | true => none
      | false => evBin ti.ty op a b (fun v => K v e)
    | _, _, _ => none
  | .unOp op _ x => match e.one x with
    | some v => evUn op v (fun v => K v e)
    | none => none
  | .convert src dst x => match find Γ src, find Γ dst, e.one x with
    | some tj, some ti, some v => evConv tj.ty ti.ty v e K
    | _, _, _ => none
  | .makeFunc (.func f) first caps => match first.toList, evCaps e caps.toList with
    | [], some l => K (.one (.clo f l)) e
    | _, _ => none
  | .makeSlice T l c => match find Γ T with
    | some ti => match find Γ ti.elem with
      | some tj => match tyEq ti.ty (.sl tj.ty) with
        | true => match e.one l, e.one c with
          | some (.i _ n), some (.i _ m) => chk (n == m) (chk (decide (0 ≤ n)) (chk (decide (n ≤ capN))
              (K (.one (.row e.next)) (e.new (.row ti.elem tj.ty (List.replicate n.toNat tj.ty.zero))))))
          | _, _ => none
        | false => none
      | none => none
    | none => none
  | .slice T x lo hi none => match find Γ T, e.one x with
    | some ti, some v => evSlice ti.ty v lo hi e K
    | _, _ => none
  | .fieldAddr T x i => match find Γ T with
    | some ti => match nth ti.offs i, ti.ty.isAgg with
      | some d, true => match e.one x with
        | some (.loc id off) => K (.one (.loc id (off + d))) e
        | some (.el t y off) => K (.one (.el t y (off + d))) e
        | some (.rel id z j off) => K (.one (.rel id z j (off + d))) e
        | _ => none
      | _, _ => none
    | none => none
  | .indexAddr T x i => match find Γ T, e.one x, e.one i with
    | some ti, some s, some (.i _ n) => evIndexAddr ti.ty s n e (fun v => K v e)
    | _, _, _ => none
  | .index T x i => match find Γ T, e.one x, e.one i with
    | some ti, some (.s a), some (.i _ n) => match tyEq ti.ty .str with
      | true => chk (decide (0 ≤ n)) (chk (decide (n < a.length)) (K (.one (.i .u8 ((a.getD n.toNat 0).toNat : Nat))) e))
      | false => none
    | some ti, none, some (.i _ n) => match e.val x with
      | some v => evIndexArr Γ ti v n e K
      | none => none
    | _, _, _ => none
  | .extract x i => match e.val x with
    | some (.tup l) => match nth l i with
      | some (true, vs) => K (.agg vs) e
      | some (false, [v]) => K (.one v) e
      | _ => none
    | _ => none
  | .call ⟨.builtin b, args, ts⟩ => match valAll e args.toList with
    | some vs => evBuiltin Γ b ts.toList vs e K
    | none => none
  | .call ⟨.value f, args, _⟩ => match e.one f, valAll e args.toList with
    | some (.clo g caps), some vs => match sortArgs (vs ++ caps.map capSV) with
      | some (T, id, h, cs) => evSort Γ Δ k g T id h cs e K
      | none => evCall k g (vs ++ caps.map capSV) e K Δ
    | _, _ => none
  | _ => none

def evOps (all : List Oper) : List Oper → Env → (Env → Option ρ) → Option ρ
  | [], e, K => K e
  | o :: r, e, K => match o.guard with
    | none => evOp Γ Δ k o.op e fun v e' => evOps all r (e'.put o.dst v) K
    | some (j, want) => match nth all j with
      | some g => match g.dst with
        | some s => match e.get s with
          | some (.one (.b x)) => br x
            (cond want (evOp Γ Δ k o.op (e.set s (.one (.b true))) fun v e' => evOps all r (e'.put o.dst v) K) (evOps all r ((e.set s (.one (.b true))).put o.dst (.tup [])) K))
            (cond want (evOps all r ((e.set s (.one (.b false))).put o.dst (.tup [])) K) (evOp Γ Δ k o.op (e.set s (.one (.b false))) fun v e' => evOps all r (e'.put o.dst v) K))
          | some (.tup []) => evOps all r (e.put o.dst (.tup [])) K
          | _ => none
        | none => none
      | none => none

/-! ### a region whose operations come in any order that their edges allow -/
def memN : List Nat → Nat → Bool
  | [], _ => false
  | a :: r, n => match Nat.beq a n with
    | true => true
    | false => memN r n
def apartN : List Nat → List Nat → Bool
  | [], _ => true
  | a :: r, l => match memN l a with
    | true => false
    | false => apartN r l
def binding (x : Edge) : Bool := match x.ground with
  | .textOnly _ => false
  | .gcOnly _ => false
  | _ => true
/-- the operations that are done ahead of one, whatever the order: of those at smaller places -/
def ancOf (j : Nat) (known : List (Nat × List Nat)) : List Edge → List Nat
  | [] => []
  | x :: r => match binding x, Nat.blt x.on j with
    | true, true => match find known x.on with
      | some l => x.on :: l ++ ancOf j known r
      | none => x.on :: ancOf j known r
    | _, _ => ancOf j known r
def ancs : Nat → List Oper → List (Nat × List Nat) → List (Nat × List Nat)
  | _, [], known => known
  | j, o :: r, known => ancs (j + 1) r ((j, ancOf j known o.after.toList) :: known)
def tmpsOf : List Operand → List Nat
  | [] => []
  | .tmp t :: r => t :: tmpsOf r
  | _ :: r => tmpsOf r
/-- the slots that an operation looks at -/
def looks (all : List Oper) (o : Oper) : List Nat := match o.guard with
  | none => tmpsOf o.op.operands.toList
  | some (g, _) => match nth all g with
    | some p => match p.dst with
      | some d => d :: tmpsOf o.op.operands.toList
      | none => tmpsOf o.op.operands.toList
    | none => tmpsOf o.op.operands.toList
def dstIn (d : Option Nat) (l : List Nat) : Bool := match d with
  | some d => memN l d
  | none => false
def dstEq (a b : Option Nat) : Bool := match a, b with
  | some a, some b => Nat.beq a b
  | _, _ => false
/-- may two operations be done in either order, as to slots? -/
def slotsApart (all : List Oper) (x y : Oper) : Bool := match dstIn x.dst (looks all y), dstIn y.dst (looks all x), dstEq x.dst y.dst with
  | false, false, false => true
  | _, _, _ => false
def pairsOk (all : List Oper) (y : Oper) (anc : List Nat) : Nat → List Oper → Bool
  | _, [] => true
  | k, x :: r => match memN anc k with
    | true => pairsOk all y anc (k + 1) r
    | false => match slotsApart all x y with
      | true => pairsOk all y anc (k + 1) r
      | false => false
/-- every edge that binds leads back -/
def edgesBack (j : Nat) : List Edge → Bool
  | [] => true
  | x :: r => match binding x, Nat.blt x.on j with
    | true, false => false
    | _, _ => edgesBack j r
def slotsOk (all : List Oper) (an : List (Nat × List Nat)) : Nat → List Oper → Bool
  | _, [] => true
  | j, y :: r => match find an j with
    | some l => match pairsOk all y l 0 (takeN j all), edgesBack j y.after.toList with
      | true, true => slotsOk all an (j + 1) r
      | _, _ => false
    | none => false

/-- the objects that a value leads to -/
def footCaps (os : List (Nat × Obj)) : List Cap → List Nat
  | [] => []
  | .loc id :: r => id :: rowsOfVar os id ++ footCaps os r
  | _ :: r => footCaps os r
def footVs (os : List (Nat × Obj)) : List V → List Nat
  | [] => []
  | .row id :: r => id :: footVs os r
  | .ifc _ id :: r => id :: footVs os r
  | .loc id _ :: r => id :: rowsOfVar os id ++ footVs os r
  | .rel id _ _ _ :: r => id :: footVs os r
  | .clo _ caps :: r => footCaps os caps ++ footVs os r
  | _ :: r => footVs os r
def foot (e : Env) : List Operand → List Nat
  | [] => []
  | o :: r => match e.val o with
    | some v => footVs e.objs v.cells ++ foot e r
    | none => foot e r
def only {α : Type} (fp : List Nat) : List (Nat × α) → List (Nat × α)
  | [] => []
  | (i, o) :: r => match memN fp i with
    | true => (i, o) :: only fp r
    | false => only fp r
def without {α : Type} (fp : List Nat) : List (Nat × α) → List (Nat × α)
  | [] => []
  | (i, o) :: r => match memN fp i with
    | true => without fp r
    | false => (i, o) :: without fp r
/-- an operation that leaves the objects that it finds as they are -/
def reads : Op → Bool
  | .move _ | .assign _ | .pick .. | .alloc _ | .box .. | .build .. | .makeInterface .. | .load .. | .nilCheck _ | .binOp .. | .unOp .. | .convert .. | .makeFunc .. | .makeSlice ..
  | .fieldAddr .. | .indexAddr .. | .index .. | .extract .. => true
  | .call ⟨.builtin .len, _, _⟩ | .call ⟨.builtin .min, _, _⟩ | .call ⟨.builtin .max, _, _⟩ => true
  | _ => false
/-- what an operation touched: its place, the objects that it may have looked at, those that it may have turned or made -/
structure Rc where
  i : Nat
  fp : List Nat
  wr : List Nat
def clear (anc : List Nat) (fp wr : List Nat) : List Rc → Bool
  | [] => true
  | q :: l => match memN anc q.i with
    | true => clear anc fp wr l
    | false => match apartN q.wr fp, apartN q.fp wr with
      | true, true => clear anc fp wr l
      | _, _ => false
def wrOf (o : Op) (fp : List Nat) : List Nat := match reads o with
  | true => []
  | false => fp

/-- an operation, told of nothing but what it looks at -/
def evOpD (an : List (Nat × List Nat)) (o : Oper) (j : Nat) (rs : List Rc) (e : Env) (K : List Rc → Env → Option ρ) : Option ρ :=
  evOp Γ Δ k o.op ⟨only (tmpsOf o.op.operands.toList) e.slots, only (foot e o.op.operands.toList) e.objs, e.next⟩ fun v e' =>
    match find an j with
    | some anc => match clear anc (e.next :: foot e o.op.operands.toList) (e.next :: wrOf o.op (foot e o.op.operands.toList)) rs with
      | true => K (⟨j, e.next :: foot e o.op.operands.toList, e.next :: wrOf o.op (foot e o.op.operands.toList)⟩ :: rs)
          (Env.put ⟨e.slots, only (e.next :: wrOf o.op (foot e o.op.operands.toList)) e'.objs ++ without (e.next :: wrOf o.op (foot e o.op.operands.toList)) e.objs, e.next + 1⟩ o.dst v)
      | false => none
    | none => none
/-- an operation that is left out -/
def skipD (o : Oper) (e : Env) : Env := Env.put ⟨e.slots, e.objs, e.next + 1⟩ o.dst (.tup [])
def evOpsD (all : List Oper) (an : List (Nat × List Nat)) : List Oper → Nat → List Rc → Env → (Env → Option ρ) → Option ρ
  | [], _, _, e, K => K e
  | o :: r, j, rs, e, K => match o.guard with
    | none => evOpD Γ Δ k an o j rs e fun rs' e' => evOpsD all an r (j + 1) rs' e' K
    | some (g, want) => match nth all g with
      | some p => match p.dst with
        | some s => match e.get s with
          | some (.one (.b x)) => br x
            (cond want (evOpD Γ Δ k an o j rs (e.set s (.one (.b true))) fun rs' e' => evOpsD all an r (j + 1) rs' e' K) (evOpsD all an r (j + 1) rs (skipD o (e.set s (.one (.b true)))) K))
            (cond want (evOpsD all an r (j + 1) rs (skipD o (e.set s (.one (.b false)))) K) (evOpD Γ Δ k an o j rs (e.set s (.one (.b false))) fun rs' e' => evOpsD all an r (j + 1) rs' e' K))
          | some (.tup []) => evOpsD all an r (j + 1) rs (skipD o e) K
          | _ => none
        | none => none
      | none => none
end

/-! ### packs -/
def nodupN : List Nat → Bool
  | [] => true
  | a :: r => match memN r a with
    | true => false
    | false => nodupN r
/-- the element type of an own cell, by the cell's number -/
def ownT (own : List (Nat × Nat)) (n : Nat) : Option Nat := find own n
/-- a row that is handed on as one's own -/
def ownRow (os : List (Nat × Obj)) (T : Nat) (t : Ty) : V → Option (List t.den)
  | .nil => some []
  | .row id => match find os id with
    | some (.row U u xs) => match Nat.beq U T with
      | true => cast? (.sl u) (.sl t) xs
      | false => none
    | _ => none
  | _ => none
/-- a variable's cells; 'own': which are rows that are handed on; 'ov': the objects for all else -/
def decOwn (os ov : List (Nat × Obj)) (own : List (Nat × Nat)) : (t : Ty) → Nat → List V → Option (t.den × List V)
  | .sl t, n, v :: r => match ownT own n with
    | some T => match ownRow os T t v with
      | some xs => some (xs, r)
      | none => none
    | none => dec false ov (.sl t) (v :: r)
  | .pair a b, n, l => match decOwn os ov own a n l with
    | some (x, r) => match decOwn os ov own b (n + a.size) r with
      | some (y, r') => some ((x, y), r')
      | none => none
    | none => none
  | t, _, l => dec false ov t l

/-- the objects that a pack hands on as the frame's own -/
def ownIdsV (own : List (Nat × Nat)) : Nat → List V → List Nat
  | _, [] => []
  | n, .row id :: r => match ownT own n with
    | some _ => id :: ownIdsV own (n + 1) r
    | none => ownIdsV own (n + 1) r
  | n, _ :: r => ownIdsV own (n + 1) r
def ownIds (e : Env) : Item → List Nat
  | .var s _ own => match e.get s with
    | some (.one (.loc id 0)) => match e.obj id with
      | some (.var vs) => ownIdsV own 0 vs ++ [id]
      | _ => []
    | _ => []
  | .row s _ _ => match e.get s with
    | some (.one (.row id)) => [id]
    | _ => []
  | _ => []
def ownAll (e : Env) : List Item → List Nat
  | [] => []
  | a :: r => ownIds e a ++ ownAll e r
def eraseAll : List Nat → List (Nat × Obj) → List (Nat × Obj)
  | [], os => os
  | i :: r, os => eraseAll r (erase os i)

def packItem (e : Env) (ov : List (Nat × Obj)) : (a : Item) → Option a.den
  | .val s t => match e.get s with
    | some v => decAll false ov t v
    | none => none
  | .var s t own => match e.get s with
    | some (.one (.loc id 0)) => match e.obj id with
      | some (.var vs) => match decOwn e.objs ov own t 0 vs with
        | some (y, []) => some y
        | _ => none
      | _ => none
    | _ => none
  | .row s T t => match e.get s with
    | some (.one v) => ownRow e.objs T t v
    | _ => none
  | .el s t => match e.get s with
    | some (.one (.el u x 0)) => cast? u t x
    | some (.one (.loc id 0)) => varTy false ov t id
    | _ => none
  | .clo s f ts => match e.get s with
    | some (.one (.clo g caps)) => match Nat.beq f g with
      | true => bindCaps false ov ts caps
      | false => none
    | _ => none
def packAll (e : Env) (ov : List (Nat × Obj)) : (l : List Item) → Option (Items.den l)
  | [] => some ()
  | [a] => packItem e ov a
  | a :: b :: r => match packItem e ov a, packAll e ov (b :: r) with
    | some x, some y => some (x, y)
    | _, _ => none
def pack (e : Env) (l : List Item) : Option (Items.den l) := match nodupN (ownAll e l) with
  | true => packAll e (eraseAll (ownAll e l) e.objs) l
  | false => none

/-- the cells that are rows of the frame's own become rows again -/
def unpackVar (own : List (Nat × Nat)) : (e : Env) → (t : Ty) → t.den → Nat → Env × List V
  | e, .sl t, xs, n => match ownT own n with
    | some T => (e.new (.row T t xs), [.row e.next])
    | none => (e, [.sl t xs])
  | e, .pair a b, x, n => match unpackVar own e a x.1 n with
    | (e1, l1) => match unpackVar own e1 b x.2 (n + a.size) with
      | (e2, l2) => (e2, l1 ++ l2)
  | e, t, x, _ => (e, enc t x [])
def startCaps : (ts : List Ty) → dens ts → List Cap
  | [], _ => []
  | t :: r, x => .el t x.1 :: startCaps r x.2
def unpackItem (e : Env) : (a : Item) → a.den → Env
  | .val s t, x => e.set s (ofTy t x)
  | .var s t own, x => match unpackVar own e t x 0 with
    | (e1, l) => (e1.new (.var l)).set s (.one (.loc e1.next 0))
  | .row s T t, xs => (e.new (.row T t xs)).set s (.one (.row e.next))
  | .el s t, x => e.set s (.one (.el t x 0))
  | .clo s f ts, x => e.set s (.one (.clo f (startCaps ts x)))
def unpackAll (e : Env) : (l : List Item) → Items.den l → Env
  | [], _ => e
  | [a], x => unpackItem e a x
  | a :: b :: r, x => unpackAll (unpackItem e a x.1) (b :: r) x.2
def unpack (l : List Item) (x : Items.den l) : Env := unpackAll ⟨[], [], 0⟩ l x

inductive Ex where
  | normal | exit (id : Nat)

/-- Where ways meet: what lives on; does nobody return ahead of it? -/
structure Join where
  items : List Item
  quiet : Bool
structure Ann where
  /-- a loop's head, and what lives on behind it, by the number of the block around it -/
  loops : List (Nat × List Item × Join)
  /-- by the number of the first region behind the place -/
  joins : List (Nat × Join)

def firstReg : Code → Option Nat
  | .region id _ _ => some id
  | .seq a b => match firstReg a with
    | some i => some i
    | none => firstReg b
  | .block _ c | .loop c | .scope c => firstReg c
  | _ => some 1000000

/-- A piece of code, run to its end in any context: 'ι' what becomes of a return, the rest what becomes of the other ends. -/
def Run (ρ : Type) : Type 1 := {σ : Type} → (ρ → Option σ) → Env → (Ex → Env → Option σ) → Option σ

def toJoin {σ : Type} (its : List Item) (e : Env) (f : Items.den its → Option σ) : Option σ := match pack e its with
  | some y => f y
  | none => none

/-- to a join, and on -/
def meet {ρ σ : Type} (j : Join) (run : Run ρ) (ι : ρ → Option σ) (e : Env) (on : Env → Option σ) : Option σ :=
  match j.quiet with
  | true => bnd (run (σ := Items.den j.items) (fun _ => none) e fun ex e => match ex with
      | .normal => toJoin j.items e some
      | _ => none) fun y => on (unpack j.items y)
  | false => bnd (run (σ := Items.den j.items ⊕ ρ) (fun z => some (.inr z)) e fun ex e => match ex with
      | .normal => toJoin j.items e fun y => some (.inl y)
      | _ => none) fun r => onSum r (fun y => on (unpack j.items y)) ι

def stepQ {ρ : Type} (id : Nat) (its js : List Item) (run : Run ρ) (again : Items.den its → Option (Items.den js)) (x : Items.den its) : Option (Items.den js) :=
  run (σ := Items.den js) (fun _ => none) (unpack its x) fun ex e => match ex with
    | .normal => toJoin its e again
    | .exit i => match Nat.beq i id with
      | true => toJoin js e some
      | false => none
def stepR {ρ : Type} (id : Nat) (its js : List Item) (run : Run ρ) (again : Items.den its → Option (Items.den js ⊕ ρ)) (x : Items.den its) : Option (Items.den js ⊕ ρ) :=
  run (σ := Items.den js ⊕ ρ) (fun z => some (.inr z)) (unpack its x) fun ex e => match ex with
    | .normal => toJoin its e again
    | .exit i => match Nat.beq i id with
      | true => toJoin js e fun y => some (.inl y)
      | false => none
/-- a loop out of which nobody returns -/
def loopQ {ρ : Type} (id : Nat) (its js : List Item) (run : Nat → Run ρ) : Nat → Items.den its → Option (Items.den js)
  | 0, _ => none
  | k + 1, x => stepQ id its js (run k) (loopQ id its js run k) x
def loopR {ρ : Type} (id : Nat) (its js : List Item) (run : Nat → Run ρ) : Nat → Items.den its → Option (Items.den js ⊕ ρ)
  | 0, _ => none
  | k + 1, x => stepR id its js (run k) (loopR id its js run k) x

section
variable (Γ : Tab) (Δ : List (Nat × Con)) (A : Ann) {ρ : Type} (fin : Env → Option ρ)

def evCode : Code → Nat → {σ : Type} → (ρ → Option σ) → Env → (Ex → Env → Option σ) → Option σ
  | .skip, _, _, _, e, K => K .normal e
  | .region _ ops d, k, _, _, e, K => match d with
    | false => evOps Γ Δ k ops.toList ops.toList e fun e' => K .normal e'
    | true => match slotsOk ops.toList (ancs 0 ops.toList []) 0 ops.toList with
      | true => evOpsD Γ Δ k ops.toList (ancs 0 ops.toList []) ops.toList 0 [] e fun e' => K .normal e'
      | false => none
  | .seq a b, k, _, ι, e, K =>
    match (match firstReg b with
      | some r => find A.joins r
      | none => none) with
    | some j => meet j (fun ι' e' K' => evCode a k ι' e' K') ι e fun e' => evCode b k ι e' K
    | none => evCode a k ι e fun ex e' => match ex with
      | .normal => evCode b k ι e' K
      | .exit i => K (.exit i) e'
  | .cond c a b, k, _, ι, e, K => match e.one c with
    | some (.b x) => br x (evCode a k ι e K) (evCode b k ι e K)
    | _ => none
  | .block id (.loop body), k, _, ι, e, K => match find A.loops id with
    | some (its, j) => toJoin its e fun x => match j.quiet with
      | true => bnd (loopQ id its j.items (fun k' => (fun ι' e' K' => evCode body k' ι' e' K' : Run ρ)) k x) fun y => K .normal (unpack j.items y)
      | false => bnd (loopR id its j.items (fun k' => (fun ι' e' K' => evCode body k' ι' e' K' : Run ρ)) k x) fun r => onSum r (fun y => K .normal (unpack j.items y)) ι
    | none => none
  | .block id body, k, _, ι, e, K => evCode body k ι e fun ex e' => match ex with
    | .normal => K .normal e'
    | .exit i => match Nat.beq i id with
      | true => K .normal e'
      | false => K (.exit i) e'
  | .exit id, _, _, _, e, K => K (.exit id) e
  | .ret, _, _, ι, e, _ => match fin e with
    | some z => ι z
    | none => none
  | _, _, _, _, _, _ => none
end

/-! ### a function -/
def startArg (e : Env) (s : Nat) : (a : AT) → a.den → Env
  | .val t, x => e.set s (ofTy t x)
  | .ptr t, x => e.set s (.one (.el t x 0))
  | .clo f ts, x => e.set s (.one (.clo f (startCaps ts x)))
  | .srt _, _ => e
def startArgs (e : Env) (s : Nat) : (ats : List AT) → ATs.den ats → Env
  | [], _ => e
  | a :: r, x => startArgs (startArg e s a x.1) (s + 1) r x.2

/-- what a result variable holds -/
def resOf1 (Γ : Tab) (e : Env) (t : Ty) : ResultVar → Option t.den
  | .tmp s => match e.get s with
    | some v => decAll false e.objs t v
    | none => none
  | .cell s T => match find Γ T, e.get s with
    | some ti, some (.one (.loc id 0)) => match tyEq ti.ty t with
      | true => varTy false e.objs t id
      | false => none
    | _, _ => none
def finish (Γ : Tab) (e : Env) : (res : List Ty) → List ResultVar → Option (den1 res)
  | [], [] => some ()
  | [t], [r] => resOf1 Γ e t r
  | t :: u :: l, r :: rs => match resOf1 Γ e t r, finish Γ e (u :: l) rs with
    | some x, some y => some (x, y)
    | _, _ => none
  | _, _ => none

def evFn (Γ : Tab) (Δ : List (Nat × Con)) (A : Ann) (fn : Func) (args : List AT) (res : List Ty) (k : Nat) (x : ATs.den args) : Option (den1 res) :=
  match fn.body with
  | some c => evCode Γ Δ A (fun e => finish Γ e res fn.results.toList) c k some (startArgs ⟨[], [], 0⟩ 0 args x) fun ex e => match ex with
    | .normal => finish Γ e res fn.results.toList
    | .exit _ => none
  | none => none

/-- The body of the loop that stands in a block, wherever it lies. -/
def bodyOf (id : Nat) : Code → Option Code
  | .seq a b => match bodyOf id a with
    | some c => some c
    | none => bodyOf id b
  | .cond _ a b => match bodyOf id a with
    | some c => some c
    | none => bodyOf id b
  | .block i (.loop c) => match Nat.beq i id with
    | true => some c
    | false => bodyOf id c
  | .block _ c | .loop c | .scope c => bodyOf id c
  | _ => none
def runOf (Γ : Tab) (Δ : List (Nat × Con)) (A : Ann) (fn : Func) (res : List Ty) (id : Nat) (k : Nat) : Run (den1 res) :=
  fun ι e K => match fn.body with
    | some c => match bodyOf id c with
      | some b => evCode Γ Δ A (fun e => finish Γ e res fn.results.toList) b k ι e K
      | none => none
    | none => none
end
end Go.Ev
end

section
/- What an environment says of the frame and the world. -/
set_option linter.unusedSimpArgs false
set_option linter.unusedVariables false
namespace Go.Ev
open Go.RowKit (Below)

/-- element by element -/
def R2 {α β : Type} (r : α → β → Prop) : List α → List β → Prop
  | [], [] => True
  | a :: l, b :: m => r a b ∧ R2 r l m
  | _, _ => False

/-- The cells cs lie in block b from o on. -/
abbrev CellsAt (w : World) (b o : Nat) (cs : List Value) : Prop := w.rangeAt b o cs

/-- The cells cs hold x; G: blocks that nobody writes. -/
def Val (w : World) (G : Nat → Prop) : (t : Ty) → t.den → List Value → Prop
  | .int k, n, cs => cs = [.int k n]
  | .bool, x, cs => cs = [.bool x]
  | .str, x, cs => ∃ s : ByteArray, cs = [.string s] ∧ s.data.toList = x
  | .sl t, xs, cs => ∃ A n c, cs = [.slice A n c] ∧ xs.length = n ∧ n ≤ c ∧
      ∀ j, j < xs.length → ∃ a cs', A = some a ∧ a.spot = none ∧ G a.block ∧ CellsAt w a.block (a.off + j * t.size) cs' ∧ Val w G t (xs.getD j t.zero) cs'
  | .pair p q, x, cs => ∃ c1 c2, cs = c1 ++ c2 ∧ Val w G p x.1 c1 ∧ Val w G q x.2 c2
  | .unit, _, cs => cs = []
  | .any, _, cs => ∃ v, cs = [v] ∧ v.oneCell' = true ∧ v.cells = #[v]

/-- One state: the world; the blocks that nobody writes (G: what views lead to; H: what is pointed at); where the frame's own lie; which names are taken. -/
structure St where
  w : World
  G : Nat → Prop
  H : Nat → Prop
  β : Nat → Nat
  ν : Nat → Value
  D : Nat → Prop

def Cp (m : St) : Cap → Value → Prop
  | .loc id, v => m.D id ∧ v = .pointer (some ⟨m.β id, 0, none⟩)
  | .el t x, v => ∃ b o cs, v = .pointer (some ⟨b, o, none⟩) ∧ m.H b ∧ CellsAt m.w b o cs ∧ Val m.w m.G t x cs

def Lv (m : St) : V → Value → Prop
  | .i k n, v => v = .int k n
  | .b x, v => v = .bool x
  | .s x, v => ∃ s : ByteArray, v = .string s ∧ s.data.toList = x
  | .sl t xs, v => Val m.w m.G (.sl t) xs [v]
  | .nil, v => v = .slice none 0 0
  | .row id, v => m.D id ∧ v = m.ν id ∧ ∃ A n c, v = .slice A n c
  | .loc id off, v => m.D id ∧ v = .pointer (some ⟨m.β id, off, none⟩)
  | .el t x off, v => ∃ b o cs, v = .pointer (some ⟨b, o + off, none⟩) ∧ m.H b ∧ CellsAt m.w b o cs ∧ Val m.w m.G t x cs
  | .rel id sz j off, v => m.D id ∧ ∃ b n c, m.ν id = .slice (some ⟨b, 0, none⟩) n c ∧ j < n ∧ v = .pointer (some ⟨b, j * sz + off, none⟩)
  | .clo f caps, v => ∃ cv : List Value, v = .func (.func f) #[] cv.toArray ∧ R2 (Cp m) caps cv
  | .ifc T id, v => m.D id ∧ v = .iface T (m.ν id) ∧ ∃ A n c, m.ν id = .slice A n c
  | .any, v => v.oneCell' = true ∧ v.cells = #[v]

def Pv (m : St) (p : Bool × List V) (x : Value) : Prop :=
  (p.1 = true ∧ ∃ cs : List Value, x = .agg cs.toArray ∧ R2 (Lv m) p.2 cs) ∨ (p.1 = false ∧ ∃ v, p.2 = [v] ∧ Lv m v x)

def Sv (m : St) : SV → Value → Prop
  | .one v, x => Lv m v x
  | .agg vs, x => ∃ cs : List Value, x = .agg cs.toArray ∧ R2 (Lv m) vs cs
  | .tup l, x => ∃ xs : List Value, x = .tuple xs.toArray ∧ R2 (Pv m) l xs

/-- A row of the frame's own. -/
def RowAt (w : World) (G : Nat → Prop) (T : Nat) (t : Ty) (xs : List t.den) (v : Value) : Prop :=
  (v = .slice none 0 0 ∧ xs = []) ∨ ∃ b c, ∃ cs : List Value, v = .slice (some ⟨b, 0, none⟩) xs.length c ∧ w.heap[b]? = some (.cells cs.toArray T (0, 0)) ∧
    xs.length ≤ c ∧ c ≤ maxLen ∧ cs.length = c * t.size ∧
    ∀ j, j < xs.length → ∃ cs', CellsAt w b (j * t.size) cs' ∧ Val w G t (xs.getD j t.zero) cs'

def Ob (m : St) (i : Nat) : Obj → Prop
  | .var vs => ∃ (cs : List Value) (T : Nat), m.w.heap[m.β i]? = some (.cells cs.toArray T (0, 0)) ∧ R2 (Lv m) vs cs
  | .row T t xs => RowAt m.w m.G T t xs (m.ν i)
  | .frow t xs => Val m.w m.G (.sl t) xs [m.ν i]

/-- The block that an object of the frame's own may write. -/
def blk (os : List (Nat × Obj)) (m : St) (i : Nat) : Option Nat := match find os i with
  | some (.var _) => some (m.β i)
  | some (.row _ _ _) => (m.ν i).ownBlock
  | _ => none
theorem ownBlock_some {v : Value} {b : Nat} (h : v.ownBlock = some b) : ∃ a n c, v = .slice (some a) n c ∧ a.block = b := by
  cases v with
  | slice a n c =>
    cases a with
    | none => simp [Value.ownBlock] at h
    | some a => exact ⟨a, n, c, rfl, by simpa [Value.ownBlock] using h⟩
  | _ => simp [Value.ownBlock] at h

structure ObjsOk (w0 : World) (G0 : Nat → Prop) (m : St) (os : List (Nat × Obj)) : Prop where
  base : Below w0.heap.size w0 m.w
  objs : ∀ i o, find os i = some o → m.D i ∧ Ob m i o
  inj : ∀ i j b, blk os m i = some b → blk os m j = some b → i = j
  out : ∀ i b, blk os m i = some b → ¬ m.G b ∧ ¬ m.H b ∧ b < m.w.heap.size ∧ w0.heap.size ≤ b
  liveG : ∀ b, m.G b → b < m.w.heap.size
  liveH : ∀ b, m.H b → b < m.w.heap.size
  subG : ∀ b, m.G b → G0 b ∨ w0.heap.size ≤ b
  gh : ∀ b, m.G b → m.H b

/-- F: objects that lie beside the environment's own. -/
structure Rel (w0 : World) (G0 : Nat → Prop) (N : Nat) (F : List (Nat × Obj)) (m : St) (e : Env) (tm : Array Value) : Prop where
  ok : ObjsOk w0 G0 m (e.objs ++ F)
  disj : ∀ i o, find e.objs i = some o → find F i = none
  tms : tm.size = N
  slots : ∀ t sv, find e.slots t = some sv → ∃ v, tm[t]? = some v ∧ Sv m sv v

/-! ### lists -/
theorem R2.imp {α β : Type} {r r' : α → β → Prop} (h : ∀ a b, r a b → r' a b) : ∀ {l : List α} {m : List β}, R2 r l m → R2 r' l m
  | [], [], _ => trivial
  | _ :: _, _ :: _, ⟨x, y⟩ => ⟨h _ _ x, R2.imp h y⟩
theorem R2.length {α β : Type} {r : α → β → Prop} : ∀ {l : List α} {m : List β}, R2 r l m → l.length = m.length
  | [], [], _ => rfl
  | _ :: _, _ :: _, ⟨_, y⟩ => by simp [R2.length y]
theorem R2.append {α β : Type} {r : α → β → Prop} : ∀ {l l' : List α} {m m' : List β}, R2 r l m → R2 r l' m' → R2 r (l ++ l') (m ++ m')
  | [], _, [], _, _, h => h
  | _ :: _, _, _ :: _, _, ⟨x, y⟩, h => ⟨x, R2.append y h⟩
theorem R2.split {α β : Type} {r : α → β → Prop} : ∀ {l l' : List α} {m : List β}, R2 r (l ++ l') m → ∃ m1 m2, m = m1 ++ m2 ∧ R2 r l m1 ∧ R2 r l' m2
  | [], _, m, h => ⟨[], m, rfl, trivial, h⟩
  | a :: l, l', [], h => by simp [R2] at h
  | a :: l, l', b :: m, ⟨x, y⟩ => by
    obtain ⟨m1, m2, rfl, h1, h2⟩ := R2.split y
    exact ⟨b :: m1, m2, rfl, ⟨x, h1⟩, h2⟩
theorem lenN_eq {α : Type} : ∀ l : List α, lenN l = l.length
  | [] => rfl
  | _ :: l => by simp [lenN, lenN_eq l]
theorem takeN_eq {α : Type} : ∀ (n : Nat) (l : List α), takeN n l = l.take n
  | 0, l => by simp [takeN]
  | n + 1, [] => by simp [takeN]
  | n + 1, a :: l => by simp [takeN, takeN_eq n l]
theorem dropN_eq {α : Type} : ∀ (n : Nat) (l : List α), dropN n l = l.drop n
  | 0, l => by simp [dropN]
  | n + 1, [] => by simp [dropN]
  | n + 1, a :: l => by simp [dropN, dropN_eq n l]
theorem nth_eq {α : Type} : ∀ (l : List α) (n : Nat), nth l n = l[n]?
  | [], n => by cases n <;> simp [nth]
  | a :: l, 0 => by simp [nth]
  | a :: l, n + 1 => by simp [nth, nth_eq l n]
theorem R2.take {α β : Type} {r : α → β → Prop} : ∀ (n : Nat) {l : List α} {m : List β}, R2 r l m → R2 r (l.take n) (m.take n)
  | 0, _, _, _ => by simp [R2]
  | n + 1, [], [], _ => by simp [R2]
  | n + 1, _ :: _, _ :: _, ⟨x, y⟩ => ⟨x, R2.take n y⟩
theorem R2.drop {α β : Type} {r : α → β → Prop} : ∀ (n : Nat) {l : List α} {m : List β}, R2 r l m → R2 r (l.drop n) (m.drop n)
  | 0, _, _, h => h
  | n + 1, [], [], _ => by simp [R2]
  | n + 1, _ :: _, _ :: _, ⟨_, y⟩ => by simpa using R2.drop n y
theorem R2.get {α β : Type} {r : α → β → Prop} : ∀ {l : List α} {m : List β} (_ : R2 r l m) (j : Nat) (a : α), l[j]? = some a → ∃ b, m[j]? = some b ∧ r a b
  | _ :: _, b :: _, ⟨x, _⟩, 0, a, h => ⟨b, rfl, by simp at h; exact h ▸ x⟩
  | _ :: _, _ :: _, ⟨_, y⟩, j + 1, a, h => by simpa using R2.get y j a (by simpa using h)
  | [], [], _, j, a, h => by simp at h
theorem paste_eq {α : Type} : ∀ (l : List α) (n : Nat) (ys : List α), n + ys.length ≤ l.length → paste l n ys = l.take n ++ ys ++ l.drop (n + ys.length)
  | l, 0, [], _ => by cases l <;> simp [paste]
  | [], 0, y :: ys, h => by simp at h
  | [], n + 1, ys, h => by simp at h
  | a :: l, 0, y :: ys, h => by
    have := paste_eq l 0 ys (by simp at h; omega)
    simp [paste, this]
  | a :: l, n + 1, ys, h => by
    have := paste_eq l n ys (by simp at h; omega)
    simp [paste, this, show n + 1 + ys.length = n + ys.length + 1 from by omega]
theorem R2.paste {α β : Type} {r : α → β → Prop} {l : List α} {m : List β} {ys : List α} {zs : List β} {n : Nat} (h : R2 r l m) (h' : R2 r ys zs) (hn : n + ys.length ≤ l.length) : R2 r (paste l n ys) (m.take n ++ zs ++ m.drop (n + zs.length)) := by
  rw [paste_eq l n ys hn, ← h'.length]
  exact (h.take n |>.append h').append (h.drop _)
theorem beq_ne {k j : Nat} (h : ¬ k = j) : Nat.beq k j = false := by
  cases hb : Nat.beq k j
  · rfl
  · exact absurd (Nat.eq_of_beq_eq_true hb) h
theorem beq_self (k : Nat) : Nat.beq k k = true := by simp
theorem find_upd {α : Type} : ∀ (l : List (Nat × α)) (i j : Nat) (x : α), find (upd l i x) j = if i = j then (find l i).map (fun _ => x) else find l j
  | [], i, j, x => by simp [upd, find]
  | (k, v) :: r, i, j, x => by
    have ih := find_upd r i j x
    simp only [upd, find]
    by_cases h : k = i
    · subst h
      have e : Nat.beq k k = true := by simp
      simp only [e]
      by_cases h2 : k = j
      · subst h2; simp [find, e]
      · have e2 : Nat.beq k j = false := beq_ne h2
        simp [find, e2, h2]
    · have e : Nat.beq k i = false := beq_ne h
      simp only [e]
      by_cases h2 : k = j
      · subst h2
        have e2 : Nat.beq k k = true := by simp
        have h3 : ¬ i = k := fun hh => h hh.symm
        simp [find, e2, h3]
      · have e2 : Nat.beq k j = false := beq_ne h2
        simp only [find, e2, ih]
theorem find_erase {α : Type} : ∀ (l : List (Nat × Obj)) (i j : Nat), find (erase l i) j = if i = j then none else find l j
  | [], i, j => by simp [erase, find]
  | (k, v) :: r, i, j => by
    have ih := find_erase (α := α) r i j
    simp only [erase]
    by_cases h : k = i
    · subst h
      have e : Nat.beq k k = true := by simp
      simp only [e, ih]
      by_cases h2 : k = j
      · simp [h2]
      · have e2 : Nat.beq k j = false := beq_ne h2
        simp [find, e2, h2]
    · have e : Nat.beq k i = false := beq_ne h
      simp only [e]
      by_cases h2 : k = j
      · subst h2
        have e2 : Nat.beq k k = true := by simp
        have h3 : ¬ i = k := fun hh => h hh.symm
        simp [find, e2, h3]
      · have e2 : Nat.beq k j = false := beq_ne h2
        simp only [find, e2, ih]
theorem find_append {α : Type} : ∀ (l l' : List (Nat × α)) (i : Nat), find (l ++ l') i = match find l i with
    | some x => some x
    | none => find l' i
  | [], _, _ => rfl
  | (k, v) :: r, l', i => by
    simp only [List.cons_append, find]
    cases Nat.beq k i with
    | true => rfl
    | false => exact find_append r l' i
theorem find_left {α : Type} {l l' : List (Nat × α)} {i : Nat} {x : α} (h : find l i = some x) : find (l ++ l') i = some x := by rw [find_append, h]
theorem find_cons {α : Type} (l : List (Nat × α)) (i j : Nat) (x : α) : find ((i, x) :: l) j = if i = j then some x else find l j := by
  simp only [find]
  by_cases h : i = j
  · subst h; simp
  · have e : Nat.beq i j = false := beq_ne h
    simp [e, h]

/-! ### what is read stays as it is -/
/-- From m to m' nothing that views and pointers lead to has turned. -/
structure St.le (m m' : St) : Prop where
  G : ∀ b, m.G b → m'.G b ∧ m'.w.heap[b]? = m.w.heap[b]?
  H : ∀ b, m.H b → m'.H b ∧ m'.w.heap[b]? = m.w.heap[b]?
  D : ∀ i, m.D i → m'.D i
  β : ∀ i, m.D i → m'.β i = m.β i
  ν : ∀ i, m.D i → m'.ν i = m.ν i
theorem St.le.refl (m : St) : m.le m := ⟨fun _ h => ⟨h, rfl⟩, fun _ h => ⟨h, rfl⟩, fun _ h => h, fun _ _ => rfl, fun _ _ => rfl⟩
theorem St.le.trans {a b c : St} (h : a.le b) (k : b.le c) : a.le c :=
  ⟨fun x hx => ⟨(k.G x (h.G x hx).1).1, (k.G x (h.G x hx).1).2.trans (h.G x hx).2⟩,
   fun x hx => ⟨(k.H x (h.H x hx).1).1, (k.H x (h.H x hx).1).2.trans (h.H x hx).2⟩,
   fun i hi => k.D i (h.D i hi), fun i hi => (k.β i (h.D i hi)).trans (h.β i hi), fun i hi => (k.ν i (h.D i hi)).trans (h.ν i hi)⟩

theorem cellsAt_same {w w' : World} {b o : Nat} {cs : List Value} (h : CellsAt w b o cs) (he : w'.heap[b]? = w.heap[b]?) : CellsAt w' b o cs :=
  fun j v hv => (World.cell?_of_block (w := w) (w' := w') (a := ⟨b, o + j, none⟩) he).trans (h j v hv)
theorem Val.mono {w w' : World} {G G' : Nat → Prop} (hG : ∀ b, G b → G' b ∧ w'.heap[b]? = w.heap[b]?) : ∀ (t : Ty) (x : t.den) (cs : List Value), Val w G t x cs → Val w' G' t x cs
  | .int _, _, _, h => h
  | .bool, _, _, h => h
  | .str, _, _, h => h
  | .unit, _, _, h => h
  | .any, _, _, h => h
  | .pair p q, x, _, ⟨c1, c2, e, h1, h2⟩ => ⟨c1, c2, e, Val.mono hG p x.1 c1 h1, Val.mono hG q x.2 c2 h2⟩
  | .sl t, xs, _, ⟨A, n, c, e, hl, hc, hx⟩ => ⟨A, n, c, e, hl, hc, fun j hj => by
    obtain ⟨a, cs', ea, hs, hg, hcs, hv⟩ := hx j hj
    exact ⟨a, cs', ea, hs, (hG _ hg).1, cellsAt_same hcs (hG _ hg).2, Val.mono hG t _ _ hv⟩⟩
theorem Val.le {m m' : St} (h : m.le m') {t : Ty} {x : t.den} {cs : List Value} (hv : Val m.w m.G t x cs) : Val m'.w m'.G t x cs := Val.mono (fun b hb => h.G b hb) t x cs hv
theorem Cp.le {m m' : St} (h : m.le m') : ∀ {c : Cap} {v : Value}, Cp m c v → Cp m' c v
  | .loc id, _, ⟨hi, e⟩ => ⟨h.D _ hi, by rw [h.β id hi]; exact e⟩
  | .el t x, _, ⟨b, o, cs, e, hH, hc, hv⟩ => ⟨b, o, cs, e, (h.H b hH).1, cellsAt_same hc (h.H b hH).2, hv.le h⟩
theorem Lv.le {m m' : St} (h : m.le m') : ∀ {x : V} {v : Value}, Lv m x v → Lv m' x v
  | .i .., _, e => e
  | .b _, _, e => e
  | .s _, _, e => e
  | .nil, _, e => e
  | .sl t xs, _, e => Val.le (t := .sl t) h e
  | .row id, _, ⟨hi, e, s⟩ => ⟨h.D _ hi, by rw [h.ν id hi]; exact e, s⟩
  | .loc id off, _, ⟨hi, e⟩ => ⟨h.D _ hi, by rw [h.β id hi]; exact e⟩
  | .el t x off, _, ⟨b, o, cs, e, hH, hc, hv⟩ => ⟨b, o, cs, e, (h.H b hH).1, cellsAt_same hc (h.H b hH).2, hv.le h⟩
  | .rel id sz j off, _, ⟨hi, b, n, c, e, hj, hv⟩ => ⟨h.D _ hi, b, n, c, by rw [h.ν id hi]; exact e, hj, hv⟩
  | .clo f caps, _, ⟨cv, e, hc⟩ => ⟨cv, e, hc.imp fun _ _ hx => Cp.le h hx⟩
  | .ifc T id, _, ⟨hi, e, s⟩ => ⟨h.D _ hi, by rw [h.ν id hi]; exact e, by rw [h.ν id hi]; exact s⟩
  | .any, _, e => e
theorem Pv.le {m m' : St} (h : m.le m') {p : Bool × List V} {x : Value} (hp : Pv m p x) : Pv m' p x := by
  rcases hp with ⟨e, cs, ex, hr⟩ | ⟨e, v, ev, hv⟩
  · exact .inl ⟨e, cs, ex, hr.imp fun _ _ hx => Lv.le h hx⟩
  · exact .inr ⟨e, v, ev, Lv.le h hv⟩
theorem Sv.le {m m' : St} (h : m.le m') : ∀ {s : SV} {x : Value}, Sv m s x → Sv m' s x
  | .one _, _, e => Lv.le h e
  | .agg _, _, ⟨cs, e, hr⟩ => ⟨cs, e, hr.imp fun _ _ hx => Lv.le h hx⟩
  | .tup _, _, ⟨xs, e, hr⟩ => ⟨xs, e, hr.imp fun _ _ hx => Pv.le h hx⟩
theorem RowAt.mono {w w' : World} {G G' : Nat → Prop} (hG : ∀ b, G b → G' b ∧ w'.heap[b]? = w.heap[b]?) {T : Nat} {t : Ty} {xs : List t.den} {v : Value} (h : RowAt w G T t xs v)
    (hb : ∀ a n c, v = .slice (some a) n c → w'.heap[a.block]? = w.heap[a.block]?) : RowAt w' G' T t xs v := by
  rcases h with h | ⟨b, c, cs, e, hh, h1, h2, h3, hx⟩
  · exact .inl h
  · have he := hb _ _ _ e
    refine .inr ⟨b, c, cs, e, by rw [he]; exact hh, h1, h2, h3, fun j hj => ?_⟩
    obtain ⟨cs', hc, hv⟩ := hx j hj
    exact ⟨cs', cellsAt_same hc he, Val.mono hG _ _ _ hv⟩
/-- An object that nobody has written. -/
theorem Ob.le {m m' : St} (h : m.le m') {i : Nat} {o : Obj} (hi : m.D i) (ho : Ob m i o) (os : List (Nat × Obj)) (hf : find os i = some o) (hb : ∀ b, blk os m i = some b → m'.w.heap[b]? = m.w.heap[b]?) : Ob m' i o := by
  cases o with
  | var vs =>
    obtain ⟨cs, T, hh, hr⟩ := ho
    have he := hb (m.β i) (by simp [blk, hf])
    exact ⟨cs, T, by rw [h.β i hi, he]; exact hh, hr.imp fun _ _ hx => Lv.le h hx⟩
  | row T t xs =>
    show RowAt m'.w m'.G T t xs (m'.ν i)
    rw [h.ν i hi]
    exact RowAt.mono (fun b hb => h.G b hb) ho fun a n c e => hb a.block (by simp [blk, hf, e, Value.ownBlock])
  | frow t xs =>
    show Val m'.w m'.G (.sl t) xs [m'.ν i]
    rw [h.ν i hi]
    exact Val.le (t := .sl t) h ho

/-! ### values and their cells -/
theorem Val.length {w : World} {G : Nat → Prop} : ∀ {t : Ty} {x : t.den} {cs : List Value}, Val w G t x cs → cs.length = t.size
  | .int _, _, _, h => by simp only [Val] at h; subst h; rfl
  | .bool, _, _, h => by simp only [Val] at h; subst h; rfl
  | .str, _, _, ⟨_, h, _⟩ => by subst h; rfl
  | .unit, _, _, h => by simp only [Val] at h; subst h; rfl
  | .any, _, _, ⟨_, h, _⟩ => by subst h; rfl
  | .sl _, _, _, ⟨_, _, _, h, _⟩ => by subst h; rfl
  | .pair _ _, _, _, ⟨c1, c2, e, h1, h2⟩ => by subst e; simp [Ty.size, Val.length h1, Val.length h2]
theorem enc_append : ∀ (t : Ty) (x : t.den) (l : List V), enc t x l = enc t x [] ++ l
  | .int _, _, _ => rfl
  | .bool, _, _ => rfl
  | .str, _, _ => rfl
  | .sl _, _, _ => rfl
  | .unit, _, _ => rfl
  | .any, _, _ => rfl
  | .pair a b, x, l => by simp only [enc]; rw [enc_append a x.1 (enc b x.2 l), enc_append b x.2 l, enc_append a x.1 (enc b x.2 []), List.append_assoc]
/-- the cells of an encoded value -/
theorem Val.enc {m : St} : ∀ {t : Ty} {x : t.den} {cs : List Value}, Val m.w m.G t x cs → R2 (Lv m) (enc t x []) cs
  | .int _, _, _, h => by simp only [Val] at h; subst h; exact ⟨rfl, trivial⟩
  | .bool, _, _, h => by simp only [Val] at h; subst h; exact ⟨rfl, trivial⟩
  | .str, _, _, ⟨s, h, e⟩ => by subst h; exact ⟨⟨s, rfl, e⟩, trivial⟩
  | .sl t, xs, _, ⟨A, n, c, h, r⟩ => by subst h; exact ⟨⟨A, n, c, rfl, r⟩, trivial⟩
  | .unit, _, _, h => by simp only [Val] at h; subst h; exact trivial
  | .any, _, _, ⟨_, h, h1⟩ => by subst h; exact ⟨h1, trivial⟩
  | .pair a b, x, _, ⟨c1, c2, e, h1, h2⟩ => by
    subst e
    simp only [Ev.enc]
    rw [enc_append]
    exact (Val.enc h1).append (Val.enc h2)
theorem enc_val {m : St} : ∀ {t : Ty} {x : t.den} {cs : List Value}, R2 (Lv m) (enc t x []) cs → Val m.w m.G t x cs
  | .int _, _, [_], ⟨h, _⟩ => by simp only [Lv] at h; subst h; rfl
  | .bool, _, [_], ⟨h, _⟩ => by simp only [Lv] at h; subst h; rfl
  | .str, _, [_], ⟨⟨s, h, e⟩, _⟩ => ⟨s, by rw [h], e⟩
  | .sl t, xs, [v], ⟨h, _⟩ => h
  | .unit, _, [], _ => rfl
  | .any, _, [v], ⟨h, _⟩ => ⟨v, rfl, h⟩
  | .pair a b, x, cs, h => by
    simp only [enc] at h
    rw [enc_append] at h
    obtain ⟨c1, c2, e, h1, h2⟩ := h.split
    exact ⟨c1, c2, e, enc_val h1, enc_val h2⟩
theorem cast?_some {a b : Ty} {x : a.den} {y : b.den} (h : cast? a b x = some y) : ∃ e : a = b, e ▸ x = y := by
  unfold cast? at h
  cases hd : Ty.decEq a b with
  | isTrue e => rw [hd] at h; exact ⟨e, by simpa using h⟩
  | isFalse e => rw [hd] at h; simp at h
theorem Val.cast {w : World} {G : Nat → Prop} {a b : Ty} {x : a.den} {y : b.den} {cs : List Value} (h : cast? a b x = some y) (hv : Val w G a x cs) : Val w G b y cs := by
  obtain ⟨e, h⟩ := cast?_some h
  subst e; subst h
  exact hv
end Go.Ev
end

section
/- Values out of cells, and back. -/
set_option linter.unusedSimpArgs false
set_option linter.unusedVariables false
namespace Go.Ev
open Go.RowKit (Below)

/-- Cells as the value that stands in a slot. -/
def AsVal (t : Ty) (cs : List Value) (v : Value) : Prop := match t.isAgg with
  | true => v = .agg cs.toArray
  | false => cs = [v]

theorem RowAt.val {w : World} {G Gd : Nat → Prop} {T : Nat} {t : Ty} {xs : List t.den} {v : Value} (h : RowAt w G T t xs v) (hG : ∀ b, G b → Gd b)
    (hb : ∀ a n c, v = .slice (some a) n c → Gd a.block) : Val w Gd (.sl t) xs [v] := by
  rcases h with ⟨rfl, rfl⟩ | ⟨b, c, cs, e, hh, h1, h2, h3, hx⟩
  · exact ⟨none, 0, 0, rfl, rfl, Nat.le_refl _, fun j hj => absurd hj (by simp)⟩
  · subst e
    refine ⟨_, _, _, rfl, rfl, h1, fun j hj => ?_⟩
    obtain ⟨cs', hc, hv⟩ := hx j hj
    exact ⟨⟨b, 0, none⟩, cs', rfl, rfl, hb _ _ _ rfl, by simpa using hc, Val.mono (fun b hb => ⟨hG b hb, rfl⟩) _ _ _ hv⟩

section
variable {m : St} {os : List (Nat × Obj)} {st : Bool} {Gd : Nat → Prop}

theorem dec_val (ho : ∀ i o, find os i = some o → Ob m i o) (hG : ∀ b, m.G b → Gd b)
    (hR : st = false → ∀ i T u xs a n c, find os i = some (.row T u xs) → m.ν i = .slice (some a) n c → Gd a.block) :
    ∀ (t : Ty) (l : List V) (x : t.den) (r : List V) (cs : List Value), dec st os t l = some (x, r) → R2 (Lv m) l cs → ∃ c1 c2, cs = c1 ++ c2 ∧ Val m.w Gd t x c1 ∧ R2 (Lv m) r c2
  | .int k, l, x, r, cs, h, hl => by
    cases l with
    | nil => simp [dec] at h
    | cons v l =>
      cases cs with
      | nil => exact absurd hl (by simp [R2])
      | cons c cs =>
        obtain ⟨h1, h2⟩ := hl
        cases v with
        | i j n =>
          simp only [dec] at h
          cases hk : kEq k j with
          | false => simp [hk] at h
          | true =>
            simp only [hk, Option.some.injEq, Prod.mk.injEq] at h
            obtain ⟨rfl, rfl⟩ := h
            have e := kEq_eq hk
            subst e
            exact ⟨[c], cs, rfl, by simp only [Lv] at h1; simp [Val, h1], h2⟩
        | _ => simp [dec] at h
  | .bool, l, x, r, cs, h, hl => by
    cases l with
    | nil => simp [dec] at h
    | cons v l =>
      cases cs with
      | nil => exact absurd hl (by simp [R2])
      | cons c cs =>
        obtain ⟨h1, h2⟩ := hl
        cases v with
        | b y =>
          simp only [dec, Option.some.injEq, Prod.mk.injEq] at h
          obtain ⟨rfl, rfl⟩ := h
          exact ⟨[c], cs, rfl, by simp only [Lv] at h1; simp [Val, h1], h2⟩
        | _ => simp [dec] at h
  | .str, l, x, r, cs, h, hl => by
    cases l with
    | nil => simp [dec] at h
    | cons v l =>
      cases cs with
      | nil => exact absurd hl (by simp [R2])
      | cons c cs =>
        obtain ⟨h1, h2⟩ := hl
        cases v with
        | s y =>
          simp only [dec, Option.some.injEq, Prod.mk.injEq] at h
          obtain ⟨rfl, rfl⟩ := h
          obtain ⟨s, e, hs⟩ := h1
          exact ⟨[c], cs, rfl, ⟨s, by rw [e], hs⟩, h2⟩
        | _ => simp [dec] at h
  | .unit, l, x, r, cs, h, hl => by
    simp only [dec, Option.some.injEq, Prod.mk.injEq] at h
    obtain ⟨_, rfl⟩ := h
    exact ⟨[], cs, rfl, rfl, hl⟩
  | .any, l, x, r, cs, h, hl => by
    cases l with
    | nil => simp [dec] at h
    | cons v l =>
      cases cs with
      | nil => exact absurd hl (by simp [R2])
      | cons c cs =>
        obtain ⟨h1, h2⟩ := hl
        cases v with
        | any =>
          simp only [dec, Option.some.injEq, Prod.mk.injEq] at h
          obtain ⟨_, rfl⟩ := h
          exact ⟨[c], cs, rfl, ⟨c, rfl, h1⟩, h2⟩
        | _ => simp [dec] at h
  | .pair a b, l, x, r, cs, h, hl => by
    simp only [dec] at h
    cases h1 : dec st os a l with
    | none => simp [h1] at h
    | some p =>
      obtain ⟨x1, r1⟩ := p
      simp only [h1] at h
      cases h2 : dec st os b r1 with
      | none => simp [h2] at h
      | some p =>
        obtain ⟨x2, r2⟩ := p
        simp only [h2, Option.some.injEq, Prod.mk.injEq] at h
        obtain ⟨rfl, rfl⟩ := h
        obtain ⟨c1, c2, rfl, hv1, hr1⟩ := dec_val ho hG hR a l x1 r1 cs h1 hl
        obtain ⟨c3, c4, rfl, hv2, hr2⟩ := dec_val ho hG hR b r1 x2 r2 c2 h2 hr1
        exact ⟨c1 ++ c3, c4, by simp, ⟨c1, c3, rfl, hv1, hv2⟩, hr2⟩
  | .sl t, l, x, r, cs, h, hl => by
    cases l with
    | nil => simp [dec] at h
    | cons v l =>
      cases cs with
      | nil => exact absurd hl (by simp [R2])
      | cons c cs =>
        obtain ⟨h1, h2⟩ := hl
        cases v with
        | sl u xs =>
          simp only [dec] at h
          cases hc : cast? (.sl u) (.sl t) xs with
          | none => simp [hc] at h
          | some ys =>
            simp only [hc, Option.some.injEq, Prod.mk.injEq] at h
            obtain ⟨rfl, rfl⟩ := h
            exact ⟨[c], cs, rfl, Val.cast hc (Val.mono (fun b hb => ⟨hG b hb, rfl⟩) (.sl u) xs [c] h1), h2⟩
        | nil =>
          simp only [dec, Option.some.injEq, Prod.mk.injEq] at h
          obtain ⟨rfl, rfl⟩ := h
          simp only [Lv] at h1
          subst h1
          exact ⟨[_], cs, rfl, ⟨none, 0, 0, rfl, rfl, Nat.le_refl _, fun j hj => absurd hj (by simp)⟩, h2⟩
        | row id =>
          simp only [dec] at h
          obtain ⟨_, e, _⟩ := h1
          subst e
          cases hf : find os id with
          | none => simp [hf] at h
          | some o =>
            have hob := ho id o hf
            cases o with
            | var vs => simp [hf] at h
            | row T u xs =>
              simp only [hf] at h
              cases st with
              | true => simp at h
              | false =>
                simp only at h
                cases hc : cast? (.sl u) (.sl t) xs with
                | none => simp [hc] at h
                | some ys =>
                  simp only [hc, Option.some.injEq, Prod.mk.injEq] at h
                  obtain ⟨rfl, rfl⟩ := h
                  exact ⟨[_], cs, rfl, Val.cast hc (RowAt.val hob hG fun a n c e => hR rfl id T u xs a n c hf e), h2⟩
            | frow u xs =>
              simp only [hf] at h
              cases hc : cast? (.sl u) (.sl t) xs with
              | none => simp [hc] at h
              | some ys =>
                simp only [hc, Option.some.injEq, Prod.mk.injEq] at h
                obtain ⟨rfl, rfl⟩ := h
                exact ⟨[_], cs, rfl, Val.cast hc (Val.mono (fun b hb => ⟨hG b hb, rfl⟩) (.sl u) xs _ hob), h2⟩
        | _ => simp [dec] at h

theorem decCells_val (ho : ∀ i o, find os i = some o → Ob m i o) (hG : ∀ b, m.G b → Gd b)
    (hR : st = false → ∀ i T u xs a n c, find os i = some (.row T u xs) → m.ν i = .slice (some a) n c → Gd a.block)
    {t : Ty} {l : List V} {x : t.den} {cs : List Value} (h : decCells st os t l = some x) (hl : R2 (Lv m) l cs) : Val m.w Gd t x cs := by
  unfold decCells at h
  cases hd : dec st os t l with
  | none => simp [hd] at h
  | some p =>
    obtain ⟨y, r⟩ := p
    cases r with
    | cons a r => simp [hd] at h
    | nil =>
      simp only [hd, Option.some.injEq] at h
      subst h
      obtain ⟨c1, c2, rfl, hv, hr⟩ := dec_val ho hG hR t l _ _ cs hd hl
      cases c2 with
      | nil => simpa using hv
      | cons => exact absurd hr (by simp [R2])

theorem decAll_val (ho : ∀ i o, find os i = some o → Ob m i o) (hG : ∀ b, m.G b → Gd b)
    (hR : st = false → ∀ i T u xs a n c, find os i = some (.row T u xs) → m.ν i = .slice (some a) n c → Gd a.block)
    {t : Ty} {s : SV} {x : t.den} {v : Value} (h : decAll st os t s = some x) (hs : Sv m s v) : ∃ cs, Val m.w Gd t x cs ∧ AsVal t cs v := by
  unfold decAll at h
  cases s with
  | tup l => simp at h
  | one y =>
    cases ha : t.isAgg with
    | true => simp [ha] at h
    | false =>
      simp only [ha] at h
      exact ⟨[v], decCells_val ho hG hR h ⟨hs, trivial⟩, by simp [AsVal, ha]⟩
  | agg l =>
    cases ha : t.isAgg with
    | false => simp [ha] at h
    | true =>
      simp only [ha] at h
      obtain ⟨cs, e, hr⟩ := hs
      exact ⟨cs, decCells_val ho hG hR h hr, by simp [AsVal, ha, e]⟩
end

theorem sv_ofTy {m : St} {t : Ty} {x : t.den} {cs : List Value} {v : Value} (h : Val m.w m.G t x cs) (ha : AsVal t cs v) : Sv m (ofTy t x) v := by
  unfold ofTy
  have he := Val.enc (m := m) h
  cases hg : t.isAgg with
  | true =>
    simp only [AsVal, hg] at ha
    exact ⟨cs, ha, he⟩
  | false =>
    simp only [AsVal, hg] at ha
    subst ha
    cases hE : enc t x [] with
    | nil => rw [hE] at he; exact absurd he (by simp [R2])
    | cons a l =>
      rw [hE] at he
      cases l with
      | nil => exact he.1
      | cons b l => exact absurd he.2 (by simp [R2])

/-- A value without slices stands whatever is written. -/
theorem Val.flat {w w' : World} {G G' : Nat → Prop} : ∀ {t : Ty} {x : t.den} {cs : List Value}, t.flat = true → Val w G t x cs → Val w' G' t x cs
  | .int _, _, _, _, h => h
  | .bool, _, _, _, h => h
  | .str, _, _, _, h => h
  | .unit, _, _, _, h => h
  | .pair a b, x, _, hf, ⟨c1, c2, e, h1, h2⟩ => by
    simp only [Ty.flat, Bool.and_eq_true] at hf
    exact ⟨c1, c2, e, Val.flat hf.1 h1, Val.flat hf.2 h2⟩
  | .sl _, _, _, hf, _ => by simp [Ty.flat] at hf
  | .any, _, _, hf, _ => by simp [Ty.flat] at hf

/-! ### single cells -/
theorem Lv.oneCell {m : St} : ∀ {x : V} {v : Value}, Lv m x v → v.oneCell' = true ∧ v.cells = #[v]
  | .i .., _, e => by simp only [Lv] at e; subst e; exact ⟨rfl, rfl⟩
  | .b _, _, e => by simp only [Lv] at e; subst e; exact ⟨rfl, rfl⟩
  | .s _, _, ⟨_, e, _⟩ => by subst e; exact ⟨rfl, rfl⟩
  | .nil, _, e => by simp only [Lv] at e; subst e; exact ⟨rfl, rfl⟩
  | .sl t xs, _, ⟨_, _, _, e, _⟩ => by simp only [List.cons.injEq, and_true] at e; subst e; exact ⟨rfl, rfl⟩
  | .row id, _, ⟨_, _, _, _, _, e⟩ => by subst e; exact ⟨rfl, rfl⟩
  | .loc id off, _, ⟨_, e⟩ => by subst e; exact ⟨rfl, rfl⟩
  | .el t x off, _, ⟨_, _, _, e, _⟩ => by subst e; exact ⟨rfl, rfl⟩
  | .rel id sz j off, _, ⟨_, _, _, _, _, _, e⟩ => by subst e; exact ⟨rfl, rfl⟩
  | .clo f caps, _, ⟨_, e, _⟩ => by subst e; exact ⟨rfl, rfl⟩
  | .ifc T id, _, ⟨_, e, _⟩ => by subst e; exact ⟨rfl, rfl⟩
  | .any, _, h => h
theorem R2.oneCells {m : St} : ∀ {l : List V} {cs : List Value}, R2 (Lv m) l cs → ∀ v ∈ cs, v.oneCell' = true
  | [], [], _, v, h => by simp at h
  | _ :: _, _ :: _, ⟨h, r⟩, v, hv => by
    rcases List.mem_cons.1 hv with e | e
    · subst e; exact h.oneCell.1
    · exact R2.oneCells r v e
/-- What a value's cells are. -/
theorem Sv.cells {m : St} {s : SV} {v : Value} (h : Sv m s v) (ht : s.isTup = false) : ∃ cs, v.cells = cs.toArray ∧ R2 (Lv m) s.cells cs := by
  cases s with
  | tup l => simp [SV.isTup] at ht
  | one x => exact ⟨[v], by rw [Lv.oneCell h |>.2], ⟨h, trivial⟩⟩
  | agg l =>
    obtain ⟨cs, e, hr⟩ := h
    exact ⟨cs, by rw [e]; rfl, hr⟩
theorem asSV_sv {m : St} {t : Ty} {l : List V} {cs : List Value} {s : SV} {v : Value} (h : asSV t l = some s) (hl : R2 (Lv m) l cs) (ha : AsVal t cs v) : Sv m s v := by
  unfold asSV at h
  cases hg : t.isAgg with
  | true =>
    simp only [hg, Option.some.injEq] at h
    subst h
    simp only [AsVal, hg] at ha
    exact ⟨cs, ha, hl⟩
  | false =>
    simp only [hg] at h
    simp only [AsVal, hg] at ha
    subst ha
    match l, hl, h with
    | [x], hl, h => simp only [Option.some.injEq] at h; subst h; exact hl.1
end Go.Ev
end

section
/- An environment's steps and the world's. -/
set_option linter.unusedSimpArgs false
set_option linter.unusedVariables false
namespace Go.Ev
open Go.RowKit (Below)

variable {w0 : World} {G0 : Nat → Prop} {N : Nat} {F : List (Nat × Obj)} {m m' : St} {os : List (Nat × Obj)} {e : Env} {tm : Array Value}

theorem blk_le (hle : m.le m') (ho : ∀ i o, find os i = some o → m.D i) (i : Nat) : blk os m' i = blk os m i := by
  unfold blk
  cases hf : find os i with
  | none => rfl
  | some o =>
    have hi := ho i o hf
    cases o with
    | var vs => simp [hle.β i hi]
    | row T t xs => simp [hle.ν i hi]
    | frow t xs => rfl

/-- The world has gone on; no object was touched. -/
theorem ObjsOk.world (h : ObjsOk w0 G0 m os) (hle : m.le m') (hbase : Below w0.heap.size w0 m'.w)
    (hb : ∀ i b, blk os m i = some b → m'.w.heap[b]? = m.w.heap[b]?)
    (hG : ∀ b, m'.G b → (m.G b ∨ m.w.heap.size ≤ b) ∧ b < m'.w.heap.size) (hH : ∀ b, m'.H b → (m.H b ∨ m.w.heap.size ≤ b) ∧ b < m'.w.heap.size)
    (hsz : m.w.heap.size ≤ m'.w.heap.size) (hgh : ∀ b, m'.G b → m'.H b) : ObjsOk w0 G0 m' os := by
  have hlt : ∀ i o, find os i = some o → m.D i := fun i o hf => (h.objs i o hf).1
  have hbl := blk_le hle hlt
  refine ⟨hbase, fun i o hf => ⟨hle.D _ (hlt i o hf), Ob.le hle (hlt i o hf) (h.objs i o hf).2 os hf (hb i)⟩, fun i j b h1 h2 => ?_, fun i b h1 => ?_, fun b hg => (hG b hg).2, fun b hg => (hH b hg).2, fun b hg => ?_, hgh⟩
  · rw [hbl] at h1 h2
    exact h.inj i j b h1 h2
  · rw [hbl] at h1
    obtain ⟨o1, o2, o3, o4⟩ := h.out i b h1
    refine ⟨fun hg => ?_, fun hg => ?_, by omega, o4⟩
    · rcases (hG b hg).1 with hg | hg
      · exact o1 hg
      · omega
    · rcases (hH b hg).1 with hg | hg
      · exact o2 hg
      · omega
  · rcases (hG b hg).1 with hg | hg
    · exact h.subG b hg
    · have := h.base.size
      exact .inr (by omega)

/-- A new object. -/
theorem ObjsOk.new (h : ObjsOk w0 G0 m os) {n : Nat} (hfr : ¬ m.D n) (hle : m.le m') (hD : m'.D n) (o : Obj) (hbase : Below w0.heap.size w0 m'.w)
    (hb : ∀ i b, blk os m i = some b → m'.w.heap[b]? = m.w.heap[b]?)
    (hG : ∀ b, m'.G b → (m.G b ∨ m.w.heap.size ≤ b) ∧ b < m'.w.heap.size) (hH : ∀ b, m'.H b → (m.H b ∨ m.w.heap.size ≤ b) ∧ b < m'.w.heap.size)
    (hsz : m.w.heap.size ≤ m'.w.heap.size) (hgh : ∀ b, m'.G b → m'.H b) (ho : Ob m' n o)
    (hn : ∀ b, blk ((n, o) :: os) m' n = some b → ¬ m'.G b ∧ ¬ m'.H b ∧ b < m'.w.heap.size ∧ w0.heap.size ≤ b ∧ ∀ i, blk os m i ≠ some b) : ObjsOk w0 G0 m' ((n, o) :: os) := by
  have h' := h.world hle hbase hb hG hH hsz hgh
  have hlt : ∀ i o, find os i = some o → m.D i := fun i o hf => (h.objs i o hf).1
  have hbl := blk_le hle hlt
  have hold : ∀ i, i ≠ n → blk ((n, o) :: os) m' i = blk os m' i := fun i hi => by
    unfold blk
    rw [find_cons, if_neg (fun e => hi e.symm)]
  refine ⟨hbase, fun i p hf => ?_, fun i j b h1 h2 => ?_, fun i b h1 => ?_, h'.liveG, h'.liveH, h'.subG, hgh⟩
  · rw [find_cons] at hf
    by_cases hi : n = i
    · rw [if_pos hi] at hf
      obtain rfl := Option.some.inj hf
      subst hi
      exact ⟨hD, ho⟩
    · rw [if_neg hi] at hf
      exact h'.objs i p hf
  · by_cases hi : i = n <;> by_cases hj : j = n
    · rw [hi, hj]
    · subst hi
      rw [hold j hj, hbl] at h2
      exact absurd h2 ((hn b h1).2.2.2.2 j)
    · subst hj
      rw [hold i hi, hbl] at h1
      exact absurd h1 ((hn b h2).2.2.2.2 i)
    · rw [hold i hi] at h1
      rw [hold j hj] at h2
      exact h'.inj i j b h1 h2
  · by_cases hi : i = n
    · subst hi
      obtain ⟨a1, a2, a3, a4, _⟩ := hn b h1
      exact ⟨a1, a2, a3, a4⟩
    · rw [hold i hi] at h1
      exact h'.out i b h1

/-- An object holds something else, in the block that it had. -/
theorem ObjsOk.put (h : ObjsOk w0 G0 m os) (hle : m.le m') (i : Nat) (o o' : Obj) (hi : find os i = some o) (hbase : Below w0.heap.size w0 m'.w)
    (hb : ∀ j b, j ≠ i → blk os m j = some b → m'.w.heap[b]? = m.w.heap[b]?)
    (hG : ∀ b, m'.G b → m.G b) (hH : ∀ b, m'.H b → m.H b)
    (hsz : m.w.heap.size = m'.w.heap.size) (hgh : ∀ b, m'.G b → m'.H b) (ho : Ob m' i o')
    (hn : ∀ b, blk (upd os i o') m' i = some b → blk os m i = some b) : ObjsOk w0 G0 m' (upd os i o') := by
  have hlt : ∀ i o, find os i = some o → m.D i := fun i o hf => (h.objs i o hf).1
  have hbl := blk_le hle hlt
  have hold : ∀ j, j ≠ i → blk (upd os i o') m' j = blk os m j := fun j hj => by
    rw [← hbl]
    unfold blk
    rw [find_upd, if_neg (fun e => hj e.symm)]
  have hall : ∀ j b, blk (upd os i o') m' j = some b → blk os m j = some b := fun j b hh => by
    by_cases hj : j = i
    · subst hj; exact hn b hh
    · rw [hold j hj] at hh; exact hh
  refine ⟨hbase, fun j p hf => ?_, fun j k b h1 h2 => h.inj j k b (hall j b h1) (hall k b h2), fun j b h1 => ?_, fun b hg => ?_, fun b hg => ?_, fun b hg => h.subG b (hG b hg), hgh⟩
  · rw [find_upd] at hf
    by_cases hj : i = j
    · rw [if_pos hj, hi] at hf
      obtain rfl := Option.some.inj hf
      subst hj
      exact ⟨hle.D _ (hlt i o hi), ho⟩
    · rw [if_neg hj] at hf
      exact ⟨hle.D _ (hlt j p hf), Ob.le hle (hlt j p hf) (h.objs j p hf).2 os hf fun b hh => hb j b (fun e => hj e.symm) hh⟩
  · obtain ⟨a1, a2, a3, a4⟩ := h.out j b (hall j b h1)
    exact ⟨fun hg => a1 (hG b hg), fun hg => a2 (hH b hg), by omega, a4⟩
  · have := h.liveG b (hG b hg); omega
  · have := h.liveH b (hH b hg); omega

theorem ObjsOk.erase (h : ObjsOk w0 G0 m os) (i : Nat) : ObjsOk w0 G0 m (erase os i) := by
  have hb : ∀ j b, blk (Ev.erase os i) m j = some b → blk os m j = some b ∧ j ≠ i := fun j b hh => by
    unfold blk at hh ⊢
    rw [find_erase (α := Nat)] at hh
    by_cases hj : i = j
    · rw [if_pos hj] at hh; simp at hh
    · rw [if_neg hj] at hh; exact ⟨hh, fun e => hj e.symm⟩
  refine ⟨h.base, fun j p hf => ?_, fun j k b h1 h2 => h.inj j k b (hb j b h1).1 (hb k b h2).1, fun j b h1 => h.out j b (hb j b h1).1, h.liveG, h.liveH, h.subG, h.gh⟩
  rw [find_erase (α := Nat)] at hf
  by_cases hj : i = j
  · rw [if_pos hj] at hf; simp at hf
  · rw [if_neg hj] at hf; exact h.objs j p hf

theorem ObjsOk.eraseAll : ∀ (l : List Nat) {os : List (Nat × Obj)}, ObjsOk w0 G0 m os → ObjsOk w0 G0 m (eraseAll l os)
  | [], _, h => h
  | i :: r, _, h => ObjsOk.eraseAll r (h.erase i)

/-! ### frames -/
theorem Rel.set (h : Rel w0 G0 N F m e tm) {d : Nat} {sv : SV} {v : Value} (hd : d < N) (hv : Sv m sv v) : Rel w0 G0 N F m (e.set d sv) (tm.setIfInBounds d v) := by
  refine ⟨h.ok, h.disj, by simp [h.tms], fun t s hf => ?_⟩
  simp only [Env.set] at hf
  rw [find_cons] at hf
  by_cases ht : d = t
  · rw [if_pos ht] at hf
    obtain rfl := Option.some.inj hf
    subst ht
    exact ⟨v, by rw [Array.getElem?_setIfInBounds_self_of_lt (by rw [h.tms]; exact hd)], hv⟩
  · rw [if_neg ht] at hf
    obtain ⟨u, hu, hs⟩ := h.slots t s hf
    exact ⟨u, by rw [Array.getElem?_setIfInBounds_ne ht]; exact hu, hs⟩
/-- What is known of a slot is told otherwise. -/
theorem Rel.reset (h : Rel w0 G0 N F m e tm) {d : Nat} {sv : SV} {v : Value} (hd : tm[d]? = some v) (hv : Sv m sv v) : Rel w0 G0 N F m (e.set d sv) tm := by
  refine ⟨h.ok, h.disj, h.tms, fun t s hf => ?_⟩
  simp only [Env.set] at hf
  rw [find_cons] at hf
  by_cases ht : d = t
  · rw [if_pos ht] at hf
    obtain rfl := Option.some.inj hf
    subst ht
    exact ⟨v, hd, hv⟩
  · rw [if_neg ht] at hf
    exact h.slots t s hf
theorem Rel.world (h : Rel w0 G0 N F m e tm) (hle : m.le m') (ho : ObjsOk w0 G0 m' (e.objs ++ F)) : Rel w0 G0 N F m' e tm :=
  ⟨ho, h.disj, h.tms, fun t s hf => by
    obtain ⟨v, hv, hs⟩ := h.slots t s hf
    exact ⟨v, hv, hs.le hle⟩⟩
theorem ObjsOk.congr {os' : List (Nat × Obj)} (h : ObjsOk w0 G0 m os) (hf : ∀ i, find os' i = find os i) : ObjsOk w0 G0 m os' := by
  have hb : ∀ i, blk os' m i = blk os m i := fun i => by unfold blk; rw [hf]
  refine ⟨h.base, fun i o ho => h.objs i o (by rw [← hf]; exact ho), fun i j b h1 h2 => h.inj i j b (by rw [← hb]; exact h1) (by rw [← hb]; exact h2), fun i b h1 => h.out i b (by rw [← hb]; exact h1), h.liveG, h.liveH, h.subG, h.gh⟩
theorem Rel.obj (h : Rel w0 G0 N F m e tm) (i : Nat) (o : Obj) (hf : find e.objs i = some o) : m.D i ∧ Ob m i o := h.ok.objs i o (find_left hf)
theorem blk_left {l l' : List (Nat × Obj)} {i b : Nat} (h : blk l m i = some b) : blk (l ++ l') m i = some b := by
  unfold blk at h ⊢
  rw [find_append]
  cases hf : find l i with
  | none => rw [hf] at h; simp at h
  | some o => rw [hf] at h; exact h
theorem upd_left {l l' : List (Nat × Obj)} {id : Nat} {o : Obj} (x : Obj) (h : find l id = some o) (i : Nat) : find (upd l id x ++ l') i = find (upd (l ++ l') id x) i := by
  rw [find_append, find_upd, find_upd]
  by_cases hi : id = i
  · subst hi
    rw [if_pos rfl, if_pos rfl, find_append, h]
    rfl
  · rw [if_neg hi, if_neg hi, find_append]
theorem erase_left {l l' : List (Nat × Obj)} {id : Nat} (h : find l' id = none) (i : Nat) : find (erase l id ++ l') i = find (erase (l ++ l') id) i := by
  rw [find_append, find_erase (α := Nat), find_erase (α := Nat)]
  by_cases hi : id = i
  · subst hi
    rw [if_pos rfl, if_pos rfl]
    exact h
  · rw [if_neg hi, if_neg hi, find_append]
theorem Rel.objs (h : Rel w0 G0 N F m e tm) (hle : m.le m') (os' : List (Nat × Obj)) (n : Nat) (ho : ObjsOk w0 G0 m' (os' ++ F)) (hd : ∀ i o, find os' i = some o → find F i = none) : Rel w0 G0 N F m' ⟨e.slots, os', n⟩ tm :=
  ⟨ho, hd, h.tms, fun t s hf => by
    obtain ⟨v, hv, hs⟩ := h.slots t s hf
    exact ⟨v, hv, hs.le hle⟩⟩

/-! ### the world's own steps -/
/-- A block more, known to nobody. -/
theorem le_alloc (m : St) (h1 : ∀ b, m.G b → b < m.w.heap.size) (h2 : ∀ b, m.H b → b < m.w.heap.size) (o : Go.Obj) : m.le { m with w := m.w.alloc o } :=
  ⟨fun b hb => ⟨hb, Below.heap_alloc _ _ _ (h1 b hb)⟩, fun b hb => ⟨hb, Below.heap_alloc _ _ _ (h2 b hb)⟩, fun _ h => h, fun _ _ => rfl, fun _ _ => rfl⟩
theorem le_drew (m : St) : m.le { m with w := m.w.drew } := ⟨fun _ hb => ⟨hb, rfl⟩, fun _ hb => ⟨hb, rfl⟩, fun _ h => h, fun _ _ => rfl, fun _ _ => rfl⟩

/-- A new variable. -/
theorem ObjsOk.newVar (h : ObjsOk w0 G0 m os) (vs : List V) (cs : List Value) (T : Nat) (hr : R2 (Lv m) vs cs) {n : Nat} (hfr : ¬ m.D n) :
    ∃ m', m.le m' ∧ m'.w = m.w.alloc (.cells cs.toArray T) ∧ (∀ i, m'.D i ↔ m.D i ∨ i = n) ∧ m'.β n = m.w.heap.size ∧ ObjsOk w0 G0 m' ((n, .var vs) :: os) := by
  let m' : St := { m with w := m.w.alloc (.cells cs.toArray T), β := fun i => if i = n then m.w.heap.size else m.β i, D := fun i => m.D i ∨ i = n }
  have hle : m.le m' := ⟨fun b hb => ⟨hb, Below.heap_alloc _ _ _ (h.liveG b hb)⟩, fun b hb => ⟨hb, Below.heap_alloc _ _ _ (h.liveH b hb)⟩, fun _ h => .inl h,
    fun i hi => if_neg (fun (e : i = n) => hfr (e ▸ hi)), fun _ _ => rfl⟩
  have hβ : m'.β n = m.w.heap.size := if_pos rfl
  refine ⟨m', hle, rfl, fun _ => Iff.rfl, hβ, h.new hfr hle (.inr rfl) _ (h.base.alloc h.base.size _) (fun i b hb => Below.heap_alloc _ _ _ (h.out i b hb).2.2.1) (fun b hb => ⟨.inl hb, ?_⟩) (fun b hb => ⟨.inl hb, ?_⟩) (by simp [m']) h.gh ?_ ?_⟩
  · have := h.liveG b hb; simp [m']; omega
  · have := h.liveH b hb; simp [m']; omega
  · exact ⟨cs, T, by rw [hβ]; exact heap_alloc_new m.w _, hr.imp fun _ _ hx => Lv.le hle hx⟩
  · intro b hb
    have e : blk ((n, Obj.var vs) :: os) m' n = some m.w.heap.size := by unfold blk; rw [find_cons, if_pos rfl]; simp [hβ]
    rw [e] at hb
    obtain rfl := Option.some.inj hb
    refine ⟨fun hg => ?_, fun hg => ?_, by simp [m'], h.base.size, fun i hi => ?_⟩
    · have := h.liveG _ hg; omega
    · have := h.liveH _ hg; omega
    · have := (h.out i _ hi).2.2.1; omega

/-- A new row: nil, or in a block that nobody else knows. -/
theorem ObjsOk.newRow (h : ObjsOk w0 G0 m os) (w' : World) (T : Nat) (t : Ty) (xs : List t.den) (v : Value) (hbase : Below w0.heap.size w0 w')
    (hGs : ∀ b, m.G b → w'.heap[b]? = m.w.heap[b]?) (hHs : ∀ b, m.H b → w'.heap[b]? = m.w.heap[b]?) (hsz : m.w.heap.size ≤ w'.heap.size)
    (hb : ∀ i b, blk os m i = some b → w'.heap[b]? = m.w.heap[b]?) (hrow : RowAt w' m.G T t xs v)
    {n : Nat} (hfr : ¬ m.D n) (hn : ∀ a n c, v = .slice (some a) n c → w0.heap.size ≤ a.block ∧ a.block < w'.heap.size ∧ ¬ m.G a.block ∧ ¬ m.H a.block ∧ ∀ i, blk os m i ≠ some a.block) :
    ∃ m', m.le m' ∧ m'.w = w' ∧ (∀ i, m'.D i ↔ m.D i ∨ i = n) ∧ m'.ν n = v ∧ ObjsOk w0 G0 m' ((n, .row T t xs) :: os) := by
  let m' : St := { m with w := w', ν := fun i => if i = n then v else m.ν i, D := fun i => m.D i ∨ i = n }
  have hle : m.le m' := ⟨fun b hb => ⟨hb, hGs b hb⟩, fun b hb => ⟨hb, hHs b hb⟩, fun _ h => .inl h, fun _ _ => rfl, fun i hi => if_neg (fun (e : i = n) => hfr (e ▸ hi))⟩
  have hν : m'.ν n = v := if_pos rfl
  refine ⟨m', hle, rfl, fun _ => Iff.rfl, hν, h.new hfr hle (.inr rfl) _ hbase hb (fun b hb => ⟨.inl hb, ?_⟩) (fun b hb => ⟨.inl hb, ?_⟩) hsz h.gh ?_ ?_⟩
  · have := h.liveG b hb; exact Nat.lt_of_lt_of_le this hsz
  · have := h.liveH b hb; exact Nat.lt_of_lt_of_le this hsz
  · show RowAt w' m.G T t xs (m'.ν n)
    rw [hν]; exact hrow
  · intro b hb
    have e : blk ((n, Obj.row T t xs) :: os) m' n = v.ownBlock := by unfold blk; rw [find_cons, if_pos rfl]; simp only [hν]
    rw [e] at hb
    obtain ⟨a, n, c, hv, rfl⟩ := ownBlock_some hb
    obtain ⟨h1, h2, h3, h4, h5⟩ := hn a n c hv
    exact ⟨h3, h4, h2, h1, h5⟩

/-- Rows are written no more. -/
theorem ObjsOk.freezeRow (h : ObjsOk w0 G0 m os) (i : Nat) : ∃ m', m.le m' ∧ m'.w = m.w ∧ m'.D = m.D ∧ m'.β = m.β ∧ m'.ν = m.ν ∧ ObjsOk w0 G0 m' (freezeRow os i) := by
  unfold Ev.freezeRow
  cases hf : find os i with
  | none => exact ⟨m, .refl m, rfl, rfl, rfl, rfl, h⟩
  | some o =>
    cases o with
    | var vs => exact ⟨m, .refl m, rfl, rfl, rfl, rfl, h⟩
    | frow t xs => exact ⟨m, .refl m, rfl, rfl, rfl, rfl, h⟩
    | row T t xs =>
      let m' : St := { m with G := fun b => m.G b ∨ blk os m i = some b, H := fun b => m.H b ∨ blk os m i = some b }
      have hle : m.le m' := ⟨fun b hb => ⟨.inl hb, rfl⟩, fun b hb => ⟨.inl hb, rfl⟩, fun _ h => h, fun _ _ => rfl, fun _ _ => rfl⟩
      have hob := (h.objs i _ hf).2
      have hlt : ∀ i o, find os i = some o → m.D i := fun i o hf => (h.objs i o hf).1
      have hold : ∀ j, j ≠ i → blk (upd os i (.frow t xs)) m' j = blk os m j := fun j hj => by
        unfold blk
        rw [find_upd, if_neg (fun e => hj e.symm)]
      have hnew : blk (upd os i (.frow t xs)) m' i = none := by
        unfold blk
        rw [find_upd, if_pos rfl, hf]
        rfl
      have hall : ∀ j b, blk (upd os i (.frow t xs)) m' j = some b → blk os m j = some b ∧ j ≠ i := fun j b hh => by
        by_cases hj : j = i
        · subst hj; rw [hnew] at hh; simp at hh
        · rw [hold j hj] at hh; exact ⟨hh, hj⟩
      refine ⟨m', hle, rfl, rfl, rfl, rfl, h.base, fun j p hj => ?_, fun j k b h1 h2 => h.inj j k b (hall j b h1).1 (hall k b h2).1, fun j b h1 => ?_, fun b hg => ?_, fun b hg => ?_, fun b hg => ?_, fun b hg => hg.imp (h.gh b) id⟩
      · rw [find_upd] at hj
        by_cases e : i = j
        · rw [if_pos e, hf] at hj
          obtain rfl := Option.some.inj hj
          subst e
          refine ⟨hlt i _ hf, ?_⟩
          show Val m.w m'.G (.sl t) xs [m.ν i]
          exact RowAt.val hob (fun b hb => .inl hb) fun a n c e => .inr (by unfold blk; rw [hf]; simp [e, Value.ownBlock])
        · rw [if_neg e] at hj
          exact ⟨hlt j p hj, Ob.le hle (hlt j p hj) (h.objs j p hj).2 os hj fun _ _ => rfl⟩
      · obtain ⟨hj, hne⟩ := hall j b h1
        obtain ⟨a1, a2, a3, a4⟩ := h.out j b hj
        refine ⟨fun hg => ?_, fun hg => ?_, a3, a4⟩
        · rcases hg with hg | hg
          · exact a1 hg
          · exact hne (h.inj j i b hj hg)
        · rcases hg with hg | hg
          · exact a2 hg
          · exact hne (h.inj j i b hj hg)
      · rcases hg with hg | hg
        · exact h.liveG b hg
        · exact (h.out i b hg).2.2.1
      · rcases hg with hg | hg
        · exact h.liveH b hg
        · exact (h.out i b hg).2.2.1
      · rcases hg with hg | hg
        · exact h.subG b hg
        · exact .inr (h.out i b hg).2.2.2
theorem ObjsOk.freezeAll : ∀ (l : List Nat) {os : List (Nat × Obj)} {m : St}, ObjsOk w0 G0 m os → ∃ m', m.le m' ∧ m'.w = m.w ∧ m'.D = m.D ∧ m'.β = m.β ∧ m'.ν = m.ν ∧ ObjsOk w0 G0 m' (freezeAll l os)
  | [], _, m, h => ⟨m, .refl m, rfl, rfl, rfl, rfl, h⟩
  | i :: r, _, m, h => by
    obtain ⟨m1, l1, w1, n1, b1, v1, h1⟩ := h.freezeRow i
    obtain ⟨m2, l2, w2, n2, b2, v2, h2⟩ := ObjsOk.freezeAll r h1
    exact ⟨m2, l1.trans l2, w2.trans w1, n2.trans n1, b2.trans b1, v2.trans v1, h2⟩
/-- Freezing what lies on the left. -/
theorem freezeRow_left {l l' : List (Nat × Obj)} (id : Nat) : (∀ i, find (freezeRow l id ++ l') i = find (l ++ l') i) ∨ ∀ i, find (freezeRow l id ++ l') i = find (freezeRow (l ++ l') id) i := by
  unfold Ev.freezeRow
  cases hf : find l id with
  | none => exact .inl fun _ => rfl
  | some o =>
    cases o with
    | var vs => exact .inl fun _ => rfl
    | frow t xs => exact .inl fun _ => rfl
    | row T t xs =>
      right
      intro i
      rw [find_append l l', hf]
      exact upd_left (.frow t xs) hf i
theorem freezeRow_dom (l : List (Nat × Obj)) (id i : Nat) (o : Obj) (h : find (freezeRow l id) i = some o) : ∃ o', find l i = some o' := by
  unfold Ev.freezeRow at h
  cases hf : find l id with
  | none => rw [hf] at h; exact ⟨_, h⟩
  | some p =>
    cases p with
    | var vs => rw [hf] at h; exact ⟨_, h⟩
    | frow t xs => rw [hf] at h; exact ⟨_, h⟩
    | row T t xs =>
      rw [hf] at h
      simp only at h
      rw [find_upd] at h
      by_cases hi : id = i
      · subst hi; exact ⟨_, hf⟩
      · rw [if_neg hi] at h; exact ⟨_, h⟩
theorem freezeAll_dom : ∀ (ids : List Nat) (l : List (Nat × Obj)) (i : Nat) (o : Obj), find (freezeAll ids l) i = some o → ∃ o', find l i = some o'
  | [], _, _, o, h => ⟨o, h⟩
  | j :: r, l, i, o, h => by
    obtain ⟨o', h'⟩ := freezeAll_dom r _ i o h
    exact freezeRow_dom l j i o' h'
theorem ObjsOk.freezeLeft : ∀ (ids : List Nat) {l : List (Nat × Obj)} {m : St}, ObjsOk w0 G0 m (l ++ F) → ∃ m', m.le m' ∧ m'.w = m.w ∧ m'.D = m.D ∧ m'.β = m.β ∧ m'.ν = m.ν ∧ ObjsOk w0 G0 m' (Ev.freezeAll ids l ++ F)
  | [], _, m, h => ⟨m, .refl m, rfl, rfl, rfl, rfl, h⟩
  | i :: r, l, m, h => by
    rcases freezeRow_left (l := l) (l' := F) i with hc | hc
    · exact ObjsOk.freezeLeft r (h.congr hc)
    · obtain ⟨m1, l1, w1, n1, b1, v1, h1⟩ := h.freezeRow i
      obtain ⟨m2, l2, w2, n2, b2, v2, h2⟩ := ObjsOk.freezeLeft r (h1.congr hc)
      exact ⟨m2, l1.trans l2, w2.trans w1, n2.trans n1, b2.trans b1, v2.trans v1, h2⟩
theorem Rel.freeze (h : Rel w0 G0 N F m e tm) (l : List Nat) : ∃ m', m.le m' ∧ m'.w = m.w ∧ m'.D = m.D ∧ Rel w0 G0 N F m' (e.freeze l) tm := by
  obtain ⟨m', hl, hw, hn, _, _, ho⟩ := h.ok.freezeLeft l
  exact ⟨m', hl, hw, hn, h.objs hl _ _ ho fun i o hf => by
    obtain ⟨o', h'⟩ := freezeAll_dom l _ i o hf
    exact h.disj i o' h'⟩

/-- One step of the evaluator: at most one new name, the next. -/
structure Stp (m : St) (e : Env) (m' : St) (e' : Env) : Prop where
  le : m.le m'
  D : ∀ i, m'.D i → m.D i ∨ (i = e.next ∧ e'.next = e.next + 1)
  next : e'.next = e.next ∨ e'.next = e.next + 1
  slots : e'.slots = e.slots
theorem Stp.same (hle : m.le m') (hD : m'.D = m.D) {e' : Env} (hn : e'.next = e.next) (hs : e'.slots = e.slots := by rfl) : Stp m e m' e' := ⟨hle, fun i hi => .inl (by rw [← hD]; exact hi), .inl hn, hs⟩
theorem Stp.refl (m : St) (e : Env) : Stp m e m e := .same (.refl m) rfl rfl
theorem Stp.new (hle : m.le m') (hD : ∀ i, m'.D i ↔ m.D i ∨ i = e.next) {e' : Env} (hn : e'.next = e.next + 1) (hs : e'.slots = e.slots := by rfl) : Stp m e m' e' := ⟨hle, fun i hi => ((hD i).1 hi).imp id fun h => ⟨h, hn⟩, .inr hn, hs⟩
/-- The new object's name is nowhere else. -/
theorem Rel.push (h : Rel w0 G0 N F m e tm) (hfr : ¬ m.D e.next) (hle : m.le m') (o : Obj) (ho : ObjsOk w0 G0 m' ((e.next, o) :: (e.objs ++ F))) : Rel w0 G0 N F m' (e.new o) tm :=
  h.objs hle _ _ ho fun i p hf => by
    rw [find_cons] at hf
    by_cases hi : e.next = i
    · subst hi
      cases hF : find F e.next with
      | none => rfl
      | some q =>
        have := h.ok.objs e.next q (by
          rw [find_append, hF]
          cases hE : find e.objs e.next with
          | none => rfl
          | some z => exact absurd (h.obj _ _ hE).1 hfr)
        exact absurd this.1 hfr
    · rw [if_neg hi] at hf
      exact h.disj i p hf
end Go.Ev
end

section
/- The table of types, held against the program's. -/
set_option linter.unusedSimpArgs false
set_option linter.unusedVariables false
namespace Go.Ev

def zz : List V → List Value → Bool
  | [], [] => true
  | .i k n :: l, .int j n' :: m => kEq k j && decide (n = n') && zz l m
  | .b x :: l, .bool y :: m => (x == y) && zz l m
  | .s [] :: l, .string s :: m => (match s.data.toList with
    | [] => true
    | _ => false) && zz l m
  | .nil :: l, .slice none n c :: m => Nat.beq n 0 && Nat.beq c 0 && zz l m
  | _, _ => false
def zeroOk (t : Ty) : Option Value → Bool
  | some (.agg cs) => t.isAgg && zz (zeros t []) cs.toList
  | some z => !t.isAgg && zz (zeros t []) [z]
  | none => false
def fieldsOk (P : Program) : List Field → List Nat → List Nat → Bool
  | [], [], [] => true
  | f :: fs, d :: ds, s :: ss => Nat.beq f.offset d && (match P.info? f.type with
    | some j => Nat.beq j.size s && !Nat.beq s 0
    | none => false) && fieldsOk P fs ds ss
  | _, _, _ => false
def shapeOk (P : Program) (Γ : Tab) (ti : TI) : TypeDesc → Bool
  | .int k => match ti.ty with
    | .int j => kEq k j
    | _ => false
  | .bool => match ti.ty with
    | .bool => true
    | _ => false
  | .string => match ti.ty with
    | .str => true
    | _ => false
  | .slice el => match ti.ty with
    | .sl t => Nat.beq el ti.elem && (match find Γ ti.elem with
      | some tj => (match Ty.decEq tj.ty t with
        | .isTrue _ => true
        | .isFalse _ => false) && !Nat.beq t.size 0
      | none => false)
    | _ => false
  | .struct fs => ti.ty.isAgg && fieldsOk P fs.toList ti.offs ti.sizes && Nat.beq ti.elem 0
  | .array n el => ti.ty.isAgg && Nat.beq el ti.elem && !Nat.beq ti.elem 0 && (match ti.offs with
    | [] => true
    | _ => false) && (match find Γ ti.elem with
    | some tj => tyEq ti.ty (arrTy n tj.ty)
    | none => false)
  | _ => false
def fieldTys (Γ : Tab) : List Field → Ty → Nat → Bool
  | [], .unit, _ => true
  | f :: fs, .pair a b, off => Nat.beq f.offset off && (match find Γ f.type with
    | some tf => tyEq tf.ty a
    | none => false) && fieldTys Γ fs b (off + a.size)
  | _, _, _ => false
def tiDeep (P : Program) (Γ : Tab) (T : Nat) (ti : TI) : Bool := match ti.ty.isAgg with
  | false => match ti.ty with
    | .any => false
    | _ => true
  | true => match P.underlying T with
    | some (.struct fs) => fieldTys Γ fs.toList ti.ty 0
    | _ => false
def Ty.dep : Ty → Nat
  | .pair a b => max (a.dep + 1) b.dep
  | _ => 0
def namesOk (Γ : Tab) : List Field → Bool
  | [] => true
  | f :: fs => (!(f.name == "_") && (match find Γ f.type with
    | some tf => Nat.beq tf.elem 0 || !tf.ty.isAgg
    | none => true)) && namesOk Γ fs
def eqOk (P : Program) (Γ : Tab) (T : Nat) (ti : TI) : Bool := match ti.ty.isAgg && ti.ty.flat && Nat.beq ti.elem 0 with
  | false => true
  | true => match P.underlying T with
    | some (.struct fs) => fieldTys Γ fs.toList ti.ty 0 && namesOk Γ fs.toList && !P.stoodInHeld T && !P.eqGuardType P.depth T && Nat.ble ti.ty.dep 1000
    | _ => false
def tiOk (P : Program) (Γ : Tab) (T : Nat) (ti : TI) : Bool := match P.info? T, P.underlying T with
  | some i, some d => Nat.beq i.size ti.ty.size && Nat.beq i.bytes ti.bytes && Nat.ble ti.bytes 1024 && zeroOk ti.ty i.zero && shapeOk P Γ ti d && eqOk P Γ T ti
  | _, _ => false
def tabOk (P : Program) (Γ : Tab) : List (Nat × TI) → Bool
  | [] => true
  | (T, ti) :: r => tiOk P Γ T ti && tabOk P Γ r

structure TyOk (P : Program) (Γ : Tab) (T : Nat) (ti : TI) : Prop where
  info : ∃ i z cs, P.info? T = some i ∧ i.size = ti.ty.size ∧ i.bytes = ti.bytes ∧ i.zero = some z ∧ z.cells = List.toArray cs ∧ AsVal ti.ty cs z ∧ ∀ m, R2 (Lv m) (zeros ti.ty []) cs
  small : ti.bytes ≤ 1024
  under : ∃ d, P.underlying T = some d ∧ d.isRow = ti.ty.isAgg ∧ (ti.ty.isAgg = true → (∃ fs, d = .struct fs ∧ fieldsOk P fs.toList ti.offs ti.sizes = true ∧ ti.elem = 0) ∨ ∃ n tj, d = .array n ti.elem ∧ ti.elem ≠ 0 ∧ ti.offs = [] ∧ find Γ ti.elem = some tj ∧ ti.ty = arrTy n tj.ty)
  int : ∀ k, ti.ty = .int k → P.underlying T = some (.int k)
  str : ti.ty = .str → P.underlying T = some .string
  bool : ti.ty = .bool → P.underlying T = some .bool
  sl : ∀ t, ti.ty = .sl t → P.underlying T = some (.slice ti.elem) ∧ 0 < t.size ∧ ∃ tj, find Γ ti.elem = some tj ∧ tj.ty = t
  eqq : ti.ty.isAgg = true → ti.ty.flat = true → ti.elem = 0 → ∃ fs, P.underlying T = some (.struct fs) ∧ fieldTys Γ fs.toList ti.ty 0 = true ∧ namesOk Γ fs.toList = true ∧ P.stoodInHeld T = false ∧ P.eqGuardType P.depth T = false ∧ ti.ty.dep ≤ 1000
def TabOk (P : Program) (Γ : Tab) : Prop := ∀ T ti, find Γ T = some ti → TyOk P Γ T ti

theorem zz_rel (m : St) : ∀ (l : List V) (cs : List Value), zz l cs = true → R2 (Lv m) l cs
  | [], [], _ => trivial
  | [], _ :: _, h => by simp [zz] at h
  | _ :: _, [], h => by rename_i v _; cases v <;> simp [zz] at h <;> (rename_i x; cases x <;> simp [zz] at h)
  | .i k n :: l, c :: cs, h => by
    cases c <;> simp [zz] at h
    obtain ⟨⟨h1, h2⟩, h3⟩ := h
    have := kEq_eq h1
    subst this; subst h2
    exact ⟨rfl, zz_rel m l cs h3⟩
  | .b x :: l, c :: cs, h => by
    cases c <;> simp [zz] at h
    obtain ⟨h1, h3⟩ := h
    subst h1
    exact ⟨rfl, zz_rel m l cs h3⟩
  | .s x :: l, c :: cs, h => by
    cases x with
    | cons => simp [zz] at h
    | nil =>
      cases c <;> simp only [zz, Bool.and_eq_true, Bool.false_eq_true] at h
      rename_i s
      obtain ⟨h1, h3⟩ := h
      refine ⟨⟨s, rfl, ?_⟩, zz_rel m l cs h3⟩
      cases hs : s.data.toList with
      | nil => rfl
      | cons a b => rw [hs] at h1; simp at h1
  | .nil :: l, c :: cs, h => by
    cases c with
    | slice A n cp =>
      cases A with
      | some a => simp [zz] at h
      | none =>
        simp only [zz, Bool.and_eq_true] at h
        obtain ⟨⟨h1, h2⟩, h3⟩ := h
        have e1 := Nat.eq_of_beq_eq_true h1
        have e2 := Nat.eq_of_beq_eq_true h2
        subst e1; subst e2
        exact ⟨rfl, zz_rel m l cs h3⟩
    | _ => simp [zz] at h
  | .sl _ _ :: _, _ :: _, h => by simp [zz] at h
  | .row _ :: _, _ :: _, h => by simp [zz] at h
  | .loc _ _ :: _, _ :: _, h => by simp [zz] at h
  | .el _ _ _ :: _, _ :: _, h => by simp [zz] at h
  | .rel _ _ _ _ :: _, _ :: _, h => by simp [zz] at h
  | .clo _ _ :: _, _ :: _, h => by simp [zz] at h
  | .ifc _ _ :: _, _ :: _, h => by simp [zz] at h
  | .any :: _, _ :: _, h => by simp [zz] at h

theorem zeroOk_rel {t : Ty} {z : Option Value} (h : zeroOk t z = true) : ∃ v cs, z = some v ∧ v.cells = List.toArray cs ∧ AsVal t cs v ∧ ∀ m, R2 (Lv m) (zeros t []) cs := by
  cases z with
  | none => simp [zeroOk] at h
  | some v =>
    by_cases ha : ∃ cs, v = .agg cs
    · obtain ⟨cs, rfl⟩ := ha
      simp only [zeroOk, Bool.and_eq_true] at h
      exact ⟨_, cs.toList, rfl, by simp [Value.cells], by simp [AsVal, h.1], fun m => zz_rel m _ _ h.2⟩
    · have h' : (!t.isAgg && zz (zeros t []) [v]) = true := by
        cases v <;> first | exact h | exact absurd ⟨_, rfl⟩ ha
      simp only [Bool.and_eq_true, Bool.not_eq_true'] at h'
      refine ⟨v, [v], rfl, ?_, by simp [AsVal, h'.1], fun m => zz_rel m _ _ h'.2⟩
      cases v <;> first | rfl | exact absurd ⟨_, rfl⟩ ha

theorem tyEq_eq0 {a b : Ty} (h : tyEq a b = true) : a = b := by
  unfold tyEq at h
  cases hd : Ty.decEq a b with
  | isTrue e => exact e
  | isFalse e => rw [hd] at h; simp at h
theorem tiOk_ok {P : Program} {Γ : Tab} {T : Nat} {ti : TI} (h : tiOk P Γ T ti = true) : TyOk P Γ T ti := by
  unfold tiOk at h
  cases hi : P.info? T with
  | none => simp [hi] at h
  | some i =>
    cases hd : P.underlying T with
    | none => simp [hi, hd] at h
    | some d =>
      simp only [hi, hd, Bool.and_eq_true] at h
      obtain ⟨⟨⟨⟨⟨h1, h2⟩, h3⟩, h4⟩, h5⟩, h6⟩ := h
      obtain ⟨v, cs, hv, hc, ha, hr⟩ := zeroOk_rel h4
      have e1 := Nat.eq_of_beq_eq_true h1
      have e2 := Nat.eq_of_beq_eq_true h2
      have e3 := Nat.le_of_ble_eq_true h3
      refine ⟨⟨i, v, cs, hi, e1, e2, hv, hc, ha, hr⟩, e3, ⟨d, hd, ?_, ?_⟩, ?_, ?_, ?_, ?_, ?_⟩
      · cases d with
        | struct fs => simp only [shapeOk, Bool.and_eq_true] at h5; simp [TypeDesc.isRow, h5.1.1]
        | array n el => simp only [shapeOk, Bool.and_eq_true] at h5; simp [TypeDesc.isRow, h5.1.1.1.1]
        | int k => cases ht : ti.ty <;> simp [shapeOk, ht] at h5 <;> rfl
        | bool => cases ht : ti.ty <;> simp [shapeOk, ht] at h5 <;> rfl
        | string => cases ht : ti.ty <;> simp [shapeOk, ht] at h5 <;> rfl
        | slice el => cases ht : ti.ty <;> simp [shapeOk, ht] at h5 <;> rfl
        | _ => simp [shapeOk] at h5
      · intro hag
        cases d with
        | struct fs => simp only [shapeOk, Bool.and_eq_true] at h5; exact .inl ⟨fs, rfl, h5.1.2, Nat.eq_of_beq_eq_true h5.2⟩
        | array n el =>
          simp only [shapeOk, Bool.and_eq_true, Bool.not_eq_true'] at h5
          obtain ⟨⟨⟨⟨g1, g2⟩, g3⟩, g4⟩, g5⟩ := h5
          have g2 := Nat.eq_of_beq_eq_true g2
          subst g2
          right
          cases hf : find Γ ti.elem with
          | none => rw [hf] at g5; simp at g5
          | some tj =>
            rw [hf] at g5
            refine ⟨n, tj, rfl, fun h0 => ?_, ?_, rfl, tyEq_eq0 g5⟩
            · rw [h0] at g3; simp at g3
            · cases ho : ti.offs with
              | nil => rfl
              | cons => rw [ho] at g4; simp at g4
        | int k => cases ht : ti.ty <;> simp [shapeOk, ht, Ty.isAgg] at h5 hag
        | bool => cases ht : ti.ty <;> simp [shapeOk, ht, Ty.isAgg] at h5 hag
        | string => cases ht : ti.ty <;> simp [shapeOk, ht, Ty.isAgg] at h5 hag
        | slice el => cases ht : ti.ty <;> simp [shapeOk, ht, Ty.isAgg] at h5 hag
        | _ => simp [shapeOk] at h5
      · intro k hk
        cases d <;> simp [shapeOk, hk, Ty.isAgg] at h5
        rw [hd, kEq_eq h5]
      · intro hk
        cases d <;> simp [shapeOk, hk, Ty.isAgg] at h5
        exact hd
      · intro hk
        cases d <;> simp [shapeOk, hk, Ty.isAgg] at h5
        exact hd
      · intro t ht
        cases d <;> simp [shapeOk, ht, Ty.isAgg] at h5
        rename_i el
        obtain ⟨h6, h7⟩ := h5
        cases hf : find Γ ti.elem with
        | none => simp [hf] at h7
        | some tj =>
          simp only [hf] at h7
          cases hq : Ty.decEq tj.ty t with
          | isFalse _ => simp [hq] at h7
          | isTrue e =>
            simp only [hq] at h7
            refine ⟨by rw [hd, h6], ?_, tj, rfl, e⟩
            by_cases h0 : t.size = 0
            · rw [h0] at h7; simp at h7
            · omega
      · intro ha hf h0
        unfold eqOk at h6
        rw [ha, hf, h0, hd] at h6
        cases d with
        | struct fs =>
          have hb0 : Nat.beq 0 0 = true := rfl
          simp only [hb0, Bool.and_self, Bool.and_true, Bool.and_eq_true, Bool.not_eq_true'] at h6
          obtain ⟨⟨⟨⟨g1, g2⟩, g3⟩, g4⟩, g5⟩ := h6
          exact ⟨fs, hd, g1, g2, g3, g4, Nat.le_of_ble_eq_true g5⟩
        | _ => simp at h6
theorem tabOk_ok {P : Program} {Γ : Tab} : ∀ {l : List (Nat × TI)}, tabOk P Γ l = true → ∀ T ti, find l T = some ti → TyOk P Γ T ti
  | [], _, T, ti, h => by simp [find] at h
  | (U, tu) :: r, h, T, ti, hf => by
    simp only [tabOk, Bool.and_eq_true] at h
    rw [find_cons] at hf
    by_cases e : U = T
    · rw [if_pos e] at hf
      obtain rfl := Option.some.inj hf
      subst e
      exact tiOk_ok h.1
    · rw [if_neg e] at hf
      exact tabOk_ok h.2 T ti hf
theorem fieldsOk_get {P : Program} : ∀ {fs : List Field} {ds ss : List Nat}, fieldsOk P fs ds ss = true → ∀ i d, nth ds i = some d → ∃ f j, fs[i]? = some f ∧ f.offset = d ∧ P.info? f.type = some j ∧ nth ss i = some j.size ∧ j.size ≠ 0
  | [], [], [], _, i, d, h => by cases i <;> simp [nth] at h
  | f :: fs, e :: ds, s :: ss, h, 0, d, hd => by
    simp only [fieldsOk, Bool.and_eq_true] at h
    obtain ⟨⟨h1, h2⟩, h3⟩ := h
    simp only [nth, Option.some.injEq] at hd
    subst hd
    cases hj : P.info? f.type with
    | none => simp [hj] at h2
    | some j =>
      simp only [hj, Bool.and_eq_true, Bool.not_eq_true'] at h2
      have e2 := Nat.eq_of_beq_eq_true h2.1
      refine ⟨f, j, by simp, Nat.eq_of_beq_eq_true h1, hj, by simp [nth, e2], ?_⟩
      intro h0
      have h22 := h2.2
      rw [← e2, h0] at h22
      simp at h22
  | f :: fs, e :: ds, s :: ss, h, i + 1, d, hd => by
    simp only [fieldsOk, Bool.and_eq_true] at h
    obtain ⟨g, j, h1, h2, h3, h4, h5⟩ := fieldsOk_get h.2 i d (by simpa [nth] using hd)
    exact ⟨g, j, by simpa using h1, h2, h3, by simpa [nth] using h4, h5⟩
  | [], _ :: _, _, h, _, _, _ => by simp [fieldsOk] at h
  | [], [], _ :: _, h, _, _, _ => by simp [fieldsOk] at h
  | _ :: _, [], _, h, _, _, _ => by simp [fieldsOk] at h
  | _ :: _, _ :: _, [], h, _, _, _ => by simp [fieldsOk] at h
end Go.Ev
end

section
/- '==' of two structs. -/
set_option linter.unusedSimpArgs false
set_option linter.unusedVariables false
namespace Go.Ev
section
variable {P : Program} {Γ : Tab} {w : World} {G : Nat → Prop}
theorem tyEq_eq' {a b : Ty} (h : tyEq a b = true) : a = b := by
  unfold tyEq at h
  cases hd : Ty.decEq a b with
  | isTrue e => exact e
  | isFalse e => rw [hd] at h; simp at h
theorem run_isAgg (hΓ : TabOk P Γ) {T : Nat} {ti : TI} (hf : find Γ T = some ti) (w : World) : (isAgg T).run P w = .ok ti.ty.isAgg w := by
  obtain ⟨d, hu, hr, hs⟩ := (hΓ T ti hf).under
  unfold isAgg
  simp only [Sem.run_bind, run_underlying hu, Result.andThen_ok]
  rw [← hr]
  cases hd : ti.ty.isAgg with
  | true =>
    rcases hs hd with ⟨fs, rfl, _⟩ | ⟨n, tj, rfl, _⟩ <;> simp [TypeDesc.isRow]
  | false =>
    rw [hd] at hr
    cases d <;> simp [TypeDesc.isRow] at hr ⊢
theorem part_run (hΓ : TabOk P Γ) {T : Nat} {ti : TI} (hf : find Γ T = some ti) (xs : Array Value) (off : Nat) {c1 c2 : List Value} (h : xs.toList.drop off = c1 ++ c2) (hl : c1.length = ti.ty.size) (w : World) :
    ∃ v, (part T xs off).run P w = .ok v w ∧ AsVal ti.ty c1 v := by
  obtain ⟨i, z, cs, hi, hs, _⟩ := (hΓ T ti hf).info
  have hsz : P.cellsOf T = ti.ty.size := by simp [Program.cellsOf, hi, hs]
  unfold part AsVal
  simp only [Sem.run_bind, run_isAgg hΓ hf, Result.andThen_ok]
  cases ha : ti.ty.isAgg with
  | true =>
    simp only [if_true, Sem.run_bind, run_sizeOf w hi, Result.andThen_ok, Sem.run_pure]
    refine ⟨_, rfl, ?_⟩
    congr 1
    apply Array.toList_inj.1
    rw [Array.toList_extract]
    simp [List.extract, h, hsz, ← hl]
  | false =>
    have h1 : c1.length = 1 := by rw [hl]; cases ht : ti.ty <;> simp [ht, Ty.isAgg] at ha <;> rfl
    match c1, h1 with
    | [a], _ =>
      have : xs[off]? = some a := by
        have h0 := congrArg (fun l => l[0]?) h
        simpa using h0
      exact ⟨a, by simp [this], rfl⟩
theorem eqIn_run (hΓ : TabOk P Γ) : ∀ (n : Nat) (T : Nat) (ti : TI) (t : Ty) (ht : ti.ty = t) (x y : t.den) (cs ds : List Value) (u v : Value) (w' : World), find Γ T = some ti → (ti.ty.isAgg = true → ti.elem = 0) → t.flat = true → t.dep ≤ n →
    Val w G t x cs → AsVal t cs u → Val w G t y ds → AsVal t ds v → (Op.equalIn (n + 1) T u v).run P w' = .ok (eqT t x y) w'
  | n, T, ti, t, ht, x, y, cs, ds, u, v, w', hf, h00, hfl, hn, hx, hu, hy, hv => by
    have hT := hΓ T ti hf
    cases ha : t.isAgg with
    | true =>
      subst ht
      obtain ⟨fs, hus, hft, hnm, hst, _, _⟩ := hT.eqq ha hfl (h00 ha)
      simp only [AsVal, ha] at hu hv
      subst hu; subst hv
      have hfs : P.fieldsOf T = fs := by simp [Program.fieldsOf, hus]
      rw [run_equalIn_struct w' n T _ _ (by rw [hfs]; exact hus) hst, hfs]
      have key : ∀ (fl : List Field) (t : Ty) (off : Nat) (x y : t.den), fieldTys Γ fl t off = true → namesOk Γ fl = true → t.flat = true → t.dep ≤ n → t.isAgg = true → Val w G t x (cs.drop off) → Val w G t y (ds.drop off) → ∀ w', (Op.eqFields n cs.toArray ds.toArray fl).run P w' = .ok (eqT t x y) w' := by
        intro fl
        induction fl with
        | nil =>
          intro t off x y hft _ _ _ _ _ _ w'
          cases t <;> simp [fieldTys] at hft
          simp [Op.eqFields, eqT]
        | cons f fl ih =>
          intro t off x y hft hnm hfl hdep hag hx hy w'
          obtain ⟨a, t2, rfl⟩ : ∃ a t2, t = .pair a t2 := by
            cases t <;> first | (simp [fieldTys] at hft; done) | exact ⟨_, _, rfl⟩
          simp only [fieldTys, Bool.and_eq_true] at hft
          obtain ⟨⟨h1, h2⟩, h3⟩ := hft
          have h1 := Nat.eq_of_beq_eq_true h1
          simp only [namesOk, Bool.and_eq_true, Bool.not_eq_true', beq_eq_false_iff_ne] at hnm
          cases hff : find Γ f.type with
          | none => simp [hff] at h2
          | some tf =>
            simp only [hff] at h2
            have hta := tyEq_eq' h2
            subst hta
            simp only [Ty.flat, Bool.and_eq_true] at hfl
            simp only [Ty.dep] at hdep
            obtain ⟨c1, c2, e1, v1, v2⟩ := hx
            obtain ⟨d1, d2, e2, u1, u2⟩ := hy
            have l1 := v1.length
            have l2 := u1.length
            obtain ⟨p, hp, ap⟩ := part_run hΓ hff cs.toArray off (by simpa using e1) l1 w'
            obtain ⟨q, hq, aq⟩ := part_run hΓ hff ds.toArray off (by simpa using e2) l2 w'
            obtain ⟨k, rfl⟩ : ∃ k, n = k + 1 := ⟨n - 1, by omega⟩
            have he := eqIn_run hΓ k f.type tf tf.ty rfl x.1 y.1 c1 d1 p q w' hff (fun hag => by have := hnm.1.2; rw [hff] at this; simpa [hag] using this) hfl.1 (by omega) v1 ap u1 aq
            have hb : t2.isAgg = true := by
              cases fl with
              | nil => cases t2 <;> simp [fieldTys] at h3 <;> rfl
              | cons g gl => cases t2 <;> simp [fieldTys] at h3 <;> rfl
            have hr := ih t2 (off + tf.ty.size) x.2 y.2 h3 hnm.2 hfl.2 (by omega) hb (by rw [← List.drop_drop, e1, ← l1, List.drop_left]; exact v2) (by rw [← List.drop_drop, e2, ← l2, List.drop_left]; exact u2) w'
            rw [← h1] at hp hq
            have hne : f.name ≠ "_" := hnm.1.1
            simp only [Op.eqFields, hne, ne_eq, not_false_eq_true, if_true, Sem.run_bind, hp, hq, he, Result.andThen_ok]
            have e3 : eqT (.pair tf.ty t2) x y = (eqT tf.ty x.1 y.1 && eqT t2 x.2 y.2) := rfl
            rw [e3]
            cases eqT tf.ty x.1 y.1 with
            | false => simp
            | true => simpa using hr
      exact key fs.toList ti.ty 0 x y hft hnm hfl hn ha (by simpa using hx) (by simpa using hy) w'
    | false =>
      simp only [AsVal, ha] at hu hv
      subst hu; subst hv
      cases t with
      | int k =>
        simp only [Val, List.cons.injEq, and_true] at hx hy
        subst hx; subst hy
        exact run_equalIn_int w' n T k k _ _ (hT.int k ht)
      | bool =>
        simp only [Val, List.cons.injEq, and_true] at hx hy
        subst hx; subst hy
        exact run_equalIn_bool w' n T _ _ (hT.bool ht)
      | str =>
        obtain ⟨p, e1, rfl⟩ := hx
        obtain ⟨q, e2, rfl⟩ := hy
        simp only [List.cons.injEq, and_true] at e1 e2
        subst e1; subst e2
        rw [run_equalIn_string w' n T _ _ (hT.str ht), ByteArray.toList_eq, ByteArray.toList_eq]
        rfl
      | sl t => simp [Ty.flat] at hfl
      | any => simp [Ty.flat] at hfl
      | pair a b => simp [Ty.isAgg] at ha
      | unit => simp [Ty.isAgg] at ha
/-- '==' and '!=' of structs. -/
theorem evEq_run (hΓ : TabOk P Γ) {T : Nat} {ti : TI} (hf : find Γ T = some ti) (h0 : ti.elem = 0) (ha : ti.ty.isAgg = true) (hfl : ti.ty.flat = true) {x y : ti.ty.den} {cs ds : List Value} (hx : Val w G ti.ty x cs) (hy : Val w G ti.ty y ds) (o1 o2 : Operand) (w' : World) (op : BinOp) :
    (op = .eql → (do eqGuard op T o1 o2 (.agg cs.toArray) (.agg ds.toArray); binOp op T (.agg cs.toArray) (.agg ds.toArray) : Sem Value).run P w' = .ok (.bool (eqT ti.ty x y)) w') ∧
    (op = .neq → (do eqGuard op T o1 o2 (.agg cs.toArray) (.agg ds.toArray); binOp op T (.agg cs.toArray) (.agg ds.toArray) : Sem Value).run P w' = .ok (.bool (!eqT ti.ty x y)) w') := by
  obtain ⟨fs, _, _, _, _, hg, hd⟩ := (hΓ T ti hf).eqq ha hfl h0
  have he : (Op.equal T (.agg cs.toArray) (.agg ds.toArray)).run P w' = .ok (eqT ti.ty x y) w' := eqIn_run hΓ 9999 T ti ti.ty rfl x y cs ds _ _ w' hf (fun _ => h0) hfl (by omega) hx (by simp [AsVal, ha]) hy (by simp [AsVal, ha])
  constructor <;> intro h <;> subst h
  · simp [eqGuard, binOp, run_program, he, hg]
  · simp [eqGuard, binOp, run_program, he, hg]
end
end Go.Ev
end
