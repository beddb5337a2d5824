/- The evaluator's steps. -/
import Derived.Test.YticlnmiakaelkaaEvDefs
import Derived.Laws.Entries
namespace Go.Ev

def zeros : Ty → List V → List V
  | .int k, r => V.i k 0 :: r
  | .bool, r => V.b false :: r
  | .str, r => V.s [] :: r
  | .sl _, r => V.nil :: r
  | .pair a b, r => zeros a (zeros b r)
  | .unit, r => r

def takeN {α : Type} : Nat → List α → List α
  | 0, _ => []
  | _ + 1, [] => []
  | n + 1, a :: l => a :: takeN n l
def dropN {α : Type} : Nat → List α → List α
  | 0, l => l
  | _ + 1, [] => []
  | n + 1, _ :: l => dropN n l
def nth {α : Type} : List α → Nat → Option α
  | [], _ => none
  | a :: _, 0 => some a
  | _ :: l, n + 1 => nth l n
/-- ys in the place of what lies from off on -/
def paste {α : Type} : List α → Nat → List α → List α
  | l, 0, [] => l
  | [], _, _ => []
  | _ :: l, 0, y :: ys => y :: paste l 0 ys
  | a :: l, n + 1, ys => a :: paste l n ys
def lenN {α : Type} : List α → Nat
  | [] => 0
  | _ :: l => lenN l + 1

def br {ρ : Type} (b : Bool) (x y : Option ρ) : Option ρ := cond b x y
def bnd {α ρ : Type} (m : Option α) (f : α → Option ρ) : Option ρ := m.bind f
def onSum {α ρ σ : Type} (r : α ⊕ ρ) (f : α → Option σ) (g : ρ → Option σ) : Option σ := match r with
  | .inl y => f y
  | .inr z => g z
def chk {ρ : Type} (b : Bool) (x : Option ρ) : Option ρ := br b x none

/-- Cells as a value of a type. -/
def asSV (t : Ty) (l : List V) : Option SV := match t.isAgg with
  | true => some (.agg l)
  | false => match l with
    | [v] => some (.one v)
    | _ => none

/-! ### rows that are written no more -/
def freezeRow (os : List (Nat × Obj)) (id : Nat) : List (Nat × Obj) := match find os id with
  | some (.row _ t xs) => upd os id (.frow t xs)
  | _ => os
def freezeAll : List Nat → List (Nat × Obj) → List (Nat × Obj)
  | [], os => os
  | i :: r, os => freezeAll r (freezeRow os i)
def rowIds : List V → List Nat
  | [] => []
  | .row id :: r => id :: rowIds r
  | _ :: r => rowIds r
def rowsOfVar (os : List (Nat × Obj)) (id : Nat) : List Nat := match find os id with
  | some (.var vs) => rowIds vs
  | _ => []
def rowsOfCaps (os : List (Nat × Obj)) : List Cap → List Nat
  | [] => []
  | .loc id :: r => rowsOfVar os id ++ rowsOfCaps os r
  | _ :: r => rowsOfCaps os r
/-- all rows that a callee may come to -/
def reach (os : List (Nat × Obj)) : List V → List Nat
  | [] => []
  | .row id :: r => id :: reach os r
  | .loc id _ :: r => rowsOfVar os id ++ reach os r
  | .clo _ caps :: r => rowsOfCaps os caps ++ reach os r
  | _ :: r => reach os r
def reachAll (os : List (Nat × Obj)) : List SV → List Nat
  | [] => []
  | v :: r => reach os v.cells ++ reachAll os r
def Env.freeze (e : Env) (l : List Nat) : Env := ⟨e.slots, freezeAll l e.objs, e.next⟩

section
variable {ρ : Type} (Γ : Tab)

def evLoad (T : Nat) (a : V) (e : Env) (K : SV → Env → Option ρ) : Option ρ :=
  match find Γ T with
  | some ti => match a with
    | .loc id off => match e.obj id with
      | some (.var vs) => match Nat.ble ti.ty.size (lenN (dropN off vs)) with
        | true => match asSV ti.ty (takeN ti.ty.size (dropN off vs)) with
          | some v => K v e
          | none => none
        | false => none
      | _ => none
    | .el t x off => match Nat.ble ti.ty.size (lenN (dropN off (enc t x []))) with
        | true => match asSV ti.ty (takeN ti.ty.size (dropN off (enc t x []))) with
          | some v => K v e
          | none => none
        | false => none
    | .rel id sz j off => match e.obj id with
      | some (.row _ t xs) => match Nat.beq sz t.size, Nat.ble ti.ty.size (lenN (dropN off (enc t (xs.getD j t.zero) []))) with
        | true, true => match asSV ti.ty (takeN ti.ty.size (dropN off (enc t (xs.getD j t.zero) []))) with
          | some v => K v e
          | none => none
        | _, _ => none
      | _ => none
    | _ => none
  | none => none

def evStore (T : Nat) (a : V) (v : SV) (e : Env) (K : SV → Env → Option ρ) : Option ρ :=
  match find Γ T with
  | some ti => match Nat.beq (lenN v.cells) ti.ty.size, v.isTup with
    | true, false => match a with
      | .loc id off => match e.obj id with
        | some (.var vs) => match Nat.ble (off + ti.ty.size) (lenN vs) with
          | true => K (.tup []) (e.setObj id (.var (paste vs off v.cells)))
          | false => none
        | _ => none
      | .rel id sz j off => match (e.freeze (rowIds v.cells)).obj id with
        | some (.row U t xs) => match Nat.beq sz t.size, Nat.ble (off + ti.ty.size) t.size with
          | true, true => match decCells true (e.freeze (rowIds v.cells)).objs t (paste (enc t (xs.getD j t.zero) []) off v.cells) with
            | some y => K (.tup []) ((e.freeze (rowIds v.cells)).setObj id (.row U t (xs.set j y)))
            | none => none
          | _, _ => none
        | _ => none
      | _ => none
    | _, _ => none
  | none => none

def tyEq (a b : Ty) : Bool := match Ty.decEq a b with
  | .isTrue _ => true
  | .isFalse _ => false

def evInt (op : BinOp) (k : IntKind) (a b : Int) (K : SV → Option ρ) : Option ρ :=
  match op with
  | .add => K (.one (.i k (k.wrap (a + b))))
  | .sub => K (.one (.i k (k.wrap (a - b))))
  | .mul => K (.one (.i k (k.wrap (a * b))))
  | .quo => chk (!(b == 0)) (K (.one (.i k (k.wrap (a.tdiv b)))))
  | .rem => chk (!(b == 0)) (K (.one (.i k (a.tmod b))))
  | .eql => K (.one (.b (a == b)))
  | .neq => K (.one (.b (a != b)))
  | .lss => K (.one (.b (decide (a < b))))
  | .leq => K (.one (.b (decide (a ≤ b))))
  | .gtr => K (.one (.b (decide (a > b))))
  | .geq => K (.one (.b (decide (a ≥ b))))
  | .and => K (.one (.i k (bits .and k a b)))
  | .or => K (.one (.i k (bits .or k a b)))
  | .xor => K (.one (.i k (bits .xor k a b)))
  | .andNot => K (.one (.i k (bits .andNot k a b)))
  | _ => none

def evStr (op : BinOp) (a b : List UInt8) (K : SV → Option ρ) : Option ρ :=
  match op with
  | .add => chk (decide (a.length + b.length ≤ capN)) (K (.one (.s (a ++ b))))
  | .eql => K (.one (.b (a == b)))
  | .neq => K (.one (.b (!(a == b))))
  | .lss => K (.one (.b (Op.bytesLess a b)))
  | .leq => K (.one (.b (Op.bytesLess a b || a == b)))
  | .gtr => K (.one (.b (!(Op.bytesLess a b || a == b))))
  | .geq => K (.one (.b (!Op.bytesLess a b)))
  | _ => none

/-- '==' of two values cell by cell. -/
def eqVs : List V → List V → Option Bool
  | [], [] => some true
  | .i k a :: l, .i j b :: m => match kEq k j, eqVs l m with
    | true, some r => some (a == b && r)
    | _, _ => none
  | .b a :: l, .b b :: m => match eqVs l m with
    | some r => some (a == b && r)
    | none => none
  | .s a :: l, .s b :: m => match eqVs l m with
    | some r => some (a == b && r)
    | none => none
  | _, _ => none

def evBin (u : Ty) (op : BinOp) (x y : SV) (K : SV → Option ρ) : Option ρ :=
  match x, y with
  | .one (.i k a), .one (.i j b) => match op with
    | .shl => chk (decide (0 ≤ b)) (K (.one (.i k (k.wrap (a * 2 ^ (min b.toNat k.bits))))))
    | .shr => chk (decide (0 ≤ b)) (K (.one (.i k (a.fdiv (2 ^ (min b.toNat k.bits))))))
    | op => match kEq k j with
      | true => evInt op k a b K
      | false => none
  | .one (.b a), .one (.b b) => match u with
    | .bool => match op with
      | .eql => K (.one (.b (a == b)))
      | .neq => K (.one (.b (!(a == b))))
      | _ => none
    | _ => none
  | .one (.s a), .one (.s b) => evStr op a b K
  | _, _ => none

def evUn (op : UnOp) (x : V) (K : SV → Option ρ) : Option ρ :=
  match op, x with
  | .not, .b a => K (.one (.b (!a)))
  | .neg, .i k n => K (.one (.i k (k.wrap (0 - n))))
  | _, _ => none

def lenOf (e : Env) (u : Ty) (v : V) : Option Nat := match u with
  | .str => match v with
    | .s x => some x.length
    | _ => none
  | .sl _ => match v with
    | .sl _ xs => some xs.length
    | .nil => some 0
    | .row id => match e.obj id with
      | some (.row _ _ xs) => some xs.length
      | some (.frow _ xs) => some xs.length
      | _ => none
    | _ => none
  | _ => none

def evIndexAddr (u : Ty) (s : V) (n : Int) (e : Env) (K : SV → Option ρ) : Option ρ :=
  match s with
  | .sl t xs => match tyEq u (.sl t) with
    | true => chk (decide (0 ≤ n)) (chk (decide (n < xs.length)) (K (.one (.el t (xs.getD n.toNat t.zero) 0))))
    | false => none
  | .row id => match e.obj id with
    | some (.row _ t xs) => match tyEq u (.sl t) with
      | true => chk (decide (0 ≤ n)) (chk (decide (n < xs.length)) (K (.one (.rel id t.size n.toNat 0))))
      | false => none
    | some (.frow t xs) => match tyEq u (.sl t) with
      | true => chk (decide (0 ≤ n)) (chk (decide (n < xs.length)) (K (.one (.el t (xs.getD n.toNat t.zero) 0))))
      | false => none
    | _ => none
  | _ => none

/-- 'lo' and 'hi' are numbers, or left out -/
def evSliceN (t : Ty) (xs : List t.den) (lo hi : Option Int) (K : SV → Option ρ) : Option ρ :=
  match lo, hi with
  | none, none => K (.one (.sl t xs))
  | some l, none => chk (decide (0 ≤ l)) (chk (decide (l ≤ xs.length)) (K (.one (.sl t (xs.drop l.toNat)))))
  | none, some h => chk (decide (0 ≤ h)) (chk (decide (h ≤ xs.length)) (K (.one (.sl t (xs.take h.toNat)))))
  | some l, some h => chk (decide (0 ≤ l)) (chk (decide (l ≤ h)) (chk (decide (h ≤ xs.length)) (K (.one (.sl t ((xs.take h.toNat).drop l.toNat))))))
def evSliceS (s : List UInt8) (lo hi : Option Int) (K : SV → Option ρ) : Option ρ :=
  match lo, hi with
  | none, none => K (.one (.s s))
  | some l, none => chk (decide (0 ≤ l)) (chk (decide (l ≤ s.length)) (K (.one (.s (s.drop l.toNat)))))
  | none, some h => chk (decide (0 ≤ h)) (chk (decide (h ≤ s.length)) (K (.one (.s (s.take h.toNat)))))
  | some l, some h => chk (decide (0 ≤ l)) (chk (decide (l ≤ h)) (chk (decide (h ≤ s.length)) (K (.one (.s ((s.take h.toNat).drop l.toNat))))))

def bound (e : Env) : Option Operand → Option (Option Int)
  | none => some none
  | some o => match e.one o with
    | some (.i _ n) => some (some n)
    | _ => none

def evSlice (u : Ty) (x : V) (lo hi : Option Operand) (e : Env) (K : SV → Env → Option ρ) : Option ρ :=
  match bound e lo, bound e hi with
  | some l, some h => match x with
    | .s a => match tyEq u .str with
      | true => evSliceS a l h (fun v => K v e)
      | false => none
    | .sl t xs => match tyEq u (.sl t) with
      | true => evSliceN t xs l h (fun v => K v e)
      | false => none
    | .row id => match (e.freeze [id]).obj id with
      | some (.frow t xs) => match tyEq u (.sl t) with
        | true => evSliceN t xs l h (fun v => K v (e.freeze [id]))
        | false => none
      | _ => none
    | _ => none
  | _, _ => none

/-- What is appended: its type and elements. -/
def source (e : Env) : V → Option (Sigma fun t : Ty => List t.den)
  | .sl t xs => some ⟨t, xs⟩
  | .row id => match e.obj id with
    | some (.row _ t xs) => some ⟨t, xs⟩
    | some (.frow t xs) => some ⟨t, xs⟩
    | _ => none
  | _ => none

def erase (os : List (Nat × Obj)) (id : Nat) : List (Nat × Obj) := match os with
  | [] => []
  | (k, v) :: r => match Nat.beq k id with
    | true => erase r id
    | false => (k, v) :: erase r id

/-- append: T, t: the element's type; ys: what is appended -/
def evAppendTo (T : Nat) (t : Ty) (ys : List t.den) (s : V) (e : Env) (K : SV → Env → Option ρ) : Option ρ :=
  match s with
  | .nil => chk (decide (ys.length ≤ capN)) (K (.one (.row e.next)) (e.new (.row T t ys)))
  | .row id => match e.obj id with
    | some (.row U u xs) => match Nat.beq U T, cast? (.sl u) (.sl t) xs with
      | true, some xs => chk (decide (xs.length + ys.length ≤ capN)) (K (.one (.row e.next)) (Env.new ⟨e.slots, erase e.objs id, e.next⟩ (.row T t (xs ++ ys))))
      | _, _ => none
    | _ => none
  | _ => none

/-- may the appended row be the same row? then no -/
def sameRow : V → V → Bool
  | .row i, .row j => Nat.beq i j
  | _, _ => false

def evAppend (T : Nat) (s x : V) (e : Env) (K : SV → Env → Option ρ) : Option ρ :=
  match find Γ T with
  | some ti => match find Γ ti.elem with
    | some tj => match tyEq ti.ty (.sl tj.ty), sameRow s x with
      | true, false => match source e x with
        | some ⟨t, ys⟩ => match cast? (.sl t) (.sl tj.ty) ys with
          | some ys => evAppendTo ti.elem tj.ty ys s e K
          | none => none
        | none => none
      | _, _ => none
    | none => none
  | none => none

def evBuild (ti : TI) (e : Env) : List (Nat × Operand) → List V → Option (List V)
  | [], acc => some acc
  | (i, o) :: r, acc => match nth ti.offs i, nth ti.sizes i, e.val o with
    | some off, some sz, some v => match v.isTup, Nat.beq sz (lenN v.cells), Nat.ble (off + lenN v.cells) (lenN acc) with
      | false, true, true => evBuild ti e r (paste acc off v.cells)
      | _, _, _ => none
    | _, _, _ => none

def evElems (t : Ty) (e : Env) : Nat → List (Nat × Operand) → Option (List t.den)
  | _, [] => some []
  | n, (i, o) :: r => match Nat.beq i n with
    | true => match e.val o with
      | some v => match decAll true e.objs t v, evElems t e (n + 1) r with
        | some x, some l => some (x :: l)
        | _, _ => none
      | none => none
    | false => none
def partIds (e : Env) : List (Nat × Operand) → List Nat
  | [] => []
  | (_, o) :: r => match e.val o with
    | some v => rowIds v.cells ++ partIds e r
    | none => partIds e r

def evCaps (e : Env) : List Operand → Option (List Cap)
  | [] => some []
  | o :: r => match evCaps e r with
    | some l => match e.one o with
      | some (.loc id 0) => some (.loc id :: l)
      | some (.el t x 0) => some (.el t x :: l)
      | _ => none
    | none => none

def evConv (src dst : Ty) (x : V) (e : Env) (K : SV → Env → Option ρ) : Option ρ :=
  match dst with
  | .int k => match x with
    | .i _ n => K (.one (.i k (k.wrap n))) e
    | _ => none
  | .str => match src with
    | .str => match x with
      | .s a => K (.one (.s a)) e
      | _ => none
    | .sl (.int .u8) => match x with
      | .nil => K (.one (.s [])) e
      | x => match source e x with
        | some ⟨t, xs⟩ => match cast? (.sl t) (.sl (.int .u8)) xs with
          | some ys => K (.one (.s (ys.map fun (n : Int) => UInt8.ofNat n.toNat))) e
          | none => none
        | none => none
    | _ => none
  | .sl (.int .u8) => match src with
    | .str => match x with
      | .s a => K (.one (.sl (.int .u8) (a.map fun b => ((b.toNat : Nat) : Int)))) e
      | _ => none
    | _ => none
  | _ => none

/-! ### calls -/
def varTy (st : Bool) (os : List (Nat × Obj)) (t : Ty) (id : Nat) : Option t.den := match find os id with
  | some (.var vs) => decCells st os t vs
  | _ => none
def capTy (st : Bool) (os : List (Nat × Obj)) (t : Ty) : Cap → Option t.den
  | .loc id => varTy st os t id
  | .el u x => cast? u t x
def bindCaps (st : Bool) (os : List (Nat × Obj)) : (ts : List Ty) → List Cap → Option (dens ts)
  | [], [] => some ()
  | t :: r, c :: cs => match capTy st os t c, bindCaps st os r cs with
    | some x, some y => some (x, y)
    | _, _ => none
  | _, _ => none

def bindArg (st : Bool) (os : List (Nat × Obj)) : (a : AT) → SV → Option a.den
  | .val t, v => decAll st os t v
  | .ptr t, .one (.loc id 0) => varTy st os t id
  | .ptr t, .one (.el u x 0) => cast? u t x
  | .clo f ts, .one (.clo g caps) => match Nat.beq f g with
    | true => bindCaps st os ts caps
    | false => none
  | _, _ => none
def bindArgs (st : Bool) (os : List (Nat × Obj)) : (as : List AT) → List SV → Option (ATs.den as)
  | [], [] => some ()
  | a :: r, v :: vs => match bindArg st os a v, bindArgs st os r vs with
    | some x, some y => some (x, y)
    | _, _ => none
  | _, _ => none
/-- Several values, one behind the other. -/
def svs : (ts : List Ty) → den1 ts → List (Bool × List V)
  | [], _ => []
  | [t], x => [(t.isAgg, enc t x [])]
  | t :: u :: r, x => (t.isAgg, enc t x.1 []) :: svs (u :: r) x.2
def resAll : (ts : List Ty) → den1 ts → SV
  | [], _ => .tup []
  | [t], x => ofTy t x
  | t :: u :: r, x => .tup (svs (t :: u :: r) x)

def valAll (e : Env) : List Operand → Option (List SV)
  | [] => some []
  | o :: r => match e.val o, valAll e r with
    | some v, some l => some (v :: l)
    | _, _ => none

def capSV : Cap → SV
  | .loc id => .one (.loc id 0)
  | .el t x => .one (.el t x 0)

variable (Δ : List (Nat × Con)) (k : Nat)

def evCall (f : Nat) (vs : List SV) (e : Env) (K : SV → Env → Option ρ) : List (Nat × Con) → Option ρ
  | [] => none
  | (g, c) :: r => match Nat.beq f g with
    | true => match flatAll c.res with
      | true => match bindArgs false e.objs c.args vs with
        | some x => bnd (c.fn k x) fun y => K (resAll c.res y) e
        | none => evCall f vs e K r
      | false => match bindArgs true (e.freeze (reachAll e.objs vs)).objs c.args vs with
        | some x => bnd (c.fn k x) fun y => K (resAll c.res y) (e.freeze (reachAll e.objs vs))
        | none => evCall f vs e K r
    | false => evCall f vs e K r

def evBuiltin (b : Builtin) (ts : List Nat) (vs : List SV) (e : Env) (K : SV → Env → Option ρ) : Option ρ :=
  match b, vs with
  | .len, [.one v] => match ts with
    | T :: _ => match find Γ T with
      | some ti => match lenOf e ti.ty v with
        | some n => K (.one (.i .i64 n)) e
        | none => none
      | none => none
    | [] => none
  | .append, [.one s, .one x] => match ts with
    | [T, U] => match Nat.beq T U with
      | true => evAppend Γ T s x e K
      | false => none
    | _ => none
  | .min, [.one (.i k a), .one (.i j b)] => match kEq k j with
    | true => K (.one (.i k (min a b))) e
    | false => none
  | .max, [.one (.i k a), .one (.i j b)] => match kEq k j with
    | true => K (.one (.i k (max a b))) e
    | false => none
  | _, _ => none

def evOp (o : Op) (e : Env) (K : SV → Env → Option ρ) : Option ρ :=
  match o with
  | .move x | .assign x => match e.val x with
    | some v => K v e
    | none => none
  | .pick c a b => match e.one c with
    | some (.b x) => br x (match e.val a with
        | some v => K v e
        | none => none) (match e.val b with
        | some v => K v e
        | none => none)
    | _ => none
  | .alloc T => match find Γ T with
    | some ti => K (.one (.loc e.next 0)) (e.new (.var (zeros ti.ty [])))
    | none => none
  | .box _ x => match e.val x with
    | some v => match v.isTup with
      | false => K (.one (.loc e.next 0)) (e.new (.var v.cells))
      | true => none
    | none => none
  | .build T parts => match find Γ T with
    | some ti => match evBuild ti e parts.toList (zeros ti.ty []) with
      | some l => match ti.ty.isAgg with
        | true => K (.agg l) e
        | false => none
      | none => none
    | none => none
  | .buildSlice T n parts => match find Γ T with
    | some ti => match find Γ ti.elem with
      | some tj => match evElems tj.ty (e.freeze (partIds e parts.toList)) 0 parts.toList with
        | some xs => match Nat.beq (lenN parts.toList) n, Nat.ble (n * tj.ty.size) 16777216 with
          | true, true => match tyEq ti.ty (.sl tj.ty) with
            | true => K (.one (.row (e.freeze (partIds e parts.toList)).next)) ((e.freeze (partIds e parts.toList)).new (.row ti.elem tj.ty xs))
            | false => none
          | _, _ => none
        | none => none
      | none => none
    | none => none
  | .load T a => match e.one a with
    | some v => evLoad Γ T v e K
    | none => none
  | .store T a x => match e.one a, e.val x with
    | some p, some v => evStore Γ T p v e K
    | _, _ => none
  | .nilCheck x => match e.one x with
    | some (.loc i o) => K (.one (.loc i o)) e
    | some (.el t y o) => K (.one (.el t y o)) e
    | some (.rel i z j o) => K (.one (.rel i z j o)) e
    | _ => none
  | .binOp op T x y _ => match find Γ T, e.val x, e.val y with
    | some ti, some a, some b => evBin ti.ty op a b (fun v => K v e)
    | _, _, _ => none
  | .unOp op _ x => match e.one x with
    | some v => evUn op v (fun v => K v e)
    | none => none
  | .convert src dst x => match find Γ src, find Γ dst, e.one x with
    | some tj, some ti, some v => evConv tj.ty ti.ty v e K
    | _, _, _ => none
  | .makeFunc (.func f) first caps => match first.toList, evCaps e caps.toList with
    | [], some l => K (.one (.clo f l)) e
    | _, _ => none
  | .makeSlice T l c => match find Γ T with
    | some ti => match find Γ ti.elem with
      | some tj => match tyEq ti.ty (.sl tj.ty) with
        | true => match e.one l, e.one c with
          | some (.i _ n), some (.i _ m) => chk (n == m) (chk (decide (0 ≤ n)) (chk (decide (n ≤ capN))
              (K (.one (.row e.next)) (e.new (.row ti.elem tj.ty (List.replicate n.toNat tj.ty.zero))))))
          | _, _ => none
        | false => none
      | none => none
    | none => none
  | .slice T x lo hi none => match find Γ T, e.one x with
    | some ti, some v => evSlice ti.ty v lo hi e K
    | _, _ => none
  | .fieldAddr T x i => match find Γ T with
    | some ti => match nth ti.offs i, ti.ty.isAgg with
      | some d, true => match e.one x with
        | some (.loc id off) => K (.one (.loc id (off + d))) e
        | some (.el t y off) => K (.one (.el t y (off + d))) e
        | some (.rel id z j off) => K (.one (.rel id z j (off + d))) e
        | _ => none
      | _, _ => none
    | none => none
  | .indexAddr T x i => match find Γ T, e.one x, e.one i with
    | some ti, some s, some (.i _ n) => evIndexAddr ti.ty s n e (fun v => K v e)
    | _, _, _ => none
  | .index T x i => match find Γ T, e.one x, e.one i with
    | some ti, some (.s a), some (.i _ n) => match tyEq ti.ty .str with
      | true => chk (decide (0 ≤ n)) (chk (decide (n < a.length)) (K (.one (.i .u8 ((a.getD n.toNat 0).toNat : Nat))) e))
      | false => none
    | _, _, _ => none
  | .extract x i => match e.val x with
    | some (.tup l) => match nth l i with
      | some (true, vs) => K (.agg vs) e
      | some (false, [v]) => K (.one v) e
      | _ => none
    | _ => none
  | .call ⟨.builtin b, args, ts⟩ => match valAll e args.toList with
    | some vs => evBuiltin Γ b ts.toList vs e K
    | none => none
  | .call ⟨.value f, args, _⟩ => match e.one f, valAll e args.toList with
    | some (.clo g caps), some vs => evCall k g (vs ++ caps.map capSV) e K Δ
    | _, _ => none
  | _ => none

def evOps (all : List Oper) : List Oper → Env → (Env → Option ρ) → Option ρ
  | [], e, K => K e
  | o :: r, e, K => match o.guard with
    | none => evOp Γ Δ k o.op e fun v e' => evOps all r (e'.put o.dst v) K
    | some (j, want) => match nth all j with
      | some g => match g.dst with
        | some s => match e.get s with
          | some (.one (.b x)) => br x
            (cond want (evOp Γ Δ k o.op (e.set s (.one (.b true))) fun v e' => evOps all r (e'.put o.dst v) K) (evOps all r ((e.set s (.one (.b true))).put o.dst (.tup [])) K))
            (cond want (evOps all r ((e.set s (.one (.b false))).put o.dst (.tup [])) K) (evOp Γ Δ k o.op (e.set s (.one (.b false))) fun v e' => evOps all r (e'.put o.dst v) K))
          | some (.tup []) => evOps all r (e.put o.dst (.tup [])) K
          | _ => none
        | none => none
      | none => none

/-! ### a region whose operations come in any order that their edges allow -/
def memN : List Nat → Nat → Bool
  | [], _ => false
  | a :: r, n => match Nat.beq a n with
    | true => true
    | false => memN r n
def apartN : List Nat → List Nat → Bool
  | [], _ => true
  | a :: r, l => match memN l a with
    | true => false
    | false => apartN r l
def binding (x : Edge) : Bool := match x.ground with
  | .textOnly _ => false
  | .gcOnly _ => false
  | _ => true
/-- the operations that are done ahead of one, whatever the order: of those at smaller places -/
def ancOf (j : Nat) (known : List (Nat × List Nat)) : List Edge → List Nat
  | [] => []
  | x :: r => match binding x, Nat.blt x.on j with
    | true, true => match find known x.on with
      | some l => x.on :: l ++ ancOf j known r
      | none => x.on :: ancOf j known r
    | _, _ => ancOf j known r
def ancs : Nat → List Oper → List (Nat × List Nat) → List (Nat × List Nat)
  | _, [], known => known
  | j, o :: r, known => ancs (j + 1) r ((j, ancOf j known o.after.toList) :: known)
def tmpsOf : List Operand → List Nat
  | [] => []
  | .tmp t :: r => t :: tmpsOf r
  | _ :: r => tmpsOf r
/-- the slots that an operation looks at -/
def looks (all : List Oper) (o : Oper) : List Nat := match o.guard with
  | none => tmpsOf o.op.operands.toList
  | some (g, _) => match nth all g with
    | some p => match p.dst with
      | some d => d :: tmpsOf o.op.operands.toList
      | none => tmpsOf o.op.operands.toList
    | none => tmpsOf o.op.operands.toList
def dstIn (d : Option Nat) (l : List Nat) : Bool := match d with
  | some d => memN l d
  | none => false
def dstEq (a b : Option Nat) : Bool := match a, b with
  | some a, some b => Nat.beq a b
  | _, _ => false
/-- may two operations be done in either order, as to slots? -/
def slotsApart (all : List Oper) (x y : Oper) : Bool := match dstIn x.dst (looks all y), dstIn y.dst (looks all x), dstEq x.dst y.dst with
  | false, false, false => true
  | _, _, _ => false
def pairsOk (all : List Oper) (y : Oper) (anc : List Nat) : Nat → List Oper → Bool
  | _, [] => true
  | k, x :: r => match memN anc k with
    | true => pairsOk all y anc (k + 1) r
    | false => match slotsApart all x y with
      | true => pairsOk all y anc (k + 1) r
      | false => false
/-- every edge that binds leads back -/
def edgesBack (j : Nat) : List Edge → Bool
  | [] => true
  | x :: r => match binding x, Nat.blt x.on j with
    | true, false => false
    | _, _ => edgesBack j r
def slotsOk (all : List Oper) (an : List (Nat × List Nat)) : Nat → List Oper → Bool
  | _, [] => true
  | j, y :: r => match find an j with
    | some l => match pairsOk all y l 0 (takeN j all), edgesBack j y.after.toList with
      | true, true => slotsOk all an (j + 1) r
      | _, _ => false
    | none => false

/-- the objects that a value leads to -/
def footCaps (os : List (Nat × Obj)) : List Cap → List Nat
  | [] => []
  | .loc id :: r => id :: rowsOfVar os id ++ footCaps os r
  | _ :: r => footCaps os r
def footVs (os : List (Nat × Obj)) : List V → List Nat
  | [] => []
  | .row id :: r => id :: footVs os r
  | .loc id _ :: r => id :: rowsOfVar os id ++ footVs os r
  | .rel id _ _ _ :: r => id :: footVs os r
  | .clo _ caps :: r => footCaps os caps ++ footVs os r
  | _ :: r => footVs os r
def foot (e : Env) : List Operand → List Nat
  | [] => []
  | o :: r => match e.val o with
    | some v => footVs e.objs v.cells ++ foot e r
    | none => foot e r
def only {α : Type} (fp : List Nat) : List (Nat × α) → List (Nat × α)
  | [] => []
  | (i, o) :: r => match memN fp i with
    | true => (i, o) :: only fp r
    | false => only fp r
def without {α : Type} (fp : List Nat) : List (Nat × α) → List (Nat × α)
  | [] => []
  | (i, o) :: r => match memN fp i with
    | true => without fp r
    | false => (i, o) :: without fp r
/-- an operation that leaves the objects that it finds as they are -/
def reads : Op → Bool
  | .move _ | .assign _ | .pick .. | .alloc _ | .box .. | .build .. | .load .. | .nilCheck _ | .binOp .. | .unOp .. | .convert .. | .makeFunc .. | .makeSlice ..
  | .fieldAddr .. | .indexAddr .. | .index .. | .extract .. => true
  | .call ⟨.builtin .len, _, _⟩ | .call ⟨.builtin .min, _, _⟩ | .call ⟨.builtin .max, _, _⟩ => true
  | _ => false
/-- what an operation touched: its place, the objects that it may have looked at, those that it may have turned or made -/
structure Rc where
  i : Nat
  fp : List Nat
  wr : List Nat
def clear (anc : List Nat) (fp wr : List Nat) : List Rc → Bool
  | [] => true
  | q :: l => match memN anc q.i with
    | true => clear anc fp wr l
    | false => match apartN q.wr fp, apartN q.fp wr with
      | true, true => clear anc fp wr l
      | _, _ => false
def wrOf (o : Op) (fp : List Nat) : List Nat := match reads o with
  | true => []
  | false => fp

/-- an operation, told of nothing but what it looks at -/
def evOpD (an : List (Nat × List Nat)) (o : Oper) (j : Nat) (rs : List Rc) (e : Env) (K : List Rc → Env → Option ρ) : Option ρ :=
  evOp Γ Δ k o.op ⟨only (tmpsOf o.op.operands.toList) e.slots, only (foot e o.op.operands.toList) e.objs, e.next⟩ fun v e' =>
    match find an j with
    | some anc => match clear anc (e.next :: foot e o.op.operands.toList) (e.next :: wrOf o.op (foot e o.op.operands.toList)) rs with
      | true => K (⟨j, e.next :: foot e o.op.operands.toList, e.next :: wrOf o.op (foot e o.op.operands.toList)⟩ :: rs)
          (Env.put ⟨e.slots, only (e.next :: wrOf o.op (foot e o.op.operands.toList)) e'.objs ++ without (e.next :: wrOf o.op (foot e o.op.operands.toList)) e.objs, e.next + 1⟩ o.dst v)
      | false => none
    | none => none
/-- an operation that is left out -/
def skipD (o : Oper) (e : Env) : Env := Env.put ⟨e.slots, e.objs, e.next + 1⟩ o.dst (.tup [])
def evOpsD (all : List Oper) (an : List (Nat × List Nat)) : List Oper → Nat → List Rc → Env → (Env → Option ρ) → Option ρ
  | [], _, _, e, K => K e
  | o :: r, j, rs, e, K => match o.guard with
    | none => evOpD Γ Δ k an o j rs e fun rs' e' => evOpsD all an r (j + 1) rs' e' K
    | some (g, want) => match nth all g with
      | some p => match p.dst with
        | some s => match e.get s with
          | some (.one (.b x)) => br x
            (cond want (evOpD Γ Δ k an o j rs (e.set s (.one (.b true))) fun rs' e' => evOpsD all an r (j + 1) rs' e' K) (evOpsD all an r (j + 1) rs (skipD o (e.set s (.one (.b true)))) K))
            (cond want (evOpsD all an r (j + 1) rs (skipD o (e.set s (.one (.b false)))) K) (evOpD Γ Δ k an o j rs (e.set s (.one (.b false))) fun rs' e' => evOpsD all an r (j + 1) rs' e' K))
          | some (.tup []) => evOpsD all an r (j + 1) rs (skipD o e) K
          | _ => none
        | none => none
      | none => none
end

/-! ### packs -/
def nodupN : List Nat → Bool
  | [] => true
  | a :: r => match memN r a with
    | true => false
    | false => nodupN r
/-- the element type of an own cell, by the cell's number -/
def ownT (own : List (Nat × Nat)) (n : Nat) : Option Nat := find own n
/-- a row that is handed on as one's own -/
def ownRow (os : List (Nat × Obj)) (T : Nat) (t : Ty) : V → Option (List t.den)
  | .nil => some []
  | .row id => match find os id with
    | some (.row U u xs) => match Nat.beq U T with
      | true => cast? (.sl u) (.sl t) xs
      | false => none
    | _ => none
  | _ => none
/-- a variable's cells; 'own': which are rows that are handed on; 'ov': the objects for all else -/
def decOwn (os ov : List (Nat × Obj)) (own : List (Nat × Nat)) : (t : Ty) → Nat → List V → Option (t.den × List V)
  | .sl t, n, v :: r => match ownT own n with
    | some T => match ownRow os T t v with
      | some xs => some (xs, r)
      | none => none
    | none => dec false ov (.sl t) (v :: r)
  | .pair a b, n, l => match decOwn os ov own a n l with
    | some (x, r) => match decOwn os ov own b (n + a.size) r with
      | some (y, r') => some ((x, y), r')
      | none => none
    | none => none
  | t, _, l => dec false ov t l

/-- the objects that a pack hands on as the frame's own -/
def ownIdsV (own : List (Nat × Nat)) : Nat → List V → List Nat
  | _, [] => []
  | n, .row id :: r => match ownT own n with
    | some _ => id :: ownIdsV own (n + 1) r
    | none => ownIdsV own (n + 1) r
  | n, _ :: r => ownIdsV own (n + 1) r
def ownIds (e : Env) : Item → List Nat
  | .var s _ own => match e.get s with
    | some (.one (.loc id 0)) => match e.obj id with
      | some (.var vs) => ownIdsV own 0 vs ++ [id]
      | _ => []
    | _ => []
  | .row s _ _ => match e.get s with
    | some (.one (.row id)) => [id]
    | _ => []
  | _ => []
def ownAll (e : Env) : List Item → List Nat
  | [] => []
  | a :: r => ownIds e a ++ ownAll e r
def eraseAll : List Nat → List (Nat × Obj) → List (Nat × Obj)
  | [], os => os
  | i :: r, os => eraseAll r (erase os i)

def packItem (e : Env) (ov : List (Nat × Obj)) : (a : Item) → Option a.den
  | .val s t => match e.get s with
    | some v => decAll false ov t v
    | none => none
  | .var s t own => match e.get s with
    | some (.one (.loc id 0)) => match e.obj id with
      | some (.var vs) => match decOwn e.objs ov own t 0 vs with
        | some (y, []) => some y
        | _ => none
      | _ => none
    | _ => none
  | .row s T t => match e.get s with
    | some (.one v) => ownRow e.objs T t v
    | _ => none
  | .el s t => match e.get s with
    | some (.one (.el u x 0)) => cast? u t x
    | _ => none
  | .clo s f ts => match e.get s with
    | some (.one (.clo g caps)) => match Nat.beq f g with
      | true => bindCaps false ov ts caps
      | false => none
    | _ => none
def packAll (e : Env) (ov : List (Nat × Obj)) : (l : List Item) → Option (Items.den l)
  | [] => some ()
  | [a] => packItem e ov a
  | a :: b :: r => match packItem e ov a, packAll e ov (b :: r) with
    | some x, some y => some (x, y)
    | _, _ => none
def pack (e : Env) (l : List Item) : Option (Items.den l) := match nodupN (ownAll e l) with
  | true => packAll e (eraseAll (ownAll e l) e.objs) l
  | false => none

/-- the cells that are rows of the frame's own become rows again -/
def unpackVar (own : List (Nat × Nat)) : (e : Env) → (t : Ty) → t.den → Nat → Env × List V
  | e, .sl t, xs, n => match ownT own n with
    | some T => (e.new (.row T t xs), [.row e.next])
    | none => (e, [.sl t xs])
  | e, .pair a b, x, n => match unpackVar own e a x.1 n with
    | (e1, l1) => match unpackVar own e1 b x.2 (n + a.size) with
      | (e2, l2) => (e2, l1 ++ l2)
  | e, t, x, _ => (e, enc t x [])
def startCaps : (ts : List Ty) → dens ts → List Cap
  | [], _ => []
  | t :: r, x => .el t x.1 :: startCaps r x.2
def unpackItem (e : Env) : (a : Item) → a.den → Env
  | .val s t, x => e.set s (ofTy t x)
  | .var s t own, x => match unpackVar own e t x 0 with
    | (e1, l) => (e1.new (.var l)).set s (.one (.loc e1.next 0))
  | .row s T t, xs => (e.new (.row T t xs)).set s (.one (.row e.next))
  | .el s t, x => e.set s (.one (.el t x 0))
  | .clo s f ts, x => e.set s (.one (.clo f (startCaps ts x)))
def unpackAll (e : Env) : (l : List Item) → Items.den l → Env
  | [], _ => e
  | [a], x => unpackItem e a x
  | a :: b :: r, x => unpackAll (unpackItem e a x.1) (b :: r) x.2
def unpack (l : List Item) (x : Items.den l) : Env := unpackAll ⟨[], [], 0⟩ l x

inductive Ex where
  | normal | exit (id : Nat)

/-- Where ways meet: what lives on; does nobody return ahead of it? -/
structure Join where
  items : List Item
  quiet : Bool
structure Ann where
  /-- a loop's head, and what lives on behind it, by the number of the block around it -/
  loops : List (Nat × List Item × Join)
  /-- by the number of the first region behind the place -/
  joins : List (Nat × Join)

def firstReg : Code → Option Nat
  | .region id _ _ => some id
  | .seq a b => match firstReg a with
    | some i => some i
    | none => firstReg b
  | .block _ c | .loop c | .scope c => firstReg c
  | _ => some 1000000

/-- A piece of code, run to its end in any context: 'ι' what becomes of a return, the rest what becomes of the other ends. -/
def Run (ρ : Type) : Type 1 := {σ : Type} → (ρ → Option σ) → Env → (Ex → Env → Option σ) → Option σ

def toJoin {σ : Type} (its : List Item) (e : Env) (f : Items.den its → Option σ) : Option σ := match pack e its with
  | some y => f y
  | none => none

/-- to a join, and on -/
def meet {ρ σ : Type} (j : Join) (run : Run ρ) (ι : ρ → Option σ) (e : Env) (on : Env → Option σ) : Option σ :=
  match j.quiet with
  | true => bnd (run (σ := Items.den j.items) (fun _ => none) e fun ex e => match ex with
      | .normal => toJoin j.items e some
      | _ => none) fun y => on (unpack j.items y)
  | false => bnd (run (σ := Items.den j.items ⊕ ρ) (fun z => some (.inr z)) e fun ex e => match ex with
      | .normal => toJoin j.items e fun y => some (.inl y)
      | _ => none) fun r => onSum r (fun y => on (unpack j.items y)) ι

def stepQ {ρ : Type} (id : Nat) (its js : List Item) (run : Run ρ) (again : Items.den its → Option (Items.den js)) (x : Items.den its) : Option (Items.den js) :=
  run (σ := Items.den js) (fun _ => none) (unpack its x) fun ex e => match ex with
    | .normal => toJoin its e again
    | .exit i => match Nat.beq i id with
      | true => toJoin js e some
      | false => none
def stepR {ρ : Type} (id : Nat) (its js : List Item) (run : Run ρ) (again : Items.den its → Option (Items.den js ⊕ ρ)) (x : Items.den its) : Option (Items.den js ⊕ ρ) :=
  run (σ := Items.den js ⊕ ρ) (fun z => some (.inr z)) (unpack its x) fun ex e => match ex with
    | .normal => toJoin its e again
    | .exit i => match Nat.beq i id with
      | true => toJoin js e fun y => some (.inl y)
      | false => none
/-- a loop out of which nobody returns -/
def loopQ {ρ : Type} (id : Nat) (its js : List Item) (run : Nat → Run ρ) : Nat → Items.den its → Option (Items.den js)
  | 0, _ => none
  | k + 1, x => stepQ id its js (run k) (loopQ id its js run k) x
def loopR {ρ : Type} (id : Nat) (its js : List Item) (run : Nat → Run ρ) : Nat → Items.den its → Option (Items.den js ⊕ ρ)
  | 0, _ => none
  | k + 1, x => stepR id its js (run k) (loopR id its js run k) x

section
variable (Γ : Tab) (Δ : List (Nat × Con)) (A : Ann) {ρ : Type} (fin : Env → Option ρ)

def evCode : Code → Nat → {σ : Type} → (ρ → Option σ) → Env → (Ex → Env → Option σ) → Option σ
  | .skip, _, _, _, e, K => K .normal e
  | .region _ ops d, k, _, _, e, K => match d with
    | false => evOps Γ Δ k ops.toList ops.toList e fun e' => K .normal e'
    | true => match slotsOk ops.toList (ancs 0 ops.toList []) 0 ops.toList with
      | true => evOpsD Γ Δ k ops.toList (ancs 0 ops.toList []) ops.toList 0 [] e fun e' => K .normal e'
      | false => none
  | .seq a b, k, _, ι, e, K =>
    match (match firstReg b with
      | some r => find A.joins r
      | none => none) with
    | some j => meet j (fun ι' e' K' => evCode a k ι' e' K') ι e fun e' => evCode b k ι e' K
    | none => evCode a k ι e fun ex e' => match ex with
      | .normal => evCode b k ι e' K
      | .exit i => K (.exit i) e'
  | .cond c a b, k, _, ι, e, K => match e.one c with
    | some (.b x) => br x (evCode a k ι e K) (evCode b k ι e K)
    | _ => none
  | .block id (.loop body), k, _, ι, e, K => match find A.loops id with
    | some (its, j) => toJoin its e fun x => match j.quiet with
      | true => bnd (loopQ id its j.items (fun k' => (fun ι' e' K' => evCode body k' ι' e' K' : Run ρ)) k x) fun y => K .normal (unpack j.items y)
      | false => bnd (loopR id its j.items (fun k' => (fun ι' e' K' => evCode body k' ι' e' K' : Run ρ)) k x) fun r => onSum r (fun y => K .normal (unpack j.items y)) ι
    | none => none
  | .block id body, k, _, ι, e, K => evCode body k ι e fun ex e' => match ex with
    | .normal => K .normal e'
    | .exit i => match Nat.beq i id with
      | true => K .normal e'
      | false => K (.exit i) e'
  | .exit id, _, _, _, e, K => K (.exit id) e
  | .ret, _, _, ι, e, _ => match fin e with
    | some z => ι z
    | none => none
  | _, _, _, _, _, _ => none
end

/-! ### a function -/
def startArg (e : Env) (s : Nat) : (a : AT) → a.den → Env
  | .val t, x => e.set s (ofTy t x)
  | .ptr t, x => e.set s (.one (.el t x 0))
  | .clo f ts, x => e.set s (.one (.clo f (startCaps ts x)))
def startArgs (e : Env) (s : Nat) : (as : List AT) → ATs.den as → Env
  | [], _ => e
  | a :: r, x => startArgs (startArg e s a x.1) (s + 1) r x.2

/-- what a result variable holds -/
def resOf1 (Γ : Tab) (e : Env) (t : Ty) : ResultVar → Option t.den
  | .tmp s => match e.get s with
    | some v => decAll false e.objs t v
    | none => none
  | .cell s T => match find Γ T, e.get s with
    | some ti, some (.one (.loc id 0)) => match tyEq ti.ty t with
      | true => varTy false e.objs t id
      | false => none
    | _, _ => none
def finish (Γ : Tab) (e : Env) : (res : List Ty) → List ResultVar → Option (den1 res)
  | [], [] => some ()
  | [t], [r] => resOf1 Γ e t r
  | t :: u :: l, r :: rs => match resOf1 Γ e t r, finish Γ e (u :: l) rs with
    | some x, some y => some (x, y)
    | _, _ => none
  | _, _ => none

def evFn (Γ : Tab) (Δ : List (Nat × Con)) (A : Ann) (fn : Func) (args : List AT) (res : List Ty) (k : Nat) (x : ATs.den args) : Option (den1 res) :=
  match fn.body with
  | some c => evCode Γ Δ A (fun e => finish Γ e res fn.results.toList) c k some (startArgs ⟨[], [], 0⟩ 0 args x) fun ex e => match ex with
    | .normal => finish Γ e res fn.results.toList
    | .exit _ => none
  | none => none

/-- The body of the loop that stands in a block, wherever it lies. -/
def bodyOf (id : Nat) : Code → Option Code
  | .seq a b => match bodyOf id a with
    | some c => some c
    | none => bodyOf id b
  | .cond _ a b => match bodyOf id a with
    | some c => some c
    | none => bodyOf id b
  | .block i (.loop c) => match Nat.beq i id with
    | true => some c
    | false => bodyOf id c
  | .block _ c | .loop c | .scope c => bodyOf id c
  | _ => none
def runOf (Γ : Tab) (Δ : List (Nat × Con)) (A : Ann) (fn : Func) (res : List Ty) (id : Nat) (k : Nat) : Run (den1 res) :=
  fun ι e K => match fn.body with
    | some c => match bodyOf id c with
      | some b => evCode Γ Δ A (fun e => finish Γ e res fn.results.toList) b k ι e K
      | none => none
    | none => none
end Go.Ev
