import Derived.Calls
import Derived.Laws.Entries
import Derived.Below
import Derived.Deep.MidRow
import Derived.Great.BuildSlice
import Derived.Laws.MakeOwn
import Derived.Laws.OwnMore
import Derived.Laws.Slices
set_option linter.unusedSimpArgs false
set_option linter.unusedVariables false
section
namespace Go.Ev
inductive Ty where
 | int (k : IntKind) | bool | str | sl (t : Ty) | pair (a b : Ty) | unit
 | any
 | osl (T : Nat) (t : Ty)
 | mp (k v : Ty)
 | omp (k v : Ty)
def kEq : IntKind → IntKind → Bool
 | .i8, .i8 | .i16, .i16 | .i32, .i32 | .i64, .i64 | .u8, .u8 | .u16, .u16 | .u32, .u32 | .u64, .u64=>true
 | _,_=>false
@[reducible] def Ty.den : Ty → Type
 | .int _=>Int
 | .bool=>Bool
 | .str=>List UInt8
 | .sl t=>List t.den
 | .pair a b=>a.den × b.den
 | .unit=>Unit
 | .any=>Unit
 | .osl _ t=>List t.den
 | .mp k v | .omp k v=>List (k.den × v.den)
def arrTy : Nat → Ty → Ty
 | 0,_=>.unit
 | n + 1,t=>.pair t (arrTy n t)
def Ty.zero : (t : Ty) → t.den
 | .int _=>(0 : Int)
 | .bool=>false
 | .str=>([] : List UInt8)
 | .sl _=>[]
 | .pair a b=>(a.zero,b.zero)
 | .unit=>()
 | .any=>()
 | .osl _ _=>[]
 | .mp _ _=>[]
 | .omp _ _=>[]
def Ty.size : Ty → Nat
 | .pair a b=>a.size + b.size
 | .unit=>0
 | _=>1
def Ty.isAgg : Ty → Bool
 | .pair .. | .unit=>true
 | _=>false
theorem kEq_eq : ∀ {a b : IntKind},kEq a b = true → a = b:=by intro a b; cases a <;> cases b <;> simp [kEq]
def Ty.decEq : (a b : Ty) → Decidable (a = b)
 | .int j, .int k=>match h : kEq j k with
  | true=>.isTrue (by rw [kEq_eq h])
  | false=>.isFalse (by intro e; cases e; cases j <;> simp [kEq] at h)
 | .bool, .bool=>.isTrue rfl
 | .str, .str=>.isTrue rfl
 | .unit, .unit=>.isTrue rfl
 | .any, .any=>.isTrue rfl
 | .osl T a, .osl U b=>match hT : Nat.beq T U,Ty.decEq a b with
  | true, .isTrue h=>.isTrue (by rw [Nat.eq_of_beq_eq_true hT,h])
  | false,_=>.isFalse (by intro e; cases e; simp at hT)
  | _, .isFalse h=>.isFalse (by intro e; cases e; exact h rfl)
 | .sl a, .sl b=>match Ty.decEq a b with
  | .isTrue h=>.isTrue (by rw [h])
  | .isFalse h=>.isFalse (by intro e; cases e; exact h rfl)
 | .pair a b, .pair c d=>match Ty.decEq a c,Ty.decEq b d with
  | .isTrue h, .isTrue g=>.isTrue (by rw [h,g])
  | .isFalse h,_=>.isFalse (by intro e; cases e; exact h rfl)
  | _, .isFalse h=>.isFalse (by intro e; cases e; exact h rfl)
 | .mp a b, .mp c d=>match Ty.decEq a c,Ty.decEq b d with
  | .isTrue h, .isTrue g=>.isTrue (by rw [h,g])
  | .isFalse h,_=>.isFalse (by intro e; cases e; exact h rfl)
  | _, .isFalse h=>.isFalse (by intro e; cases e; exact h rfl)
 | .omp a b, .omp c d=>match Ty.decEq a c,Ty.decEq b d with
  | .isTrue h, .isTrue g=>.isTrue (by rw [h,g])
  | .isFalse h,_=>.isFalse (by intro e; cases e; exact h rfl)
  | _, .isFalse h=>.isFalse (by intro e; cases e; exact h rfl)
 | .int _, .bool | .int _, .str | .int _, .sl _ | .int _, .pair .. | .int _, .unit | .int _, .any | .int _, .osl .. | .int _, .mp .. | .int _, .omp ..
 | .bool, .int _ | .bool, .str | .bool, .sl _ | .bool, .pair .. | .bool, .unit | .bool, .any | .bool, .osl .. | .bool, .mp .. | .bool, .omp ..
 | .str, .int _ | .str, .bool | .str, .sl _ | .str, .pair .. | .str, .unit | .str, .any | .str, .osl .. | .str, .mp .. | .str, .omp ..
 | .sl _, .int _ | .sl _, .bool | .sl _, .str | .sl _, .pair .. | .sl _, .unit | .sl _, .any | .sl _, .osl .. | .sl _, .mp .. | .sl _, .omp ..
 | .pair .., .int _ | .pair .., .bool | .pair .., .str | .pair .., .sl _ | .pair .., .unit | .pair .., .any | .pair .., .osl .. | .pair .., .mp .. | .pair .., .omp ..
 | .unit, .int _ | .unit, .bool | .unit, .str | .unit, .sl _ | .unit, .pair .. | .unit, .any | .unit, .osl .. | .unit, .mp .. | .unit, .omp ..
 | .any, .int _ | .any, .bool | .any, .str | .any, .sl _ | .any, .pair .. | .any, .unit | .any, .osl .. | .any, .mp .. | .any, .omp ..
 | .osl .., .int _ | .osl .., .bool | .osl .., .str | .osl .., .sl _ | .osl .., .pair .. | .osl .., .unit | .osl .., .any | .osl .., .mp .. | .osl .., .omp ..
 | .mp .., .int _ | .mp .., .bool | .mp .., .str | .mp .., .sl _ | .mp .., .pair .. | .mp .., .unit | .mp .., .any | .mp .., .osl .. | .mp .., .omp ..
 | .omp .., .int _ | .omp .., .bool | .omp .., .str | .omp .., .sl _ | .omp .., .pair .. | .omp .., .unit | .omp .., .any | .omp .., .osl .. | .omp .., .mp ..=>.isFalse (by intro e; cases e)
inductive Cap where
 | loc (id : Nat)
 | el (t : Ty) (x : t.den)
inductive V where
 | i (k : IntKind) (n : Int)
 | b (x : Bool)
 | s (x : List UInt8)
 | sl (t : Ty) (xs : List t.den)
 | nil
 | row (id : Nat)
 | loc (id off : Nat)
 | el (t : Ty) (x : t.den) (off : Nat)
 | rel (id sz j off : Nat)
 | clo (f : Nat) (caps : List Cap)
 | ifc (T id : Nat)
 | any
 | sub (id n sz j off : Nat)
 | rng (id sz lo hi : Nat)
 | map (id : Nat)
 | mp (k v : Ty) (xs : List (k.den × v.den))
inductive SV where
 | one (v : V)
 | agg (vs : List V)
 | tup (vs : List (Bool × List V))
inductive Obj where
 | var (vs : List V)
 | row (T : Nat) (t : Ty) (n : Nat) (xs : List t.den)
 | frow (t : Ty) (xs : List t.den)
 | mix (T : Nat) (t : Ty) (n src q lo : Nat) (zs ys : List t.den)
 | map (k v : Ty) (xs : List (k.den × v.den))
structure Env where
 slots : List (Nat × SV)
 objs : List (Nat × Obj)
 next : Nat
def find {α : Type} : List (Nat × α) → Nat → Option α
 | [],_=>none
 | (k,v) :: r,i=>match Nat.beq k i with
  | true=>some v
  | false=>find r i
def upd {α : Type} : List (Nat × α) → Nat → α → List (Nat × α)
 | [],_,_=>[]
 | (k,v) :: r,i,x=>match Nat.beq k i with
  | true=>(k,x) :: r
  | false=>(k,v) :: upd r i x
def Env.get (e : Env) (t : Nat) : Option SV:=find e.slots t
def Env.set (e : Env) (t : Nat) (v : SV) : Env:=⟨(t,v) :: e.slots,e.objs,e.next⟩
def Env.put (e : Env) (d : Option Nat) (v : SV) : Env:=match d with
 | some t=>e.set t v
 | none=>e
def Env.obj (e : Env) (i : Nat) : Option Obj:=find e.objs i
def Env.setObj (e : Env) (i : Nat) (o : Obj) : Env:=⟨e.slots,upd e.objs i o,e.next⟩
def Env.new (e : Env) (o : Obj) : Env:=⟨e.slots,(e.next,o) :: e.objs,e.next + 1⟩
def enc : (t : Ty) → t.den → List V → List V
 | .int k,x,r=>V.i k x :: r
 | .bool,x,r=>V.b x :: r
 | .str,x,r=>V.s x :: r
 | .sl t,xs,r=>V.sl t xs :: r
 | .pair a b,x,r=>enc a x.1 (enc b x.2 r)
 | .unit,_,r=>r
 | .any,_,r=>V.any :: r
 | .osl _ _,_,r=>V.any :: r
 | .mp k v,xs,r=>V.mp k v xs :: r
 | .omp _ _,_,r=>V.any :: r
def cast? (a b : Ty) (x : a.den) : Option b.den:=match Ty.decEq a b with
 | .isTrue h=>some (h ▸ x)
 | .isFalse _=>none
def Ty.noOwn : Ty → Bool
 | .osl _ _=>false
 | .omp _ _=>false
 | .pair a b=>a.noOwn && b.noOwn
 | _=>true
def Ty.closed : Ty → Bool
 | .sl _=>false
 | .any=>false
 | .mp _ _=>false
 | .omp k v=>k.closed && v.closed
 | .osl _ t=>t.closed
 | .pair a b=>a.closed && b.closed
 | _=>true
def Ty.era : Ty → Ty
 | .osl _ t=>.sl t.era
 | .omp k v=>.mp k v
 | .pair a b=>.pair a.era b.era
 | t=>t
theorem den_era : ∀ t : Ty,t.den = t.era.den
 | .osl _ t=>congrArg List (den_era t)
 | .pair a b=>by show (a.den × b.den) = (a.era.den × b.era.den); rw [den_era a,den_era b]
 | .int _ | .bool | .str | .sl _ | .unit | .any | .mp _ _ | .omp _ _=>rfl
def eraV (t : Ty) (x : t.den) : t.era.den:=cast (den_era t) x
def frz (t : Ty) (xs : List t.den) : Sigma fun u : Ty=>List u.den:=match t.noOwn with
 | true=>⟨t,xs⟩
 | false=>⟨t.era,cast (congrArg List (den_era t)) xs⟩
def getS : (t : Ty) → t.den → Nat → Option (Sigma fun u : Ty=>List u.den)
 | .osl _ t,xs,0=>some (frz t xs)
 | .pair a b,x,n=>match Nat.blt n a.size with
  | true=>getS a x.1 n
  | false=>getS b x.2 (n - a.size)
 | _,_,_=>none
def dec (st : Bool) (os : List (Nat × Obj)) : (t : Ty) → List V → Option (t.den × List V)
 | .int k,V.i j n :: r=>match kEq k j with
  | true=>some (n,r)
  | false=>none
 | .bool,V.b x :: r=>some (x,r)
 | .str,V.s x :: r=>some (x,r)
 | .sl t,V.sl u xs :: r=>match cast? (.sl u) (.sl t) xs with
  | some ys=>some (ys,r)
  | none=>none
 | .sl _,V.nil :: r=>some ([],r)
 | .sl t,V.row id :: r=>match find os id with
  | some (.row _ u _ xs)=>match st with
   | true=>none
   | false=>match frz u xs with
    | ⟨u',ys⟩=>match cast? (.sl u') (.sl t) ys with
     | some zs=>some (zs,r)
     | none=>none
  | some (.frow u xs)=>match cast? (.sl u) (.sl t) xs with
   | some ys=>some (ys,r)
   | none=>none
  | _=>none
 | .sl t,V.rng id sz lo hi :: r=>match find os id with
  | some (.row _ u _ xs)=>match st,Nat.beq sz u.size with
   | false,true=>match frz u xs with
    | ⟨u',ys⟩=>match cast? (.sl u') (.sl t) ys with
     | some zs=>some ((zs.take hi).drop lo,r)
     | none=>none
   | _,_=>none
  | some (.frow u xs)=>match Nat.beq sz u.size,cast? (.sl u) (.sl t) xs with
   | true,some ys=>some ((ys.take hi).drop lo,r)
   | _,_=>none
  | _=>none
 | .sl t,V.sub id n sz j off :: r=>match find os id with
  | some (.row _ u n' xs)=>match st,Nat.beq n n' && Nat.beq sz u.size with
   | false,true=>match getS u (xs.getD j u.zero) off with
    | some ⟨u',ys⟩=>match cast? (.sl u') (.sl t) ys with
     | some zs=>some (zs,r)
     | none=>none
    | none=>none
   | _,_=>none
  | _=>none
 | .pair a b,l=>match dec st os a l with
  | some (x,r)=>match dec st os b r with
   | some (y,r')=>some ((x,y),r')
   | none=>none
  | none=>none
 | .unit,l=>some ((),l)
 | .any,V.any :: r=>some ((),r)
 | .mp k v,V.mp k' v' xs :: r=>match cast? (.mp k' v') (.mp k v) xs with
  | some ys=>some (ys,r)
  | none=>none
 | .mp k v,V.map id :: r=>match find os id with
  | some (.map k' v' xs)=>match st,cast? (.mp k' v') (.mp k v) xs with
   | false,some ys=>some (ys,r)
   | _,_=>none
  | _=>none
 | _,_=>none
def y74q (st : Bool) (os : List (Nat × Obj)) (t : Ty) (l : List V) : Option t.den:=match dec st os t l with
 | some (y,[])=>some y
 | _=>none
def SV.cells : SV → List V
 | .one v=>[v]
 | .agg vs=>vs
 | .tup _=>[]
def SV.isTup : SV → Bool
 | .tup _=>true
 | _=>false
def ofTy (t : Ty) (x : t.den) : SV:=match t.isAgg with
 | true=>.agg (enc t x [])
 | false=>match enc t x [] with
  | [v]=>.one v
  | _=>.tup []
def SV.aggness : SV → Bool
 | .agg _=>true
 | _=>false
def decAll (st : Bool) (os : List (Nat × Obj)) (t : Ty) (v : SV) : Option t.den :=
 match v with
 | .tup _=>none
 | .one x=>match t.isAgg with
  | true=>none
  | false=>y74q st os t [x]
 | .agg l=>match t.isAgg with
  | false=>none
  | true=>y74q st os t l
def constV : Value → Option V
 | .int k n=>some (.i k n)
 | .bool b=>some (.b b)
 | .string s=>some (.s s.data.toList)
 | .slice none 0 0=>some .nil
 | _=>none
def constVs : List Value → Option (List V)
 | []=>some []
 | v :: r=>match constV v,constVs r with
  | some x,some l=>some (x :: l)
  | _,_=>none
def constSV : Value → Option SV
 | .agg cs=>match constVs cs.toList with
  | some l=>some (.agg l)
  | none=>none
 | v=>match constV v with
  | some x=>some (.one x)
  | none=>none
def Env.val (e : Env) : Operand → Option SV
 | .tmp t=>e.get t
 | .const v=>constSV v
 | .func f=>some (.one (.clo f []))
 | .global _=>none
def Env.one (e : Env) (o : Operand) : Option V:=match e.val o with
 | some (.one v)=>some v
 | _=>none
structure TI where
 ty : Ty
 bytes : Nat
 offs : List Nat
 sizes : List Nat
 elem : Nat
abbrev Tab:=List (Nat × TI)
def capN : Nat:=68719476736
inductive AT where
 | val (t : Ty)
 | ptr (t : Ty)
 | clo (f : Nat) (ts : List Ty)
 | srt (Ts : List Nat)
 | var (t : Ty)
 | io (t : Ty)
 | own (t : Ty)
@[reducible] def dens : List Ty → Type
 | []=>Unit
 | t :: r=>t.den × dens r
@[reducible] def AT.den : AT → Type
 | .val t | .ptr t | .var t | .io t | .own t=>t.den
 | .clo _ ts=>dens ts
 | .srt _=>Unit
@[reducible] def ATs.den : List AT → Type
 | []=>Unit
 | a :: r=>a.den × ATs.den r
@[reducible] def den1 : List Ty → Type
 | []=>Unit
 | [t]=>t.den
 | t :: u :: r=>t.den × den1 (u :: r)
structure Con where
 args : List AT
 res : List Ty
 fn : Nat → ATs.den args → Option (den1 res)
def Ty.flat : Ty → Bool
 | .sl _=>false
 | .any=>false
 | .osl _ _=>false
 | .mp _ _=>false
 | .omp _ _=>false
 | .pair a b=>a.flat && b.flat
 | _=>true
def y149q : List Ty → Bool
 | []=>true
 | t :: r=>t.flat && y149q r
def Ty.noMp : Ty → Bool
 | .omp _ _=>false
 | .osl _ t=>t.noMp
 | .pair a b=>a.noMp && b.noMp
 | _=>true
def ownAt : Ty → Nat → Bool
 | .osl _ _,n=>Nat.beq n 0
 | .pair a b,n=>match Nat.blt n a.size with
  | true=>ownAt a n
  | false=>ownAt b (n - a.size)
 | _,_=>false
def hasIo : List AT → Bool
 | []=>false
 | .var _ :: _=>true
 | .io _ :: _=>true
 | .own _ :: _=>true
 | _ :: r=>hasIo r
def noOwnAll : List Ty → Bool
 | []=>true
 | t :: r=>t.noOwn && noOwnAll r
def y131q : List Ty → Bool
 | []=>true
 | t :: r=>t.closed && y131q r
def Con.gen (c : Con) : Bool:=hasIo c.args || !noOwnAll c.res
inductive Item where
 | val (s : Nat) (t : Ty)
 | var (s : Nat) (t : Ty)
 | el (s : Nat) (t : Ty)
 | clo (s : Nat) (f : Nat) (ts : List Ty)
 | clov (s : Nat) (f : Nat) (vs : List Nat)
 | ali (s v off : Nat)
@[reducible] def Item.den : Item → Type
 | .val _ t | .var _ t | .el _ t=>t.den
 | .clo _ _ ts=>dens ts
 | .clov _ _ _=>Unit
 | .ali _ _ _=>Unit
@[reducible] def Items.den : List Item → Type
 | []=>Unit
 | [a]=>a.den
 | a :: b :: r=>a.den × Items.den (b :: r)
end Go.Ev
end
section
namespace Go.Ev
structure Weak {α : Type} (lt : α → α → Bool) : Prop where
 asym : ∀ a b,lt a b = true → lt b a = false
 neg : ∀ a b c,lt a b = false → lt b c = false → lt a c = false
section
variable {α : Type} {lt : α → α → Bool}
theorem Weak.irr (h : Weak lt) (a : α) : lt a a = false:=by
 cases e : lt a a with
 | false=>rfl
 | true=>exact absurd (h.asym a a e) (by simp [e])
theorem Weak.trans (h : Weak lt) {a b c : α} (h1 : lt a b = true) (h2 : lt b c = true) : lt a c = true:=by
 cases e : lt a c with
 | true=>rfl
 | false =>
  have:=h.neg a c b e (h.asym b c h2)
  rw [h1] at this; cases this
theorem Weak.left (h : Weak lt) {a b c : α} (h1 : lt a b = true) (h2 : lt c b = false) : lt a c = true:=by
 cases e : lt a c with
 | true=>rfl
 | false =>
  have:=h.neg a c b e h2
  rw [h1] at this; cases this
theorem Weak.right (h : Weak lt) {a b c : α} (h1 : lt b a = false) (h2 : lt b c = true) : lt a c = true:=by
 cases e : lt a c with
 | true=>rfl
 | false =>
  have:=h.neg b a c h1 e
  rw [h2] at this; cases this
def mrg (lt : α → α → Bool) : List α → List α → List α
 | [],ys=>ys
 | xs,[]=>xs
 | x :: xs,y :: ys=>if lt y x = true then y :: mrg lt (x :: xs) ys else x :: mrg lt xs (y :: ys)
termination_by xs ys=>xs.length + ys.length
theorem mrg_nil (xs : List α) : mrg lt xs [] = xs:=by cases xs <;> simp [mrg]
theorem nil_mrg (ys : List α) : mrg lt [] ys = ys:=by simp [mrg]
theorem y33q (x y : α) (xs ys : List α) : mrg lt (x :: xs) (y :: ys) = if lt y x = true then y :: mrg lt (x :: xs) ys else x :: mrg lt xs (y :: ys):=by rw [mrg]
theorem mrg_length : ∀ (xs ys : List α),(mrg lt xs ys).length = xs.length + ys.length
 | [],ys=>by simp [mrg]
 | x :: xs,[]=>by simp [mrg]
 | x :: xs,y :: ys=>by
  rw [y33q]
  split
  ·simp [mrg_length (x :: xs) ys]; omega
  ·simp [mrg_length xs (y :: ys)]; omega
termination_by xs ys=>xs.length + ys.length
theorem mrg_perm : ∀ (xs ys : List α),(mrg lt xs ys).Perm (xs ++ ys)
 | [],ys=>by simp [mrg]
 | x :: xs,[]=>by simp [mrg]
 | x :: xs,y :: ys=>by
  rw [y33q]
  split
  ·exact ((mrg_perm (x :: xs) ys).cons y).trans (List.perm_middle (l₁:=x :: xs)).symm
  ·exact (mrg_perm xs (y :: ys)).cons x
termination_by xs ys=>xs.length + ys.length
theorem mem_mrg {a : α} {xs ys : List α} : a ∈ mrg lt xs ys ↔ a ∈ xs ∨ a ∈ ys:=by rw [(mrg_perm xs ys).mem_iff,List.mem_append]
def Srt (lt : α → α → Bool) (xs : List α) : Prop:=xs.Pairwise fun a b=>lt b a = false
theorem mrg_srt (h : Weak lt) : ∀ {xs ys : List α},Srt lt xs → Srt lt ys → Srt lt (mrg lt xs ys)
 | [],ys,_,hy=>by simpa [mrg] using hy
 | x :: xs,[],hx,_=>by simpa [mrg] using hx
 | x :: xs,y :: ys,hx,hy=>by
  have hx':=List.pairwise_cons.1 hx
  have hy':=List.pairwise_cons.1 hy
  rw [y33q]
  split
  ·rename_i e
   refine List.pairwise_cons.2 ⟨fun a ha=>?_,mrg_srt h hx hy'.2⟩
   rcases mem_mrg.1 ha with ha | ha
   ·rcases List.mem_cons.1 ha with rfl | ha
    ·exact h.asym _ _ e
    ·exact h.neg _ _ _ (hx'.1 a ha) (h.asym _ _ e)
   ·exact hy'.1 a ha
  ·rename_i e
   have e : lt y x = false:=by simpa using e
   refine List.pairwise_cons.2 ⟨fun a ha=>?_,mrg_srt h hx'.2 hy⟩
   rcases mem_mrg.1 ha with ha | ha
   ·exact hx'.1 a ha
   ·rcases List.mem_cons.1 ha with rfl | ha
    ·exact e
    ·exact h.neg _ _ _ (hy'.1 a ha) e
termination_by xs ys=>xs.length + ys.length
theorem mrg_assoc (h : Weak lt) : ∀ (xs ys zs : List α),mrg lt xs (mrg lt ys zs) = mrg lt (mrg lt xs ys) zs
 | [],ys,zs=>by simp [mrg]
 | x :: xs,[],zs=>by simp [mrg]
 | x :: xs,y :: ys,[]=>by simp [mrg_nil]
 | x :: xs,y :: ys,z :: zs=>by
  rw [y33q y z,y33q x y]
  by_cases a : lt z y = true
  ·rw [if_pos a,y33q x z]
   by_cases b : lt y x = true
   ·rw [if_pos b,if_pos (h.trans a b),y33q y z,if_pos a]
    have:=mrg_assoc h (x :: xs) (y :: ys) zs
    rw [this,y33q x y,if_pos b]
   ·rw [if_neg b,y33q x z]
    by_cases c : lt z x = true
    ·rw [if_pos c,if_pos c]
     have:=mrg_assoc h (x :: xs) (y :: ys) zs
     rw [this,y33q x y,if_neg b]
    ·rw [if_neg c,if_neg c]
     have:=mrg_assoc h xs (y :: ys) (z :: zs)
     rw [y33q y z,if_pos a] at this
     rw [this]
  ·have a' : lt z y = false:=by simpa using a
   rw [if_neg a,y33q x y]
   by_cases b : lt y x = true
   ·rw [if_pos b,if_pos b,y33q y z,if_neg a]
    have:=mrg_assoc h (x :: xs) ys (z :: zs)
    rw [this]
   ·have b' : lt y x = false:=by simpa using b
    rw [if_neg b,if_neg b,y33q x z,if_neg (by simp [h.neg z y x a' b'])]
    have:=mrg_assoc h xs (y :: ys) (z :: zs)
    rw [y33q y z,if_neg a] at this
    rw [this]
termination_by xs ys zs=>xs.length + ys.length + zs.length
def stab (lt : α → α → Bool) : List α → List α
 | []=>[]
 | x :: xs=>mrg lt [x] (stab lt xs)
theorem stab_append (h : Weak lt) : ∀ (xs ys : List α),stab lt (xs ++ ys) = mrg lt (stab lt xs) (stab lt ys)
 | [],ys=>by simp [stab,mrg]
 | x :: xs,ys=>by
  simp only [List.cons_append,stab]
  rw [stab_append h xs ys,mrg_assoc h]
theorem stab_one (x : α) : stab lt [x] = [x]:=by simp [stab,mrg]
theorem stab_perm : ∀ (xs : List α),(stab lt xs).Perm xs
 | []=>by simp [stab]
 | x :: xs=>by
  simp only [stab]
  exact (mrg_perm [x] (stab lt xs)).trans ((stab_perm xs).cons x)
theorem stab_length (xs : List α) : (stab lt xs).length = xs.length:=(stab_perm xs).length_eq
theorem stab_srt (h : Weak lt) : ∀ (xs : List α),Srt lt (stab lt xs)
 | []=>List.Pairwise.nil
 | x :: xs=>mrg_srt h (List.pairwise_singleton _ _) (stab_srt h xs)
theorem mrg_split (h : Weak lt) : ∀ (A1 B1 A2 B2 : List α),(∀ x ∈ A1,∀ y ∈ B2,lt y x = false) → (∀ y ∈ B1,∀ x ∈ A2,lt y x = true) → mrg lt (A1 ++ A2) (B1 ++ B2) = mrg lt A1 B1 ++ mrg lt A2 B2
 | [],[],A2,B2,_,_=>by simp [mrg]
 | [],b :: B1,A2,B2,h1,h2=>by
  have ih:=mrg_split h [] B1 A2 B2 (fun x hx=>by simp at hx) (fun y hy=>h2 y (List.mem_cons_of_mem _ hy))
  simp only [List.nil_append,nil_mrg] at ih ⊢
  cases A2 with
  | nil=>simp [mrg]
  | cons a A2 =>
   simp only [List.cons_append]
   rw [y33q,if_pos (h2 b List.mem_cons_self a List.mem_cons_self),ih]
 | a :: A1,[],A2,B2,h1,h2=>by
  have ih:=mrg_split h A1 [] A2 B2 (fun x hx=>h1 x (List.mem_cons_of_mem _ hx)) (fun y hy=>by simp at hy)
  simp only [List.nil_append,mrg_nil] at ih ⊢
  cases B2 with
  | nil=>simp [mrg_nil]
  | cons b B2 =>
   simp only [List.cons_append]
   rw [y33q,if_neg (by simp [h1 a List.mem_cons_self b List.mem_cons_self]),ih]
 | a :: A1,b :: B1,A2,B2,h1,h2=>by
  simp only [List.cons_append]
  rw [y33q,y33q]
  split
  ·have ih:=mrg_split h (a :: A1) B1 A2 B2 h1 (fun y hy=>h2 y (List.mem_cons_of_mem _ hy))
   simp only [List.cons_append] at ih
   rw [ih]; rfl
  ·have ih:=mrg_split h A1 (b :: B1) A2 B2 (fun x hx=>h1 x (List.mem_cons_of_mem _ hx)) h2
   simp only [List.cons_append] at ih
   rw [ih]; rfl
termination_by A1 B1=>A1.length + B1.length
theorem mrg_one (h : Weak lt) (x : α) : ∀ (A1 A2 : List α),(∀ a ∈ A1,lt x a = false) → (∀ a ∈ A2,lt x a = true) → mrg lt (A1 ++ A2) [x] = A1 ++ x :: A2
 | [],[],_,_=>by simp [mrg]
 | [],a :: A2,_,h2=>by
  simp only [List.nil_append]
  rw [y33q,if_pos (h2 a List.mem_cons_self),mrg_nil]
 | a :: A1,A2,h1,h2=>by
  simp only [List.cons_append]
  rw [y33q,if_neg (by simp [h1 a List.mem_cons_self]),mrg_one h x A1 A2 (fun b hb=>h1 b (List.mem_cons_of_mem _ hb)) h2]
theorem one_mrg (h : Weak lt) (x : α) : ∀ (B1 B2 : List α),(∀ b ∈ B1,lt b x = true) → (∀ b ∈ B2,lt b x = false) → mrg lt [x] (B1 ++ B2) = B1 ++ x :: B2
 | [],[],_,_=>by simp [mrg]
 | [],b :: B2,_,h2=>by
  simp only [List.nil_append]
  rw [y33q,if_neg (by simp [h2 b List.mem_cons_self]),nil_mrg]
 | b :: B1,B2,h1,h2=>by
  simp only [List.cons_append]
  rw [y33q,if_pos (h1 b List.mem_cons_self),one_mrg h x B1 B2 (fun c hc=>h1 c (List.mem_cons_of_mem _ hc)) h2]
end
end Go.Ev
end
section
namespace Go.Ev
def SrtOk {α : Type} (z : α) (less : List α → Int → Int → Option Bool) (xs : List α) (lt : α → α → Bool) : Prop :=
 Weak lt ∧ ∀ ys : List α,ys.length = xs.length → (∀ y ∈ ys,y ∈ xs) → ∀ i j : Nat,i < xs.length → j < xs.length → less ys i j = some (lt (ys.getD i z) (ys.getD j z))
open Classical in
noncomputable def srt {α : Type} (z : α) (less : List α → Int → Int → Option Bool) (xs : List α) : Option (List α) :=
 if xs.length ≤ 1 then some xs else if h : ∃ lt,SrtOk z less xs lt then some (stab (Classical.choose h) xs) else none
theorem srt_small {α : Type} {z : α} {less : List α → Int → Int → Option Bool} {xs : List α} (h : xs.length ≤ 1) : srt z less xs = some xs:=by
 unfold srt; rw [if_pos h]
theorem srt_some {α : Type} {z : α} {less : List α → Int → Int → Option Bool} {xs ys : List α} (h : srt z less xs = some ys) (h1 : ¬ xs.length ≤ 1) : ∃ lt,SrtOk z less xs lt ∧ ys = stab lt xs:=by
 unfold srt at h
 rw [if_neg h1] at h
 split at h
 ·rename_i hh
  exact ⟨_,Classical.choose_spec hh,(Option.some.inj h).symm⟩
 ·cases h
theorem mrg_congr {α : Type} {l l' : α → α → Bool} : ∀ (xs ys : List α),(∀ a ∈ xs,∀ b ∈ ys,l b a = l' b a) → mrg l xs ys = mrg l' xs ys
 | [],ys,_=>by rw [nil_mrg,nil_mrg]
 | x :: xs,[],_=>by rw [mrg_nil,mrg_nil]
 | x :: xs,y :: ys,h=>by
  rw [y33q,y33q,h x (by simp) y (by simp),mrg_congr (x :: xs) ys (fun a ha b hb=>h a ha b (by simp [hb])),mrg_congr xs (y :: ys) (fun a ha b hb=>h a (by simp [ha]) b hb)]
termination_by xs ys=>xs.length + ys.length
theorem stab_congr {α : Type} {l l' : α → α → Bool} : ∀ (xs : List α),(∀ a ∈ xs,∀ b ∈ xs,l a b = l' a b) → stab l xs = stab l' xs
 | [],_=>rfl
 | x :: xs,h=>by
  have ih:=stab_congr xs fun a ha b hb=>h a (by simp [ha]) b (by simp [hb])
  simp only [stab]
  rw [ih]
  exact mrg_congr _ _ fun a ha b hb=>by
   have hb':=(stab_perm (lt:=l') xs).mem_iff.1 hb
   simp at ha; subst ha
   exact h b (by simp [hb']) a (by simp)
theorem srt_eq {α : Type} {z : α} {less : List α → Int → Int → Option Bool} {xs : List α} {lt : α → α → Bool} (h : SrtOk z less xs lt) : srt z less xs = some (stab lt xs):=by
 by_cases h1 : xs.length ≤ 1
 ·rw [srt_small h1]
  match xs,h1 with
  | [],_=>rfl
  | [x],_=>rw [stab_one]
 ·have hex : ∃ lt,SrtOk z less xs lt:=⟨lt,h⟩
  unfold srt
  rw [if_neg h1,dif_pos hex]
  congr 1
  refine stab_congr xs fun a ha b hb=>?_
  have h0:=Classical.choose_spec hex
  generalize Classical.choose hex = l at h0
  have hlen : 2 ≤ xs.length:=by omega
  have e1:=h0.2 (a :: b :: xs.drop 2) (by simp; omega) (by intro y hy; simp at hy; rcases hy with rfl | rfl | hy; exact ha; exact hb; exact List.mem_of_mem_drop hy) 0 1 (by omega) (by omega)
  have e2:=h.2 (a :: b :: xs.drop 2) (by simp; omega) (by intro y hy; simp at hy; rcases hy with rfl | rfl | hy; exact ha; exact hb; exact List.mem_of_mem_drop hy) 0 1 (by omega) (by omega)
  rw [e1] at e2
  simpa using e2
theorem mrg_map {α β : Type} {lt : β → β → Bool} (f : α → β) : ∀ (xs ys : List α),(mrg (fun a b=>lt (f a) (f b)) xs ys).map f = mrg lt (xs.map f) (ys.map f)
 | [],ys=>by rw [nil_mrg,List.map_nil,nil_mrg]
 | x :: xs,[]=>by rw [mrg_nil,List.map_nil,mrg_nil]
 | x :: xs,y :: ys=>by
  rw [y33q,List.map_cons,List.map_cons,y33q]
  split
  ·rw [List.map_cons,mrg_map f (x :: xs) ys]; rfl
  ·rw [List.map_cons,mrg_map f xs (y :: ys)]; rfl
termination_by xs ys=>xs.length + ys.length
theorem stab_map {α β : Type} {lt : β → β → Bool} (f : α → β) : ∀ (xs : List α),(stab (fun a b=>lt (f a) (f b)) xs).map f = stab lt (xs.map f)
 | []=>rfl
 | x :: xs=>by
  simp only [stab,List.map_cons]
  rw [mrg_map,stab_map f xs]; rfl
theorem Weak.on {α β : Type} {lt : β → β → Bool} (h : Weak lt) (f : α → β) : Weak fun a b=>lt (f a) (f b):=⟨fun a b=>h.asym _ _,fun a b c=>h.neg _ _ _⟩
end Go.Ev
end
section
namespace Go.Ev
noncomputable section
def zeros : Ty → List V → List V
 | .int k,r=>V.i k 0 :: r
 | .bool,r=>V.b false :: r
 | .str,r=>V.s [] :: r
 | .sl _,r=>V.nil :: r
 | .pair a b,r=>zeros a (zeros b r)
 | .unit,r=>r
 | .any,r=>V.any :: r
 | .osl _ _,r=>V.nil :: r
 | .mp k v,r=>V.mp k v [] :: r
 | .omp k v,r=>V.mp k v [] :: r
def takeN {α : Type} : Nat → List α → List α
 | 0,_=>[]
 | _ + 1,[]=>[]
 | n + 1,a :: l=>a :: takeN n l
def dropN {α : Type} : Nat → List α → List α
 | 0,l=>l
 | _ + 1,[]=>[]
 | n + 1,_ :: l=>dropN n l
def nth {α : Type} : List α → Nat → Option α
 | [],_=>none
 | a :: _,0=>some a
 | _ :: l,n + 1=>nth l n
def paste {α : Type} : List α → Nat → List α → List α
 | l,0,[]=>l
 | [],_,_=>[]
 | _ :: l,0,y :: ys=>y :: paste l 0 ys
 | a :: l,n + 1,ys=>a :: paste l n ys
def lenN {α : Type} : List α → Nat
 | []=>0
 | _ :: l=>lenN l + 1
def br {ρ : Type} (b : Bool) (x y : Option ρ) : Option ρ:=cond b x y
def bnd {α ρ : Type} (m : Option α) (f : α → Option ρ) : Option ρ:=m.bind f
def onSum {α ρ σ : Type} (r : α ⊕ ρ) (f : α → Option σ) (g : ρ → Option σ) : Option σ:=match r with
 | .inl y=>f y
 | .inr z=>g z
def chk {ρ : Type} (b : Bool) (x : Option ρ) : Option ρ:=br b x none
def partTy : Ty → Nat → Nat → Option (Nat × Ty)
 | .pair a _,0,o=>some (o,a)
 | .pair a b,n + 1,o=>partTy b n (o + a.size)
 | _,_,_=>none
def asSV (t : Ty) (l : List V) : Option SV:=match t.isAgg with
 | true=>some (.agg l)
 | false=>match l with
  | [v]=>some (.one v)
  | _=>none
def freezeRow (os : List (Nat × Obj)) (id : Nat) : List (Nat × Obj):=match find os id with
 | some (.row _ t _ xs)=>upd os id (.frow (frz t xs).1 (frz t xs).2)
 | _=>os
def freezeAll : List Nat → List (Nat × Obj) → List (Nat × Obj)
 | [],os=>os
 | i :: r,os=>freezeAll r (freezeRow os i)
def rowIds : List V → List Nat
 | []=>[]
 | .row id :: r=>id :: rowIds r
 | .rng id _ _ _ :: r=>id :: rowIds r
 | .map id :: r=>id :: rowIds r
 | _ :: r=>rowIds r
def rowsOfVar (os : List (Nat × Obj)) (id : Nat) : List Nat:=match find os id with
 | some (.var vs)=>rowIds vs
 | _=>[]
def rowsOfCaps (os : List (Nat × Obj)) : List Cap → List Nat
 | []=>[]
 | .loc id :: r=>rowsOfVar os id ++ rowsOfCaps os r
 | _ :: r=>rowsOfCaps os r
def reach (os : List (Nat × Obj)) : List V → List Nat
 | []=>[]
 | .row id :: r=>id :: reach os r
 | .rng id _ _ _ :: r=>id :: reach os r
 | .loc id _ :: r=>rowsOfVar os id ++ reach os r
 | .clo _ caps :: r=>rowsOfCaps os caps ++ reach os r
 | _ :: r=>reach os r
def y75q (os : List (Nat × Obj)) : List SV → List Nat
 | []=>[]
 | v :: r=>reach os v.cells ++ y75q os r
def Env.freeze (e : Env) (l : List Nat) : Env:=⟨e.slots,freezeAll l e.objs,e.next⟩
section
variable {ρ : Type} (Γ : Tab)
def getP (T : Nat) (u : Ty) : (t : Ty) → t.den → Nat → Option (List u.den)
 | .osl U t,xs,0=>match Nat.beq U T with
  | true=>cast? (.sl t) (.sl u) xs
  | false=>none
 | .pair a b,x,n=>match Nat.blt n a.size with
  | true=>getP T u a x.1 n
  | false=>getP T u b x.2 (n - a.size)
 | _,_,_=>none
def setP (T : Nat) (u : Ty) (ys : List u.den) : (t : Ty) → t.den → Nat → Option t.den
 | .osl U t,_,0=>match Nat.beq U T with
  | true=>cast? (.sl u) (.sl t) ys
  | false=>none
 | .pair a b,x,n=>match Nat.blt n a.size with
  | true=>match setP T u ys a x.1 n with
   | some z=>some (z,x.2)
   | none=>none
  | false=>match setP T u ys b x.2 (n - a.size) with
   | some z=>some (x.1,z)
   | none=>none
 | _,_,_=>none
def encS (id n sz j : Nat) : (t : Ty) → t.den → Nat → List V
 | .osl _ _,_,o=>[.sub id n sz j o]
 | .pair a b,x,o=>encS id n sz j a x.1 o ++ encS id n sz j b x.2 (o + a.size)
 | t,x,_=>enc t x []
def encR (id n sz j : Nat) (t : Ty) (x : t.den) : List V:=match t.noOwn with
 | true=>enc t x []
 | false=>encS id n sz j t x 0
def setL (u : Ty) (y : u.den) : (t : Ty) → t.den → Nat → Option t.den
 | .pair a b,x,n=>match Nat.beq n 0,cast? u (.pair a b) y with
  | true,some z=>some z
  | _,_=>match Nat.blt n a.size with
   | true=>match setL u y a x.1 n with
    | some z=>some (z,x.2)
    | none=>none
   | false=>match setL u y b x.2 (n - a.size) with
    | some z=>some (x.1,z)
    | none=>none
 | t,_,0=>cast? u t y
 | _,_,_=>none
def evLoad (T : Nat) (a : V) (e : Env) (K : SV → Env → Option ρ) : Option ρ :=
 match find Γ T with
 | some ti=>match a with
  | .loc id off=>match e.obj id with
   | some (.var vs)=>match Nat.ble ti.ty.size (lenN (dropN off vs)) with
    | true=>match asSV ti.ty (takeN ti.ty.size (dropN off vs)) with
     | some v=>K v e
     | none=>none
    | false=>none
   | _=>none
  | .el t x off=>match Nat.ble ti.ty.size (lenN (dropN off (enc t x []))) with
    | true=>match asSV ti.ty (takeN ti.ty.size (dropN off (enc t x []))) with
     | some v=>K v e
     | none=>none
    | false=>none
  | .rel id sz j off=>match e.obj id with
   | some (.row _ t n xs)=>match Nat.beq sz t.size,Nat.ble ti.ty.size (lenN (dropN off (encR id n sz j t (xs.getD j t.zero)))) with
    | true,true=>match asSV ti.ty (takeN ti.ty.size (dropN off (encR id n sz j t (xs.getD j t.zero)))) with
     | some v=>K v e
     | none=>none
    | _,_=>none
   | _=>none
  | _=>none
 | none=>none
def storeEl (os : List (Nat × Obj)) (u : Ty) (v : SV) (t : Ty) (x : t.den) (off : Nat) : Option t.den:=match t.noOwn with
 | false=>match u.noOwn,decAll true os u v with
  | true,some y=>setL u y t x off
  | _,_=>none
 | true=>y74q true os t (paste (enc t x []) off v.cells)
def evStore (T : Nat) (a : V) (v : SV) (e : Env) (K : SV → Env → Option ρ) : Option ρ :=
 match find Γ T with
 | some ti=>match Nat.beq (lenN v.cells) ti.ty.size,v.isTup with
  | true,false=>match a with
   | .loc id off=>match e.obj id with
    | some (.var vs)=>match Nat.ble (off + ti.ty.size) (lenN vs) with
     | true=>K (.tup []) (e.setObj id (.var (paste vs off v.cells)))
     | false=>none
    | _=>none
   | .rel id sz j off=>match (e.freeze (rowIds v.cells)).obj id with
    | some (.row U t n xs)=>match Nat.beq sz t.size,Nat.ble (off + ti.ty.size) t.size with
     | true,true=>match t.isAgg && !Nat.beq ti.ty.size t.size with
      | true=>bnd (some (xs.getD j t.zero)) fun x0=>match storeEl (e.freeze (rowIds v.cells)).objs ti.ty v t x0 off with
       | some y=>bnd (some (xs.set j y)) fun ys=>K (.tup []) ((e.freeze (rowIds v.cells)).setObj id (.row U t n ys))
       | none=>none
      | false=>match storeEl (e.freeze (rowIds v.cells)).objs ti.ty v t (xs.getD j t.zero) off with
       | some y=>K (.tup []) ((e.freeze (rowIds v.cells)).setObj id (.row U t n (xs.set j y)))
       | none=>none
     | _,_=>none
    | _=>none
   | _=>none
  | _,_=>none
 | none=>none
def tyEq (a b : Ty) : Bool:=match Ty.decEq a b with
 | .isTrue _=>true
 | .isFalse _=>false
def evInt (op : BinOp) (k : IntKind) (a b : Int) (K : SV → Option ρ) : Option ρ :=
 match op with
 | .add=>K (.one (.i k (k.wrap (a + b))))
 | .sub=>K (.one (.i k (k.wrap (a - b))))
 | .mul=>K (.one (.i k (k.wrap (a * b))))
 | .quo=>chk (!(b == 0)) (K (.one (.i k (k.wrap (a.tdiv b)))))
 | .rem=>chk (!(b == 0)) (K (.one (.i k (a.tmod b))))
 | .eql=>K (.one (.b (a == b)))
 | .neq=>K (.one (.b (a != b)))
 | .lss=>K (.one (.b (decide (a < b))))
 | .leq=>K (.one (.b (decide (a ≤ b))))
 | .gtr=>K (.one (.b (decide (a > b))))
 | .geq=>K (.one (.b (decide (a ≥ b))))
 | .and=>K (.one (.i k (bits .and k a b)))
 | .or=>K (.one (.i k (bits .or k a b)))
 | .xor=>K (.one (.i k (bits .xor k a b)))
 | .andNot=>K (.one (.i k (bits .andNot k a b)))
 | _=>none
def evStr (op : BinOp) (a b : List UInt8) (K : SV → Option ρ) : Option ρ :=
 match op with
 | .add=>chk (decide (a.length + b.length ≤ capN)) (K (.one (.s (a ++ b))))
 | .eql=>K (.one (.b (a == b)))
 | .neq=>K (.one (.b (!(a == b))))
 | .lss=>K (.one (.b (Op.bytesLess a b)))
 | .leq=>K (.one (.b (Op.bytesLess a b || a == b)))
 | .gtr=>K (.one (.b (!(Op.bytesLess a b || a == b))))
 | .geq=>K (.one (.b (!Op.bytesLess a b)))
 | _=>none
def eqI (a b : Int) : Bool:=a == b
def eqB (a b : Bool) : Bool:=a == b
def eqS (a b : List UInt8) : Bool:=a == b
def andB (a b : Bool) : Bool:=a && b
def eqT : (t : Ty) → t.den → t.den → Bool
 | .int _,a,b=>eqI a b
 | .bool,a,b=>eqB a b
 | .str,a,b=>eqS a b
 | .sl _,_,_=>false
 | .unit,_,_=>true
 | .any,_,_=>false
 | .osl _ _,_,_=>false
 | .mp _ _,_,_=>false
 | .omp _ _,_,_=>false
 | .pair p q,x,y=>andB (eqT p x.1 y.1) (eqT q x.2 y.2)
def evBin (u : Ty) (op : BinOp) (x y : SV) (K : SV → Option ρ) : Option ρ :=
 match x,y with
 | .one (.i k a), .one (.i j b)=>match op with
  | .shl=>chk (decide (0 ≤ b)) (K (.one (.i k (k.wrap (a * 2 ^ (min b.toNat k.bits))))))
  | .shr=>chk (decide (0 ≤ b)) (K (.one (.i k (a.fdiv (2 ^ (min b.toNat k.bits))))))
  | op=>match kEq k j with
   | true=>evInt op k a b K
   | false=>none
 | .one (.b a), .one (.b b)=>match u with
  | .bool=>match op with
   | .eql=>K (.one (.b (a == b)))
   | .neq=>K (.one (.b (!(a == b))))
   | _=>none
  | _=>none
 | .one (.s a), .one (.s b)=>evStr op a b K
 | .agg l, .agg l'=>match u.isAgg && u.flat with
  | true=>match op with
   | .eql=>match y74q false [] u l,y74q false [] u l' with
    | some a,some b=>K (.one (.b (eqT u a b)))
    | _,_=>none
   | .neq=>match y74q false [] u l,y74q false [] u l' with
    | some a,some b=>K (.one (.b (!eqT u a b)))
    | _,_=>none
   | _=>none
  | false=>none
 | _,_=>none
def evUn (op : UnOp) (x : V) (K : SV → Option ρ) : Option ρ :=
 match op,x with
 | .not, .b a=>K (.one (.b (!a)))
 | .neg, .i k n=>K (.one (.i k (k.wrap (0 - n))))
 | _,_=>none
def lenOf (e : Env) (u : Ty) (v : V) : Option Nat:=match u with
 | .str=>match v with
  | .s x=>some x.length
  | _=>none
 | .sl _ | .osl _ _=>match v with
  | .sl _ xs=>some xs.length
  | .nil=>some 0
  | .row id=>match e.obj id with
   | some (.row _ _ _ xs)=>some xs.length
   | some (.frow _ xs)=>some xs.length
   | _=>none
  | .rng _ _ lo hi=>some (hi - lo)
  | .sub id n sz j off=>match e.obj id with
   | some (.row _ u n' xs)=>match Nat.beq n n' && Nat.beq sz u.size with
    | true=>match getS u (xs.getD j u.zero) off with
     | some p=>some p.2.length
     | none=>none
    | false=>none
   | _=>none
  | _=>none
 | _=>none
def isSl (u t : Ty) : Bool:=match u with
 | .sl t'=>tyEq t' t
 | .osl _ t'=>tyEq t' t
 | _=>false
def y112q (u : Ty) (s : V) (n : Int) (e : Env) (K : SV → Option ρ) : Option ρ :=
 match s with
 | .sl t xs=>match tyEq u.era (.sl t) with
  | true=>chk (decide (0 ≤ n)) (chk (decide (n < xs.length)) (K (.one (.el t (xs.getD n.toNat t.zero) 0))))
  | false=>none
 | .row id=>match e.obj id with
  | some (.row _ t _ xs)=>match isSl u t with
   | true=>chk (decide (0 ≤ n)) (chk (decide (n < xs.length)) (K (.one (.rel id t.size n.toNat 0))))
   | false=>none
  | some (.frow t xs)=>match tyEq u.era (.sl t) with
   | true=>chk (decide (0 ≤ n)) (chk (decide (n < xs.length)) (K (.one (.el t (xs.getD n.toNat t.zero) 0))))
   | false=>none
  | _=>none
 | .rng id sz lo hi=>match e.obj id with
  | some (.row _ t _ xs)=>match isSl u t && Nat.beq sz t.size with
   | true=>chk (decide (0 ≤ n)) (chk (decide (n.toNat < hi - lo)) (K (.one (.rel id t.size (lo + n.toNat) 0))))
   | false=>none
  | some (.frow t xs)=>match tyEq u.era (.sl t) && Nat.beq sz t.size with
   | true=>chk (decide (0 ≤ n)) (chk (decide (n.toNat < hi - lo)) (K (.one (.el t (xs.getD (lo + n.toNat) t.zero) 0))))
   | false=>none
  | _=>none
 | _=>none
def y119q (t : Ty) (xs : List t.den) (lo hi : Option Int) (K : SV → Option ρ) : Option ρ :=
 match lo,hi with
 | none,none=>K (.one (.sl t xs))
 | some l,none=>chk (decide (0 ≤ l)) (chk (decide (l ≤ xs.length)) (K (.one (.sl t (xs.drop l.toNat)))))
 | none,some h=>chk (decide (0 ≤ h)) (chk (decide (h ≤ xs.length)) (K (.one (.sl t (xs.take h.toNat)))))
 | some l,some h=>chk (decide (0 ≤ l)) (chk (decide (l ≤ h)) (chk (decide (h ≤ xs.length)) (K (.one (.sl t ((xs.take h.toNat).drop l.toNat))))))
def evSliceS (s : List UInt8) (lo hi : Option Int) (K : SV → Option ρ) : Option ρ :=
 match lo,hi with
 | none,none=>K (.one (.s s))
 | some l,none=>chk (decide (0 ≤ l)) (chk (decide (l ≤ s.length)) (K (.one (.s (s.drop l.toNat)))))
 | none,some h=>chk (decide (0 ≤ h)) (chk (decide (h ≤ s.length)) (K (.one (.s (s.take h.toNat)))))
 | some l,some h=>chk (decide (0 ≤ l)) (chk (decide (l ≤ h)) (chk (decide (h ≤ s.length)) (K (.one (.s ((s.take h.toNat).drop l.toNat))))))
def y142q (id sz lo len : Nat) (l h : Option Int) (K : SV → Option ρ) : Option ρ :=
 match l,h with
 | none,none=>K (.one (.rng id sz lo (lo + len)))
 | some l,none=>chk (decide (0 ≤ l)) (chk (decide (l ≤ len)) (K (.one (.rng id sz (lo + l.toNat) (lo + len)))))
 | none,some h=>chk (decide (0 ≤ h)) (chk (decide (h ≤ len)) (K (.one (.rng id sz lo (lo + h.toNat)))))
 | some l,some h=>chk (decide (0 ≤ l)) (chk (decide (l ≤ h)) (chk (decide (h ≤ len)) (K (.one (.rng id sz (lo + l.toNat) (lo + h.toNat))))))
def bound (e : Env) : Option Operand → Option (Option Int)
 | none=>some none
 | some o=>match e.one o with
  | some (.i _ n)=>some (some n)
  | _=>none
def evSlice (u : Ty) (x : V) (lo hi : Option Operand) (e : Env) (K : SV → Env → Option ρ) : Option ρ :=
 match bound e lo,bound e hi with
 | some l,some h=>match x with
  | .s a=>match tyEq u .str with
   | true=>evSliceS a l h (fun v=>K v e)
   | false=>none
  | .sl t xs=>match tyEq u.era (.sl t) with
   | true=>y119q t xs l h (fun v=>K v e)
   | false=>none
  | .row id=>match e.obj id with
   | some (.row _ t _ xs)=>match isSl u t with
    | true=>y142q id t.size 0 xs.length l h (fun v=>K v e)
    | false=>none
   | some (.frow t xs)=>match tyEq u.era (.sl t) with
    | true=>y119q t xs l h (fun v=>K v e)
    | false=>none
   | _=>none
  | .rng id sz lo hi=>match e.obj id with
   | some (.row _ t _ xs)=>match isSl u t && Nat.beq sz t.size with
    | true=>y142q id t.size lo (hi - lo) l h (fun v=>K v e)
    | false=>none
   | some (.frow t xs)=>match tyEq u.era (.sl t) && Nat.beq sz t.size with
    | true=>y119q t ((xs.take hi).drop lo) l h (fun v=>K v e)
    | false=>none
   | _=>none
  | _=>none
 | _,_=>none
def source (e : Env) : V → Option (Sigma fun t : Ty=>List t.den)
 | .sl t xs=>some ⟨t,xs⟩
 | .row id=>match e.obj id with
  | some (.row _ t _ xs)=>some ⟨t,xs⟩
  | some (.frow t xs)=>some ⟨t,xs⟩
  | _=>none
 | .rng id sz lo hi=>match e.obj id with
  | some (.row _ t _ xs)=>match Nat.beq sz t.size with
   | true=>some ⟨t,(xs.take hi).drop lo⟩
   | false=>none
  | some (.frow t xs)=>match Nat.beq sz t.size with
   | true=>some ⟨t,(xs.take hi).drop lo⟩
   | false=>none
  | _=>none
 | _=>none
def erase (os : List (Nat × Obj)) (id : Nat) : List (Nat × Obj):=match os with
 | []=>[]
 | (k,v) :: r=>match Nat.beq k id with
  | true=>erase r id
  | false=>(k,v) :: erase r id
def mixEl : (t : Ty) → t.den → t.den → t.den
 | .osl _ _,_,x=>x
 | .pair a b,z,x=>(mixEl a z.1 x.1,mixEl b z.2 x.2)
 | .int _,z,_ | .bool,z,_ | .str,z,_ | .sl _,z,_ | .unit,z,_ | .any,z,_ | .mp _ _,z,_ | .omp _ _,z,_=>z
def mixL (t : Ty) (zs xs : List t.den) : List t.den:=List.zipWith (mixEl t) zs xs
def y76q (T : Nat) (t : Ty) (ys : List t.den) (s : V) (e : Env) (K : SV → Env → Option ρ) : Option ρ :=
 match s with
 | .nil=>chk (decide (ys.length ≤ capN)) (K (.one (.row e.next)) (e.new (.row T t e.next ys)))
 | .row id=>match e.obj id with
  | some (.row U u _ xs)=>match Nat.beq U T,cast? (.sl u) (.sl t) xs with
   | true,some xs=>chk (decide (xs.length + ys.length ≤ capN)) (K (.one (.row e.next)) (Env.new ⟨e.slots,erase e.objs id,e.next⟩ (.row T t e.next (xs ++ ys))))
   | _,_=>none
  | some (.mix U u _ src q lo zs ws)=>match Nat.beq U T,cast? (.sl u) (.sl t) zs,cast? (.sl u) (.sl t) ws with
   | true,some zs,some ws=>chk (decide (zs.length + ws.length + ys.length ≤ capN)) (K (.one (.row e.next)) (Env.new ⟨e.slots,erase e.objs id,e.next⟩ (.mix T t e.next src q lo zs (ws ++ ys))))
   | _,_,_=>none
  | _=>none
 | .rng id sz lo hi=>match e.obj id with
  | some (.row U u _ xs)=>match Nat.beq U T && Nat.beq sz u.size,cast? (.sl u) (.sl t) xs with
   | true,some xs=>chk (decide (lo = 0)) (chk (decide (hi + ys.length ≤ capN)) (K (.one (.row e.next)) (Env.new ⟨e.slots,erase e.objs id,e.next⟩ (.row T t e.next (xs.take hi ++ ys)))))
   | _,_=>none
  | _=>none
 | _=>none
def evAppend (T : Nat) (s x : V) (e : Env) (K : SV → Env → Option ρ) : Option ρ :=
 match find Γ T with
 | some ti=>match find Γ ti.elem with
  | some tj=>match isSl ti.ty tj.ty with
   | true=>match tj.ty.noOwn with
    | true=>match source e x with
     | some ⟨t,ys⟩=>match cast? (.sl t) (.sl tj.ty) ys with
      | some ys=>y76q ti.elem tj.ty ys s e K
      | none=>none
     | none=>none
    | false=>match x with
     | .row id=>match e.obj id with
      | some (.row _ u _ ys)=>match cast? (.sl u) (.sl tj.ty) ys with
       | some ys=>y76q ti.elem tj.ty ys s ⟨e.slots,erase e.objs id,e.next⟩ K
       | none=>none
      | _=>none
     | .rng id sz lo hi=>match s with
      | .row idm=>match e.obj id,e.obj idm with
       | some (.row U u q ys),some (.mix V v _ src q' lo' zs ws)=>match Nat.beq U ti.elem && Nat.beq V ti.elem && Nat.beq sz u.size && Nat.beq src id && Nat.beq q q' && tj.ty.noMp,cast? (.sl u) (.sl tj.ty) ys,cast? (.sl v) (.sl tj.ty) zs,cast? (.sl v) (.sl tj.ty) ws with
        | true,some xs,some zs,some ws=>chk (decide (lo' + zs.length ≤ lo)) (chk (decide (zs.length + ws.length + (hi - lo) ≤ capN))
          (K (.one (.row e.next)) (Env.new ⟨e.slots,erase (erase e.objs idm) id,e.next⟩ (.row ti.elem tj.ty e.next ((mixL tj.ty zs (xs.drop lo') ++ ws) ++ (xs.take hi).drop lo)))))
        | _,_,_,_=>none
       | _,_=>none
      | _=>none
     | _=>none
   | false=>none
  | none=>none
 | none=>none
def evAppendN (T : Nat) (x : V) (e : Env) (K : SV → Env → Option ρ) : Option ρ :=
 match find Γ T with
 | some ti=>match find Γ ti.elem with
  | some tj=>match isSl ti.ty tj.ty with
   | true=>match tj.ty.noOwn with
    | true=>match source e x with
     | some ⟨t,ys⟩=>match cast? (.sl t) (.sl tj.ty) ys with
      | some ys=>y76q ti.elem tj.ty ys .nil e K
      | none=>none
     | none=>none
    | false=>match x with
     | .rng id sz lo hi=>match e.obj id with
      | some (.row U u q ys)=>match Nat.beq U ti.elem && Nat.beq sz u.size,cast? (.sl u) (.sl tj.ty) ys with
       | true,some xs=>chk (decide (hi - lo ≤ capN)) (K (.one (.row e.next)) (e.new (.mix ti.elem tj.ty e.next id q lo ((xs.take hi).drop lo) [])))
       | _,_=>none
      | _=>none
     | _=>none
   | false=>none
  | none=>none
 | none=>none
def nilFirst : List Operand → Bool
 | .const (.slice none 0 0) :: _=>true
 | _=>false
def evBuild (ti : TI) (e : Env) : List (Nat × Operand) → List V → Option (List V)
 | [],acc=>some acc
 | (i,o) :: r,acc=>match nth ti.offs i,nth ti.sizes i,e.val o with
  | some off,some sz,some v=>match v.isTup,Nat.beq sz (lenN v.cells),Nat.ble (off + lenN v.cells) (lenN acc) with
   | false,true,true=>evBuild ti e r (paste acc off v.cells)
   | _,_,_=>none
  | _,_,_=>none
def evBuildA (sz : Nat) (e : Env) : List (Nat × Operand) → List V → Option (List V)
 | [],acc=>some acc
 | (i,o) :: r,acc=>match e.val o with
  | some v=>match v.isTup,Nat.beq sz (lenN v.cells),Nat.ble (i * sz + lenN v.cells) (lenN acc) with
   | false,true,true=>evBuildA sz e r (paste acc (i * sz) v.cells)
   | _,_,_=>none
  | none=>none
def intsOf (k : IntKind) : List V → Option (List Int)
 | []=>some []
 | .i j n :: r=>match kEq k j,intsOf k r with
  | true,some l=>some (n :: l)
  | _,_=>none
 | _=>none
def y150q (ti : TI) (v : SV) (n : Int) (e : Env) (K : SV → Env → Option ρ) : Option ρ :=
 match v with
 | .agg l=>match Nat.beq ti.elem 0,ti.ty.isAgg with
  | false,true=>match find Γ ti.elem with
   | some tj=>match tj.ty with
    | .int k=>match intsOf k l,Nat.beq (lenN l) ti.ty.size with
     | some xs,true=>chk (decide (0 ≤ n)) (chk (decide (n < xs.length)) (K (.one (.i k (xs.getD n.toNat 0))) e))
     | _,_=>none
    | _=>none
   | none=>none
  | _,_=>none
 | _=>none
def memN : List Nat → Nat → Bool
 | [],_=>false
 | a :: r,n=>match Nat.beq a n with
  | true=>true
  | false=>memN r n
def nodupN : List Nat → Bool
 | []=>true
 | a :: r=>match memN r a with
  | true=>false
  | false=>nodupN r
def eraseAll : List Nat → List (Nat × Obj) → List (Nat × Obj)
 | [],os=>os
 | i :: r,os=>eraseAll r (erase os i)
def idsT : Ty → List V → List Nat
 | .osl _ _,[.row id]=>[id]
 | .osl _ _,[.rng id _ _ _]=>[id]
 | .osl _ _,[.sub id _ _ _ _]=>[id]
 | .omp _ _,[.map id]=>[id]
 | .pair a b,l=>idsT a (takeN a.size l) ++ idsT b (dropN a.size l)
 | _,_=>[]
def takeC (st : Bool) (os ov : List (Nat × Obj)) : (t : Ty) → List V → Option t.den
 | .osl _ _,[.nil]=>some []
 | .osl T t,[.row id]=>match find os id with
  | some (.row U u _ xs)=>match Nat.beq U T with
   | true=>cast? (.sl u) (.sl t) xs
   | false=>none
  | _=>none
 | .osl T t,[.rng id sz 0 hi]=>match find os id with
  | some (.row U u _ xs)=>match Nat.beq U T && Nat.beq sz u.size,cast? (.sl u) (.sl t) xs with
   | true,some ys=>some (ys.take hi)
   | _,_=>none
  | _=>none
 | .osl _ _,_=>none
 | .omp k v,[.map id]=>match find os id with
  | some (.map k' v' xs)=>cast? (.mp k' v') (.mp k v) xs
  | _=>none
 | .omp _ _,_=>none
 | .pair a b,l=>match takeC st os ov a (takeN a.size l),takeC st os ov b (dropN a.size l) with
  | some x,some y=>some (x,y)
  | _,_=>none
 | t,l=>y74q st ov t l
def takeT (st : Bool) (os ov : List (Nat × Obj)) (t : Ty) (l : List V) : Option t.den:=match t.noOwn with
 | true=>y74q st ov t l
 | false=>takeC st os ov t l
def takeSV (st : Bool) (os ov : List (Nat × Obj)) (t : Ty) (v : SV) : Option t.den:=match v with
 | .tup _=>none
 | .one x=>match t.isAgg with
  | true=>none
  | false=>takeT st os ov t [x]
 | .agg l=>match t.isAgg with
  | true=>takeT st os ov t l
  | false=>none
def y120q (t : Ty) (e : Env) : List (Nat × Operand) → List Nat
 | []=>[]
 | (_,o) :: r=>match e.val o with
  | some v=>idsT t v.cells ++ y120q t e r
  | none=>y120q t e r
def evElems (t : Ty) (os : List (Nat × Obj)) (e : Env) : Nat → List (Nat × Operand) → Option (List t.den)
 | _,[]=>some []
 | n,(i,o) :: r=>match Nat.beq i n with
  | true=>match e.val o with
   | some v=>match takeSV true os e.objs t v,evElems t os e (n + 1) r with
    | some x,some l=>some (x :: l)
    | _,_=>none
   | none=>none
  | false=>none
def partIds (e : Env) : List (Nat × Operand) → List Nat
 | []=>[]
 | (_,o) :: r=>match e.val o with
  | some v=>rowIds v.cells ++ partIds e r
  | none=>partIds e r
def partEnv (t : Ty) (e : Env) (l : List (Nat × Operand)) : Env:=⟨e.slots,freezeAll (partIds e l) (eraseAll (y120q t e l) e.objs),e.next⟩
def evCaps (e : Env) : List Operand → Option (List Cap)
 | []=>some []
 | o :: r=>match evCaps e r with
  | some l=>match e.one o with
   | some (.loc id 0)=>some (.loc id :: l)
   | some (.el t x 0)=>some (.el t x :: l)
   | _=>none
  | none=>none
def evConv (src dst : Ty) (x : V) (e : Env) (K : SV → Env → Option ρ) : Option ρ :=
 match dst with
 | .int k=>match x with
  | .i _ n=>K (.one (.i k (k.wrap n))) e
  | _=>none
 | .str=>match src with
  | .str=>match x with
   | .s a=>K (.one (.s a)) e
   | _=>none
  | .sl (.int .u8)=>match x with
   | .nil=>K (.one (.s [])) e
   | x=>match source e x with
    | some ⟨t,xs⟩=>match cast? (.sl t) (.sl (.int .u8)) xs with
     | some ys=>K (.one (.s (ys.map fun (n : Int)=>UInt8.ofNat n.toNat))) e
     | none=>none
    | none=>none
  | _=>none
 | .sl (.int .u8)=>match src with
  | .str=>match x with
   | .s a=>K (.one (.sl (.int .u8) (a.map fun b=>((b.toNat : Nat) : Int)))) e
   | _=>none
  | _=>none
 | _=>none
def varTy (st : Bool) (os : List (Nat × Obj)) (t : Ty) (id : Nat) : Option t.den:=match find os id with
 | some (.var vs)=>y74q st os t vs
 | _=>none
def capTy (st : Bool) (os : List (Nat × Obj)) (t : Ty) : Cap → Option t.den
 | .loc id=>varTy st os t id
 | .el u x=>cast? u t x
def bindCaps (st : Bool) (os : List (Nat × Obj)) : (ts : List Ty) → List Cap → Option (dens ts)
 | [],[]=>some ()
 | t :: r,c :: cs=>match capTy st os t c,bindCaps st os r cs with
  | some x,some y=>some (x,y)
  | _,_=>none
 | _,_=>none
def y40q (st : Bool) (os : List (Nat × Obj)) : (a : AT) → SV → Option a.den
 | .val t,v=>decAll st os t v
 | .ptr t, .one (.loc id 0)=>varTy st os t id
 | .ptr t, .one (.el u x 0)=>cast? u t x
 | .clo f ts, .one (.clo g caps)=>match Nat.beq f g with
  | true=>bindCaps st os ts caps
  | false=>none
 | _,_=>none
def y48q (st : Bool) (os : List (Nat × Obj)) : (ats : List AT) → List SV → Option (ATs.den ats)
 | [],[]=>some ()
 | a :: r,v :: vs=>match y40q st os a v,y48q st os r vs with
  | some x,some y=>some (x,y)
  | _,_=>none
 | _,_=>none
def svs : (ts : List Ty) → den1 ts → List (Bool × List V)
 | [],_=>[]
 | [t],x=>[(t.isAgg,enc t x [])]
 | t :: u :: r,x=>(t.isAgg,enc t x.1 []) :: svs (u :: r) x.2
def resAll : (ts : List Ty) → den1 ts → SV
 | [],_=>.tup []
 | [t],x=>ofTy t x
 | t :: u :: r,x=>.tup (svs (t :: u :: r) x)
def valAll (e : Env) : List Operand → Option (List SV)
 | []=>some []
 | o :: r=>match e.val o,valAll e r with
  | some v,some l=>some (v :: l)
  | _,_=>none
def memT : List Nat → Nat → Bool
 | [],_=>false
 | a :: r,x=>match Nat.beq a x with
  | true=>true
  | false=>memT r x
def capSV : Cap → SV
 | .loc id=>.one (.loc id 0)
 | .el t x=>.one (.el t x 0)
variable (Δ : List (Nat × Con)) (k : Nat)
def openV : (e : Env) → (t : Ty) → t.den → Env × List V
 | e, .osl T t,xs=>(e.new (.row T t e.next xs),[.row e.next])
 | e, .omp k v,xs=>(e.new (.map k v xs),[.map e.next])
 | e, .pair a b,x=>match openV e a x.1 with
  | (e1,l1)=>match openV e1 b x.2 with
   | (e2,l2)=>(e2,l1 ++ l2)
 | e,t,x=>(e,enc t x [])
def svOf (t : Ty) (l : List V) : SV:=match t.isAgg with
 | true=>.agg l
 | false=>match l with
  | [v]=>.one v
  | _=>.tup []
def parts : (ts : List Ty) → den1 ts → List (Sigma Ty.den)
 | [],_=>[]
 | [t],x=>[⟨t,x⟩]
 | t :: u :: r,x=>⟨t,x.1⟩ :: parts (u :: r) x.2
def openAll : Env → List (Sigma Ty.den) → Env × List (Bool × List V)
 | e,[]=>(e,[])
 | e,⟨t,x⟩ :: r=>match openV e t x with
  | (e1,l)=>match openAll e1 r with
   | (e2,ls)=>(e2,(t.isAgg,l) :: ls)
def svRes : List (Bool × List V) → SV
 | [(true,l)]=>.agg l
 | [(false,[v])]=>.one v
 | l=>.tup l
def ids1 (os : List (Nat × Obj)) : AT → SV → List Nat
 | .var t, .one (.loc id _)=>id :: (match find os id with
  | some (.var l)=>idsT t l
  | _=>[])
 | .io t,v=>idsT t v.cells
 | .own t,v=>idsT t v.cells
 | _,_=>[]
def ioIds (os : List (Nat × Obj)) : List AT → List SV → List Nat
 | a :: r,v :: vs=>ids1 os a v ++ ioIds os r vs
 | _,_=>[]
def bindG1 (st : Bool) (os ov : List (Nat × Obj)) : (a : AT) → SV → Option a.den
 | .var t, .one (.loc id 0)=>match find os id with
  | some (.var l)=>takeC st os ov t l
  | _=>none
 | .io (.osl T t), .one (.sub id n sz j off)=>match find os id with
  | some (.row _ u n' xs)=>match Nat.beq n n' && Nat.beq sz u.size with
   | true=>getP T t u (xs.getD j u.zero) off
   | false=>none
  | _=>none
 | .io t,v=>takeSV st os ov t v
 | .own t,v=>takeSV st os ov t v
 | a,v=>y40q st ov a v
def bindG (st : Bool) (os ov : List (Nat × Obj)) : (ats : List AT) → List SV → Option (ATs.den ats)
 | [],[]=>some ()
 | a :: r,v :: vs=>match bindG1 st os ov a v,bindG st os ov r vs with
  | some x,some y=>some (x,y)
  | _,_=>none
 | _,_=>none
def Env.back (e : Env) (id : Nat) (o : Obj) : Env:=⟨e.slots,(id,o) :: e.objs,e.next + 1⟩
def putIo : (e : Env) → (t : Ty) → t.den → List V → Option Env
 | e, .osl T t,ys,[.row id]=>some (e.back id (.row T t e.next ys))
 | e, .osl _ _,_,[.nil]=>some e
 | _, .osl _ _,_,_=>none
 | e, .omp k v,ys,[.map id]=>some ⟨e.slots,(id, .map k v ys) :: e.objs,e.next⟩
 | _, .omp _ _,_,_=>none
 | e, .pair a b,x,l=>match putIo e a x.1 (takeN a.size l) with
  | some e1=>putIo e1 b x.2 (dropN a.size l)
  | none=>none
 | e,_,_,_=>some e
def putG1 (os : List (Nat × Obj)) (e : Env) : (a : AT) → SV → Sigma Ty.den → Option Env
 | .var t, .one (.loc id 0),⟨u,x⟩=>match cast? u t x with
  | some y=>match openV e t y with
   | (e1,l)=>some ⟨e1.slots,(id, .var l) :: e1.objs,e1.next⟩
  | none=>none
 | .io (.osl T t), .one (.sub id _ sz j off),⟨u,x⟩=>match cast? u (.osl T t) x,find os id with
  | some ys,some (.row U r _ xs)=>match setP T t ys r (xs.getD j r.zero) off with
   | some z=>some (e.back id (.row U r e.next (xs.set j z)))
   | none=>none
  | _,_=>none
 | .io t,v,⟨u,x⟩=>match cast? u t x with
  | some y=>putIo e t y v.cells
  | none=>none
 | _,_,_=>none
def isIo : AT → Bool
 | .var _ | .io _=>true
 | _=>false
def putG (os : List (Nat × Obj)) : Env → List AT → List SV → List (Sigma Ty.den) → Option Env
 | e,[],[],[]=>some e
 | e,a :: r,v :: vs,ps=>match isIo a with
  | true=>match ps with
   | p :: ps=>match putG1 os e a v p with
    | some e1=>putG os e1 r vs ps
    | none=>none
   | []=>none
  | false=>putG os e r vs ps
 | _,_,_,_=>none
def nIo : List AT → Nat
 | []=>0
 | a :: r=>match isIo a with
  | true=>nIo r + 1
  | false=>nIo r
def backG (lim : Nat) (c : Con) (vs : List SV) (os : List (Nat × Obj)) (n : Nat) (e : Env) (y : den1 c.res) (K : SV → Env → Option ρ) : Option ρ :=
 match putG os e c.args vs (dropN (lenN c.res - nIo c.args) (parts c.res y)) with
 | some e1=>match openAll e1 (takeN (lenN c.res - nIo c.args) (parts c.res y)) with
  | (e2,ls)=>match Nat.ble e2.next (n + lim) with
   | true=>K (svRes ls) e2
   | false=>none
 | none=>none
def evCallG (lim : Nat) (c : Con) (vs : List SV) (e : Env) (K : SV → Env → Option ρ) : Option ρ :=
 match nodupN (ioIds e.objs c.args vs) with
 | true=>match y131q c.res with
  | true=>match bindG false e.objs (eraseAll (ioIds e.objs c.args vs) e.objs) c.args vs with
   | some x=>bnd (c.fn k x) fun y=>backG lim c vs e.objs e.next ⟨e.slots,eraseAll (ioIds e.objs c.args vs) e.objs,e.next⟩ y K
   | none=>none
  | false=>match bindG true e.objs (freezeAll (y75q e.objs vs) (eraseAll (ioIds e.objs c.args vs) e.objs)) c.args vs with
   | some x=>bnd (c.fn k x) fun y=>backG lim c vs e.objs e.next ⟨e.slots,freezeAll (y75q e.objs vs) (eraseAll (ioIds e.objs c.args vs) e.objs),e.next⟩ y K
   | none=>none
 | false=>none
def nmW : Nat:=8
def evCall (f : Nat) (vs : List SV) (e : Env) (K : SV → Env → Option ρ) : List (Nat × Con) → Option ρ
 | []=>none
 | (g,c) :: r=>match Nat.beq f g with
  | true=>match c.gen with
   | true=>evCallG k nmW c vs e K
   | false=>match y149q c.res with
    | true=>match y48q false e.objs c.args vs with
     | some x=>bnd (c.fn k x) fun y=>K (resAll c.res y) e
     | none=>evCall f vs e K r
    | false=>match y48q true (e.freeze (y75q e.objs vs)).objs c.args vs with
     | some x=>bnd (c.fn k x) fun y=>K (resAll c.res y) (e.freeze (y75q e.objs vs))
     | none=>evCall f vs e K r
  | false=>evCall f vs e K r
def asBoolV : SV → Option Bool
 | .one (.b x)=>some x
 | _=>none
def sortAt (f T : Nat) : List (Nat × Con) → Bool
 | []=>false
 | (g,c) :: r=>match Nat.beq f g with
  | true=>match c.args with
   | [.srt Ts]=>memT Ts T
   | _=>false
  | false=>sortAt f T r
def evLess (h : Nat) (cs : List Cap) (os : List (Nat × Obj)) (i j : Int) : List (Nat × Con) → Option Bool
 | []=>none
 | (g,c) :: r=>match Nat.beq h g with
  | true=>match y149q c.res with
   | true=>match y48q false os c.args (.one (.i .i64 i) :: .one (.i .i64 j) :: cs.map capSV) with
    | some x=>bnd (c.fn k x) fun y=>asBoolV (resAll c.res y)
    | none=>none
   | false=>none
  | false=>evLess h cs os i j r
def sortArgs : List SV → Option (Nat × Nat × Nat × List Cap)
 | [.one (.ifc T id), .one (.clo h cs)]=>some (T,id,h,cs)
 | _=>none
def evSort (f T id h : Nat) (cs : List Cap) (e : Env) (K : SV → Env → Option ρ) : Option ρ :=
 match sortAt f T Δ,find Γ T,e.obj id with
 | true,some ti,some (.row U t n xs)=>match isSl ti.ty t && t.noOwn with
  | true=>chk (decide (xs.length ≤ capN)) (bnd (srt t.zero (fun ys i j=>evLess k h cs (upd e.objs id (.row U t n ys)) i j Δ) xs) fun ys=>K (.tup []) (e.setObj id (.row U t n ys)))
  | false=>none
 | _,_,_=>none
def evBuiltin (b : Builtin) (kd : Bool) (ts : List Nat) (vs : List SV) (e : Env) (K : SV → Env → Option ρ) : Option ρ :=
 match b,vs with
 | .len,[.one v]=>match ts with
  | T :: _=>match find Γ T with
   | some ti=>match lenOf e ti.ty v with
    | some n=>K (.one (.i .i64 n)) e
    | none=>none
   | none=>none
  | []=>none
 | .append,[.one s, .one x]=>match ts with
  | [T,U]=>match Nat.beq T U with
   | true=>match kd with
    | true=>match s with
     | .nil=>evAppendN Γ T x e K
     | _=>none
    | false=>evAppend Γ T s x e K
   | false=>none
  | _=>none
 | .min,[.one (.i k a), .one (.i j b)]=>match kEq k j with
  | true=>K (.one (.i k (min a b))) e
  | false=>none
 | .max,[.one (.i k a), .one (.i j b)]=>match kEq k j with
  | true=>K (.one (.i k (max a b))) e
  | false=>none
 | _,_=>none
def ownStore (T : Nat) (a : V) (v : SV) (e : Env) : Option Env:=match find Γ T with
 | some ti=>match ti.ty.noOwn with
  | true=>none
  | false=>match a with
   | .rel id sz j off=>match e.obj id with
    | some (.row U t n xs)=>match Nat.beq sz t.size && nodupN (id :: idsT ti.ty v.cells) && Nat.ble (off + ti.ty.size) t.size with
     | true=>match takeSV true e.objs (freezeAll (rowIds v.cells) (eraseAll (id :: idsT ti.ty v.cells) e.objs)) ti.ty v with
      | some y=>match setL ti.ty y t (xs.getD j t.zero) off with
       | some z=>some (Env.back ⟨e.slots,freezeAll (rowIds v.cells) (eraseAll (id :: idsT ti.ty v.cells) e.objs),e.next⟩ id (.row U t e.next (xs.set j z)))
       | none=>none
      | none=>none
     | false=>none
    | _=>none
   | _=>none
 | none=>none
def mfind (k v : Ty) (x : k.den) : List (k.den × v.den) → Option v.den
 | []=>none
 | p :: r=>match eqT k x p.1 with
  | true=>some p.2
  | false=>mfind k v x r
def mset (k v : Ty) (x : k.den) (y : v.den) : List (k.den × v.den) → List (k.den × v.den)
 | []=>[(x,y)]
 | p :: r=>match eqT k x p.1 with
  | true=>(p.1,y) :: r
  | false=>p :: mset k v x y r
def mgetD (k v : Ty) (x : k.den) (xs : List (k.den × v.den)) : v.den:=match mfind k v x xs with
 | some y=>y
 | none=>v.zero
def mhas (k v : Ty) (x : k.den) (xs : List (k.den × v.den)) : Bool:=match mfind k v x xs with
 | some _=>true
 | none=>false
def asMap (e : Env) : V → Option (Sigma fun p : Ty × Ty=>List (p.1.den × p.2.den))
 | .map id=>match e.obj id with
  | some (.map k v xs)=>some ⟨(k,v),xs⟩
  | _=>none
 | .mp k v xs=>some ⟨(k,v),xs⟩
 | _=>none
def isMap (u k v : Ty) : Bool:=match u with
 | .mp k' v' | .omp k' v'=>tyEq k' k && tyEq v' v && k.flat && v.flat
 | _=>false
def evLookup (u : Ty) (m : V) (x : SV) (ok : Bool) (e : Env) (K : SV → Env → Option ρ) : Option ρ :=
 match asMap e m with
 | some ⟨(k,v),xs⟩=>match isMap u k v,decAll false [] k x with
  | true,some a=>match ok with
   | false=>bnd (some (mgetD k v a xs)) fun y=>K (ofTy v y) e
   | true=>bnd (some (mgetD k v a xs)) fun y=>bnd (some (mhas k v a xs)) fun b=>K (.tup [(v.isAgg,enc v y []),(false,[.b b])]) e
  | _,_=>none
 | none=>none
def evMapSet (u : Ty) (m : V) (x y : SV) (e : Env) (K : SV → Env → Option ρ) : Option ρ :=
 match m with
 | .map id=>match e.obj id with
  | some (.map k v xs)=>match isMap u k v,decAll false [] k x,decAll false [] v y with
   | true,some a,some b=>bnd (some (mset k v a b xs)) fun ys=>K (.tup []) (e.setObj id (.map k v ys))
   | _,_,_=>none
  | _=>none
 | _=>none
def evOp (o : Op) (e : Env) (K : SV → Env → Option ρ) : Option ρ :=
 match o with
 | .move x | .assign x=>match e.val x with
  | some v=>K v e
  | none=>none
 | .pick c a b=>match e.one c with
  | some (.b x)=>br x (match e.val a with
    | some v=>K v e
    | none=>none) (match e.val b with
    | some v=>K v e
    | none=>none)
  | _=>none
 | .alloc T=>match find Γ T with
  | some ti=>K (.one (.loc e.next 0)) (e.new (.var (zeros ti.ty [])))
  | none=>none
 | .box _ x=>match e.val x with
  | some v=>match v.isTup with
   | false=>K (.one (.loc e.next 0)) (e.new (.var v.cells))
   | true=>none
  | none=>none
 | .makeInterface T x=>match find Γ T,e.one x with
  | some ti,some (.row id)=>match ti.ty.era with
   | .sl _=>K (.one (.ifc T id)) e
   | _=>none
  | _,_=>none
 | .build T parts=>match find Γ T with
  | some ti=>match Nat.beq ti.elem 0 with
   | true=>match evBuild ti e parts.toList (zeros ti.ty []) with
    | some l=>match ti.ty.isAgg with
     | true=>K (.agg l) e
     | false=>none
    | none=>none
   | false=>match find Γ ti.elem with
    | some tj=>match evBuildA tj.ty.size e parts.toList (zeros ti.ty []) with
     | some l=>match ti.ty.isAgg with
      | true=>K (.agg l) e
      | false=>none
     | none=>none
    | none=>none
  | none=>none
 | .buildSlice T n parts=>match find Γ T with
  | some ti=>match find Γ ti.elem with
   | some tj=>match nodupN (y120q tj.ty e parts.toList),evElems tj.ty e.objs (partEnv tj.ty e parts.toList) 0 parts.toList with
    | true,some xs=>match Nat.beq (lenN parts.toList) n,Nat.ble (n * tj.ty.size) 16777216 with
     | true,true=>match isSl ti.ty tj.ty with
      | true=>K (.one (.row e.next)) ((partEnv tj.ty e parts.toList).new (.row ti.elem tj.ty e.next xs))
      | false=>none
     | _,_=>none
    | _,_=>none
   | none=>none
  | none=>none
 | .load T a=>match e.one a with
  | some v=>evLoad Γ T v e K
  | none=>none
 | .makeMap T r=>match r,find Γ T with
  | none,some ti=>match ti.ty with
   | .omp k v=>K (.one (.map e.next)) (e.new (.map k v []))
   | _=>none
  | _,_=>none
 | .mapUpdate T m x y=>match find Γ T,e.one m,e.val x,e.val y with
  | some ti,some p,some a,some b=>evMapSet ti.ty p a b e K
  | _,_,_,_=>none
 | .lookup T m x ok=>match find Γ T,e.one m,e.val x with
  | some ti,some p,some a=>evLookup ti.ty p a ok e K
  | _,_,_=>none
 | .store T a x=>match e.one a,e.val x with
  | some p,some v=>match ownStore Γ T p v e with
   | some e'=>K (.tup []) e'
   | none=>evStore Γ T p v e K
  | _,_=>none
 | .nilCheck x=>match e.one x with
  | some (.loc i o)=>K (.one (.loc i o)) e
  | some (.el t y o)=>K (.one (.el t y o)) e
  | some (.rel i z j o)=>K (.one (.rel i z j o)) e
  | _=>none
 | .binOp op T x y _=>match find Γ T,e.val x,e.val y with
  | some ti,some a,some b=>match ti.ty.isAgg && !Nat.beq ti.elem 0 with
   | true=>none
   | false=>evBin ti.ty op a b (fun v=>K v e)
  | _,_,_=>none
 | .unOp op _ x=>match e.one x with
  | some v=>evUn op v (fun v=>K v e)
  | none=>none
 | .convert src dst x=>match find Γ src,find Γ dst,e.one x with
  | some tj,some ti,some v=>evConv tj.ty ti.ty v e K
  | _,_,_=>none
 | .makeFunc (.func f) first caps=>match first.toList,evCaps e caps.toList with
  | [],some l=>K (.one (.clo f l)) e
  | _,_=>none
 | .makeSlice T l c=>match find Γ T with
  | some ti=>match find Γ ti.elem with
   | some tj=>match isSl ti.ty tj.ty && tj.ty.noMp with
    | true=>match e.one l,e.one c with
     | some (.i _ n),some (.i _ m)=>chk (n == m) (chk (decide (0 ≤ n)) (chk (decide (n ≤ capN))
       (K (.one (.row e.next)) (e.new (.row ti.elem tj.ty e.next (List.replicate n.toNat tj.ty.zero))))))
     | _,_=>none
    | false=>none
   | none=>none
  | none=>none
 | .slice T x lo hi none=>match find Γ T,e.one x with
  | some ti,some v=>evSlice ti.ty v lo hi e K
  | _,_=>none
 | .fieldAddr T x i=>match find Γ T with
  | some ti=>match nth ti.offs i,ti.ty.isAgg with
   | some d,true=>match e.one x with
    | some (.loc id off)=>K (.one (.loc id (off + d))) e
    | some (.el t y off)=>K (.one (.el t y (off + d))) e
    | some (.rel id z j off)=>K (.one (.rel id z j (off + d))) e
    | _=>none
   | _,_=>none
  | none=>none
 | .field T x i=>match find Γ T with
  | some ti=>match ti.ty.isAgg && ti.ty.flat && Nat.beq ti.elem 0,partTy ti.ty i 0,e.val x with
   | true,some (o,u),some (.agg l)=>match Nat.ble u.size (lenN (dropN o l)),asSV u (takeN u.size (dropN o l)) with
    | true,some v=>K v e
    | _,_=>none
   | _,_,_=>none
  | none=>none
 | .indexAddr T x i=>match find Γ T,e.one x,e.one i with
  | some ti,some s,some (.i _ n)=>y112q ti.ty s n e (fun v=>K v e)
  | _,_,_=>none
 | .index T x i=>match find Γ T,e.one x,e.one i with
  | some ti,some (.s a),some (.i _ n)=>match tyEq ti.ty .str with
   | true=>chk (decide (0 ≤ n)) (chk (decide (n < a.length)) (K (.one (.i .u8 ((a.getD n.toNat 0).toNat : Nat))) e))
   | false=>none
  | some ti,none,some (.i _ n)=>match e.val x with
   | some v=>y150q Γ ti v n e K
   | none=>none
  | _,_,_=>none
 | .extract x i=>match e.val x with
  | some (.tup l)=>match nth l i with
   | some (true,vs)=>K (.agg vs) e
   | some (false,[v])=>K (.one v) e
   | _=>none
  | _=>none
 | .call ⟨.builtin b,args,ts⟩=>match valAll e args.toList with
  | some vs=>evBuiltin Γ b (nilFirst args.toList) ts.toList vs e K
  | none=>none
 | .call ⟨.value f,args,_⟩=>match e.one f,valAll e args.toList with
  | some (.clo g caps),some vs=>match sortArgs (vs ++ caps.map capSV) with
   | some (T,id,h,cs)=>evSort Γ Δ k g T id h cs e K
   | none=>evCall k g (vs ++ caps.map capSV) e K Δ
  | _,_=>none
 | _=>none
def evOps (all : List Oper) : List Oper → Env → (Env → Option ρ) → Option ρ
 | [],e,K=>K e
 | o :: r,e,K=>match o.guard with
  | none=>evOp Γ Δ k o.op e fun v e'=>evOps all r (e'.put o.dst v) K
  | some (j,want)=>match nth all j with
   | some g=>match g.dst with
    | some s=>match e.get s with
     | some (.one (.b x))=>br x
      (cond want (evOp Γ Δ k o.op (e.set s (.one (.b true))) fun v e'=>evOps all r (e'.put o.dst v) K) (evOps all r ((e.set s (.one (.b true))).put o.dst (.tup [])) K))
      (cond want (evOps all r ((e.set s (.one (.b false))).put o.dst (.tup [])) K) (evOp Γ Δ k o.op (e.set s (.one (.b false))) fun v e'=>evOps all r (e'.put o.dst v) K))
     | some (.tup [])=>evOps all r (e.put o.dst (.tup [])) K
     | _=>none
    | none=>none
   | none=>none
def apartN : List Nat → List Nat → Bool
 | [],_=>true
 | a :: r,l=>match memN l a with
  | true=>false
  | false=>apartN r l
def y58q (x : Edge) : Bool:=match x.ground with
 | .textOnly _=>false
 | .gcOnly _=>false
 | _=>true
def ancOf (j : Nat) (known : List (Nat × List Nat)) : List Edge → List Nat
 | []=>[]
 | x :: r=>match y58q x,Nat.blt x.on j with
  | true,true=>match find known x.on with
   | some l=>x.on :: l ++ ancOf j known r
   | none=>x.on :: ancOf j known r
  | _,_=>ancOf j known r
def uniqL : List Nat → List Nat → List Nat
 | acc,[]=>acc
 | acc,a :: r=>match memN acc a with
  | true=>uniqL acc r
  | false=>uniqL (a :: acc) r
def ancs : Nat → List Oper → List (Nat × List Nat) → List (Nat × List Nat)
 | _,[],known=>known
 | j,o :: r,known=>ancs (j + 1) r ((j,uniqL [] (ancOf j known o.after.toList)) :: known)
def tmpsOf : List Operand → List Nat
 | []=>[]
 | .tmp t :: r=>t :: tmpsOf r
 | _ :: r=>tmpsOf r
def looks (all : List Oper) (o : Oper) : List Nat:=match o.guard with
 | none=>tmpsOf o.op.operands.toList
 | some (g,_)=>match nth all g with
  | some p=>match p.dst with
   | some d=>d :: tmpsOf o.op.operands.toList
   | none=>tmpsOf o.op.operands.toList
  | none=>tmpsOf o.op.operands.toList
def dstIn (d : Option Nat) (l : List Nat) : Bool:=match d with
 | some d=>memN l d
 | none=>false
def dstEq (a b : Option Nat) : Bool:=match a,b with
 | some a,some b=>Nat.beq a b
 | _,_=>false
def y121q (all : List Oper) (x y : Oper) : Bool:=match dstIn x.dst (looks all y),dstIn y.dst (looks all x),dstEq x.dst y.dst with
 | false,false,false=>true
 | _,_,_=>false
def pairsOk (all : List Oper) (y : Oper) (anc : List Nat) : Nat → List Oper → Bool
 | _,[]=>true
 | k,x :: r=>match memN anc k with
  | true=>pairsOk all y anc (k + 1) r
  | false=>match y121q all x y with
   | true=>pairsOk all y anc (k + 1) r
   | false=>false
def edgesBack (j : Nat) : List Edge → Bool
 | []=>true
 | x :: r=>match y58q x,Nat.blt x.on j with
  | true,false=>false
  | _,_=>edgesBack j r
def slotsOk (all : List Oper) (an : List (Nat × List Nat)) : Nat → List Oper → Bool
 | _,[]=>true
 | j,y :: r=>match find an j with
  | some l=>match pairsOk all y l 0 (takeN j all),edgesBack j y.after.toList with
   | true,true=>slotsOk all an (j + 1) r
   | _,_=>false
  | none=>false
def footCaps (os : List (Nat × Obj)) : List Cap → List Nat
 | []=>[]
 | .loc id :: r=>id :: rowsOfVar os id ++ footCaps os r
 | _ :: r=>footCaps os r
def footVs (os : List (Nat × Obj)) : List V → List Nat
 | []=>[]
 | .row id :: r=>id :: footVs os r
 | .ifc _ id :: r=>id :: footVs os r
 | .loc id _ :: r=>id :: rowsOfVar os id ++ footVs os r
 | .rel id _ _ _ :: r=>id :: footVs os r
 | .sub id _ _ _ _ :: r=>id :: footVs os r
 | .rng id _ _ _ :: r=>id :: footVs os r
 | .map id :: r=>id :: footVs os r
 | .clo _ caps :: r=>footCaps os caps ++ footVs os r
 | _ :: r=>footVs os r
def foot (e : Env) : List Operand → List Nat
 | []=>[]
 | o :: r=>match e.val o with
  | some v=>footVs e.objs v.cells ++ foot e r
  | none=>foot e r
def footLone : Op → Bool
 | .move _ | .assign _ | .load .. | .nilCheck _ | .fieldAddr ..=>true
 | _=>false
def loneVs : List V → List Nat
 | []=>[]
 | .row id :: r=>id :: loneVs r
 | .ifc _ id :: r=>id :: loneVs r
 | .loc id _ :: r=>id :: loneVs r
 | .rel id _ _ _ :: r=>id :: loneVs r
 | .sub id _ _ _ _ :: r=>id :: loneVs r
 | .rng id _ _ _ :: r=>id :: loneVs r
 | .map id :: r=>id :: loneVs r
 | _ :: r=>loneVs r
def loneF (e : Env) : List Operand → List Nat
 | []=>[]
 | o :: r=>match e.val o with
  | some v=>loneVs v.cells ++ loneF e r
  | none=>loneF e r
def footNone : Op → Bool
 | .move _ | .assign _=>true
 | _=>false
def footO (e : Env) (o : Op) : List Nat:=match footNone o with
 | true=>[]
 | false=>match footLone o with
  | true=>loneF e o.operands.toList
  | false=>foot e o.operands.toList
def only {α : Type} (fp : List Nat) : List (Nat × α) → List (Nat × α)
 | []=>[]
 | (i,o) :: r=>match memN fp i with
  | true=>(i,o) :: only fp r
  | false=>only fp r
def y77q {α : Type} (fp : List Nat) : List (Nat × α) → List (Nat × α)
 | []=>[]
 | (i,o) :: r=>match memN fp i with
  | true=>y77q fp r
  | false=>(i,o) :: y77q fp r
def reads : Op → Bool
 | .move _ | .assign _ | .pick .. | .alloc _ | .box .. | .build .. | .makeInterface .. | .load .. | .nilCheck _ | .binOp .. | .unOp .. | .convert .. | .makeFunc .. | .makeSlice ..
 | .fieldAddr .. | .field .. | .indexAddr .. | .index .. | .extract .. | .slice .. | .makeMap .. | .lookup ..=>true
 | .call ⟨.builtin .append,args,_⟩=>nilFirst args.toList
 | .call ⟨.builtin .len,_,_⟩ | .call ⟨.builtin .min,_,_⟩ | .call ⟨.builtin .max,_,_⟩=>true
 | _=>false
structure Rc where
 i : Nat
 fp : List Nat
 wr : List Nat
def clear (anc : List Nat) (fp wr : List Nat) : List Rc → Bool
 | []=>true
 | q :: l=>match memN anc q.i with
  | true=>clear anc fp wr l
  | false=>match apartN q.wr fp,apartN q.fp wr with
   | true,true=>clear anc fp wr l
   | _,_=>false
def wrOf (o : Op) (fp : List Nat) : List Nat:=match reads o with
 | true=>[]
 | false=>fp
def names : Nat → Nat → List Nat
 | 0,_=>[]
 | w + 1,n=>n :: names w (n + 1)
def evOpD (an : List (Nat × List Nat)) (o : Oper) (j : Nat) (rs : List Rc) (e : Env) (K : List Rc → Env → Option ρ) : Option ρ :=
 evOp Γ Δ k o.op ⟨only (tmpsOf o.op.operands.toList) e.slots,only (footO e o.op) e.objs,e.next⟩ fun v e' =>
  match find an j with
  | some anc=>match clear anc (names nmW e.next ++ footO e o.op) (names nmW e.next ++ wrOf o.op (footO e o.op)) rs with
   | true=>K (⟨j,names nmW e.next ++ footO e o.op,names nmW e.next ++ wrOf o.op (footO e o.op)⟩ :: rs)
     (Env.put ⟨e.slots,only (names nmW e.next ++ wrOf o.op (footO e o.op)) e'.objs ++ y77q (names nmW e.next ++ wrOf o.op (footO e o.op)) e.objs,e.next + nmW⟩ o.dst v)
   | false=>none
  | none=>none
def skipD (o : Oper) (e : Env) : Env:=Env.put ⟨e.slots,e.objs,e.next + nmW⟩ o.dst (.tup [])
def evOpsD (all : List Oper) (an : List (Nat × List Nat)) : List Oper → Nat → List Rc → Env → (Env → Option ρ) → Option ρ
 | [],_,_,e,K=>K e
 | o :: r,j,rs,e,K=>match o.guard with
  | none=>evOpD Γ Δ k an o j rs e fun rs' e'=>evOpsD all an r (j + 1) rs' e' K
  | some (g,want)=>match nth all g with
   | some p=>match p.dst with
    | some s=>match e.get s with
     | some (.one (.b x))=>br x
      (cond want (evOpD Γ Δ k an o j rs (e.set s (.one (.b true))) fun rs' e'=>evOpsD all an r (j + 1) rs' e' K) (evOpsD all an r (j + 1) rs (skipD o (e.set s (.one (.b true)))) K))
      (cond want (evOpsD all an r (j + 1) rs (skipD o (e.set s (.one (.b false)))) K) (evOpD Γ Δ k an o j rs (e.set s (.one (.b false))) fun rs' e'=>evOpsD all an r (j + 1) rs' e' K))
     | some (.tup [])=>evOpsD all an r (j + 1) rs (skipD o e) K
     | _=>none
    | none=>none
   | none=>none
end
def ownIds (e : Env) : Item → List Nat
 | .val s t=>match e.get s with
  | some v=>idsT t v.cells
  | none=>[]
 | .var s t=>match e.get s with
  | some (.one (.loc id 0))=>match e.obj id with
   | some (.var vs)=>idsT t vs ++ [id]
   | _=>[]
  | _=>[]
 | _=>[]
def ownAll (e : Env) : List Item → List Nat
 | []=>[]
 | a :: r=>ownIds e a ++ ownAll e r
def capsAre (e : Env) : List Nat → List Cap → Bool
 | [],[]=>true
 | v :: r, .loc id :: cs=>(match e.get v with
  | some (.one (.loc j 0))=>Nat.beq j id
  | _=>false) && capsAre e r cs
 | _,_=>false
def locsOf (e : Env) : List Nat → Option (List Cap)
 | []=>some []
 | v :: r=>match e.get v,locsOf e r with
  | some (.one (.loc id 0)),some l=>some (.loc id :: l)
  | _,_=>none
def rowIn (e : Env) (v off : Nat) : Option Nat:=match e.get v with
 | some (.one (.loc id 0))=>match e.obj id with
  | some (.var vs)=>match nth vs off with
   | some (.row i)=>some i
   | _=>none
  | _=>none
 | _=>none
def y143q (e : Env) (ov : List (Nat × Obj)) : (a : Item) → Option a.den
 | .val s t=>match e.get s with
  | some v=>takeSV false e.objs ov t v
  | none=>none
 | .var s t=>match e.get s with
  | some (.one (.loc id 0))=>match e.obj id with
   | some (.var vs)=>takeT false e.objs ov t vs
   | _=>none
  | _=>none
 | .el s t=>match e.get s with
  | some (.one (.el u x 0))=>cast? u t x
  | some (.one (.loc id 0))=>varTy false ov t id
  | _=>none
 | .clo s f ts=>match e.get s with
  | some (.one (.clo g caps))=>match Nat.beq f g with
   | true=>bindCaps false ov ts caps
   | false=>none
  | _=>none
 | .clov s f vs=>match e.get s with
  | some (.one (.clo g caps))=>match Nat.beq f g && capsAre e vs caps with
   | true=>some ()
   | false=>none
  | _=>none
 | .ali s v off=>match e.get s,rowIn e v off with
  | some (.one (.row i)),some j=>match Nat.beq i j with
   | true=>some ()
   | false=>none
  | _,_=>none
def packAll (e : Env) (ov : List (Nat × Obj)) : (l : List Item) → Option (Items.den l)
 | []=>some ()
 | [a]=>y143q e ov a
 | a :: b :: r=>match y143q e ov a,packAll e ov (b :: r) with
  | some x,some y=>some (x,y)
  | _,_=>none
def pack (e : Env) (l : List Item) : Option (Items.den l):=match nodupN (ownAll e l) with
 | true=>packAll e (eraseAll (ownAll e l) e.objs) l
 | false=>none
def startCaps : (ts : List Ty) → dens ts → List Cap
 | [],_=>[]
 | t :: r,x=>.el t x.1 :: startCaps r x.2
def openT (e : Env) (t : Ty) (x : t.den) : Env × List V:=match t.noOwn with
 | true=>(e,enc t x [])
 | false=>openV e t x
def y151q (e : Env) : (a : Item) → a.den → Env
 | .val s t,x=>match t.noOwn with
  | true=>e.set s (ofTy t x)
  | false=>match openV e t x with
   | (e1,l)=>e1.set s (svOf t l)
 | .var s t,x=>match openT e t x with
  | (e1,l)=>(e1.new (.var l)).set s (.one (.loc e1.next 0))
 | .el s t,x=>e.set s (.one (.el t x 0))
 | .clo s f ts,x=>e.set s (.one (.clo f (startCaps ts x)))
 | .clov s f vs,_=>match locsOf e vs with
  | some l=>e.set s (.one (.clo f l))
  | none=>e
 | .ali s v off,_=>match rowIn e v off with
  | some i=>e.set s (.one (.row i))
  | none=>e
def unpackAll (e : Env) : (l : List Item) → Items.den l → Env
 | [],_=>e
 | [a],x=>y151q e a x
 | a :: b :: r,x=>unpackAll (y151q e a x.1) (b :: r) x.2
def unpack (l : List Item) (x : Items.den l) : Env:=unpackAll ⟨[],[],0⟩ l x
inductive Ex where
 | normal | exit (id : Nat)
structure Join where
 items : List Item
 quiet : Bool
structure Ann where
 loops : List (Nat × List Item × Join)
 joins : List (Nat × Join)
def firstReg : Code → Option Nat
 | .region id _ _=>some id
 | .seq a b=>match firstReg a with
  | some i=>some i
  | none=>firstReg b
 | .block _ c | .loop c | .scope c=>firstReg c
 | _=>some 1000000
def Run (ρ : Type) : Type 1:={σ : Type} → (ρ → Option σ) → Env → (Ex → Env → Option σ) → Option σ
def toJoin {σ : Type} (its : List Item) (e : Env) (f : Items.den its → Option σ) : Option σ:=match pack e its with
 | some y=>f y
 | none=>none
def meet {ρ σ : Type} (j : Join) (run : Run ρ) (ι : ρ → Option σ) (e : Env) (on : Env → Option σ) : Option σ :=
 match j.quiet with
 | true=>bnd (run (σ:=Items.den j.items) (fun _=>none) e fun ex e=>match ex with
   | .normal=>toJoin j.items e some
   | _=>none) fun y=>on (unpack j.items y)
 | false=>bnd (run (σ:=Items.den j.items ⊕ ρ) (fun z=>some (.inr z)) e fun ex e=>match ex with
   | .normal=>toJoin j.items e fun y=>some (.inl y)
   | _=>none) fun r=>onSum r (fun y=>on (unpack j.items y)) ι
def stepQ {ρ : Type} (id : Nat) (its js : List Item) (run : Run ρ) (again : Items.den its → Option (Items.den js)) (x : Items.den its) : Option (Items.den js) :=
 run (σ:=Items.den js) (fun _=>none) (unpack its x) fun ex e=>match ex with
  | .normal=>toJoin its e again
  | .exit i=>match Nat.beq i id with
   | true=>toJoin js e some
   | false=>none
def stepR {ρ : Type} (id : Nat) (its js : List Item) (run : Run ρ) (again : Items.den its → Option (Items.den js ⊕ ρ)) (x : Items.den its) : Option (Items.den js ⊕ ρ) :=
 run (σ:=Items.den js ⊕ ρ) (fun z=>some (.inr z)) (unpack its x) fun ex e=>match ex with
  | .normal=>toJoin its e again
  | .exit i=>match Nat.beq i id with
   | true=>toJoin js e fun y=>some (.inl y)
   | false=>none
def loopQ {ρ : Type} (id : Nat) (its js : List Item) (run : Nat → Run ρ) : Nat → Items.den its → Option (Items.den js)
 | 0,_=>none
 | k + 1,x=>stepQ id its js (run k) (loopQ id its js run k) x
def loopR {ρ : Type} (id : Nat) (its js : List Item) (run : Nat → Run ρ) : Nat → Items.den its → Option (Items.den js ⊕ ρ)
 | 0,_=>none
 | k + 1,x=>stepR id its js (run k) (loopR id its js run k) x
section
variable (Γ : Tab) (Δ : List (Nat × Con)) (A : Ann) {ρ : Type} (fin : Env → Option ρ)
def evCode : Code → Nat → {σ : Type} → (ρ → Option σ) → Env → (Ex → Env → Option σ) → Option σ
 | .skip,_,_,_,e,K=>K .normal e
 | .region _ ops d,k,_,_,e,K=>match d with
  | false=>evOps Γ Δ k ops.toList ops.toList e fun e'=>K .normal e'
  | true=>match slotsOk ops.toList (ancs 0 ops.toList []) 0 ops.toList with
   | true=>evOpsD Γ Δ k ops.toList (ancs 0 ops.toList []) ops.toList 0 [] e fun e'=>K .normal e'
   | false=>none
 | .seq a b,k,_,ι,e,K =>
  match (match firstReg b with
   | some r=>find A.joins r
   | none=>none) with
  | some j=>meet j (fun ι' e' K'=>evCode a k ι' e' K') ι e fun e'=>evCode b k ι e' K
  | none=>evCode a k ι e fun ex e'=>match ex with
   | .normal=>evCode b k ι e' K
   | .exit i=>K (.exit i) e'
 | .cond c a b,k,_,ι,e,K=>match e.one c with
  | some (.b x)=>br x (evCode a k ι e K) (evCode b k ι e K)
  | _=>none
 | .block id (.loop body),k,_,ι,e,K=>match find A.loops id with
  | some (its,j)=>toJoin its e fun x=>match j.quiet with
   | true=>bnd (loopQ id its j.items (fun k'=>(fun ι' e' K'=>evCode body k' ι' e' K' : Run ρ)) k x) fun y=>K .normal (unpack j.items y)
   | false=>bnd (loopR id its j.items (fun k'=>(fun ι' e' K'=>evCode body k' ι' e' K' : Run ρ)) k x) fun r=>onSum r (fun y=>K .normal (unpack j.items y)) ι
  | none=>none
 | .block id body,k,_,ι,e,K=>evCode body k ι e fun ex e'=>match ex with
  | .normal=>K .normal e'
  | .exit i=>match Nat.beq i id with
   | true=>K .normal e'
   | false=>K (.exit i) e'
 | .exit id,_,_,_,e,K=>K (.exit id) e
 | .ret,_,_,ι,e,_=>match fin e with
  | some z=>ι z
  | none=>none
 | _,_,_,_,_,_=>none
end
def startArg (e : Env) (s : Nat) : (a : AT) → a.den → Env
 | .val t,x=>e.set s (ofTy t x)
 | .ptr t,x=>e.set s (.one (.el t x 0))
 | .clo f ts,x=>e.set s (.one (.clo f (startCaps ts x)))
 | .srt _,_=>e
 | .var t,x=>match openT e t x with
  | (e1,l)=>(e1.new (.var l)).set s (.one (.loc e1.next 0))
 | .io t,x=>match openT e t x with
  | (e1,l)=>e1.set s (svOf t l)
 | .own t,x=>match openT e t x with
  | (e1,l)=>e1.set s (svOf t l)
def startArgs (e : Env) (s : Nat) : (ats : List AT) → ATs.den ats → Env
 | [],_=>e
 | a :: r,x=>startArgs (startArg e s a x.1) (s + 1) r x.2
inductive Fyn where
 | res (r : ResultVar) | argv (s : Nat) | argi (s : Nat)
def y104q : Nat → List AT → List Fyn
 | _,[]=>[]
 | s, .var _ :: r=>.argv s :: y104q (s + 1) r
 | s, .io _ :: r=>.argi s :: y104q (s + 1) r
 | s,_ :: r=>y104q (s + 1) r
def finSlot : Fyn → Nat
 | .res (.tmp s)=>s
 | .res (.cell s _)=>s
 | .argv s=>s
 | .argi s=>s
def finVar : Fyn → Bool
 | .res (.cell _ _)=>true
 | .argv _=>true
 | _=>false
def finIds (e : Env) (t : Ty) (f : Fyn) : List Nat:=match e.get (finSlot f) with
 | some v=>match finVar f with
  | true=>match v with
   | .one (.loc id 0)=>match e.obj id with
    | some (.var vs)=>idsT t vs ++ [id]
    | _=>[]
   | _=>[]
  | false=>idsT t v.cells
 | none=>[]
def finAll (e : Env) : List Ty → List Fyn → List Nat
 | t :: r,f :: fs=>finIds e t f ++ finAll e r fs
 | _,_=>[]
def resOf1 (Γ : Tab) (os ov : List (Nat × Obj)) (e : Env) (t : Ty) : Fyn → Option t.den
 | .res (.tmp s)=>match e.get s with
  | some v=>takeSV false os ov t v
  | none=>none
 | .res (.cell s T)=>match find Γ T,e.get s with
  | some ti,some (.one (.loc id 0))=>match tyEq ti.ty.era t.era,find os id with
   | true,some (.var vs)=>takeT false os ov t vs
   | _,_=>none
  | _,_=>none
 | .argv s=>match e.get s with
  | some (.one (.loc id 0))=>match find os id with
   | some (.var vs)=>takeT false os ov t vs
   | _=>none
  | _=>none
 | .argi s=>match e.get s with
  | some v=>takeSV false os ov t v
  | none=>none
def finishL (Γ : Tab) (os ov : List (Nat × Obj)) (e : Env) : (res : List Ty) → List Fyn → Option (den1 res)
 | [],[]=>some ()
 | [t],[r]=>resOf1 Γ os ov e t r
 | t :: u :: l,r :: rs=>match resOf1 Γ os ov e t r,finishL Γ os ov e (u :: l) rs with
  | some x,some y=>some (x,y)
  | _,_=>none
 | _,_=>none
def finish (Γ : Tab) (e : Env) (res : List Ty) (fs : List Fyn) : Option (den1 res):=match nodupN (finAll e res fs) with
 | true=>finishL Γ e.objs (eraseAll (finAll e res fs) e.objs) e res fs
 | false=>none
def finsOf (rs : List ResultVar) (args : List AT) : List Fyn:=rs.map .res ++ y104q 0 args
def outTys : List AT → List Ty
 | []=>[]
 | .var t :: r=>t :: outTys r
 | .io t :: r=>t :: outTys r
 | _ :: r=>outTys r
def tysEq : List Ty → List Ty → Bool
 | [],[]=>true
 | t :: r,u :: s=>tyEq t u && tysEq r s
 | _,_=>false
def y79q : Nat → List AT → List Nat
 | _,[]=>[]
 | s, .var _ :: r=>s :: y79q (s + 1) r
 | s, .io _ :: r=>s :: y79q (s + 1) r
 | s,_ :: r=>y79q (s + 1) r
def evFn (Γ : Tab) (Δ : List (Nat × Con)) (A : Ann) (fn : Func) (args : List AT) (res : List Ty) (k : Nat) (x : ATs.den args) : Option (den1 res) :=
 match fn.body with
 | some c=>evCode Γ Δ A (fun e=>finish Γ e res (finsOf fn.results.toList args)) c k some (startArgs ⟨[],[],0⟩ 0 args x) fun ex e=>match ex with
  | .normal=>finish Γ e res (finsOf fn.results.toList args)
  | .exit _=>none
 | none=>none
def bodyOf (id : Nat) : Code → Option Code
 | .seq a b=>match bodyOf id a with
  | some c=>some c
  | none=>bodyOf id b
 | .cond _ a b=>match bodyOf id a with
  | some c=>some c
  | none=>bodyOf id b
 | .block i (.loop c)=>match Nat.beq i id with
  | true=>some c
  | false=>bodyOf id c
 | .block _ c | .loop c | .scope c=>bodyOf id c
 | _=>none
def runOf (Γ : Tab) (Δ : List (Nat × Con)) (A : Ann) (fn : Func) (args : List AT) (res : List Ty) (id : Nat) (k : Nat) : Run (den1 res) :=
 fun ι e K=>match fn.body with
  | some c=>match bodyOf id c with
   | some b=>evCode Γ Δ A (fun e=>finish Γ e res (finsOf fn.results.toList args)) b k ι e K
   | none=>none
  | none=>none
end
end Go.Ev
end
section
namespace Go.Ev
open Go.RowKit (Below)
def R2 {α β : Type} (r : α → β → Prop) : List α → List β → Prop
 | [],[]=>True
 | a :: l,b :: m=>r a b ∧ R2 r l m
 | _,_=>False
abbrev CellsAt (w : World) (b o : Nat) (cs : List Value) : Prop:=w.rangeAt b o cs
def AsVal (t : Ty) (cs : List Value) (v : Value) : Prop:=match t.isAgg with
 | true=>v = .agg cs.toArray
 | false=>cs = [v]
def Val (w : World) (G : Nat → Prop) : (t : Ty) → t.den → List Value → Prop
 | .int k,n,cs=>cs = [.int k n]
 | .bool,x,cs=>cs = [.bool x]
 | .str,x,cs=>∃ s : ByteArray,cs = [.string s] ∧ s.data.toList = x
 | .sl t,xs,cs=>∃ A n c,cs = [.slice A n c] ∧ xs.length = n ∧ n ≤ c ∧
   ∀ j,j < xs.length → ∃ a cs',A = some a ∧ a.spot = none ∧ G a.block ∧ CellsAt w a.block (a.off + j * t.size) cs' ∧ Val w G t (xs.getD j t.zero) cs'
 | .pair p q,x,cs=>∃ c1 c2,cs = c1 ++ c2 ∧ Val w G p x.1 c1 ∧ Val w G q x.2 c2
 | .unit,_,cs=>cs = []
 | .any,_,cs=>∃ v,cs = [v] ∧ v.oneCell' = true ∧ v.cells = #[v]
 | .osl _ _,_,cs=>∃ v,cs = [v] ∧ v.oneCell' = true ∧ v.cells = #[v]
 | .mp k v,xs,cs=>(cs = [.map none] ∧ xs = []) ∨ ∃ b es clock,cs = [.map (some b)] ∧ G b ∧ w.heap[b]? = some (.map es clock) ∧
   R2 (fun (p : k.den × v.den) (e : MapEntry)=>(∃ c,Val w G k p.1 c ∧ AsVal k c e.key) ∧ ∃ c,Val w G v p.2 c ∧ AsVal v c e.val) xs es.toList
 | .omp _ _,_,cs=>∃ v,cs = [v] ∧ v.oneCell' = true ∧ v.cells = #[v]
def MapAt (w : World) (G : Nat → Prop) (k v : Ty) (xs : List (k.den × v.den)) (b : Nat) : Prop:=∃ es clock,w.heap[b]? = some (.map es clock) ∧
 R2 (fun (p : k.den × v.den) (e : MapEntry)=>(∃ c,Val w G k p.1 c ∧ AsVal k c e.key) ∧ ∃ c,Val w G v p.2 c ∧ AsVal v c e.val) xs es.toList
structure Base where
 w : World
 o : World
 M : Nat → Prop
 pins : List (Nat × Value)
def Mine (B : Base) (b : Nat) : Prop:=B.w.heap.size ≤ b ∨ B.M b
structure Kept (B : Base) (w : World) : Prop where
 os : w.os = B.w.os
 tape : w.tape = B.w.tape
 output : w.output = B.w.output
 size : B.w.heap.size ≤ w.heap.size
 block : ∀ k,k < B.w.heap.size → ¬ B.M k → w.heap[k]? = B.w.heap[k]?
 old : Below B.o.heap.size B.o w
 oldM : ∀ b,B.M b → B.o.heap.size ≤ b
 oldS : B.o.heap.size ≤ B.w.heap.size
theorem Kept.trans {B : Base} {w w' : World} (h : Kept B w) (k : Below w.heap.size w w') : Kept B w' :=
 ⟨k.os.trans h.os,k.tape.trans h.tape,k.output.trans h.output,Nat.le_trans h.size k.size,fun i hi hm=>(k.block i (Nat.lt_of_lt_of_le hi h.size)).trans (h.block i hi hm),h.old.trans (k.mono h.old.size),h.oldM,h.oldS⟩
theorem Kept.drew {B : Base} {w : World} (h : Kept B w) : Kept B w.drew:=h.trans (Below.refl _ _).drew
theorem Kept.alloc {B : Base} {w : World} (h : Kept B w) (_ : B.w.heap.size ≤ w.heap.size) (o : Go.Obj) : Kept B (w.alloc o):=h.trans ((Below.refl _ _).alloc (Nat.le_refl _) o)
theorem Kept.refl (B : Base) (ho : Below B.o.heap.size B.o B.w) (hM : ∀ b,B.M b → B.o.heap.size ≤ b) : Kept B B.w:=⟨rfl,rfl,rfl,Nat.le_refl _,fun _ _ _=>rfl,ho,hM,ho.size⟩
structure St where
 w : World
 G : Nat → Prop
 H : Nat → Prop
 β : Nat → Nat
 ν : Nat → Value
 D : Nat → Prop
 σ : Nat → List Nat
 hd : Nat → Nat → Value
def Cp (m : St) : Cap → Value → Prop
 | .loc id,v=>m.D id ∧ v = .pointer (some ⟨m.β id,0,none⟩)
 | .el t x,v=>∃ b o cs,v = .pointer (some ⟨b,o,none⟩) ∧ m.H b ∧ CellsAt m.w b o cs ∧ Val m.w m.G t x cs
def Lv (m : St) : V → Value → Prop
 | .i k n,v=>v = .int k n
 | .b x,v=>v = .bool x
 | .s x,v=>∃ s : ByteArray,v = .string s ∧ s.data.toList = x
 | .sl t xs,v=>Val m.w m.G (.sl t) xs [v]
 | .nil,v=>v = .slice none 0 0
 | .row id,v=>m.D id ∧ v = m.ν id ∧ ∃ A n c,v = .slice A n c
 | .loc id off,v=>m.D id ∧ v = .pointer (some ⟨m.β id,off,none⟩)
 | .el t x off,v=>∃ b o cs,v = .pointer (some ⟨b,o + off,none⟩) ∧ m.H b ∧ CellsAt m.w b o cs ∧ Val m.w m.G t x cs
 | .rel id sz j off,v=>m.D id ∧ ∃ b n c,m.ν id = .slice (some ⟨b,0,none⟩) n c ∧ j < n ∧ v = .pointer (some ⟨b,j * sz + off,none⟩)
 | .clo f caps,v=>∃ cv : List Value,v = .func (.func f) #[] cv.toArray ∧ R2 (Cp m) caps cv
 | .ifc T id,v=>m.D id ∧ v = .iface T (m.ν id) ∧ ∃ A n c,m.ν id = .slice A n c
 | .any,v=>v.oneCell' = true ∧ v.cells = #[v]
 | .sub id q sz j off,v=>m.D id ∧ m.D q ∧ (∃ b n c,m.ν id = .slice (some ⟨b,0,none⟩) n c ∧ j < n) ∧ v = m.hd q (j * sz + off) ∧ ∃ A n c,v = .slice A n c
 | .rng id sz lo hi,v=>m.D id ∧ lo ≤ hi ∧ ∃ A n c A' c',m.ν id = .slice A n c ∧ hi ≤ n ∧ v = .slice A' (hi - lo) c' ∧ hi - lo ≤ c' ∧ (lo < hi → A' = A.map (·.add (lo * sz))) ∧ (lo = 0 → A' = A ∧ c' = c)
 | .map id,v=>m.D id ∧ v = .map (some (m.β id))
 | .mp k u xs,v=>Val m.w m.G (.mp k u) xs [v]
def Pv (m : St) (p : Bool × List V) (x : Value) : Prop :=
 (p.1 = true ∧ ∃ cs : List Value,x = .agg cs.toArray ∧ R2 (Lv m) p.2 cs) ∨ (p.1 = false ∧ ∃ v,p.2 = [v] ∧ Lv m v x)
def Sv (m : St) : SV → Value → Prop
 | .one v,x=>Lv m v x
 | .agg vs,x=>∃ cs : List Value,x = .agg cs.toArray ∧ R2 (Lv m) vs cs
 | .tup l,x=>∃ xs : List Value,x = .tuple xs.toArray ∧ R2 (Pv m) l xs
def RowAt (w : World) (G : Nat → Prop) (T : Nat) (t : Ty) (xs : List t.den) (v : Value) : Prop :=
 (v = .slice none 0 0 ∧ xs = []) ∨ ∃ b c,∃ cs : List Value,v = .slice (some ⟨b,0,none⟩) xs.length c ∧ w.heap[b]? = some (.cells cs.toArray T (0,0)) ∧
  xs.length ≤ c ∧ c ≤ maxLen ∧ cs.length = c * t.size ∧
  ∀ j,j < xs.length → ∃ cs',CellsAt w b (j * t.size) cs' ∧ Val w G t (xs.getD j t.zero) cs'
def RowI (w : World) (t : Ty) (inn : t.den → List Value → List Nat → Prop) (xs : List t.den) (v : Value) (bl : List Nat) : Prop :=
 (v.ownBlock = none ∧ bl = []) ∨ ∃ b,v.ownBlock = some b ∧ ∃ bls : List (List Nat),bl = b :: bls.flatten ∧ bls.length = xs.length ∧
  ∀ j,j < xs.length → ∃ cs,CellsAt w b (j * t.size) cs ∧ cs.length = t.size ∧ inn (xs.getD j t.zero) cs (bls.getD j [])
def Inn (w : World) (G : Nat → Prop) : (t : Ty) → t.den → List Value → List Nat → Prop
 | .osl T t,xs,cs,bl=>∃ v,cs = [v] ∧ RowAt w G T t xs v ∧ RowI w t (Inn w G t) xs v bl
 | .pair a b,x,cs,bl=>∃ c1 c2 b1 b2,cs = c1 ++ c2 ∧ c1.length = a.size ∧ bl = b1 ++ b2 ∧ Inn w G a x.1 c1 b1 ∧ Inn w G b x.2 c2 b2
 | .int _,_,_,bl | .bool,_,_,bl | .str,_,_,bl | .sl _,_,_,bl | .unit,_,_,bl | .any,_,_,bl | .mp _ _,_,_,bl=>bl = []
 | .omp k v,xs,cs,bl=>∃ b,cs = [.map (some b)] ∧ bl = [b] ∧ MapAt w G k v xs b
def RowIn (w : World) (G : Nat → Prop) (t : Ty) (xs : List t.den) (v : Value) (bl : List Nat) : Prop:=RowI w t (Inn w G t) xs v bl
def HdOk (w : World) (h : Nat → Value) (t : Ty) (xs : List t.den) (v : Value) : Prop :=
 ∀ b,v.ownBlock = some b → ∀ j,j < xs.length → ∀ o,ownAt t o = true → CellsAt w b (j * t.size + o) [h (j * t.size + o)] ∧ ∃ A n c,h (j * t.size + o) = .slice A n c
def Bor (h : Nat → Value) (t : Ty) (j : Nat) (cs : List Value) : Prop:=∀ o,ownAt t o = true → cs[o]? = some (h (j * t.size + o))
def MixI (w : World) (G : Nat → Prop) (h : Nat → Value) (t : Ty) (lo k : Nat) (ys : List t.den) (v : Value) (bl : List Nat) : Prop :=
 (v.ownBlock = none ∧ bl = []) ∨ ∃ b,v.ownBlock = some b ∧ ∃ bls : List (List Nat),bl = b :: bls.flatten ∧ bls.length = ys.length ∧
  (∀ j,j < k → ∃ cs,CellsAt w b (j * t.size) cs ∧ cs.length = t.size ∧ Bor h t (lo + j) cs) ∧
  ∀ j,j < ys.length → ∃ cs,CellsAt w b ((k + j) * t.size) cs ∧ cs.length = t.size ∧ Inn w G t (ys.getD j t.zero) cs (bls.getD j [])
def Ob (m : St) (i : Nat) : Obj → Prop
 | .mix T t n _ q lo zs ys=>RowAt m.w m.G T t (zs ++ ys) (m.ν i) ∧ MixI m.w m.G (m.hd q) t lo zs.length ys (m.ν i) (m.σ n) ∧ (m.σ n).Nodup ∧ m.D n ∧ m.D q
 | .var vs=>∃ (cs : List Value) (T : Nat),m.w.heap[m.β i]? = some (.cells cs.toArray T (0,0)) ∧ R2 (Lv m) vs cs
 | .row T t n xs=>RowAt m.w m.G T t xs (m.ν i) ∧ RowIn m.w m.G t xs (m.ν i) (m.σ n) ∧ (m.σ n).Nodup ∧ HdOk m.w (m.hd n) t xs (m.ν i) ∧ m.D n
 | .frow t xs=>Val m.w m.G (.sl t) xs [m.ν i]
 | .map k v xs=>MapAt m.w m.G k v xs (m.β i)
def frzB (m : St) (i : Nat) : Obj → Nat → Prop
 | .row _ _ n _,b=>b ∈ m.σ n
 | .map _ _ _,b=>b = m.β i
 | _,_=>False
def blk (os : List (Nat × Obj)) (m : St) (i b : Nat) : Prop:=match find os i with
 | some (.var _)=>b = m.β i
 | some (.row _ _ n _)=>b ∈ m.σ n
 | some (.mix _ _ n _ _ _ _ _)=>b ∈ m.σ n
 | some (.map _ _ _)=>b = m.β i
 | _=>False
theorem frzB_blk {os : List (Nat × Obj)} {m : St} {i b : Nat} {o : Obj} (hf : find os i = some o) (h : frzB m i o b) : blk os m i b:=by
 unfold blk
 rw [hf]
 cases o <;> first | exact h | exact h.elim
theorem ownBlock_some {v : Value} {b : Nat} (h : v.ownBlock = some b) : ∃ a n c,v = .slice (some a) n c ∧ a.block = b:=by
 cases v with
 | slice a n c =>
  cases a with
  | none=>simp [Value.ownBlock] at h
  | some a=>exact ⟨a,n,c,rfl,by simpa [Value.ownBlock] using h⟩
 | _=>simp [Value.ownBlock] at h
structure ObjsOk (w0 : Base) (G0 : Nat → Prop) (m : St) (os : List (Nat × Obj)) : Prop where
 base : Kept w0 m.w
 objs : ∀ i o,find os i = some o → m.D i ∧ Ob m i o
 inj : ∀ i j b,blk os m i b → blk os m j b → i = j
 out : ∀ i b,blk os m i b → ¬ m.G b ∧ ¬ m.H b ∧ b < m.w.heap.size ∧ Mine w0 b
 liveG : ∀ b,m.G b → b < m.w.heap.size
 liveH : ∀ b,m.H b → b < m.w.heap.size
 subG : ∀ b,m.G b → G0 b ∨ Mine w0 b
 gh : ∀ b,m.G b → m.H b
structure Rel (w0 : Base) (G0 : Nat → Prop) (N : Nat) (F : List (Nat × Obj)) (m : St) (e : Env) (tm : Array Value) : Prop where
 ok : ObjsOk w0 G0 m (e.objs ++ F)
 disj : ∀ i o,find e.objs i = some o → find F i = none
 tms : tm.size = N ∧ ∀ (i : Nat) v,(i,v) ∈ w0.pins → tm[i]? = some v
 slots : ∀ t sv,find e.slots t = some sv → ∃ v,tm[t]? = some v ∧ Sv m sv v
theorem R2.imp {α β : Type} {r r' : α → β → Prop} (h : ∀ a b,r a b → r' a b) : ∀ {l : List α} {m : List β},R2 r l m → R2 r' l m
 | [],[],_=>trivial
 | _ :: _,_ :: _,⟨x,y⟩=>⟨h _ _ x,R2.imp h y⟩
theorem R2.length {α β : Type} {r : α → β → Prop} : ∀ {l : List α} {m : List β},R2 r l m → l.length = m.length
 | [],[],_=>rfl
 | _ :: _,_ :: _,⟨_,y⟩=>by simp [R2.length y]
theorem R2.append {α β : Type} {r : α → β → Prop} : ∀ {l l' : List α} {m m' : List β},R2 r l m → R2 r l' m' → R2 r (l ++ l') (m ++ m')
 | [],_,[],_,_,h=>h
 | _ :: _,_,_ :: _,_,⟨x,y⟩,h=>⟨x,R2.append y h⟩
theorem R2.split {α β : Type} {r : α → β → Prop} : ∀ {l l' : List α} {m : List β},R2 r (l ++ l') m → ∃ m1 m2,m = m1 ++ m2 ∧ R2 r l m1 ∧ R2 r l' m2
 | [],_,m,h=>⟨[],m,rfl,trivial,h⟩
 | a :: l,l',[],h=>by simp [R2] at h
 | a :: l,l',b :: m,⟨x,y⟩=>by
  obtain ⟨m1,m2,rfl,h1,h2⟩:=R2.split y
  exact ⟨b :: m1,m2,rfl,⟨x,h1⟩,h2⟩
theorem y125q {α : Type} : ∀ l : List α,lenN l = l.length
 | []=>rfl
 | _ :: l=>by simp [lenN,y125q l]
theorem takeN_eq {α : Type} : ∀ (n : Nat) (l : List α),takeN n l = l.take n
 | 0,l=>by simp [takeN]
 | n + 1,[]=>by simp [takeN]
 | n + 1,a :: l=>by simp [takeN,takeN_eq n l]
theorem y101q {α : Type} : ∀ (n : Nat) (l : List α),dropN n l = l.drop n
 | 0,l=>by simp [dropN]
 | n + 1,[]=>by simp [dropN]
 | n + 1,a :: l=>by simp [dropN,y101q n l]
theorem nth_eq {α : Type} : ∀ (l : List α) (n : Nat),nth l n = l[n]?
 | [],n=>by cases n <;> simp [nth]
 | a :: l,0=>by simp [nth]
 | a :: l,n + 1=>by simp [nth,nth_eq l n]
theorem R2.take {α β : Type} {r : α → β → Prop} : ∀ (n : Nat) {l : List α} {m : List β},R2 r l m → R2 r (l.take n) (m.take n)
 | 0,_,_,_=>by simp [R2]
 | n + 1,[],[],_=>by simp [R2]
 | n + 1,_ :: _,_ :: _,⟨x,y⟩=>⟨x,R2.take n y⟩
theorem R2.drop {α β : Type} {r : α → β → Prop} : ∀ (n : Nat) {l : List α} {m : List β},R2 r l m → R2 r (l.drop n) (m.drop n)
 | 0,_,_,h=>h
 | n + 1,[],[],_=>by simp [R2]
 | n + 1,_ :: _,_ :: _,⟨_,y⟩=>by simpa using R2.drop n y
theorem R2.get {α β : Type} {r : α → β → Prop} : ∀ {l : List α} {m : List β} (_ : R2 r l m) (j : Nat) (a : α),l[j]? = some a → ∃ b,m[j]? = some b ∧ r a b
 | _ :: _,b :: _,⟨x,_⟩,0,a,h=>⟨b,rfl,by simp at h; exact h ▸ x⟩
 | _ :: _,_ :: _,⟨_,y⟩,j + 1,a,h=>by simpa using R2.get y j a (by simpa using h)
 | [],[],_,j,a,h=>by simp at h
theorem paste_eq {α : Type} : ∀ (l : List α) (n : Nat) (ys : List α),n + ys.length ≤ l.length → paste l n ys = l.take n ++ ys ++ l.drop (n + ys.length)
 | l,0,[],_=>by cases l <;> simp [paste]
 | [],0,y :: ys,h=>by simp at h
 | [],n + 1,ys,h=>by simp at h
 | a :: l,0,y :: ys,h=>by
  have:=paste_eq l 0 ys (by simp at h; omega)
  simp [paste,this]
 | a :: l,n + 1,ys,h=>by
  have:=paste_eq l n ys (by simp at h; omega)
  simp [paste,this,show n + 1 + ys.length = n + ys.length + 1 from by omega]
theorem R2.paste {α β : Type} {r : α → β → Prop} {l : List α} {m : List β} {ys : List α} {zs : List β} {n : Nat} (h : R2 r l m) (h' : R2 r ys zs) (hn : n + ys.length ≤ l.length) : R2 r (paste l n ys) (m.take n ++ zs ++ m.drop (n + zs.length)):=by
 rw [paste_eq l n ys hn,← h'.length]
 exact (h.take n |>.append h').append (h.drop _)
theorem beq_ne {k j : Nat} (h : ¬ k = j) : Nat.beq k j = false:=by
 cases hb : Nat.beq k j
 ·rfl
 ·exact absurd (Nat.eq_of_beq_eq_true hb) h
theorem beq_self (k : Nat) : Nat.beq k k = true:=by simp
theorem y46q {α : Type} : ∀ (l : List (Nat × α)) (i j : Nat) (x : α),find (upd l i x) j = if i = j then (find l i).map (fun _=>x) else find l j
 | [],i,j,x=>by simp [upd,find]
 | (k,v) :: r,i,j,x=>by
  have ih:=y46q r i j x
  simp only [upd,find]
  by_cases h : k = i
  ·subst h
   have e : Nat.beq k k = true:=by simp
   simp only [e]
   by_cases h2 : k = j
   ·subst h2; simp [find,e]
   ·have e2 : Nat.beq k j = false:=beq_ne h2
    simp [find,e2,h2]
  ·have e : Nat.beq k i = false:=beq_ne h
   simp only [e]
   by_cases h2 : k = j
   ·subst h2
    have e2 : Nat.beq k k = true:=by simp
    have h3 : ¬ i = k:=fun hh=>h hh.symm
    simp [find,e2,h3]
   ·have e2 : Nat.beq k j = false:=beq_ne h2
    simp only [find,e2,ih]
theorem y30q {α : Type} : ∀ (l : List (Nat × Obj)) (i j : Nat),find (erase l i) j = if i = j then none else find l j
 | [],i,j=>by simp [erase,find]
 | (k,v) :: r,i,j=>by
  have ih:=y30q (α:=α) r i j
  simp only [erase]
  by_cases h : k = i
  ·subst h
   have e : Nat.beq k k = true:=by simp
   simp only [e,ih]
   by_cases h2 : k = j
   ·simp [h2]
   ·have e2 : Nat.beq k j = false:=beq_ne h2
    simp [find,e2,h2]
  ·have e : Nat.beq k i = false:=beq_ne h
   simp only [e]
   by_cases h2 : k = j
   ·subst h2
    have e2 : Nat.beq k k = true:=by simp
    have h3 : ¬ i = k:=fun hh=>h hh.symm
    simp [find,e2,h3]
   ·have e2 : Nat.beq k j = false:=beq_ne h2
    simp only [find,e2,ih]
theorem y29q {α : Type} : ∀ (l l' : List (Nat × α)) (i : Nat),find (l ++ l') i = match find l i with
  | some x=>some x
  | none=>find l' i
 | [],_,_=>rfl
 | (k,v) :: r,l',i=>by
  simp only [List.cons_append,find]
  cases Nat.beq k i with
  | true=>rfl
  | false=>exact y29q r l' i
theorem y91q {α : Type} {l l' : List (Nat × α)} {i : Nat} {x : α} (h : find l i = some x) : find (l ++ l') i = some x:=by rw [y29q,h]
theorem y14q {α : Type} (l : List (Nat × α)) (i j : Nat) (x : α) : find ((i,x) :: l) j = if i = j then some x else find l j:=by
 simp only [find]
 by_cases h : i = j
 ·subst h; simp
 ·have e : Nat.beq i j = false:=beq_ne h
  simp [e,h]
structure St.le (m m' : St) : Prop where
 G : ∀ b,m.G b → m'.G b ∧ m'.w.heap[b]? = m.w.heap[b]?
 H : ∀ b,m.H b → m'.H b ∧ m'.w.heap[b]? = m.w.heap[b]?
 D : ∀ i,m.D i → m'.D i
 β : ∀ i,m.D i → m'.β i = m.β i
 ν : ∀ i,m.D i → m'.ν i = m.ν i
 σ : ∀ i,m.D i → m'.σ i = m.σ i
 hd : ∀ i,m.D i → m'.hd i = m.hd i
theorem St.le.refl (m : St) : m.le m:=⟨fun _ h=>⟨h,rfl⟩,fun _ h=>⟨h,rfl⟩,fun _ h=>h,fun _ _=>rfl,fun _ _=>rfl,fun _ _=>rfl,fun _ _=>rfl⟩
theorem St.le.trans {a b c : St} (h : a.le b) (k : b.le c) : a.le c :=
 ⟨fun x hx=>⟨(k.G x (h.G x hx).1).1,(k.G x (h.G x hx).1).2.trans (h.G x hx).2⟩,
  fun x hx=>⟨(k.H x (h.H x hx).1).1,(k.H x (h.H x hx).1).2.trans (h.H x hx).2⟩,
  fun i hi=>k.D i (h.D i hi),fun i hi=>(k.β i (h.D i hi)).trans (h.β i hi),fun i hi=>(k.ν i (h.D i hi)).trans (h.ν i hi),
  fun i hi=>(k.σ i (h.D i hi)).trans (h.σ i hi),fun i hi=>(k.hd i (h.D i hi)).trans (h.hd i hi)⟩
theorem y41q {w w' : World} {b o : Nat} {cs : List Value} (h : CellsAt w b o cs) (he : w'.heap[b]? = w.heap[b]?) : CellsAt w' b o cs :=
 fun j v hv=>(World.cell?_of_block (w:=w) (w':=w') (a:=⟨b,o + j,none⟩) he).trans (h j v hv)
theorem Val.mono {w w' : World} {G G' : Nat → Prop} (hG : ∀ b,G b → G' b ∧ w'.heap[b]? = w.heap[b]?) : ∀ (t : Ty) (x : t.den) (cs : List Value),Val w G t x cs → Val w' G' t x cs
 | .int _,_,_,h=>h
 | .bool,_,_,h=>h
 | .str,_,_,h=>h
 | .unit,_,_,h=>h
 | .any,_,_,h=>h
 | .osl _ _,_,_,h=>h
 | .omp _ _,_,_,h=>h
 | .mp k v,xs,_,h=>by
  rcases h with h | ⟨b,es,cl,e,hg,hh,hr⟩
  ·exact .inl h
  ·refine .inr ⟨b,es,cl,e,(hG b hg).1,by rw [(hG b hg).2]; exact hh,hr.imp ?_⟩
   rintro p e ⟨⟨c,h1,h2⟩,d,h3,h4⟩
   exact ⟨⟨c,Val.mono hG k p.1 c h1,h2⟩,d,Val.mono hG v p.2 d h3,h4⟩
 | .pair p q,x,_,⟨c1,c2,e,h1,h2⟩=>⟨c1,c2,e,Val.mono hG p x.1 c1 h1,Val.mono hG q x.2 c2 h2⟩
 | .sl t,xs,_,⟨A,n,c,e,hl,hc,hx⟩=>⟨A,n,c,e,hl,hc,fun j hj=>by
  obtain ⟨a,cs',ea,hs,hg,hcs,hv⟩:=hx j hj
  exact ⟨a,cs',ea,hs,(hG _ hg).1,y41q hcs (hG _ hg).2,Val.mono hG t _ _ hv⟩⟩
theorem MapAt.mono {w w' : World} {G G' : Nat → Prop} (hG : ∀ b,G b → G' b ∧ w'.heap[b]? = w.heap[b]?) {k v : Ty} {xs : List (k.den × v.den)} {b : Nat} (hb : w'.heap[b]? = w.heap[b]?) (h : MapAt w G k v xs b) : MapAt w' G' k v xs b:=by
 obtain ⟨es,cl,hh,hr⟩:=h
 refine ⟨es,cl,by rw [hb]; exact hh,hr.imp ?_⟩
 rintro p e ⟨⟨c,h1,h2⟩,d,h3,h4⟩
 exact ⟨⟨c,Val.mono hG k p.1 c h1,h2⟩,d,Val.mono hG v p.2 d h3,h4⟩
theorem MapAt.val {w : World} {G : Nat → Prop} {k v : Ty} {xs : List (k.den × v.den)} {b : Nat} (h : MapAt w G k v xs b) (hg : G b) : Val w G (.mp k v) xs [.map (some b)]:=by
 obtain ⟨es,cl,hh,hr⟩:=h
 exact .inr ⟨b,es,cl,rfl,hg,hh,hr⟩
theorem MapAt.lt {w : World} {G : Nat → Prop} {k v : Ty} {xs : List (k.den × v.den)} {b : Nat} (h : MapAt w G k v xs b) : b < w.heap.size:=by
 obtain ⟨es,cl,hh,hr⟩:=h
 exact (Array.getElem?_eq_some_iff.1 hh).1
theorem Val.le {m m' : St} (h : m.le m') {t : Ty} {x : t.den} {cs : List Value} (hv : Val m.w m.G t x cs) : Val m'.w m'.G t x cs:=Val.mono (fun b hb=>h.G b hb) t x cs hv
theorem Cp.le {m m' : St} (h : m.le m') : ∀ {c : Cap} {v : Value},Cp m c v → Cp m' c v
 | .loc id,_,⟨hi,e⟩=>⟨h.D _ hi,by rw [h.β id hi]; exact e⟩
 | .el t x,_,⟨b,o,cs,e,hH,hc,hv⟩=>⟨b,o,cs,e,(h.H b hH).1,y41q hc (h.H b hH).2,hv.le h⟩
theorem Lv.le {m m' : St} (h : m.le m') : ∀ {x : V} {v : Value},Lv m x v → Lv m' x v
 | .i ..,_,e=>e
 | .b _,_,e=>e
 | .s _,_,e=>e
 | .nil,_,e=>e
 | .sl t xs,_,e=>Val.le (t:=.sl t) h e
 | .row id,_,⟨hi,e,s⟩=>⟨h.D _ hi,by rw [h.ν id hi]; exact e,s⟩
 | .loc id off,_,⟨hi,e⟩=>⟨h.D _ hi,by rw [h.β id hi]; exact e⟩
 | .el t x off,_,⟨b,o,cs,e,hH,hc,hv⟩=>⟨b,o,cs,e,(h.H b hH).1,y41q hc (h.H b hH).2,hv.le h⟩
 | .rel id sz j off,_,⟨hi,b,n,c,e,hj,hv⟩=>⟨h.D _ hi,b,n,c,by rw [h.ν id hi]; exact e,hj,hv⟩
 | .clo f caps,_,⟨cv,e,hc⟩=>⟨cv,e,hc.imp fun _ _ hx=>Cp.le h hx⟩
 | .ifc T id,_,⟨hi,e,s⟩=>⟨h.D _ hi,by rw [h.ν id hi]; exact e,by rw [h.ν id hi]; exact s⟩
 | .any,_,e=>e
 | .map id,_,⟨hi,e⟩=>⟨h.D _ hi,by rw [h.β id hi]; exact e⟩
 | .mp k v xs,_,e=>Val.le (t:=.mp k v) h e
 | .sub id q sz j off,_,⟨hi,hq,⟨b,n,c,e,hj⟩,hv,hs⟩=>⟨h.D _ hi,h.D _ hq,⟨b,n,c,by rw [h.ν id hi]; exact e,hj⟩,by rw [h.hd q hq]; exact hv,hs⟩
 | .rng id sz lo hi,_,⟨hd,hl,A,n,c,A',c',e,r⟩=>⟨h.D _ hd,hl,A,n,c,A',c',by rw [h.ν id hd]; exact e,r⟩
theorem Pv.le {m m' : St} (h : m.le m') {p : Bool × List V} {x : Value} (hp : Pv m p x) : Pv m' p x:=by
 rcases hp with ⟨e,cs,ex,hr⟩ | ⟨e,v,ev,hv⟩
 ·exact .inl ⟨e,cs,ex,hr.imp fun _ _ hx=>Lv.le h hx⟩
 ·exact .inr ⟨e,v,ev,Lv.le h hv⟩
theorem Sv.le {m m' : St} (h : m.le m') : ∀ {s : SV} {x : Value},Sv m s x → Sv m' s x
 | .one _,_,e=>Lv.le h e
 | .agg _,_,⟨cs,e,hr⟩=>⟨cs,e,hr.imp fun _ _ hx=>Lv.le h hx⟩
 | .tup _,_,⟨xs,e,hr⟩=>⟨xs,e,hr.imp fun _ _ hx=>Pv.le h hx⟩
theorem RowAt.mono {w w' : World} {G G' : Nat → Prop} (hG : ∀ b,G b → G' b ∧ w'.heap[b]? = w.heap[b]?) {T : Nat} {t : Ty} {xs : List t.den} {v : Value} (h : RowAt w G T t xs v)
  (hb : ∀ a n c,v = .slice (some a) n c → w'.heap[a.block]? = w.heap[a.block]?) : RowAt w' G' T t xs v:=by
 rcases h with h | ⟨b,c,cs,e,hh,h1,h2,h3,hx⟩
 ·exact .inl h
 ·have he:=hb _ _ _ e
  refine .inr ⟨b,c,cs,e,by rw [he]; exact hh,h1,h2,h3,fun j hj=>?_⟩
  obtain ⟨cs',hc,hv⟩:=hx j hj
  exact ⟨cs',y41q hc he,Val.mono hG _ _ _ hv⟩
theorem y17q {bls : List (List Nat)} {j b : Nat} (hb : b ∈ bls.getD j []) : b ∈ bls.flatten:=by
 rw [List.getD_eq_getElem?_getD] at hb
 cases hj : bls[j]? with
 | none=>rw [hj] at hb; simp at hb
 | some l =>
  rw [hj] at hb
  exact List.mem_flatten.2 ⟨l,List.mem_of_getElem? hj,hb⟩
theorem RowI.mono {w w' : World} {t : Ty} {inn inn' : t.den → List Value → List Nat → Prop} (hi : ∀ x cs bl,(∀ b ∈ bl,w'.heap[b]? = w.heap[b]?) → inn x cs bl → inn' x cs bl) {xs : List t.den} {v : Value} {bl : List Nat}
  (hb : ∀ b ∈ bl,w'.heap[b]? = w.heap[b]?) (h : RowI w t inn xs v bl) : RowI w' t inn' xs v bl:=by
 rcases h with h | ⟨b,e,bls,e2,hl,hx⟩
 ·exact .inl h
 ·subst e2
  refine .inr ⟨b,e,bls,rfl,hl,fun j hj=>?_⟩
  obtain ⟨cs,h1,h2,h3⟩:=hx j hj
  exact ⟨cs,y41q h1 (hb b List.mem_cons_self),h2,hi _ _ _ (fun c hc=>hb c (List.mem_cons_of_mem _ (y17q hc))) h3⟩
theorem RowI.head {w : World} {t : Ty} {inn : t.den → List Value → List Nat → Prop} {xs : List t.den} {v : Value} {bl : List Nat} (h : RowI w t inn xs v bl) {b : Nat} (hb : v.ownBlock = some b) : b ∈ bl:=by
 rcases h with ⟨e,_⟩ | ⟨c,e,bls,e2,_⟩
 ·rw [hb] at e; cases e
 ·rw [hb] at e
  obtain rfl:=Option.some.inj e
  subst e2
  exact List.mem_cons_self
theorem Inn.mono {w w' : World} {G G' : Nat → Prop} (hG : ∀ b,G b → G' b ∧ w'.heap[b]? = w.heap[b]?) : ∀ (t : Ty) (x : t.den) (cs : List Value) (bl : List Nat),(∀ b ∈ bl,w'.heap[b]? = w.heap[b]?) → Inn w G t x cs bl → Inn w' G' t x cs bl
 | .int _,_,_,_,_,h=>h
 | .bool,_,_,_,_,h=>h
 | .str,_,_,_,_,h=>h
 | .sl _,_,_,_,_,h=>h
 | .unit,_,_,_,_,h=>h
 | .any,_,_,_,_,h=>h
 | .mp _ _,_,_,_,_,h=>h
 | .omp k v,xs,_,bl,hb,⟨b,e,e2,h⟩=>⟨b,e,e2,h.mono hG (hb b (by subst e2; exact List.mem_cons_self))⟩
 | .pair p q,x,_,_,hb,⟨c1,c2,b1,b2,e1,e2,e3,h1,h2⟩=>by
  subst e3
  exact ⟨c1,c2,b1,b2,e1,e2,rfl,Inn.mono hG p _ _ _ (fun b h=>hb b (List.mem_append_left _ h)) h1,Inn.mono hG q _ _ _ (fun b h=>hb b (List.mem_append_right _ h)) h2⟩
 | .osl T t,xs,_,bl,hb,⟨v,e,hr,hi⟩=>⟨v,e,RowAt.mono hG hr fun a n c e=>hb _ (hi.head (by rw [e]; rfl)),hi.mono (fun x cs bl h=>Inn.mono hG t x cs bl h) hb⟩
theorem RowIn.mono {w w' : World} {G G' : Nat → Prop} (hG : ∀ b,G b → G' b ∧ w'.heap[b]? = w.heap[b]?) {t : Ty} {xs : List t.den} {v : Value} {bl : List Nat} (hb : ∀ b ∈ bl,w'.heap[b]? = w.heap[b]?) (h : RowIn w G t xs v bl) : RowIn w' G' t xs v bl :=
 RowI.mono (fun x cs bl h=>Inn.mono hG t x cs bl h) hb h
theorem HdOk.mono {w w' : World} {h : Nat → Value} {t : Ty} {xs : List t.den} {v : Value} (hh : HdOk w h t xs v) (hb : ∀ b,v.ownBlock = some b → w'.heap[b]? = w.heap[b]?) : HdOk w' h t xs v:=fun b e j hj o ho=>⟨y41q (hh b e j hj o ho).1 (hb b e),(hh b e j hj o ho).2⟩
theorem MixI.head {w : World} {G : Nat → Prop} {h : Nat → Value} {t : Ty} {lo k b : Nat} {ys : List t.den} {v : Value} {bl : List Nat} (hi : MixI w G h t lo k ys v bl) (hb : v.ownBlock = some b) : b ∈ bl:=by
 rcases hi with ⟨e,_⟩ | ⟨c,e,bls,rfl,_⟩
 ·rw [hb] at e; cases e
 ·rw [hb] at e; obtain rfl:=Option.some.inj e; exact List.mem_cons_self
theorem MixI.mono {w w' : World} {G G' : Nat → Prop} (hG : ∀ b,G b → G' b ∧ w'.heap[b]? = w.heap[b]?) {h : Nat → Value} {t : Ty} {lo k : Nat} {ys : List t.den} {v : Value} {bl : List Nat} (hb : ∀ b ∈ bl,w'.heap[b]? = w.heap[b]?) (hi : MixI w G h t lo k ys v bl) : MixI w' G' h t lo k ys v bl:=by
 rcases hi with ⟨e,rfl⟩ | ⟨b,e,bls,rfl,hl,h1,h2⟩
 ·exact .inl ⟨e,rfl⟩
 ·have hbb:=hb b List.mem_cons_self
  refine .inr ⟨b,e,bls,rfl,hl,fun j hj=>?_,fun j hj=>?_⟩
  ·obtain ⟨cs,k1,k2,k3⟩:=h1 j hj
   exact ⟨cs,y41q k1 hbb,k2,k3⟩
  ·obtain ⟨cs,k1,k2,k3⟩:=h2 j hj
   exact ⟨cs,y41q k1 hbb,k2,Inn.mono hG t _ cs _ (fun p hp=>hb p (List.mem_cons_of_mem _ (y17q hp))) k3⟩
theorem Ob.le {m m' : St} (h : m.le m') {i : Nat} {o : Obj} (hi : m.D i) (ho : Ob m i o) (os : List (Nat × Obj)) (hf : find os i = some o) (hb : ∀ b,blk os m i b → m'.w.heap[b]? = m.w.heap[b]?) : Ob m' i o:=by
 cases o with
 | var vs =>
  obtain ⟨cs,T,hh,hr⟩:=ho
  have he:=hb (m.β i) (by simp [blk,hf])
  exact ⟨cs,T,by rw [h.β i hi,he]; exact hh,hr.imp fun _ _ hx=>Lv.le h hx⟩
 | row T t n xs =>
  obtain ⟨h1,h2,h3,h4,hn⟩:=ho
  have hb' : ∀ b ∈ m.σ n,m'.w.heap[b]? = m.w.heap[b]?:=fun b hm=>hb b (by simpa [blk,hf] using hm)
  show RowAt m'.w m'.G T t xs (m'.ν i) ∧ RowIn m'.w m'.G t xs (m'.ν i) (m'.σ n) ∧ (m'.σ n).Nodup ∧ HdOk m'.w (m'.hd n) t xs (m'.ν i) ∧ m'.D n
  rw [h.ν i hi,h.σ n hn,h.hd n hn]
  exact ⟨RowAt.mono (fun b hb=>h.G b hb) h1 fun a n c e=>hb' a.block (h2.head (by rw [e]; rfl)),h2.mono (fun b hb=>h.G b hb) hb',h3,h4.mono fun b e=>hb' b (h2.head e),h.D n hn⟩
 | mix T t n src q lo zs ys =>
  obtain ⟨h1,h2,h3,hn,hq⟩:=ho
  have hb' : ∀ b ∈ m.σ n,m'.w.heap[b]? = m.w.heap[b]?:=fun b hm=>hb b (by simpa [blk,hf] using hm)
  show RowAt m'.w m'.G T t (zs ++ ys) (m'.ν i) ∧ MixI m'.w m'.G (m'.hd q) t lo zs.length ys (m'.ν i) (m'.σ n) ∧ (m'.σ n).Nodup ∧ m'.D n ∧ m'.D q
  rw [h.ν i hi,h.σ n hn,h.hd q hq]
  exact ⟨RowAt.mono (fun b hb=>h.G b hb) h1 fun a n c e=>hb' a.block (h2.head (by rw [e]; rfl)),h2.mono (fun b hb=>h.G b hb) hb',h3,h.D n hn,h.D q hq⟩
 | map k v xs =>
  show MapAt m'.w m'.G k v xs (m'.β i)
  rw [h.β i hi]
  exact MapAt.mono (fun b hb=>h.G b hb) (hb (m.β i) (by simp [blk,hf])) ho
 | frow t xs =>
  show Val m'.w m'.G (.sl t) xs [m'.ν i]
  rw [h.ν i hi]
  exact Val.le (t:=.sl t) h ho
theorem Val.length {w : World} {G : Nat → Prop} : ∀ {t : Ty} {x : t.den} {cs : List Value},Val w G t x cs → cs.length = t.size
 | .int _,_,_,h=>by simp only [Val] at h; subst h; rfl
 | .bool,_,_,h=>by simp only [Val] at h; subst h; rfl
 | .str,_,_,⟨_,h,_⟩=>by subst h; rfl
 | .unit,_,_,h=>by simp only [Val] at h; subst h; rfl
 | .any,_,_,⟨_,h,_⟩=>by subst h; rfl
 | .omp _ _,_,_,⟨_,h,_⟩=>by subst h; rfl
 | .mp _ _,_,_,h=>by rcases h with ⟨h,_⟩ | ⟨_,_,_,h,_⟩ <;> subst h <;> rfl
 | .osl _ _,_,_,⟨_,h,_⟩=>by subst h; rfl
 | .sl _,_,_,⟨_,_,_,h,_⟩=>by subst h; rfl
 | .pair _ _,_,_,⟨c1,c2,e,h1,h2⟩=>by subst e; simp [Ty.size,Val.length h1,Val.length h2]
theorem enc_append : ∀ (t : Ty) (x : t.den) (l : List V),enc t x l = enc t x [] ++ l
 | .int _,_,_=>rfl
 | .bool,_,_=>rfl
 | .str,_,_=>rfl
 | .sl _,_,_=>rfl
 | .unit,_,_=>rfl
 | .any,_,_=>rfl
 | .osl _ _,_,_=>rfl
 | .mp _ _,_,_=>rfl
 | .omp _ _,_,_=>rfl
 | .pair a b,x,l=>by simp only [enc]; rw [enc_append a x.1 (enc b x.2 l),enc_append b x.2 l,enc_append a x.1 (enc b x.2 []),List.append_assoc]
theorem Val.enc {m : St} : ∀ {t : Ty} {x : t.den} {cs : List Value},Val m.w m.G t x cs → R2 (Lv m) (enc t x []) cs
 | .int _,_,_,h=>by simp only [Val] at h; subst h; exact ⟨rfl,trivial⟩
 | .bool,_,_,h=>by simp only [Val] at h; subst h; exact ⟨rfl,trivial⟩
 | .str,_,_,⟨s,h,e⟩=>by subst h; exact ⟨⟨s,rfl,e⟩,trivial⟩
 | .sl t,xs,_,⟨A,n,c,h,r⟩=>by subst h; exact ⟨⟨A,n,c,rfl,r⟩,trivial⟩
 | .unit,_,_,h=>by simp only [Val] at h; subst h; exact trivial
 | .any,_,_,⟨_,h,h1⟩=>by subst h; exact ⟨h1,trivial⟩
 | .osl _ _,_,_,⟨_,h,h1⟩=>by subst h; exact ⟨h1,trivial⟩
 | .omp _ _,_,_,⟨_,h,h1⟩=>by subst h; exact ⟨h1,trivial⟩
 | .mp k v,xs,cs,h=>by
  obtain ⟨c,rfl⟩ : ∃ c,cs = [c]:=by rcases h with ⟨h,_⟩ | ⟨_,_,_,h,_⟩ <;> exact ⟨_,h⟩
  exact ⟨h,trivial⟩
 | .pair a b,x,_,⟨c1,c2,e,h1,h2⟩=>by
  subst e
  simp only [Ev.enc]
  rw [enc_append]
  exact (Val.enc h1).append (Val.enc h2)
theorem enc_val {m : St} : ∀ {t : Ty} {x : t.den} {cs : List Value},R2 (Lv m) (enc t x []) cs → Val m.w m.G t x cs
 | .int _,_,[_],⟨h,_⟩=>by simp only [Lv] at h; subst h; rfl
 | .bool,_,[_],⟨h,_⟩=>by simp only [Lv] at h; subst h; rfl
 | .str,_,[_],⟨⟨s,h,e⟩,_⟩=>⟨s,by rw [h],e⟩
 | .sl t,xs,[v],⟨h,_⟩=>h
 | .unit,_,[],_=>rfl
 | .any,_,[v],⟨h,_⟩=>⟨v,rfl,h⟩
 | .osl _ _,_,[v],⟨h,_⟩=>⟨v,rfl,h⟩
 | .omp _ _,_,[v],⟨h,_⟩=>⟨v,rfl,h⟩
 | .mp _ _,_,[v],⟨h,_⟩=>h
 | .pair a b,x,cs,h=>by
  simp only [enc] at h
  rw [enc_append] at h
  obtain ⟨c1,c2,e,h1,h2⟩:=h.split
  exact ⟨c1,c2,e,enc_val h1,enc_val h2⟩
theorem cast?_some {a b : Ty} {x : a.den} {y : b.den} (h : cast? a b x = some y) : ∃ e : a = b,e ▸ x = y:=by
 unfold cast? at h
 cases hd : Ty.decEq a b with
 | isTrue e=>rw [hd] at h; exact ⟨e,by simpa using h⟩
 | isFalse e=>rw [hd] at h; simp at h
theorem Val.cast {w : World} {G : Nat → Prop} {a b : Ty} {x : a.den} {y : b.den} {cs : List Value} (h : cast? a b x = some y) (hv : Val w G a x cs) : Val w G b y cs:=by
 obtain ⟨e,h⟩:=cast?_some h
 subst e; subst h
 exact hv
end Go.Ev
end
