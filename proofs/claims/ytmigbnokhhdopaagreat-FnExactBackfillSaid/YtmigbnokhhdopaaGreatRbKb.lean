import Derived.Test.YtmigbnokhhdopaaGreatRbTab5
import Derived.Test.YtmigbnokhhdopaaGreatRbEvG
import Derived.Lib.IndexMore
set_option linter.unusedVariables false
namespace Go.Ev.T2
open Go.Ev.T1
open Go.Proofs Go
set_option maxRecDepth 100000
structure Stops (w0 : World) : Prop where
 t : True
theorem y24q : TabOk Tryz.prog Γ:=tab_of (by kernel_rfl)
theorem y55q : TabOk Tryz.prog Γo:=tab_of (by kernel_rfl)
theorem drawso {w0 : World} {Δ : List (Nat × Con)} (h : DelOk Tryz.prog w0 Δ) {w : World} (hb : Go.RowKit.Below w0.heap.size w0 w) : DrawSound Tryz.prog w Γo Δ:=draws_of y55q h (by kernel_rfl) hb
theorem draws {w0 : World} {Δ : List (Nat × Con)} (h : DelOk Tryz.prog w0 Δ) {w : World} (hb : Go.RowKit.Below w0.heap.size w0 w) : DrawSound Tryz.prog w Γ Δ:=draws_of y24q h (by kernel_rfl) hb
abbrev X117_v_0 : Ty:=.osl 5 T5
def a_u56f : Ann:=⟨[(0,[.val 0 T9, .val 3 T3],⟨[],false⟩)],[]⟩
noncomputable def d_u56f : List (Nat × Con):=[]
noncomputable def u56f (k : Nat) (a : T9.den) : Option (den1 [T4]):=evFn Γ d_u56f a_u56f Tryz.f108 [.val T9] [T4] k (a,())
noncomputable def u56f_l0 (k : Nat) (v0 : T9.den) (v3 : T3.den) : Option ((Items.den []) ⊕ (den1 [T4])):=loopR (ρ:=(den1 [T4])) 0 [.val 0 T9, .val 3 T3] [] (runOf Γ d_u56f a_u56f Tryz.f108 [.val T9] [T4] 0) k (v0,v3)
theorem u56f_eq (k : Nat) (a : T9.den) : u56f k a = bnd (u56f_l0 k a 0) (fun y1=>onSum y1 (fun y2=>some true) (fun y2=>some y2)):=by kernel_rfl
theorem u56f_l0_zero (v0 : T9.den) (v3 : T3.den) : u56f_l0 0 v0 v3 = none:=by kernel_rfl
theorem u56f_l0_succ (k : Nat) (v0 : T9.den) (v3 : T3.den) : u56f_l0 (k + 1) v0 v3 = br (decide (v3 < (List.length v0 : Int))) (br (decide (0 ≤ v3)) (br (decide (v3 < (List.length v0 : Int))) (br (decide ((↑(List.getD v0 (Int.toNat v3) 0).toNat : Int) < 32)) (some (Sum.inr false)) (br (decide (0 ≤ v3)) (br (decide (v3 < (List.length v0 : Int))) (br (decide ((↑(List.getD v0 (Int.toNat v3) 0).toNat : Int) > 126)) (some (Sum.inr false)) (u56f_l0 k v0 (IntKind.i64.wrap (v3 + 1)))) (none)) (none))) (none)) (none)) (some (Sum.inl ())):=by kernel_rfl
noncomputable def c_u56f : Con:=⟨[.val T9],[T4],fun k x=>u56f k x.1⟩
theorem del_u56f {w0 : World} (hS : Stops w0) : DelOk Tryz.prog w0 d_u56f:=.nil
theorem ok_u56f {w0 : World} (hS : Stops w0) : Keeps Tryz.prog w0 108 c_u56f:=.con (y9q (A:=a_u56f) y24q (del_u56f hS) (draws (del_u56f hS)) Tryz.func108 (by kernel_rfl) (fun k x=>by kernel_rfl) (by kernel_rfl)) (by kernel_rfl)
theorem ent_u56f : Enters' Tryz.prog 108:=enters' Tryz.func108 (by kernel_rfl)
attribute [irreducible] u56f u56f_l0
def a_u57f : Ann:=⟨[],[]⟩
noncomputable def d_u57f : List (Nat × Con):=[(108,c_u56f)]
noncomputable def u57f (k : Nat) (a : T91.den) : Option (den1 [T4]):=evFn Γ d_u57f a_u57f Tryz.f87 [.val T91] [T4] k (a,())
theorem u57f_eq (k : Nat) (a : T91.den) : u57f k a = br (a.1 == 0) (some (andB (eqI a.1 a.1) (andB (eqI a.2.1 0) (andB (eqI a.2.2.1 0) (andB (eqS a.2.2.2.1 []) true))))) (br (a.1 == 1) (br (decide (a.2.1 < 0)) (some false) (br (decide (a.2.1 > 1)) (some false) (some (andB (eqI a.1 a.1) (andB (eqI 0 0) (andB (eqI a.2.2.1 0) (andB (eqS a.2.2.2.1 []) true))))))) (br (a.1 == 2) (br (decide (a.2.1 < -1000000000000000)) (some false) (br (decide (a.2.1 > 1000000000000000)) (some false) (some (andB (eqI a.1 a.1) (andB (eqI 0 0) (andB (eqI a.2.2.1 0) (andB (eqS a.2.2.2.1 []) true))))))) (br (a.1 == 3) (br (decide (a.2.1 < -1000000000)) (some false) (br (decide (a.2.1 > 1000000000)) (some false) (br (decide (a.2.2.1 < 0)) (some false) (br (decide (a.2.2.1 > 6)) (some false) (br (decide (a.2.2.1 > 0)) (br (!10 == 0) (br (Int.tmod a.2.1 10 == 0) (some false) (some (andB (eqI a.1 a.1) (andB (eqI 0 0) (andB (eqI 0 0) (andB (eqS a.2.2.2.1 []) true)))))) (none)) (some (andB (eqI a.1 a.1) (andB (eqI 0 0) (andB (eqI 0 0) (andB (eqS a.2.2.2.1 []) true)))))))))) (br (a.1 == 4) (br (decide ((List.length a.2.2.2.1 : Int) > 200)) (some false) (bnd (u56f k a.2.2.2.1) (fun y1=>br (!y1) (some false) (some (andB (eqI a.1 a.1) (andB (eqI a.2.1 0) (andB (eqI a.2.2.1 0) (andB (eqS [] []) true)))))))) (br (a.1 == 5) (br (decide (a.2.1 < 0)) (some false) (br (decide (a.2.1 > 3652058)) (some false) (some (andB (eqI a.1 a.1) (andB (eqI 0 0) (andB (eqI a.2.2.1 0) (andB (eqS a.2.2.2.1 []) true))))))) (some false)))))):=by kernel_rfl
noncomputable def c_u57f : Con:=⟨[.val T91],[T4],fun k x=>u57f k x.1⟩
theorem del_u57f {w0 : World} (hS : Stops w0) : DelOk Tryz.prog w0 d_u57f:=.cons (ok_u56f hS) ent_u56f (.nil)
theorem ok_u57f {w0 : World} (hS : Stops w0) : Keeps Tryz.prog w0 87 c_u57f:=.con (y9q (A:=a_u57f) y24q (del_u57f hS) (draws (del_u57f hS)) Tryz.func87 (by kernel_rfl) (fun k x=>by kernel_rfl) (by kernel_rfl)) (by kernel_rfl)
theorem ent_u57f : Enters' Tryz.prog 87:=enters' Tryz.func87 (by kernel_rfl)
attribute [irreducible] u57f
def a_u61f : Ann:=⟨[(0,[.val 0 T3, .val 3 T3],⟨[.val 3 T3],true⟩)],[]⟩
noncomputable def d_u61f : List (Nat × Con):=[]
noncomputable def u61f (k : Nat) (a : T3.den) : Option (den1 [T3]):=evFn Γ d_u61f a_u61f Tryz.f104 [.val T3] [T3] k (a,())
noncomputable def u61f_l0 (k : Nat) (v0 : T3.den) (v3 : T3.den) : Option (Items.den [.val 3 T3]):=loopQ (ρ:=(den1 [T3])) 0 [.val 0 T3, .val 3 T3] [.val 3 T3] (runOf Γ d_u61f a_u61f Tryz.f104 [.val T3] [T3] 0) k (v0,v3)
theorem u61f_eq (k : Nat) (a : T3.den) : u61f k a = bnd (u61f_l0 k a 1) (fun y1=>some y1):=by kernel_rfl
theorem u61f_l0_zero (v0 : T3.den) (v3 : T3.den) : u61f_l0 0 v0 v3 = none:=by kernel_rfl
theorem u61f_l0_succ (k : Nat) (v0 : T3.den) (v3 : T3.den) : u61f_l0 (k + 1) v0 v3 = br (decide (v0 > 0)) (u61f_l0 k (IntKind.i64.wrap (v0 - 1)) (IntKind.i64.wrap (v3 * 10))) (some v3):=by kernel_rfl
noncomputable def c_u61f : Con:=⟨[.val T3],[T3],fun k x=>u61f k x.1⟩
theorem del_u61f {w0 : World} (hS : Stops w0) : DelOk Tryz.prog w0 d_u61f:=.nil
theorem ok_u61f {w0 : World} (hS : Stops w0) : Keeps Tryz.prog w0 104 c_u61f:=.con (y9q (A:=a_u61f) y24q (del_u61f hS) (draws (del_u61f hS)) Tryz.func104 (by kernel_rfl) (fun k x=>by kernel_rfl) (by kernel_rfl)) (by kernel_rfl)
theorem ent_u61f : Enters' Tryz.prog 104:=enters' Tryz.func104 (by kernel_rfl)
attribute [irreducible] u61f u61f_l0
def a_u85f : Ann:=⟨[(0,[.val 0 T3, .val 5 X117_v_0, .val 6 T3],⟨[.val 5 X117_v_0],true⟩)],[]⟩
noncomputable def d_u85f : List (Nat × Con):=[]
noncomputable def u85f (k : Nat) (a : T3.den) (b : T3.den) : Option (den1 [T9]):=evFn Γ d_u85f a_u85f Tryz.f125 [.val T3, .val T3] [T9] k (a,b,())
noncomputable def u85f_l0 (k : Nat) (v0 : T3.den) (v5 : X117_v_0.den) (v6 : T3.den) : Option (Items.den [.val 5 X117_v_0]):=loopQ (ρ:=(den1 [T9])) 0 [.val 0 T3, .val 5 X117_v_0, .val 6 T3] [.val 5 X117_v_0] (runOf Γ d_u85f a_u85f Tryz.f125 [.val T3, .val T3] [T9] 0) k (v0,v5,v6)
theorem u85f_eq (k : Nat) (a : T3.den) (b : T3.den) : u85f k a b = br (b == b) (br (decide (0 ≤ b)) (br (decide (b ≤ (↑capN : Int))) (bnd (u85f_l0 k a (List.replicate (Int.toNat b) (Ty.int IntKind.u8).zero) (IntKind.i64.wrap (b - 1))) (fun y1=>some (List.map (fun n=>UInt8.ofNat n.toNat) y1))) (none)) (none)) (none):=by kernel_rfl
theorem u85f_l0_zero (v0 : T3.den) (v5 : X117_v_0.den) (v6 : T3.den) : u85f_l0 0 v0 v5 v6 = none:=by kernel_rfl
theorem u85f_l0_succ (k : Nat) (v0 : T3.den) (v5 : X117_v_0.den) (v6 : T3.den) : u85f_l0 (k + 1) v0 v5 v6 = br (decide (v6 ≥ 0)) (br (decide (0 ≤ v6)) (br (decide (v6 < (List.length v5 : Int))) (br (decide (0 ≤ 8)) (u85f_l0 k (Int.fdiv v0 (2 ^ min (Int.toNat 8) IntKind.i64.bits)) (List.set v5 (Int.toNat v6) (IntKind.u8.wrap v0)) (IntKind.i64.wrap (v6 - 1))) (none)) (none)) (none)) (some v5):=by kernel_rfl
noncomputable def c_u85f : Con:=⟨[.val T3, .val T3],[T9],fun k x=>u85f k x.1 x.2.1⟩
theorem del_u85f {w0 : World} (hS : Stops w0) : DelOk Tryz.prog w0 d_u85f:=.nil
theorem ok_u85f {w0 : World} (hS : Stops w0) : Keeps Tryz.prog w0 125 c_u85f:=.con (y9q (A:=a_u85f) y24q (del_u85f hS) (draws (del_u85f hS)) Tryz.func125 (by kernel_rfl) (fun k x=>by kernel_rfl) (by kernel_rfl)) (by kernel_rfl)
theorem ent_u85f : Enters' Tryz.prog 125:=enters' Tryz.func125 (by kernel_rfl)
attribute [irreducible] u85f u85f_l0
end Go.Ev.T2
