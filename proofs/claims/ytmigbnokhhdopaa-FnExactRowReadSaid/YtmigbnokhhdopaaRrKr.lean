import Derived.Test.YtmigbnokhhdopaaRrTab8
import Derived.Test.YtmigbnokhhdopaaRrEvG
import Derived.Lib.IndexMore
set_option linter.unusedVariables false
namespace Go.Ev.T2
open Go.Ev.T1
open Go.Proofs Go
set_option maxRecDepth 100000
structure Stops (w0 : World) : Prop where
 t : True
theorem y28q : TabOk Try.prog Γ:=tab_of (by kernel_rfl)
theorem y71q : TabOk Try.prog Γo:=tab_of (by kernel_rfl)
theorem drawso {w0 : World} {Δ : List (Nat × Con)} (h : DelOk Try.prog w0 Δ) {w : World} (hb : Go.RowKit.Below w0.heap.size w0 w) : DrawSound Try.prog w Γo Δ:=draws_of y71q h (by kernel_rfl) hb
theorem draws {w0 : World} {Δ : List (Nat × Con)} (h : DelOk Try.prog w0 Δ) {w : World} (hb : Go.RowKit.Below w0.heap.size w0 w) : DrawSound Try.prog w Γ Δ:=draws_of y28q h (by kernel_rfl) hb
abbrev X96_v_0 : Ty:=.osl 5 T5
def a_u51f : Ann:=⟨[(0,[.val 0 T9, .val 3 T3],⟨[],false⟩)],[]⟩
noncomputable def d_u51f : List (Nat × Con):=[]
noncomputable def u51f (k : Nat) (a : T9.den) : Option (den1 [T4]):=evFn Γ d_u51f a_u51f Try.f80 [.val T9] [T4] k (a,())
noncomputable def u51f_l0 (k : Nat) (v0 : T9.den) (v3 : T3.den) : Option ((Items.den []) ⊕ (den1 [T4])):=loopR (ρ:=(den1 [T4])) 0 [.val 0 T9, .val 3 T3] [] (runOf Γ d_u51f a_u51f Try.f80 [.val T9] [T4] 0) k (v0,v3)
theorem u51f_eq (k : Nat) (a : T9.den) : u51f k a = bnd (u51f_l0 k a 0) (fun y1=>onSum y1 (fun y2=>some true) (fun y2=>some y2)):=by kernel_rfl
theorem u51f_l0_zero (v0 : T9.den) (v3 : T3.den) : u51f_l0 0 v0 v3 = none:=by kernel_rfl
theorem u51f_l0_succ (k : Nat) (v0 : T9.den) (v3 : T3.den) : u51f_l0 (k + 1) v0 v3 = br (decide (v3 < (List.length v0 : Int))) (br (decide (0 ≤ v3)) (br (decide (v3 < (List.length v0 : Int))) (br (decide ((↑(List.getD v0 (Int.toNat v3) 0).toNat : Int) < 32)) (some (Sum.inr false)) (br (decide (0 ≤ v3)) (br (decide (v3 < (List.length v0 : Int))) (br (decide ((↑(List.getD v0 (Int.toNat v3) 0).toNat : Int) > 126)) (some (Sum.inr false)) (u51f_l0 k v0 (IntKind.i64.wrap (v3 + 1)))) (none)) (none))) (none)) (none)) (some (Sum.inl ())):=by kernel_rfl
noncomputable def c_u51f : Con:=⟨[.val T9],[T4],fun k x=>u51f k x.1⟩
theorem del_u51f {w0 : World} (hS : Stops w0) : DelOk Try.prog w0 d_u51f:=.nil
theorem ok_u51f {w0 : World} (hS : Stops w0) : Keeps Try.prog w0 80 c_u51f:=.con (y9q (A:=a_u51f) y28q (del_u51f hS) (draws (del_u51f hS)) Try.func80 (by kernel_rfl) (fun k x=>by kernel_rfl) (by kernel_rfl)) (by kernel_rfl)
theorem ent_u51f : Enters' Try.prog 80:=enters' Try.func80 (by kernel_rfl)
attribute [irreducible] u51f u51f_l0
def a_u52f : Ann:=⟨[],[]⟩
noncomputable def d_u52f : List (Nat × Con):=[(80,c_u51f)]
noncomputable def u52f (k : Nat) (a : T52.den) : Option (den1 [T4]):=evFn Γ d_u52f a_u52f Try.f61 [.val T52] [T4] k (a,())
theorem u52f_eq (k : Nat) (a : T52.den) : u52f k a = br (a.1 == 0) (some (andB (eqI a.1 a.1) (andB (eqI a.2.1 0) (andB (eqI a.2.2.1 0) (andB (eqS a.2.2.2.1 []) true))))) (br (a.1 == 1) (br (decide (a.2.1 < 0)) (some false) (br (decide (a.2.1 > 1)) (some false) (some (andB (eqI a.1 a.1) (andB (eqI 0 0) (andB (eqI a.2.2.1 0) (andB (eqS a.2.2.2.1 []) true))))))) (br (a.1 == 2) (br (decide (a.2.1 < -1000000000000000)) (some false) (br (decide (a.2.1 > 1000000000000000)) (some false) (some (andB (eqI a.1 a.1) (andB (eqI 0 0) (andB (eqI a.2.2.1 0) (andB (eqS a.2.2.2.1 []) true))))))) (br (a.1 == 3) (br (decide (a.2.1 < -1000000000)) (some false) (br (decide (a.2.1 > 1000000000)) (some false) (br (decide (a.2.2.1 < 0)) (some false) (br (decide (a.2.2.1 > 6)) (some false) (br (decide (a.2.2.1 > 0)) (br (!10 == 0) (br (Int.tmod a.2.1 10 == 0) (some false) (some (andB (eqI a.1 a.1) (andB (eqI 0 0) (andB (eqI 0 0) (andB (eqS a.2.2.2.1 []) true)))))) (none)) (some (andB (eqI a.1 a.1) (andB (eqI 0 0) (andB (eqI 0 0) (andB (eqS a.2.2.2.1 []) true)))))))))) (br (a.1 == 4) (br (decide ((List.length a.2.2.2.1 : Int) > 200)) (some false) (bnd (u51f k a.2.2.2.1) (fun y1=>br (!y1) (some false) (some (andB (eqI a.1 a.1) (andB (eqI a.2.1 0) (andB (eqI a.2.2.1 0) (andB (eqS [] []) true)))))))) (br (a.1 == 5) (br (decide (a.2.1 < 0)) (some false) (br (decide (a.2.1 > 3652058)) (some false) (some (andB (eqI a.1 a.1) (andB (eqI 0 0) (andB (eqI a.2.2.1 0) (andB (eqS a.2.2.2.1 []) true))))))) (some false)))))):=by kernel_rfl
noncomputable def c_u52f : Con:=⟨[.val T52],[T4],fun k x=>u52f k x.1⟩
theorem del_u52f {w0 : World} (hS : Stops w0) : DelOk Try.prog w0 d_u52f:=.cons (ok_u51f hS) ent_u51f (.nil)
theorem ok_u52f {w0 : World} (hS : Stops w0) : Keeps Try.prog w0 61 c_u52f:=.con (y9q (A:=a_u52f) y28q (del_u52f hS) (draws (del_u52f hS)) Try.func61 (by kernel_rfl) (fun k x=>by kernel_rfl) (by kernel_rfl)) (by kernel_rfl)
theorem ent_u52f : Enters' Try.prog 61:=enters' Try.func61 (by kernel_rfl)
attribute [irreducible] u52f
def a_u48f : Ann:=⟨[(0,[.val 0 T3, .val 3 T3],⟨[.val 3 T3],true⟩)],[]⟩
noncomputable def d_u48f : List (Nat × Con):=[]
noncomputable def u48f (k : Nat) (a : T3.den) : Option (den1 [T3]):=evFn Γ d_u48f a_u48f Try.f56 [.val T3] [T3] k (a,())
noncomputable def u48f_l0 (k : Nat) (v0 : T3.den) (v3 : T3.den) : Option (Items.den [.val 3 T3]):=loopQ (ρ:=(den1 [T3])) 0 [.val 0 T3, .val 3 T3] [.val 3 T3] (runOf Γ d_u48f a_u48f Try.f56 [.val T3] [T3] 0) k (v0,v3)
theorem u48f_eq (k : Nat) (a : T3.den) : u48f k a = bnd (u48f_l0 k a 1) (fun y1=>some y1):=by kernel_rfl
theorem u48f_l0_zero (v0 : T3.den) (v3 : T3.den) : u48f_l0 0 v0 v3 = none:=by kernel_rfl
theorem u48f_l0_succ (k : Nat) (v0 : T3.den) (v3 : T3.den) : u48f_l0 (k + 1) v0 v3 = br (decide (v0 > 0)) (u48f_l0 k (IntKind.i64.wrap (v0 - 1)) (IntKind.i64.wrap (v3 * 10))) (some v3):=by kernel_rfl
noncomputable def c_u48f : Con:=⟨[.val T3],[T3],fun k x=>u48f k x.1⟩
theorem del_u48f {w0 : World} (hS : Stops w0) : DelOk Try.prog w0 d_u48f:=.nil
theorem ok_u48f {w0 : World} (hS : Stops w0) : Keeps Try.prog w0 56 c_u48f:=.con (y9q (A:=a_u48f) y28q (del_u48f hS) (draws (del_u48f hS)) Try.func56 (by kernel_rfl) (fun k x=>by kernel_rfl) (by kernel_rfl)) (by kernel_rfl)
theorem ent_u48f : Enters' Try.prog 56:=enters' Try.func56 (by kernel_rfl)
attribute [irreducible] u48f u48f_l0
def a_u72f : Ann:=⟨[(0,[.val 0 T3, .val 5 X96_v_0, .val 6 T3],⟨[.val 5 X96_v_0],true⟩)],[]⟩
noncomputable def d_u72f : List (Nat × Con):=[]
noncomputable def u72f (k : Nat) (a : T3.den) (b : T3.den) : Option (den1 [T9]):=evFn Γ d_u72f a_u72f Try.f78 [.val T3, .val T3] [T9] k (a,b,())
noncomputable def u72f_l0 (k : Nat) (v0 : T3.den) (v5 : X96_v_0.den) (v6 : T3.den) : Option (Items.den [.val 5 X96_v_0]):=loopQ (ρ:=(den1 [T9])) 0 [.val 0 T3, .val 5 X96_v_0, .val 6 T3] [.val 5 X96_v_0] (runOf Γ d_u72f a_u72f Try.f78 [.val T3, .val T3] [T9] 0) k (v0,v5,v6)
theorem u72f_eq (k : Nat) (a : T3.den) (b : T3.den) : u72f k a b = br (b == b) (br (decide (0 ≤ b)) (br (decide (b ≤ (↑capN : Int))) (bnd (u72f_l0 k a (List.replicate (Int.toNat b) (Ty.int IntKind.u8).zero) (IntKind.i64.wrap (b - 1))) (fun y1=>some (List.map (fun n=>UInt8.ofNat n.toNat) y1))) (none)) (none)) (none):=by kernel_rfl
theorem u72f_l0_zero (v0 : T3.den) (v5 : X96_v_0.den) (v6 : T3.den) : u72f_l0 0 v0 v5 v6 = none:=by kernel_rfl
theorem u72f_l0_succ (k : Nat) (v0 : T3.den) (v5 : X96_v_0.den) (v6 : T3.den) : u72f_l0 (k + 1) v0 v5 v6 = br (decide (v6 ≥ 0)) (br (decide (0 ≤ v6)) (br (decide (v6 < (List.length v5 : Int))) (br (decide (0 ≤ 8)) (u72f_l0 k (Int.fdiv v0 (2 ^ min (Int.toNat 8) IntKind.i64.bits)) (List.set v5 (Int.toNat v6) (IntKind.u8.wrap v0)) (IntKind.i64.wrap (v6 - 1))) (none)) (none)) (none)) (some v5):=by kernel_rfl
noncomputable def c_u72f : Con:=⟨[.val T3, .val T3],[T9],fun k x=>u72f k x.1 x.2.1⟩
theorem del_u72f {w0 : World} (hS : Stops w0) : DelOk Try.prog w0 d_u72f:=.nil
theorem ok_u72f {w0 : World} (hS : Stops w0) : Keeps Try.prog w0 78 c_u72f:=.con (y9q (A:=a_u72f) y28q (del_u72f hS) (draws (del_u72f hS)) Try.func78 (by kernel_rfl) (fun k x=>by kernel_rfl) (by kernel_rfl)) (by kernel_rfl)
theorem ent_u72f : Enters' Try.prog 78:=enters' Try.func78 (by kernel_rfl)
attribute [irreducible] u72f u72f_l0
end Go.Ev.T2
