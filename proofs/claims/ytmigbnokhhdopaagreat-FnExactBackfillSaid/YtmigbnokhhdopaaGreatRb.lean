import Derived.Test.YtmigbnokhhdopaaGreatRbTab5
import Derived.Test.YtmigbnokhhdopaaGreatRbEvG
import Derived.Lib.IndexMore
import Derived.Test.YtmigbnokhhdopaaGreatRbKbDef
import Derived.Lib.Bytealg
set_option linter.unusedVariables false
namespace Go.Ev.T1
noncomputable section
open Go.Proofs Go
set_option maxRecDepth 100000
def strings_IndexByte (k : Nat) (a : List UInt8) (b : Int) : Option Int:=some (Go.Lib.indexByte a b.toNat.toUInt8)
def c_strings_IndexByte : Con:=⟨[.val T9, .val T5],[T3],fun k x=>strings_IndexByte k x.1 x.2.1⟩
def strings_Contains (k : Nat) (a b : List UInt8) : Option Bool:=chk (Nat.blt a.length 4294967281) (some (Go.Lib.contains a b))
def c_strings_Contains : Con:=⟨[.val T9, .val T9],[T4],fun k x=>strings_Contains k x.1 x.2.1⟩
def u0f (k : Nat) (a : T47.den) : Option (List UInt8 × Int):=chk (a.all fun v=>Nat.ble v.2.2.2.1.length 1048576) (some (KB a))
def c_u0f : Con:=⟨[.val T47],[T9,T3],fun k x=>u0f k x.1⟩
structure Stops (w0 : World) : Prop where
 strings_IndexByte : Keeps Tryz.prog w0 105 c_strings_IndexByte ∧ Enters' Tryz.prog 105
 strings_Contains : Keeps Tryz.prog w0 97 c_strings_Contains ∧ Enters' Tryz.prog 97
 u0f : Keeps Tryz.prog w0 106 c_u0f ∧ Enters' Tryz.prog 106
theorem y24q : TabOk Tryz.prog Γ:=tab_of (by kernel_rfl)
theorem y55q : TabOk Tryz.prog Γo:=tab_of (by kernel_rfl)
theorem drawso {w0 : World} {Δ : List (Nat × Con)} (h : DelOk Tryz.prog w0 Δ) {w : World} (hb : Go.RowKit.Below w0.heap.size w0 w) : DrawSound Tryz.prog w Γo Δ:=draws_of y55q h (by kernel_rfl) hb
theorem draws {w0 : World} {Δ : List (Nat × Con)} (h : DelOk Tryz.prog w0 Δ) {w : World} (hb : Go.RowKit.Below w0.heap.size w0 w) : DrawSound Tryz.prog w Γ Δ:=draws_of y24q h (by kernel_rfl) hb
abbrev X117_v_0 : Ty:=.osl 5 T5
def a_u1f : Ann:=⟨[],[]⟩
def d_u1f : List (Nat × Con):=[]
def u1f (k : Nat) (a : T98.den) (b : T3.den) : Option (den1 [T3]):=evFn Γ d_u1f a_u1f Tryz.f62 [.val T98, .val T3] [T3] k (a,b,())
theorem u1f_eq (k : Nat) (a : T98.den) (b : T3.den) : u1f k a b = br (decide (IntKind.i64.wrap (b - (List.length a.2.1 : Int)) < 0)) (some (-1)) (some (IntKind.i64.wrap (b - (List.length a.2.1 : Int)))):=by kernel_rfl
def c_u1f : Con:=⟨[.val T98, .val T3],[T3],fun k x=>u1f k x.1 x.2.1⟩
theorem del_u1f {w0 : World} (hS : Stops w0) : DelOk Tryz.prog w0 d_u1f:=.nil
theorem ok_u1f {w0 : World} (hS : Stops w0) : Keeps Tryz.prog w0 62 c_u1f:=.con (y9q (A:=a_u1f) y24q (del_u1f hS) (draws (del_u1f hS)) Tryz.func62 (by kernel_rfl) (fun k x=>by kernel_rfl) (by kernel_rfl)) (by kernel_rfl)
theorem ent_u1f : Enters' Tryz.prog 62:=enters' Tryz.func62 (by kernel_rfl)
attribute [irreducible] u1f
def a_u2f : Ann:=⟨[(0,[.val 0 T22, .val 1 T3, .val 5 T3],⟨[.val 1 T3],false⟩)],[]⟩
def d_u2f : List (Nat × Con):=[(62,c_u1f)]
def u2f (k : Nat) (a : T22.den) (b : T3.den) : Option (den1 [T3]):=evFn Γ d_u2f a_u2f Tryz.f28 [.val T22, .val T3] [T3] k (a,b,())
def u2f_l0 (k : Nat) (v0 : T22.den) (v1 : T3.den) (v5 : T3.den) : Option ((Items.den [.val 1 T3]) ⊕ (den1 [T3])):=loopR (ρ:=(den1 [T3])) 0 [.val 0 T22, .val 1 T3, .val 5 T3] [.val 1 T3] (runOf Γ d_u2f a_u2f Tryz.f28 [.val T22, .val T3] [T3] 0) k (v0,v1,v5)
theorem u2f_eq (k : Nat) (a : T22.den) (b : T3.den) : u2f k a b = br (decide (IntKind.i64.wrap (b - (List.length a : Int)) < 0)) (some (-1)) (bnd (u2f_l0 k a (IntKind.i64.wrap (b - (List.length a : Int))) 0) (fun y1=>onSum y1 (fun y2=>some y2) (fun y2=>some y2))):=by kernel_rfl
theorem u2f_l0_zero (v0 : T22.den) (v1 : T3.den) (v5 : T3.den) : u2f_l0 0 v0 v1 v5 = none:=by kernel_rfl
theorem u2f_l0_succ (k : Nat) (v0 : T22.den) (v1 : T3.den) (v5 : T3.den) : u2f_l0 (k + 1) v0 v1 v5 = br (decide (v5 < (List.length v0 : Int))) (br (decide (0 ≤ v5)) (br (decide (v5 < (List.length v0 : Int))) (bnd (u1f k (List.getD v0 (Int.toNat v5) T98.zero) v1) (fun y1=>br (decide (y1 < 0)) (some (Sum.inr (-1))) (u2f_l0 k v0 y1 (IntKind.i64.wrap (v5 + 1))))) (none)) (none)) (some (Sum.inl v1)):=by kernel_rfl
def c_u2f : Con:=⟨[.val T22, .val T3],[T3],fun k x=>u2f k x.1 x.2.1⟩
theorem del_u2f {w0 : World} (hS : Stops w0) : DelOk Tryz.prog w0 d_u2f:=.cons (ok_u1f hS) ent_u1f (.nil)
theorem ok_u2f {w0 : World} (hS : Stops w0) : Keeps Tryz.prog w0 28 c_u2f:=.con (y9q (A:=a_u2f) y24q (del_u2f hS) (draws (del_u2f hS)) Tryz.func28 (by kernel_rfl) (fun k x=>by kernel_rfl) (by kernel_rfl)) (by kernel_rfl)
theorem ent_u2f : Enters' Tryz.prog 28:=enters' Tryz.func28 (by kernel_rfl)
attribute [irreducible] u2f u2f_l0
def a_u3f : Ann:=⟨[],[]⟩
def d_u3f : List (Nat × Con):=[]
def u3f (k : Nat) (a : T23.den) (b : T3.den) : Option (den1 [T3]):=evFn Γ d_u3f a_u3f Tryz.f29 [.val T23, .val T3] [T3] k (a,b,())
theorem u3f_eq (k : Nat) (a : T23.den) (b : T3.den) : u3f k a b = br (decide (IntKind.i64.wrap (b - (List.length a : Int)) < 0)) (some (-1)) (some (IntKind.i64.wrap (b - (List.length a : Int)))):=by kernel_rfl
def c_u3f : Con:=⟨[.val T23, .val T3],[T3],fun k x=>u3f k x.1 x.2.1⟩
theorem del_u3f {w0 : World} (hS : Stops w0) : DelOk Tryz.prog w0 d_u3f:=.nil
theorem ok_u3f {w0 : World} (hS : Stops w0) : Keeps Tryz.prog w0 29 c_u3f:=.con (y9q (A:=a_u3f) y24q (del_u3f hS) (draws (del_u3f hS)) Tryz.func29 (by kernel_rfl) (fun k x=>by kernel_rfl) (by kernel_rfl)) (by kernel_rfl)
theorem ent_u3f : Enters' Tryz.prog 29:=enters' Tryz.func29 (by kernel_rfl)
attribute [irreducible] u3f
def a_u4f : Ann:=⟨[],[]⟩
def d_u4f : List (Nat × Con):=[(29,c_u3f)]
def u4f (k : Nat) (a : T100.den) (b : T3.den) : Option (den1 [T3]):=evFn Γ d_u4f a_u4f Tryz.f63 [.val T100, .val T3] [T3] k (a,b,())
theorem u4f_eq (k : Nat) (a : T100.den) (b : T3.den) : u4f k a b = br (decide (IntKind.i64.wrap (b - (List.length a.2.1 : Int)) < 0)) (some (-1)) (bnd (u3f k a.2.2.1 (IntKind.i64.wrap (b - (List.length a.2.1 : Int)))) (fun y1=>br (decide (y1 < 0)) (some (-1)) (some y1))):=by kernel_rfl
def c_u4f : Con:=⟨[.val T100, .val T3],[T3],fun k x=>u4f k x.1 x.2.1⟩
theorem del_u4f {w0 : World} (hS : Stops w0) : DelOk Tryz.prog w0 d_u4f:=.cons (ok_u3f hS) ent_u3f (.nil)
theorem ok_u4f {w0 : World} (hS : Stops w0) : Keeps Tryz.prog w0 63 c_u4f:=.con (y9q (A:=a_u4f) y24q (del_u4f hS) (draws (del_u4f hS)) Tryz.func63 (by kernel_rfl) (fun k x=>by kernel_rfl) (by kernel_rfl)) (by kernel_rfl)
theorem ent_u4f : Enters' Tryz.prog 63:=enters' Tryz.func63 (by kernel_rfl)
attribute [irreducible] u4f
def a_u5f : Ann:=⟨[(0,[.val 0 T24, .val 1 T3, .val 5 T3],⟨[.val 1 T3],false⟩)],[]⟩
def d_u5f : List (Nat × Con):=[(63,c_u4f)]
def u5f (k : Nat) (a : T24.den) (b : T3.den) : Option (den1 [T3]):=evFn Γ d_u5f a_u5f Tryz.f30 [.val T24, .val T3] [T3] k (a,b,())
def u5f_l0 (k : Nat) (v0 : T24.den) (v1 : T3.den) (v5 : T3.den) : Option ((Items.den [.val 1 T3]) ⊕ (den1 [T3])):=loopR (ρ:=(den1 [T3])) 0 [.val 0 T24, .val 1 T3, .val 5 T3] [.val 1 T3] (runOf Γ d_u5f a_u5f Tryz.f30 [.val T24, .val T3] [T3] 0) k (v0,v1,v5)
theorem u5f_eq (k : Nat) (a : T24.den) (b : T3.den) : u5f k a b = br (decide (IntKind.i64.wrap (b - (List.length a : Int)) < 0)) (some (-1)) (bnd (u5f_l0 k a (IntKind.i64.wrap (b - (List.length a : Int))) 0) (fun y1=>onSum y1 (fun y2=>some y2) (fun y2=>some y2))):=by kernel_rfl
theorem u5f_l0_zero (v0 : T24.den) (v1 : T3.den) (v5 : T3.den) : u5f_l0 0 v0 v1 v5 = none:=by kernel_rfl
theorem u5f_l0_succ (k : Nat) (v0 : T24.den) (v1 : T3.den) (v5 : T3.den) : u5f_l0 (k + 1) v0 v1 v5 = br (decide (v5 < (List.length v0 : Int))) (br (decide (0 ≤ v5)) (br (decide (v5 < (List.length v0 : Int))) (bnd (u4f k (List.getD v0 (Int.toNat v5) T100.zero) v1) (fun y1=>br (decide (y1 < 0)) (some (Sum.inr (-1))) (u5f_l0 k v0 y1 (IntKind.i64.wrap (v5 + 1))))) (none)) (none)) (some (Sum.inl v1)):=by kernel_rfl
def c_u5f : Con:=⟨[.val T24, .val T3],[T3],fun k x=>u5f k x.1 x.2.1⟩
theorem del_u5f {w0 : World} (hS : Stops w0) : DelOk Tryz.prog w0 d_u5f:=.cons (ok_u4f hS) ent_u4f (.nil)
theorem ok_u5f {w0 : World} (hS : Stops w0) : Keeps Tryz.prog w0 30 c_u5f:=.con (y9q (A:=a_u5f) y24q (del_u5f hS) (draws (del_u5f hS)) Tryz.func30 (by kernel_rfl) (fun k x=>by kernel_rfl) (by kernel_rfl)) (by kernel_rfl)
theorem ent_u5f : Enters' Tryz.prog 30:=enters' Tryz.func30 (by kernel_rfl)
attribute [irreducible] u5f u5f_l0
def a_u6f : Ann:=⟨[],[]⟩
def d_u6f : List (Nat × Con):=[(28,c_u2f),(29,c_u3f),(30,c_u5f)]
def u6f (k : Nat) (a : T26.den) (b : T3.den) : Option (den1 [T3]):=evFn Γ d_u6f a_u6f Tryz.f6 [.val T26, .val T3] [T3] k (a,b,())
theorem u6f_eq (k : Nat) (a : T26.den) (b : T3.den) : u6f k a b = br (decide (IntKind.i64.wrap (b - (List.length a.2.1 : Int)) < 0)) (some (-1)) (bnd (u2f k a.2.2.2.1 (IntKind.i64.wrap (b - (List.length a.2.1 : Int)))) (fun y1=>br (decide (y1 < 0)) (some (-1)) (bnd (u3f k a.2.2.2.2.1 y1) (fun y2=>br (decide (y2 < 0)) (some (-1)) (bnd (u5f k a.2.2.2.2.2.1 y2) (fun y3=>br (decide (y3 < 0)) (some (-1)) (some y3))))))):=by kernel_rfl
def c_u6f : Con:=⟨[.val T26, .val T3],[T3],fun k x=>u6f k x.1 x.2.1⟩
theorem del_u6f {w0 : World} (hS : Stops w0) : DelOk Tryz.prog w0 d_u6f:=.cons (ok_u2f hS) ent_u2f (.cons (ok_u3f hS) ent_u3f (.cons (ok_u5f hS) ent_u5f (.nil)))
theorem ok_u6f {w0 : World} (hS : Stops w0) : Keeps Tryz.prog w0 6 c_u6f:=.con (y9q (A:=a_u6f) y24q (del_u6f hS) (draws (del_u6f hS)) Tryz.func6 (by kernel_rfl) (fun k x=>by kernel_rfl) (by kernel_rfl)) (by kernel_rfl)
theorem ent_u6f : Enters' Tryz.prog 6:=enters' Tryz.func6 (by kernel_rfl)
attribute [irreducible] u6f
def a_u7f : Ann:=⟨[],[]⟩
def d_u7f : List (Nat × Con):=[]
def u7f (k : Nat) (a : T63.den) (b : T3.den) : Option (den1 [T3]):=evFn Γ d_u7f a_u7f Tryz.f31 [.val T63, .val T3] [T3] k (a,b,())
theorem u7f_eq (k : Nat) (a : T63.den) (b : T3.den) : u7f k a b = br (decide (IntKind.i64.wrap (b - (List.length a.1 : Int)) < 0)) (some (-1)) (br (decide (IntKind.i64.wrap (IntKind.i64.wrap (b - (List.length a.1 : Int)) - (List.length a.2.1 : Int)) < 0)) (some (-1)) (some (IntKind.i64.wrap (IntKind.i64.wrap (b - (List.length a.1 : Int)) - (List.length a.2.1 : Int))))):=by kernel_rfl
def c_u7f : Con:=⟨[.val T63, .val T3],[T3],fun k x=>u7f k x.1 x.2.1⟩
theorem del_u7f {w0 : World} (hS : Stops w0) : DelOk Tryz.prog w0 d_u7f:=.nil
theorem ok_u7f {w0 : World} (hS : Stops w0) : Keeps Tryz.prog w0 31 c_u7f:=.con (y9q (A:=a_u7f) y24q (del_u7f hS) (draws (del_u7f hS)) Tryz.func31 (by kernel_rfl) (fun k x=>by kernel_rfl) (by kernel_rfl)) (by kernel_rfl)
theorem ent_u7f : Enters' Tryz.prog 31:=enters' Tryz.func31 (by kernel_rfl)
attribute [irreducible] u7f
def a_u8f : Ann:=⟨[(0,[.val 0 T27, .val 1 T3, .val 5 T3],⟨[.val 1 T3],false⟩)],[]⟩
def d_u8f : List (Nat × Con):=[(31,c_u7f)]
def u8f (k : Nat) (a : T27.den) (b : T3.den) : Option (den1 [T3]):=evFn Γ d_u8f a_u8f Tryz.f7 [.val T27, .val T3] [T3] k (a,b,())
def u8f_l0 (k : Nat) (v0 : T27.den) (v1 : T3.den) (v5 : T3.den) : Option ((Items.den [.val 1 T3]) ⊕ (den1 [T3])):=loopR (ρ:=(den1 [T3])) 0 [.val 0 T27, .val 1 T3, .val 5 T3] [.val 1 T3] (runOf Γ d_u8f a_u8f Tryz.f7 [.val T27, .val T3] [T3] 0) k (v0,v1,v5)
theorem u8f_eq (k : Nat) (a : T27.den) (b : T3.den) : u8f k a b = br (decide (IntKind.i64.wrap (b - (List.length a : Int)) < 0)) (some (-1)) (bnd (u8f_l0 k a (IntKind.i64.wrap (b - (List.length a : Int))) 0) (fun y1=>onSum y1 (fun y2=>some y2) (fun y2=>some y2))):=by kernel_rfl
theorem u8f_l0_zero (v0 : T27.den) (v1 : T3.den) (v5 : T3.den) : u8f_l0 0 v0 v1 v5 = none:=by kernel_rfl
theorem u8f_l0_succ (k : Nat) (v0 : T27.den) (v1 : T3.den) (v5 : T3.den) : u8f_l0 (k + 1) v0 v1 v5 = br (decide (v5 < (List.length v0 : Int))) (br (decide (0 ≤ v5)) (br (decide (v5 < (List.length v0 : Int))) (bnd (u7f k (List.getD v0 (Int.toNat v5) T63.zero) v1) (fun y1=>br (decide (y1 < 0)) (some (Sum.inr (-1))) (u8f_l0 k v0 y1 (IntKind.i64.wrap (v5 + 1))))) (none)) (none)) (some (Sum.inl v1)):=by kernel_rfl
def c_u8f : Con:=⟨[.val T27, .val T3],[T3],fun k x=>u8f k x.1 x.2.1⟩
theorem del_u8f {w0 : World} (hS : Stops w0) : DelOk Tryz.prog w0 d_u8f:=.cons (ok_u7f hS) ent_u7f (.nil)
theorem ok_u8f {w0 : World} (hS : Stops w0) : Keeps Tryz.prog w0 7 c_u8f:=.con (y9q (A:=a_u8f) y24q (del_u8f hS) (draws (del_u8f hS)) Tryz.func7 (by kernel_rfl) (fun k x=>by kernel_rfl) (by kernel_rfl)) (by kernel_rfl)
theorem ent_u8f : Enters' Tryz.prog 7:=enters' Tryz.func7 (by kernel_rfl)
attribute [irreducible] u8f u8f_l0
def a_u9f : Ann:=⟨[],[]⟩
def d_u9f : List (Nat × Con):=[]
def u9f (k : Nat) (a : T5.den) : Option (den1 [T4]):=evFn Γ d_u9f a_u9f Tryz.f111 [.val T5] [T4] k (a,())
theorem u9f_eq (k : Nat) (a : T5.den) : u9f k a = br (decide (a ≥ 97)) (br (decide (a ≤ 122)) (some true) (some (a == 95))) (some (a == 95)):=by kernel_rfl
def c_u9f : Con:=⟨[.val T5],[T4],fun k x=>u9f k x.1⟩
theorem del_u9f {w0 : World} (hS : Stops w0) : DelOk Tryz.prog w0 d_u9f:=.nil
theorem ok_u9f {w0 : World} (hS : Stops w0) : Keeps Tryz.prog w0 111 c_u9f:=.con (y9q (A:=a_u9f) y24q (del_u9f hS) (draws (del_u9f hS)) Tryz.func111 (by kernel_rfl) (fun k x=>by kernel_rfl) (by kernel_rfl)) (by kernel_rfl)
theorem ent_u9f : Enters' Tryz.prog 111:=enters' Tryz.func111 (by kernel_rfl)
attribute [irreducible] u9f
def a_u10f : Ann:=⟨[],[]⟩
def d_u10f : List (Nat × Con):=[]
def u10f (k : Nat) (a : T5.den) : Option (den1 [T4]):=evFn Γ d_u10f a_u10f Tryz.f112 [.val T5] [T4] k (a,())
theorem u10f_eq (k : Nat) (a : T5.den) : u10f k a = br (decide (a ≥ 48)) (some (decide (a ≤ 57))) (some false):=by kernel_rfl
def c_u10f : Con:=⟨[.val T5],[T4],fun k x=>u10f k x.1⟩
theorem del_u10f {w0 : World} (hS : Stops w0) : DelOk Tryz.prog w0 d_u10f:=.nil
theorem ok_u10f {w0 : World} (hS : Stops w0) : Keeps Tryz.prog w0 112 c_u10f:=.con (y9q (A:=a_u10f) y24q (del_u10f hS) (draws (del_u10f hS)) Tryz.func112 (by kernel_rfl) (fun k x=>by kernel_rfl) (by kernel_rfl)) (by kernel_rfl)
theorem ent_u10f : Enters' Tryz.prog 112:=enters' Tryz.func112 (by kernel_rfl)
attribute [irreducible] u10f
def a_u11f : Ann:=⟨[(0,[.val 0 T9, .val 3 T3],⟨[.val 0 T9],false⟩)],[]⟩
def d_u11f : List (Nat × Con):=[(111,c_u9f),(112,c_u10f)]
def u11f (k : Nat) (a : T9.den) : Option (den1 [T4]):=evFn Γ d_u11f a_u11f Tryz.f91 [.val T9] [T4] k (a,())
def u11f_l0 (k : Nat) (v0 : T9.den) (v3 : T3.den) : Option ((Items.den [.val 0 T9]) ⊕ (den1 [T4])):=loopR (ρ:=(den1 [T4])) 0 [.val 0 T9, .val 3 T3] [.val 0 T9] (runOf Γ d_u11f a_u11f Tryz.f91 [.val T9] [T4] 0) k (v0,v3)
theorem u11f_eq (k : Nat) (a : T9.den) : u11f k a = bnd (u11f_l0 k a 0) (fun y1=>onSum y1 (fun y2=>br (decide ((List.length y2 : Int) > 0)) (some (decide ((List.length y2 : Int) ≤ 30))) (some false)) (fun y2=>some y2)):=by kernel_rfl
theorem u11f_l0_zero (v0 : T9.den) (v3 : T3.den) : u11f_l0 0 v0 v3 = none:=by kernel_rfl
theorem u11f_l0_succ (k : Nat) (v0 : T9.den) (v3 : T3.den) : u11f_l0 (k + 1) v0 v3 = br (decide (v3 < (List.length v0 : Int))) (br (decide (0 ≤ v3)) (br (decide (v3 < (List.length v0 : Int))) (bnd (u9f k (↑(List.getD v0 (Int.toNat v3) 0).toNat : Int)) (fun y1=>br (!y1) (br (decide (v3 > 0)) (br (decide (0 ≤ v3)) (br (decide (v3 < (List.length v0 : Int))) (bnd (u10f k (↑(List.getD v0 (Int.toNat v3) 0).toNat : Int)) (fun y2=>br (!y2) (some (Sum.inr false)) (u11f_l0 k v0 (IntKind.i64.wrap (v3 + 1))))) (none)) (none)) (br (!false) (some (Sum.inr false)) (u11f_l0 k v0 (IntKind.i64.wrap (v3 + 1))))) (u11f_l0 k v0 (IntKind.i64.wrap (v3 + 1))))) (none)) (none)) (some (Sum.inl v0)):=by kernel_rfl
def c_u11f : Con:=⟨[.val T9],[T4],fun k x=>u11f k x.1⟩
theorem del_u11f {w0 : World} (hS : Stops w0) : DelOk Tryz.prog w0 d_u11f:=.cons (ok_u9f hS) ent_u9f (.cons (ok_u10f hS) ent_u10f (.nil))
theorem ok_u11f {w0 : World} (hS : Stops w0) : Keeps Tryz.prog w0 91 c_u11f:=.con (y9q (A:=a_u11f) y24q (del_u11f hS) (draws (del_u11f hS)) Tryz.func91 (by kernel_rfl) (fun k x=>by kernel_rfl) (by kernel_rfl)) (by kernel_rfl)
theorem ent_u11f : Enters' Tryz.prog 91:=enters' Tryz.func91 (by kernel_rfl)
attribute [irreducible] u11f u11f_l0
def a_u12f : Ann:=⟨[],[]⟩
def d_u12f : List (Nat × Con):=[]
def u12f (k : Nat) (a : T9.den) : Option (den1 [T4]):=evFn Γ d_u12f a_u12f Tryz.f92 [.val T9] [T4] k (a,())
theorem u12f_eq (k : Nat) (a : T9.den) : u12f k a = br (a == [97,108,108]) (br (a == [97,108,108]) (some true) (some false)) (br (a == [97,110,100]) (br (a == [97,110,100]) (some true) (some false)) (br (a == [97,115]) (br (a == [97,115]) (some true) (some false)) (br (a == [97,115,99]) (br (a == [97,115,99]) (some true) (some false)) (br (a == [98,101,103,105,110]) (br (a == [98,101,103,105,110]) (some true) (some false)) (br (a == [98,101,116,119,101,101,110]) (br (a == [98,101,116,119,101,101,110]) (some true) (some false)) (br (a == [98,121]) (br (a == [98,121]) (some true) (some false)) (br (a == [99,97,115,101]) (br (a == [99,97,115,101]) (some true) (some false)) (br (a == [99,97,115,116]) (br (a == [99,97,115,116]) (some true) (some false)) (br (a == [99,111,109,109,105,116]) (br (a == [99,111,109,109,105,116]) (some true) (some false)) (br (a == [99,114,101,97,116,101]) (br (a == [99,114,101,97,116,101]) (some true) (some false)) (br (a == [99,114,111,115,115]) (br (a == [99,114,111,115,115]) (some true) (some false)) (br (a == [100,97,121]) (br (a == [100,97,121]) (some true) (some false)) (br (a == [100,101,108,101,116,101]) (br (a == [100,101,108,101,116,101]) (some true) (some false)) (br (a == [100,101,115,99]) (br (a == [100,101,115,99]) (some true) (some false)) (br (a == [100,105,115,116,105,110,99,116]) (br (a == [100,105,115,116,105,110,99,116]) (some true) (some false)) (br (a == [100,114,111,112]) (br (a == [100,114,111,112]) (some true) (some false)) (br (a == [101,108,115,101]) (br (a == [101,108,115,101]) (some true) (some false)) (br (a == [101,110,100]) (br (a == [101,110,100]) (some true) (some false)) (br (a == [101,120,99,101,112,116]) (br (a == [101,120,99,101,112,116]) (some true) (some false)) (br (a == [101,120,105,115,116,115]) (br (a == [101,120,105,115,116,115]) (some true) (some false)) (br (a == [101,120,112,108,97,105,110]) (br (a == [101,120,112,108,97,105,110]) (some true) (some false)) (br (a == [102,97,108,115,101]) (br (a == [102,97,108,115,101]) (some true) (some false)) (br (a == [102,114,111,109]) (br (a == [102,114,111,109]) (some true) (some false)) (br (a == [103,114,111,117,112]) (br (a == [103,114,111,117,112]) (some true) (some false)) (br (a == [104,97,118,105,110,103]) (br (a == [104,97,118,105,110,103]) (some true) (some false)) (br (a == [105,110]) (br (a == [105,110]) (some true) (some false)) (br (a == [105,110,100,101,120]) (br (a == [105,110,100,101,120]) (some true) (some false)) (br (a == [105,110,115,101,114,116]) (br (a == [105,110,115,101,114,116]) (some true) (some false)) (br (a == [105,110,116,101,114,115,101,99,116]) (br (a == [105,110,116,101,114,115,101,99,116]) (some true) (some false)) (br (a == [105,110,116,111]) (br (a == [105,110,116,111]) (some true) (some false)) (br (a == [105,115]) (br (a == [105,115]) (some true) (some false)) (br (a == [106,111,105,110]) (br (a == [106,111,105,110]) (some true) (some false)) (br (a == [107,101,121]) (br (a == [107,101,121]) (some true) (some false)) (br (a == [108,101,102,116]) (br (a == [108,101,102,116]) (some true) (some false)) (br (a == [108,105,109,105,116]) (br (a == [108,105,109,105,116]) (some true) (some false)) (br (a == [110,111,116]) (br (a == [110,111,116]) (some true) (some false)) (br (a == [110,117,108,108]) (br (a == [110,117,108,108]) (some true) (some false)) (br (a == [111,110]) (br (a == [111,110]) (some true) (some false)) (br (a == [111,114]) (br (a == [111,114]) (some true) (some false)) (br (a == [111,114,100,101,114]) (br (a == [111,114,100,101,114]) (some true) (some false)) (br (a == [111,118,101,114]) (br (a == [111,118,101,114]) (some true) (some false)) (br (a == [112,97,114,116,105,116,105,111,110]) (br (a == [112,97,114,116,105,116,105,111,110]) (some true) (some false)) (br (a == [112,114,105,109,97,114,121]) (br (a == [112,114,105,109,97,114,121]) (some true) (some false)) (br (a == [114,101,99,117,114,115,105,118,101]) (br (a == [114,101,99,117,114,115,105,118,101]) (some true) (some false)) (br (a == [114,111,108,108,98,97,99,107]) (br (a == [114,111,108,108,98,97,99,107]) (some true) (some false)) (br (a == [115,101,108,101,99,116]) (br (a == [115,101,108,101,99,116]) (some true) (some false)) (br (a == [115,101,116]) (br (a == [115,101,116]) (some true) (some false)) (br (a == [116,97,98,108,101]) (br (a == [116,97,98,108,101]) (some true) (some false)) (br (a == [116,104,101,110]) (br (a == [116,104,101,110]) (some true) (some false)) (br (a == [116,114,117,101]) (br (a == [116,114,117,101]) (some true) (some false)) (br (a == [117,110,105,111,110]) (br (a == [117,110,105,111,110]) (some true) (some false)) (br (a == [117,110,105,113,117,101]) (br (a == [117,110,105,113,117,101]) (some true) (some false)) (br (a == [117,112,100,97,116,101]) (br (a == [117,112,100,97,116,101]) (some true) (some false)) (br (a == [118,97,108,117,101,115]) (br (a == [118,97,108,117,101,115]) (some true) (some false)) (br (a == [118,105,101,119]) (br (a == [118,105,101,119]) (some true) (some false)) (br (a == [119,104,101,110]) (br (a == [119,104,101,110]) (some true) (some false)) (br (a == [119,104,101,114,101]) (br (a == [119,104,101,114,101]) (some true) (some false)) (br (a == [119,105,116,104]) (br (a == [119,105,116,104]) (some true) (some false)) (br (a == [97,108,116,101,114]) (br (a == [97,108,116,101,114]) (some true) (some false)) (br (a == [97,100,100]) (br (a == [97,100,100]) (some true) (some false)) (br (a == [99,111,108,117,109,110]) (br (a == [99,111,108,117,109,110]) (some true) (some false)) (br (a == [108,101,118,101,108]) (br (a == [108,101,118,101,108]) (some true) (some false)) (br (a == [115,101,114,105,97,108]) (br (a == [115,101,114,105,97,108]) (some true) (some false)) (br (a == [115,110,97,112,115,104,111,116]) (br (a == [115,110,97,112,115,104,111,116]) (some true) (some false)) (br (a == [108,97,116,101,115,116]) (some true) (some false)))))))))))))))))))))))))))))))))))))))))))))))))))))))))))))))))):=by kernel_rfl
def c_u12f : Con:=⟨[.val T9],[T4],fun k x=>u12f k x.1⟩
theorem del_u12f {w0 : World} (hS : Stops w0) : DelOk Tryz.prog w0 d_u12f:=.nil
theorem ok_u12f {w0 : World} (hS : Stops w0) : Keeps Tryz.prog w0 92 c_u12f:=.con (y9q (A:=a_u12f) y24q (del_u12f hS) (draws (del_u12f hS)) Tryz.func92 (by kernel_rfl) (fun k x=>by kernel_rfl) (by kernel_rfl)) (by kernel_rfl)
theorem ent_u12f : Enters' Tryz.prog 92:=enters' Tryz.func92 (by kernel_rfl)
attribute [irreducible] u12f
def a_u13f : Ann:=⟨[],[]⟩
def d_u13f : List (Nat × Con):=[(91,c_u11f),(92,c_u12f)]
def u13f (k : Nat) (a : T9.den) : Option (den1 [T4]):=evFn Γ d_u13f a_u13f Tryz.f64 [.val T9] [T4] k (a,())
theorem u13f_eq (k : Nat) (a : T9.den) : u13f k a = bnd (u11f k a) (fun y1=>br (y1) (bnd (u12f k a) (fun y2=>some (!y2))) (some false)):=by kernel_rfl
def c_u13f : Con:=⟨[.val T9],[T4],fun k x=>u13f k x.1⟩
theorem del_u13f {w0 : World} (hS : Stops w0) : DelOk Tryz.prog w0 d_u13f:=.cons (ok_u11f hS) ent_u11f (.cons (ok_u12f hS) ent_u12f (.nil))
theorem ok_u13f {w0 : World} (hS : Stops w0) : Keeps Tryz.prog w0 64 c_u13f:=.con (y9q (A:=a_u13f) y24q (del_u13f hS) (draws (del_u13f hS)) Tryz.func64 (by kernel_rfl) (fun k x=>by kernel_rfl) (by kernel_rfl)) (by kernel_rfl)
theorem ent_u13f : Enters' Tryz.prog 64:=enters' Tryz.func64 (by kernel_rfl)
attribute [irreducible] u13f
def a_u14f : Ann:=⟨[(0,[.val 1 T3, .var 2 T36, .val 5 T3],⟨[],false⟩)],[]⟩
def d_u14f : List (Nat × Con):=[]
def u14f (k : Nat) (a : T36.den) (b : T3.den) : Option (den1 [T3]):=evFn Γ d_u14f a_u14f Tryz.f65 [.val T36, .val T3] [T3] k (a,b,())
def u14f_l0 (k : Nat) (v1 : T3.den) (v2 : T36.den) (v5 : T3.den) : Option ((Items.den []) ⊕ (den1 [T3])):=loopR (ρ:=(den1 [T3])) 0 [.val 1 T3, .var 2 T36, .val 5 T3] [] (runOf Γ d_u14f a_u14f Tryz.f65 [.val T36, .val T3] [T3] 0) k (v1,v2,v5)
theorem u14f_eq (k : Nat) (a : T36.den) (b : T3.den) : u14f k a b = bnd (u14f_l0 k b a 0) (fun y1=>onSum y1 (fun y2=>some (-1)) (fun y2=>some y2)):=by kernel_rfl
theorem u14f_l0_zero (v1 : T3.den) (v2 : T36.den) (v5 : T3.den) : u14f_l0 0 v1 v2 v5 = none:=by kernel_rfl
theorem u14f_l0_succ (k : Nat) (v1 : T3.den) (v2 : T36.den) (v5 : T3.den) : u14f_l0 (k + 1) v1 v2 v5 = br (decide (v5 < (List.length v2.2.2.2.1 : Int))) (br (decide (0 ≤ v5)) (br (decide (v5 < (List.length v2.2.2.2.1 : Int))) (br ((List.getD v2.2.2.2.1 (Int.toNat v5) T102.zero).1 == v1) (some (Sum.inr v5)) (u14f_l0 k v1 v2 (IntKind.i64.wrap (v5 + 1)))) (none)) (none)) (some (Sum.inl ())):=by kernel_rfl
def c_u14f : Con:=⟨[.val T36, .val T3],[T3],fun k x=>u14f k x.1 x.2.1⟩
theorem del_u14f {w0 : World} (hS : Stops w0) : DelOk Tryz.prog w0 d_u14f:=.nil
theorem ok_u14f {w0 : World} (hS : Stops w0) : Keeps Tryz.prog w0 65 c_u14f:=.con (y9q (A:=a_u14f) y24q (del_u14f hS) (draws (del_u14f hS)) Tryz.func65 (by kernel_rfl) (fun k x=>by kernel_rfl) (by kernel_rfl)) (by kernel_rfl)
theorem ent_u14f : Enters' Tryz.prog 65:=enters' Tryz.func65 (by kernel_rfl)
attribute [irreducible] u14f u14f_l0
def a_u15f : Ann:=⟨[(0,[.val 1 T9, .var 2 T36, .val 5 T3],⟨[],false⟩)],[]⟩
def d_u15f : List (Nat × Con):=[]
def u15f (k : Nat) (a : T36.den) (b : T9.den) : Option (den1 [T3]):=evFn Γ d_u15f a_u15f Tryz.f66 [.val T36, .val T9] [T3] k (a,b,())
def u15f_l0 (k : Nat) (v1 : T9.den) (v2 : T36.den) (v5 : T3.den) : Option ((Items.den []) ⊕ (den1 [T3])):=loopR (ρ:=(den1 [T3])) 0 [.val 1 T9, .var 2 T36, .val 5 T3] [] (runOf Γ d_u15f a_u15f Tryz.f66 [.val T36, .val T9] [T3] 0) k (v1,v2,v5)
theorem u15f_eq (k : Nat) (a : T36.den) (b : T9.den) : u15f k a b = bnd (u15f_l0 k b a 0) (fun y1=>onSum y1 (fun y2=>some (-1)) (fun y2=>some y2)):=by kernel_rfl
theorem u15f_l0_zero (v1 : T9.den) (v2 : T36.den) (v5 : T3.den) : u15f_l0 0 v1 v2 v5 = none:=by kernel_rfl
theorem u15f_l0_succ (k : Nat) (v1 : T9.den) (v2 : T36.den) (v5 : T3.den) : u15f_l0 (k + 1) v1 v2 v5 = br (decide (v5 < (List.length v2.2.2.2.1 : Int))) (br (decide (0 ≤ v5)) (br (decide (v5 < (List.length v2.2.2.2.1 : Int))) (br ((List.getD v2.2.2.2.1 (Int.toNat v5) T102.zero).2.1 == v1) (some (Sum.inr v5)) (u15f_l0 k v1 v2 (IntKind.i64.wrap (v5 + 1)))) (none)) (none)) (some (Sum.inl ())):=by kernel_rfl
def c_u15f : Con:=⟨[.val T36, .val T9],[T3],fun k x=>u15f k x.1 x.2.1⟩
theorem del_u15f {w0 : World} (hS : Stops w0) : DelOk Tryz.prog w0 d_u15f:=.nil
theorem ok_u15f {w0 : World} (hS : Stops w0) : Keeps Tryz.prog w0 66 c_u15f:=.con (y9q (A:=a_u15f) y24q (del_u15f hS) (draws (del_u15f hS)) Tryz.func66 (by kernel_rfl) (fun k x=>by kernel_rfl) (by kernel_rfl)) (by kernel_rfl)
theorem ent_u15f : Enters' Tryz.prog 66:=enters' Tryz.func66 (by kernel_rfl)
attribute [irreducible] u15f u15f_l0
def a_u16f : Ann:=⟨[(0,[.val 0 T23, .val 1 T3, .val 5 T3],⟨[],false⟩)],[]⟩
def d_u16f : List (Nat × Con):=[]
def u16f (k : Nat) (a : T23.den) (b : T3.den) : Option (den1 [T4]):=evFn Γ d_u16f a_u16f Tryz.f113 [.val T23, .val T3] [T4] k (a,b,())
def u16f_l0 (k : Nat) (v0 : T23.den) (v1 : T3.den) (v5 : T3.den) : Option ((Items.den []) ⊕ (den1 [T4])):=loopR (ρ:=(den1 [T4])) 0 [.val 0 T23, .val 1 T3, .val 5 T3] [] (runOf Γ d_u16f a_u16f Tryz.f113 [.val T23, .val T3] [T4] 0) k (v0,v1,v5)
theorem u16f_eq (k : Nat) (a : T23.den) (b : T3.den) : u16f k a b = bnd (u16f_l0 k a b 0) (fun y1=>onSum y1 (fun y2=>some false) (fun y2=>some y2)):=by kernel_rfl
theorem u16f_l0_zero (v0 : T23.den) (v1 : T3.den) (v5 : T3.den) : u16f_l0 0 v0 v1 v5 = none:=by kernel_rfl
theorem u16f_l0_succ (k : Nat) (v0 : T23.den) (v1 : T3.den) (v5 : T3.den) : u16f_l0 (k + 1) v0 v1 v5 = br (decide (v5 < (List.length v0 : Int))) (br (decide (0 ≤ v5)) (br (decide (v5 < (List.length v0 : Int))) (br (List.getD v0 (Int.toNat v5) T3.zero == v1) (some (Sum.inr true)) (u16f_l0 k v0 v1 (IntKind.i64.wrap (v5 + 1)))) (none)) (none)) (some (Sum.inl ())):=by kernel_rfl
def c_u16f : Con:=⟨[.val T23, .val T3],[T4],fun k x=>u16f k x.1 x.2.1⟩
theorem del_u16f {w0 : World} (hS : Stops w0) : DelOk Tryz.prog w0 d_u16f:=.nil
theorem ok_u16f {w0 : World} (hS : Stops w0) : Keeps Tryz.prog w0 113 c_u16f:=.con (y9q (A:=a_u16f) y24q (del_u16f hS) (draws (del_u16f hS)) Tryz.func113 (by kernel_rfl) (fun k x=>by kernel_rfl) (by kernel_rfl)) (by kernel_rfl)
theorem ent_u16f : Enters' Tryz.prog 113:=enters' Tryz.func113 (by kernel_rfl)
attribute [irreducible] u16f u16f_l0
def a_u17f : Ann:=⟨[(0,[.val 0 T23, .val 3 T3],⟨[],false⟩)],[]⟩
def d_u17f : List (Nat × Con):=[(113,c_u16f)]
def u17f (k : Nat) (a : T23.den) : Option (den1 [T4]):=evFn Γ d_u17f a_u17f Tryz.f93 [.val T23] [T4] k (a,())
def u17f_l0 (k : Nat) (v0 : T23.den) (v3 : T3.den) : Option ((Items.den []) ⊕ (den1 [T4])):=loopR (ρ:=(den1 [T4])) 0 [.val 0 T23, .val 3 T3] [] (runOf Γ d_u17f a_u17f Tryz.f93 [.val T23] [T4] 0) k (v0,v3)
theorem u17f_eq (k : Nat) (a : T23.den) : u17f k a = bnd (u17f_l0 k a 0) (fun y1=>onSum y1 (fun y2=>some true) (fun y2=>some y2)):=by kernel_rfl
theorem u17f_l0_zero (v0 : T23.den) (v3 : T3.den) : u17f_l0 0 v0 v3 = none:=by kernel_rfl
theorem u17f_l0_succ (k : Nat) (v0 : T23.den) (v3 : T3.den) : u17f_l0 (k + 1) v0 v3 = br (decide (v3 < (List.length v0 : Int))) (br (decide (0 ≤ v3)) (br (decide (v3 ≤ (List.length v0 : Int))) (br (decide (0 ≤ v3)) (br (decide (v3 < (List.length v0 : Int))) (bnd (u16f k (List.take (Int.toNat v3) v0) (List.getD v0 (Int.toNat v3) T3.zero)) (fun y1=>br (y1) (some (Sum.inr false)) (u17f_l0 k v0 (IntKind.i64.wrap (v3 + 1))))) (none)) (none)) (none)) (none)) (some (Sum.inl ())):=by kernel_rfl
def c_u17f : Con:=⟨[.val T23],[T4],fun k x=>u17f k x.1⟩
theorem del_u17f {w0 : World} (hS : Stops w0) : DelOk Tryz.prog w0 d_u17f:=.cons (ok_u16f hS) ent_u16f (.nil)
theorem ok_u17f {w0 : World} (hS : Stops w0) : Keeps Tryz.prog w0 93 c_u17f:=.con (y9q (A:=a_u17f) y24q (del_u17f hS) (draws (del_u17f hS)) Tryz.func93 (by kernel_rfl) (fun k x=>by kernel_rfl) (by kernel_rfl)) (by kernel_rfl)
theorem ent_u17f : Enters' Tryz.prog 93:=enters' Tryz.func93 (by kernel_rfl)
attribute [irreducible] u17f u17f_l0
def a_u18f : Ann:=⟨[(0,[.val 1 T23, .val 2 T4, .var 3 T36, .val 7 T3],⟨[],false⟩)],[]⟩
def d_u18f : List (Nat × Con):=[(65,c_u14f),(93,c_u17f)]
def u18f (k : Nat) (a : T36.den) (b : T23.den) (c : T4.den) : Option (den1 [T4]):=evFn Γ d_u18f a_u18f Tryz.f67 [.val T36, .val T23, .val T4] [T4] k (a,b,c,())
def u18f_l0 (k : Nat) (v1 : T23.den) (v2 : T4.den) (v3 : T36.den) (v7 : T3.den) : Option ((Items.den []) ⊕ (den1 [T4])):=loopR (ρ:=(den1 [T4])) 0 [.val 1 T23, .val 2 T4, .var 3 T36, .val 7 T3] [] (runOf Γ d_u18f a_u18f Tryz.f67 [.val T36, .val T23, .val T4] [T4] 0) k (v1,v2,v3,v7)
theorem u18f_eq (k : Nat) (a : T36.den) (b : T23.den) (c : T4.den) : u18f k a b c = br ((List.length b : Int) == 0) (some false) (br (decide ((List.length b : Int) > 16)) (some false) (bnd (u17f k b) (fun y1=>br (!y1) (some false) (bnd (u18f_l0 k b c a 0) (fun y2=>onSum y2 (fun y3=>some true) (fun y3=>some y3)))))):=by kernel_rfl
theorem u18f_l0_zero (v1 : T23.den) (v2 : T4.den) (v3 : T36.den) (v7 : T3.den) : u18f_l0 0 v1 v2 v3 v7 = none:=by kernel_rfl
theorem u18f_l0_succ (k : Nat) (v1 : T23.den) (v2 : T4.den) (v3 : T36.den) (v7 : T3.den) : u18f_l0 (k + 1) v1 v2 v3 v7 = br (decide (v7 < (List.length v1 : Int))) (br (decide (0 ≤ v7)) (br (decide (v7 < (List.length v1 : Int))) (bnd (u14f k v3 (List.getD v1 (Int.toNat v7) T3.zero)) (fun y1=>br (decide (y1 < 0)) (some (Sum.inr false)) (br (v2) (br (decide (0 ≤ y1)) (br (decide (y1 < (List.length v3.2.2.2.1 : Int))) (br (!(List.getD v3.2.2.2.1 (Int.toNat y1) T102.zero).2.2.2.1) (some (Sum.inr false)) (u18f_l0 k v1 v2 v3 (IntKind.i64.wrap (v7 + 1)))) (none)) (none)) (u18f_l0 k v1 v2 v3 (IntKind.i64.wrap (v7 + 1)))))) (none)) (none)) (some (Sum.inl ())):=by kernel_rfl
def c_u18f : Con:=⟨[.val T36, .val T23, .val T4],[T4],fun k x=>u18f k x.1 x.2.1 x.2.2.1⟩
theorem del_u18f {w0 : World} (hS : Stops w0) : DelOk Tryz.prog w0 d_u18f:=.cons (ok_u14f hS) ent_u14f (.cons (ok_u17f hS) ent_u17f (.nil))
theorem ok_u18f {w0 : World} (hS : Stops w0) : Keeps Tryz.prog w0 67 c_u18f:=.con (y9q (A:=a_u18f) y24q (del_u18f hS) (draws (del_u18f hS)) Tryz.func67 (by kernel_rfl) (fun k x=>by kernel_rfl) (by kernel_rfl)) (by kernel_rfl)
theorem ent_u18f : Enters' Tryz.prog 67:=enters' Tryz.func67 (by kernel_rfl)
attribute [irreducible] u18f u18f_l0
def a_u19f : Ann:=⟨[(0,[.var 1 T36, .val 3 T3],⟨[.var 1 T36],false⟩),(2,[.var 1 T36, .val 5 T3],⟨[],false⟩),(4,[.var 1 T36, .val 5 T3, .var 6 T71, .val 7 T3],⟨[.var 1 T36, .val 5 T3],false⟩)],[]⟩
def d_u19f : List (Nat × Con):=[(64,c_u13f),(65,c_u14f),(66,c_u15f),(67,c_u18f)]
def u19f (k : Nat) (a : T36.den) : Option (den1 [T4]):=evFn Γ d_u19f a_u19f Tryz.f32 [.val T36] [T4] k (a,())
def u19f_l0 (k : Nat) (v1 : T36.den) (v3 : T3.den) : Option ((Items.den [.var 1 T36]) ⊕ (den1 [T4])):=loopR (ρ:=(den1 [T4])) 0 [.var 1 T36, .val 3 T3] [.var 1 T36] (runOf Γ d_u19f a_u19f Tryz.f32 [.val T36] [T4] 0) k (v1,v3)
def u19f_l2 (k : Nat) (v1 : T36.den) (v5 : T3.den) : Option ((Items.den []) ⊕ (den1 [T4])):=loopR (ρ:=(den1 [T4])) 2 [.var 1 T36, .val 5 T3] [] (runOf Γ d_u19f a_u19f Tryz.f32 [.val T36] [T4] 2) k (v1,v5)
def u19f_l4 (k : Nat) (v1 : T36.den) (v5 : T3.den) (v6 : T71.den) (v7 : T3.den) : Option ((Items.den [.var 1 T36, .val 5 T3]) ⊕ (den1 [T4])):=loopR (ρ:=(den1 [T4])) 4 [.var 1 T36, .val 5 T3, .var 6 T71, .val 7 T3] [.var 1 T36, .val 5 T3] (runOf Γ d_u19f a_u19f Tryz.f32 [.val T36] [T4] 4) k (v1,v5,v6,v7)
theorem u19f_eq (k : Nat) (a : T36.den) : u19f k a = br (decide (a.1 < 1)) (some false) (br (decide (a.1 > 40)) (some false) (bnd (u13f k a.2.1) (fun y1=>br (!y1) (some false) (br (decide (a.2.2.1 < 1)) (some false) (br (decide (a.2.2.1 > 1000000)) (some false) (br (decide ((List.length a.2.2.2.1 : Int) < 1)) (some false) (br (decide ((List.length a.2.2.2.1 : Int) > 14)) (some false) (br (decide ((List.length a.2.2.2.2.2.1 : Int) > 8)) (some false) (bnd (u19f_l0 k a 0) (fun y2=>onSum y2 (fun y3=>bnd (u18f k y3 y3.2.2.2.2.1 true) (fun y4=>br (!y4) (some false) (bnd (u19f_l2 k y3 0) (fun y5=>onSum y5 (fun y6=>some true) (fun y6=>some y6))))) (fun y3=>some y3))))))))))):=by kernel_rfl
theorem u19f_l0_zero (v1 : T36.den) (v3 : T3.den) : u19f_l0 0 v1 v3 = none:=by kernel_rfl
theorem u19f_l0_succ (k : Nat) (v1 : T36.den) (v3 : T3.den) : u19f_l0 (k + 1) v1 v3 = br (decide (v3 < (List.length v1.2.2.2.1 : Int))) (br (decide (0 ≤ v3)) (br (decide (v3 < (List.length v1.2.2.2.1 : Int))) (br (decide ((List.getD v1.2.2.2.1 (Int.toNat v3) T102.zero).1 < 1)) (some (Sum.inr false)) (br (decide ((List.getD v1.2.2.2.1 (Int.toNat v3) T102.zero).1 > 1000)) (some (Sum.inr false)) (bnd (u13f k (List.getD v1.2.2.2.1 (Int.toNat v3) T102.zero).2.1) (fun y1=>br (!y1) (some (Sum.inr false)) (br (decide ((List.getD v1.2.2.2.1 (Int.toNat v3) T102.zero).2.2.1 < 1)) (some (Sum.inr false)) (br (decide ((List.getD v1.2.2.2.1 (Int.toNat v3) T102.zero).2.2.1 > 5)) (some (Sum.inr false)) (bnd (u14f k v1 (List.getD v1.2.2.2.1 (Int.toNat v3) T102.zero).1) (fun y2=>br (y2 != v3) (some (Sum.inr false)) (bnd (u15f k v1 (List.getD v1.2.2.2.1 (Int.toNat v3) T102.zero).2.1) (fun y3=>br (y3 != v3) (some (Sum.inr false)) (u19f_l0 k v1 (IntKind.i64.wrap (v3 + 1))))))))))))) (none)) (none)) (some (Sum.inl v1)):=by kernel_rfl
theorem u19f_l2_zero (v1 : T36.den) (v5 : T3.den) : u19f_l2 0 v1 v5 = none:=by kernel_rfl
theorem u19f_l2_succ (k : Nat) (v1 : T36.den) (v5 : T3.den) : u19f_l2 (k + 1) v1 v5 = br (decide (v5 < (List.length v1.2.2.2.2.2.1 : Int))) (br (decide (0 ≤ v5)) (br (decide (v5 < (List.length v1.2.2.2.2.2.1 : Int))) (br (decide ((List.getD v1.2.2.2.2.2.1 (Int.toNat v5) T71.zero).1 < 1)) (some (Sum.inr false)) (br (decide ((List.getD v1.2.2.2.2.2.1 (Int.toNat v5) T71.zero).1 > 1000)) (some (Sum.inr false)) (bnd (u13f k (List.getD v1.2.2.2.2.2.1 (Int.toNat v5) T71.zero).2.1) (fun y1=>br (!y1) (some (Sum.inr false)) (br (decide ((List.getD v1.2.2.2.2.2.1 (Int.toNat v5) T71.zero).2.2.2.2.1 < 1)) (some (Sum.inr false)) (br (decide ((List.getD v1.2.2.2.2.2.1 (Int.toNat v5) T71.zero).2.2.2.2.1 > 3)) (some (Sum.inr false)) (bnd (u18f k v1 (List.getD v1.2.2.2.2.2.1 (Int.toNat v5) T71.zero).2.2.1 false) (fun y2=>br (!y2) (some (Sum.inr false)) (br (decide (IntKind.i64.wrap ((↑(List.length (List.getD v1.2.2.2.2.2.1 (Int.toNat v5) T71.zero).2.2.1) : Int) + (List.length v1.2.2.2.2.1 : Int)) > 14)) (some (Sum.inr false)) (bnd (u19f_l4 k v1 v5 (List.getD v1.2.2.2.2.2.1 (Int.toNat v5) T71.zero) 0) (fun y3=>onSum y3 (fun y4=>u19f_l2 k y4.1 (IntKind.i64.wrap (y4.2 + 1))) (fun y4=>some (Sum.inr y4))))))))))))) (none)) (none)) (some (Sum.inl ())):=by kernel_rfl
theorem u19f_l4_zero (v1 : T36.den) (v5 : T3.den) (v6 : T71.den) (v7 : T3.den) : u19f_l4 0 v1 v5 v6 v7 = none:=by kernel_rfl
theorem u19f_l4_succ (k : Nat) (v1 : T36.den) (v5 : T3.den) (v6 : T71.den) (v7 : T3.den) : u19f_l4 (k + 1) v1 v5 v6 v7 = br (decide (v7 < v5)) (br (decide (0 ≤ v7)) (br (decide (v7 < (List.length v1.2.2.2.2.2.1 : Int))) (br ((List.getD v1.2.2.2.2.2.1 (Int.toNat v7) T71.zero).1 == v6.1) (some (Sum.inr false)) (br (decide (0 ≤ v7)) (br (decide (v7 < (List.length v1.2.2.2.2.2.1 : Int))) (br ((List.getD v1.2.2.2.2.2.1 (Int.toNat v7) T71.zero).2.1 == v6.2.1) (some (Sum.inr false)) (u19f_l4 k v1 v5 v6 (IntKind.i64.wrap (v7 + 1)))) (none)) (none))) (none)) (none)) (some (Sum.inl (v1,v5))):=by kernel_rfl
def c_u19f : Con:=⟨[.val T36],[T4],fun k x=>u19f k x.1⟩
theorem del_u19f {w0 : World} (hS : Stops w0) : DelOk Tryz.prog w0 d_u19f:=.cons (ok_u13f hS) ent_u13f (.cons (ok_u14f hS) ent_u14f (.cons (ok_u15f hS) ent_u15f (.cons (ok_u18f hS) ent_u18f (.nil))))
theorem ok_u19f {w0 : World} (hS : Stops w0) : Keeps Tryz.prog w0 32 c_u19f:=.con (y9q (A:=a_u19f) y24q (del_u19f hS) (draws (del_u19f hS)) Tryz.func32 (by kernel_rfl) (fun k x=>by kernel_rfl) (by kernel_rfl)) (by kernel_rfl)
theorem ent_u19f : Enters' Tryz.prog 32:=enters' Tryz.func32 (by kernel_rfl)
attribute [irreducible] u19f u19f_l0 u19f_l2 u19f_l4
def a_u20f : Ann:=⟨[(0,[.val 1 T9, .var 2 T36, .val 5 T3],⟨[],false⟩)],[]⟩
def d_u20f : List (Nat × Con):=[]
def u20f (k : Nat) (a : T36.den) (b : T9.den) : Option (den1 [T3]):=evFn Γ d_u20f a_u20f Tryz.f33 [.val T36, .val T9] [T3] k (a,b,())
def u20f_l0 (k : Nat) (v1 : T9.den) (v2 : T36.den) (v5 : T3.den) : Option ((Items.den []) ⊕ (den1 [T3])):=loopR (ρ:=(den1 [T3])) 0 [.val 1 T9, .var 2 T36, .val 5 T3] [] (runOf Γ d_u20f a_u20f Tryz.f33 [.val T36, .val T9] [T3] 0) k (v1,v2,v5)
theorem u20f_eq (k : Nat) (a : T36.den) (b : T9.den) : u20f k a b = bnd (u20f_l0 k b a 0) (fun y1=>onSum y1 (fun y2=>some (-1)) (fun y2=>some y2)):=by kernel_rfl
theorem u20f_l0_zero (v1 : T9.den) (v2 : T36.den) (v5 : T3.den) : u20f_l0 0 v1 v2 v5 = none:=by kernel_rfl
theorem u20f_l0_succ (k : Nat) (v1 : T9.den) (v2 : T36.den) (v5 : T3.den) : u20f_l0 (k + 1) v1 v2 v5 = br (decide (v5 < (List.length v2.2.2.2.2.2.1 : Int))) (br (decide (0 ≤ v5)) (br (decide (v5 < (List.length v2.2.2.2.2.2.1 : Int))) (br ((List.getD v2.2.2.2.2.2.1 (Int.toNat v5) T71.zero).2.1 == v1) (some (Sum.inr v5)) (u20f_l0 k v1 v2 (IntKind.i64.wrap (v5 + 1)))) (none)) (none)) (some (Sum.inl ())):=by kernel_rfl
def c_u20f : Con:=⟨[.val T36, .val T9],[T3],fun k x=>u20f k x.1 x.2.1⟩
theorem del_u20f {w0 : World} (hS : Stops w0) : DelOk Tryz.prog w0 d_u20f:=.nil
theorem ok_u20f {w0 : World} (hS : Stops w0) : Keeps Tryz.prog w0 33 c_u20f:=.con (y9q (A:=a_u20f) y24q (del_u20f hS) (draws (del_u20f hS)) Tryz.func33 (by kernel_rfl) (fun k x=>by kernel_rfl) (by kernel_rfl)) (by kernel_rfl)
theorem ent_u20f : Enters' Tryz.prog 33:=enters' Tryz.func33 (by kernel_rfl)
attribute [irreducible] u20f u20f_l0
def a_u21f : Ann:=⟨[(0,[.val 0 T9, .val 3 T3],⟨[],false⟩)],[]⟩
def d_u21f : List (Nat × Con):=[]
def u21f (k : Nat) (a : T9.den) : Option (den1 [T4]):=evFn Γ d_u21f a_u21f Tryz.f107 [.val T9] [T4] k (a,())
def u21f_l0 (k : Nat) (v0 : T9.den) (v3 : T3.den) : Option ((Items.den []) ⊕ (den1 [T4])):=loopR (ρ:=(den1 [T4])) 0 [.val 0 T9, .val 3 T3] [] (runOf Γ d_u21f a_u21f Tryz.f107 [.val T9] [T4] 0) k (v0,v3)
theorem u21f_eq (k : Nat) (a : T9.den) : u21f k a = bnd (u21f_l0 k a 0) (fun y1=>onSum y1 (fun y2=>some true) (fun y2=>some y2)):=by kernel_rfl
theorem u21f_l0_zero (v0 : T9.den) (v3 : T3.den) : u21f_l0 0 v0 v3 = none:=by kernel_rfl
theorem u21f_l0_succ (k : Nat) (v0 : T9.den) (v3 : T3.den) : u21f_l0 (k + 1) v0 v3 = br (decide (v3 < (List.length v0 : Int))) (br (decide (0 ≤ v3)) (br (decide (v3 < (List.length v0 : Int))) (br (decide ((↑(List.getD v0 (Int.toNat v3) 0).toNat : Int) < 32)) (some (Sum.inr false)) (br (decide (0 ≤ v3)) (br (decide (v3 < (List.length v0 : Int))) (br (decide ((↑(List.getD v0 (Int.toNat v3) 0).toNat : Int) > 126)) (some (Sum.inr false)) (u21f_l0 k v0 (IntKind.i64.wrap (v3 + 1)))) (none)) (none))) (none)) (none)) (some (Sum.inl ())):=by kernel_rfl
def c_u21f : Con:=⟨[.val T9],[T4],fun k x=>u21f k x.1⟩
theorem del_u21f {w0 : World} (hS : Stops w0) : DelOk Tryz.prog w0 d_u21f:=.nil
theorem ok_u21f {w0 : World} (hS : Stops w0) : Keeps Tryz.prog w0 107 c_u21f:=.con (y9q (A:=a_u21f) y24q (del_u21f hS) (draws (del_u21f hS)) Tryz.func107 (by kernel_rfl) (fun k x=>by kernel_rfl) (by kernel_rfl)) (by kernel_rfl)
theorem ent_u21f : Enters' Tryz.prog 107:=enters' Tryz.func107 (by kernel_rfl)
attribute [irreducible] u21f u21f_l0
def a_u22f : Ann:=⟨[],[(3,⟨[.var 1 T91],false⟩)]⟩
def d_u22f : List (Nat × Con):=[(107,c_u21f)]
def u22f (k : Nat) (a : T91.den) : Option (den1 [T4]):=evFn Γ d_u22f a_u22f Tryz.f86 [.val T91] [T4] k (a,())
theorem u22f_eq (k : Nat) (a : T91.den) : u22f k a = bnd (br (a.1 != 4) (br (decide ((List.length a.2.2.2.1 : Int) > 0)) (some (Sum.inr false)) (br (a.1 != 3) (br (a.2.2.1 != 0) (some (Sum.inr false)) (some (Sum.inl a))) (some (Sum.inl a)))) (br (a.1 != 3) (br (a.2.2.1 != 0) (some (Sum.inr false)) (some (Sum.inl a))) (some (Sum.inl a)))) (fun y1=>onSum y1 (fun y2=>br (y2.1 == 0) (some (y2.2.1 == 0)) (br (y2.1 == 1) (br (y2.2.1 == 0) (some true) (some (y2.2.1 == 1))) (br (y2.1 == 2) (br (decide (y2.2.1 ≥ -1000000000000000)) (some (decide (y2.2.1 ≤ 1000000000000000))) (some false)) (br (y2.1 == 3) (br (decide (y2.2.1 ≥ -1000000000)) (br (decide (y2.2.1 ≤ 1000000000)) (br (decide (y2.2.2.1 ≥ 0)) (br (decide (y2.2.2.1 ≤ 6)) (br (y2.2.2.1 == 0) (some true) (br (!10 == 0) (some (Int.tmod y2.2.1 10 != 0)) (none))) (some false)) (some false)) (some false)) (some false)) (br (y2.1 == 5) (br (decide (y2.2.1 ≥ 0)) (some (decide (y2.2.1 ≤ 3652058))) (some false)) (br (y2.1 == 4) (br (y2.2.1 == 0) (bnd (u21f k y2.2.2.2.1) (fun y3=>br (y3) (some (decide ((List.length y2.2.2.2.1 : Int) ≤ 200))) (some false))) (some false)) (some false))))))) (fun y2=>some y2)):=by kernel_rfl
def c_u22f : Con:=⟨[.val T91],[T4],fun k x=>u22f k x.1⟩
theorem del_u22f {w0 : World} (hS : Stops w0) : DelOk Tryz.prog w0 d_u22f:=.cons (ok_u21f hS) ent_u21f (.nil)
theorem ok_u22f {w0 : World} (hS : Stops w0) : Keeps Tryz.prog w0 86 c_u22f:=.con (y9q (A:=a_u22f) y24q (del_u22f hS) (draws (del_u22f hS)) Tryz.func86 (by kernel_rfl) (fun k x=>by kernel_rfl) (by kernel_rfl)) (by kernel_rfl)
theorem ent_u22f : Enters' Tryz.prog 86:=enters' Tryz.func86 (by kernel_rfl)
attribute [irreducible] u22f
def a_u23f : Ann:=⟨[(0,[.val 1 T47, .var 2 T36, .val 5 T3],⟨[],false⟩)],[]⟩
def d_u23f : List (Nat × Con):=[(86,c_u22f)]
def u23f (k : Nat) (a : T36.den) (b : T47.den) : Option (den1 [T4]):=evFn Γ d_u23f a_u23f Tryz.f54 [.val T36, .val T47] [T4] k (a,b,())
def u23f_l0 (k : Nat) (v1 : T47.den) (v2 : T36.den) (v5 : T3.den) : Option ((Items.den []) ⊕ (den1 [T4])):=loopR (ρ:=(den1 [T4])) 0 [.val 1 T47, .var 2 T36, .val 5 T3] [] (runOf Γ d_u23f a_u23f Tryz.f54 [.val T36, .val T47] [T4] 0) k (v1,v2,v5)
theorem u23f_eq (k : Nat) (a : T36.den) (b : T47.den) : u23f k a b = br ((List.length b : Int) != (List.length a.2.2.2.1 : Int)) (some false) (bnd (u23f_l0 k b a 0) (fun y1=>onSum y1 (fun y2=>some true) (fun y2=>some y2))):=by kernel_rfl
theorem u23f_l0_zero (v1 : T47.den) (v2 : T36.den) (v5 : T3.den) : u23f_l0 0 v1 v2 v5 = none:=by kernel_rfl
theorem u23f_l0_succ (k : Nat) (v1 : T47.den) (v2 : T36.den) (v5 : T3.den) : u23f_l0 (k + 1) v1 v2 v5 = br (decide (v5 < (List.length v1 : Int))) (br (decide (0 ≤ v5)) (br (decide (v5 < (List.length v1 : Int))) (bnd (u22f k (List.getD v1 (Int.toNat v5) T91.zero)) (fun y1=>br (!y1) (some (Sum.inr false)) (br (decide (0 ≤ v5)) (br (decide (v5 < (List.length v1 : Int))) (br ((List.getD v1 (Int.toNat v5) T91.zero).1 != 0) (br (decide (0 ≤ v5)) (br (decide (v5 < (List.length v1 : Int))) (br (decide (0 ≤ v5)) (br (decide (v5 < (List.length v2.2.2.2.1 : Int))) (br ((List.getD v1 (Int.toNat v5) T91.zero).1 != (List.getD v2.2.2.2.1 (Int.toNat v5) T102.zero).2.2.1) (some (Sum.inr false)) (br (decide (0 ≤ v5)) (br (decide (v5 < (List.length v1 : Int))) (br ((List.getD v1 (Int.toNat v5) T91.zero).1 == 0) (br (decide (0 ≤ v5)) (br (decide (v5 < (List.length v2.2.2.2.1 : Int))) (br ((List.getD v2.2.2.2.1 (Int.toNat v5) T102.zero).2.2.2.1) (some (Sum.inr false)) (u23f_l0 k v1 v2 (IntKind.i64.wrap (v5 + 1)))) (none)) (none)) (u23f_l0 k v1 v2 (IntKind.i64.wrap (v5 + 1)))) (none)) (none))) (none)) (none)) (none)) (none)) (br (decide (0 ≤ v5)) (br (decide (v5 < (List.length v1 : Int))) (br ((List.getD v1 (Int.toNat v5) T91.zero).1 == 0) (br (decide (0 ≤ v5)) (br (decide (v5 < (List.length v2.2.2.2.1 : Int))) (br ((List.getD v2.2.2.2.1 (Int.toNat v5) T102.zero).2.2.2.1) (some (Sum.inr false)) (u23f_l0 k v1 v2 (IntKind.i64.wrap (v5 + 1)))) (none)) (none)) (u23f_l0 k v1 v2 (IntKind.i64.wrap (v5 + 1)))) (none)) (none))) (none)) (none)))) (none)) (none)) (some (Sum.inl ())):=by kernel_rfl
def c_u23f : Con:=⟨[.val T36, .val T47],[T4],fun k x=>u23f k x.1 x.2.1⟩
theorem del_u23f {w0 : World} (hS : Stops w0) : DelOk Tryz.prog w0 d_u23f:=.cons (ok_u22f hS) ent_u22f (.nil)
theorem ok_u23f {w0 : World} (hS : Stops w0) : Keeps Tryz.prog w0 54 c_u23f:=.con (y9q (A:=a_u23f) y24q (del_u23f hS) (draws (del_u23f hS)) Tryz.func54 (by kernel_rfl) (fun k x=>by kernel_rfl) (by kernel_rfl)) (by kernel_rfl)
theorem ent_u23f : Enters' Tryz.prog 54:=enters' Tryz.func54 (by kernel_rfl)
attribute [irreducible] u23f u23f_l0
def a_u24f : Ann:=⟨[],[]⟩
def d_u24f : List (Nat × Con):=[]
def u24f (k : Nat) (a : T3.den) : Option (den1 [T91]):=evFn Γ d_u24f a_u24f Tryz.f69 [.val T3] [T91] k (a,())
theorem u24f_eq (k : Nat) (a : T3.den) : u24f k a = some ((2 : Int),a,(0 : Int),([] : List UInt8),()):=by kernel_rfl
def c_u24f : Con:=⟨[.val T3],[T91],fun k x=>u24f k x.1⟩
theorem del_u24f {w0 : World} (hS : Stops w0) : DelOk Tryz.prog w0 d_u24f:=.nil
theorem ok_u24f {w0 : World} (hS : Stops w0) : Keeps Tryz.prog w0 69 c_u24f:=.con (y9q (A:=a_u24f) y24q (del_u24f hS) (draws (del_u24f hS)) Tryz.func69 (by kernel_rfl) (fun k x=>by kernel_rfl) (by kernel_rfl)) (by kernel_rfl)
theorem ent_u24f : Enters' Tryz.prog 69:=enters' Tryz.func69 (by kernel_rfl)
attribute [irreducible] u24f
def a_u25f : Ann:=⟨[],[]⟩
def d_u25f : List (Nat × Con):=[]
def u25f (k : Nat) (a : T4.den) : Option (den1 [T91]):=evFn Γ d_u25f a_u25f Tryz.f114 [.val T4] [T91] k (a,())
theorem u25f_eq (k : Nat) (a : T4.den) : u25f k a = br (a) (some ((1 : Int),(1 : Int),(0 : Int),([] : List UInt8),())) (some ((1 : Int),(0 : Int),(0 : Int),([] : List UInt8),())):=by kernel_rfl
def c_u25f : Con:=⟨[.val T4],[T91],fun k x=>u25f k x.1⟩
theorem del_u25f {w0 : World} (hS : Stops w0) : DelOk Tryz.prog w0 d_u25f:=.nil
theorem ok_u25f {w0 : World} (hS : Stops w0) : Keeps Tryz.prog w0 114 c_u25f:=.con (y9q (A:=a_u25f) y24q (del_u25f hS) (draws (del_u25f hS)) Tryz.func114 (by kernel_rfl) (fun k x=>by kernel_rfl) (by kernel_rfl)) (by kernel_rfl)
theorem ent_u25f : Enters' Tryz.prog 114:=enters' Tryz.func114 (by kernel_rfl)
attribute [irreducible] u25f
def a_u26f : Ann:=⟨[(0,[.val 0 T9, .val 3 T3, .val 4 T3],⟨[.val 3 T3],true⟩)],[]⟩
def d_u26f : List (Nat × Con):=[]
def u26f (k : Nat) (a : T9.den) : Option (den1 [T3]):=evFn Γ d_u26f a_u26f Tryz.f115 [.val T9] [T3] k (a,())
def u26f_l0 (k : Nat) (v0 : T9.den) (v3 : T3.den) (v4 : T3.den) : Option (Items.den [.val 3 T3]):=loopQ (ρ:=(den1 [T3])) 0 [.val 0 T9, .val 3 T3, .val 4 T3] [.val 3 T3] (runOf Γ d_u26f a_u26f Tryz.f115 [.val T9] [T3] 0) k (v0,v3,v4)
theorem u26f_eq (k : Nat) (a : T9.den) : u26f k a = bnd (u26f_l0 k a 0 0) (fun y1=>some y1):=by kernel_rfl
theorem u26f_l0_zero (v0 : T9.den) (v3 : T3.den) (v4 : T3.den) : u26f_l0 0 v0 v3 v4 = none:=by kernel_rfl
theorem u26f_l0_succ (k : Nat) (v0 : T9.den) (v3 : T3.den) (v4 : T3.den) : u26f_l0 (k + 1) v0 v3 v4 = br (decide (v4 < (List.length v0 : Int))) (br (decide (0 ≤ v4)) (br (decide (v4 < (List.length v0 : Int))) (u26f_l0 k v0 (IntKind.i64.wrap (IntKind.i64.wrap (v3 * 256) + IntKind.i64.wrap (↑(List.getD v0 (Int.toNat v4) 0).toNat : Int))) (IntKind.i64.wrap (v4 + 1))) (none)) (none)) (some v3):=by kernel_rfl
def c_u26f : Con:=⟨[.val T9],[T3],fun k x=>u26f k x.1⟩
theorem del_u26f {w0 : World} (hS : Stops w0) : DelOk Tryz.prog w0 d_u26f:=.nil
theorem ok_u26f {w0 : World} (hS : Stops w0) : Keeps Tryz.prog w0 115 c_u26f:=.con (y9q (A:=a_u26f) y24q (del_u26f hS) (draws (del_u26f hS)) Tryz.func115 (by kernel_rfl) (fun k x=>by kernel_rfl) (by kernel_rfl)) (by kernel_rfl)
theorem ent_u26f : Enters' Tryz.prog 115:=enters' Tryz.func115 (by kernel_rfl)
attribute [irreducible] u26f u26f_l0
def a_u27f : Ann:=⟨[(0,[.val 0 T3, .val 3 T3, .val 4 T3],⟨[.val 3 T3],true⟩)],[]⟩
def d_u27f : List (Nat × Con):=[]
def u27f (k : Nat) (a : T3.den) : Option (den1 [T3]):=evFn Γ d_u27f a_u27f Tryz.f118 [.val T3] [T3] k (a,())
def u27f_l0 (k : Nat) (v0 : T3.den) (v3 : T3.den) (v4 : T3.den) : Option (Items.den [.val 3 T3]):=loopQ (ρ:=(den1 [T3])) 0 [.val 0 T3, .val 3 T3, .val 4 T3] [.val 3 T3] (runOf Γ d_u27f a_u27f Tryz.f118 [.val T3] [T3] 0) k (v0,v3,v4)
theorem u27f_eq (k : Nat) (a : T3.den) : u27f k a = bnd (u27f_l0 k a 1 0) (fun y1=>some y1):=by kernel_rfl
theorem u27f_l0_zero (v0 : T3.den) (v3 : T3.den) (v4 : T3.den) : u27f_l0 0 v0 v3 v4 = none:=by kernel_rfl
theorem u27f_l0_succ (k : Nat) (v0 : T3.den) (v3 : T3.den) (v4 : T3.den) : u27f_l0 (k + 1) v0 v3 v4 = br (decide (v4 < v0)) (u27f_l0 k v0 (IntKind.i64.wrap (v3 * 10)) (IntKind.i64.wrap (v4 + 1))) (some v3):=by kernel_rfl
def c_u27f : Con:=⟨[.val T3],[T3],fun k x=>u27f k x.1⟩
theorem del_u27f {w0 : World} (hS : Stops w0) : DelOk Tryz.prog w0 d_u27f:=.nil
theorem ok_u27f {w0 : World} (hS : Stops w0) : Keeps Tryz.prog w0 118 c_u27f:=.con (y9q (A:=a_u27f) y24q (del_u27f hS) (draws (del_u27f hS)) Tryz.func118 (by kernel_rfl) (fun k x=>by kernel_rfl) (by kernel_rfl)) (by kernel_rfl)
theorem ent_u27f : Enters' Tryz.prog 118:=enters' Tryz.func118 (by kernel_rfl)
attribute [irreducible] u27f u27f_l0
def a_u28f : Ann:=⟨[],[(4,⟨[.val 0 T3, .val 1 T3, .val 5 T4],true⟩)]⟩
def d_u28f : List (Nat × Con):=[]
def u28f (k : Nat) (a : T3.den) (b : T3.den) : Option (den1 [T3]):=evFn Γ d_u28f a_u28f Tryz.f138 [.val T3, .val T3] [T3] k (a,b,())
theorem u28f_eq (k : Nat) (a : T3.den) (b : T3.den) : u28f k a b = bnd (br (decide (a < 0)) (some (IntKind.i64.wrap (0 - a),b,decide (a < 0))) (some (a,b,decide (a < 0)))) (fun y1=>br (!y1.2.1 == 0) (br (!y1.2.1 == 0) (br (decide (IntKind.i64.wrap (2 * Int.tmod y1.1 y1.2.1) > y1.2.1)) (br (y1.2.2) (some (IntKind.i64.wrap (0 - IntKind.i64.wrap (IntKind.i64.wrap (Int.tdiv y1.1 y1.2.1) + 1)))) (some (IntKind.i64.wrap (IntKind.i64.wrap (Int.tdiv y1.1 y1.2.1) + 1)))) (br (IntKind.i64.wrap (2 * Int.tmod y1.1 y1.2.1) == y1.2.1) (br (!2 == 0) (br ((IntKind.i64.wrap (Int.tdiv y1.1 y1.2.1)).tmod 2 == 1) (br (y1.2.2) (some (IntKind.i64.wrap (0 - IntKind.i64.wrap (IntKind.i64.wrap (Int.tdiv y1.1 y1.2.1) + 1)))) (some (IntKind.i64.wrap (IntKind.i64.wrap (Int.tdiv y1.1 y1.2.1) + 1)))) (br (y1.2.2) (some (IntKind.i64.wrap (0 - IntKind.i64.wrap (Int.tdiv y1.1 y1.2.1)))) (some (IntKind.i64.wrap (Int.tdiv y1.1 y1.2.1))))) (none)) (br (y1.2.2) (some (IntKind.i64.wrap (0 - IntKind.i64.wrap (Int.tdiv y1.1 y1.2.1)))) (some (IntKind.i64.wrap (Int.tdiv y1.1 y1.2.1)))))) (none)) (none)):=by kernel_rfl
def c_u28f : Con:=⟨[.val T3, .val T3],[T3],fun k x=>u28f k x.1 x.2.1⟩
theorem del_u28f {w0 : World} (hS : Stops w0) : DelOk Tryz.prog w0 d_u28f:=.nil
theorem ok_u28f {w0 : World} (hS : Stops w0) : Keeps Tryz.prog w0 138 c_u28f:=.con (y9q (A:=a_u28f) y24q (del_u28f hS) (draws (del_u28f hS)) Tryz.func138 (by kernel_rfl) (fun k x=>by kernel_rfl) (by kernel_rfl)) (by kernel_rfl)
theorem ent_u28f : Enters' Tryz.prog 138:=enters' Tryz.func138 (by kernel_rfl)
attribute [irreducible] u28f
def a_u29f : Ann:=⟨[(0,[.val 0 T3, .val 1 T3, .var 4 T91],⟨[.val 0 T3, .val 1 T3, .var 4 T91],true⟩),(2,[.val 0 T3, .val 1 T3, .var 4 T91],⟨[.val 0 T3, .val 1 T3, .var 4 T91],true⟩)],[]⟩
def d_u29f : List (Nat × Con):=[(118,c_u27f),(138,c_u28f)]
def u29f (k : Nat) (a : T3.den) (b : T3.den) : Option (den1 [T91,T3]):=evFn Γ d_u29f a_u29f Tryz.f116 [.val T3, .val T3] [T91,T3] k (a,b,())
def u29f_l0 (k : Nat) (v0 : T3.den) (v1 : T3.den) (v4 : T91.den) : Option (Items.den [.val 0 T3, .val 1 T3, .var 4 T91]):=loopQ (ρ:=(den1 [T91,T3])) 0 [.val 0 T3, .val 1 T3, .var 4 T91] [.val 0 T3, .val 1 T3, .var 4 T91] (runOf Γ d_u29f a_u29f Tryz.f116 [.val T3, .val T3] [T91,T3] 0) k (v0,v1,v4)
def u29f_l2 (k : Nat) (v0 : T3.den) (v1 : T3.den) (v4 : T91.den) : Option (Items.den [.val 0 T3, .val 1 T3, .var 4 T91]):=loopQ (ρ:=(den1 [T91,T3])) 2 [.val 0 T3, .val 1 T3, .var 4 T91] [.val 0 T3, .val 1 T3, .var 4 T91] (runOf Γ d_u29f a_u29f Tryz.f116 [.val T3, .val T3] [T91,T3] 2) k (v0,v1,v4)
theorem u29f_eq (k : Nat) (a : T3.den) (b : T3.den) : u29f k a b = bnd (u29f_l0 k a b ((0 : Int),(0 : Int),(0 : Int),([] : List UInt8),())) (fun y1=>bnd (u29f_l2 k y1.1 y1.2.1 y1.2.2) (fun y2=>br (decide (y2.1 > 1000000000)) (some (((0 : Int),(0 : Int),(0 : Int),([] : List UInt8),()),3)) (br (decide (y2.1 < -1000000000)) (some (((0 : Int),(0 : Int),(0 : Int),([] : List UInt8),()),3)) (some (((3 : Int),y2.1,y2.2.1,([] : List UInt8),()),0))))):=by kernel_rfl
theorem u29f_l0_zero (v0 : T3.den) (v1 : T3.den) (v4 : T91.den) : u29f_l0 0 v0 v1 v4 = none:=by kernel_rfl
theorem u29f_l0_succ (k : Nat) (v0 : T3.den) (v1 : T3.den) (v4 : T91.den) : u29f_l0 (k + 1) v0 v1 v4 = br (decide (v1 > 6)) (bnd (u27f k (IntKind.i64.wrap (v1 - 6))) (fun y1=>bnd (u28f k v0 y1) (fun y2=>u29f_l0 k y2 6 v4))) (some (v0,v1,v4.1,v4.2.1,v4.2.2.1,v4.2.2.2.1,())):=by kernel_rfl
theorem u29f_l2_zero (v0 : T3.den) (v1 : T3.den) (v4 : T91.den) : u29f_l2 0 v0 v1 v4 = none:=by kernel_rfl
theorem u29f_l2_succ (k : Nat) (v0 : T3.den) (v1 : T3.den) (v4 : T91.den) : u29f_l2 (k + 1) v0 v1 v4 = br (decide (v1 > 0)) (br (!10 == 0) (br (Int.tmod v0 10 == 0) (br (!10 == 0) (u29f_l2 k (IntKind.i64.wrap (Int.tdiv v0 10)) (IntKind.i64.wrap (v1 - 1)) v4) (none)) (some (v0,v1,v4.1,v4.2.1,v4.2.2.1,v4.2.2.2.1,()))) (none)) (some (v0,v1,v4.1,v4.2.1,v4.2.2.1,v4.2.2.2.1,())):=by kernel_rfl
def c_u29f : Con:=⟨[.val T3, .val T3],[T91,T3],fun k x=>u29f k x.1 x.2.1⟩
theorem del_u29f {w0 : World} (hS : Stops w0) : DelOk Tryz.prog w0 d_u29f:=.cons (ok_u27f hS) ent_u27f (.cons (ok_u28f hS) ent_u28f (.nil))
theorem ok_u29f {w0 : World} (hS : Stops w0) : Keeps Tryz.prog w0 116 c_u29f:=.con (y9q (A:=a_u29f) y24q (del_u29f hS) (draws (del_u29f hS)) Tryz.func116 (by kernel_rfl) (fun k x=>by kernel_rfl) (by kernel_rfl)) (by kernel_rfl)
theorem ent_u29f : Enters' Tryz.prog 116:=enters' Tryz.func116 (by kernel_rfl)
attribute [irreducible] u29f u29f_l0 u29f_l2
def a_u30f : Ann:=⟨[],[]⟩
def d_u30f : List (Nat × Con):=[]
def u30f (k : Nat) (a : T9.den) : Option (den1 [T91]):=evFn Γ d_u30f a_u30f Tryz.f117 [.val T9] [T91] k (a,())
theorem u30f_eq (k : Nat) (a : T9.den) : u30f k a = some (4,0,0,a,()):=by kernel_rfl
def c_u30f : Con:=⟨[.val T9],[T91],fun k x=>u30f k x.1⟩
theorem del_u30f {w0 : World} (hS : Stops w0) : DelOk Tryz.prog w0 d_u30f:=.nil
theorem ok_u30f {w0 : World} (hS : Stops w0) : Keeps Tryz.prog w0 117 c_u30f:=.con (y9q (A:=a_u30f) y24q (del_u30f hS) (draws (del_u30f hS)) Tryz.func117 (by kernel_rfl) (fun k x=>by kernel_rfl) (by kernel_rfl)) (by kernel_rfl)
theorem ent_u30f : Enters' Tryz.prog 117:=enters' Tryz.func117 (by kernel_rfl)
attribute [irreducible] u30f
def a_u31f : Ann:=⟨[(1,[.val 0 T9, .var 2 T91, .val 8 T3],⟨[.var 2 T91],false⟩)],[(16,⟨[.val 0 T9, .var 2 T91, .val 4 T3, .val 5 T3],false⟩)]⟩
def d_u31f : List (Nat × Con):=[(69,c_u24f),(86,c_u22f),(114,c_u25f),(115,c_u26f),(116,c_u29f),(117,c_u30f)]
def u31f (k : Nat) (a : T9.den) : Option (den1 [T91,T3]):=evFn Γ d_u31f a_u31f Tryz.f94 [.val T9] [T91,T3] k (a,())
def u31f_l1 (k : Nat) (v0 : T9.den) (v2 : T91.den) (v8 : T3.den) : Option ((Items.den [.var 2 T91]) ⊕ (den1 [T91,T3])):=loopR (ρ:=(den1 [T91,T3])) 1 [.val 0 T9, .var 2 T91, .val 8 T3] [.var 2 T91] (runOf Γ d_u31f a_u31f Tryz.f94 [.val T9] [T91,T3] 1) k (v0,v2,v8)
theorem u31f_eq (k : Nat) (a : T9.den) : u31f k a = br (decide (0 ≤ 0)) (br (decide (0 < (List.length a : Int))) (br ((↑(List.getD a (Int.toNat 0) 0).toNat : Int) == 1) (some (((0 : Int),(0 : Int),(0 : Int),([] : List UInt8),()),1)) (br ((↑(List.getD a (Int.toNat 0) 0).toNat : Int) == 2) (br (decide ((List.length a : Int) > 1)) (br (decide (0 ≤ 1)) (br (decide (1 < (List.length a : Int))) (br (decide ((↑(List.getD a (Int.toNat 1) 0).toNat : Int) < 2)) (br (decide (0 ≤ 1)) (br (decide (1 < (List.length a : Int))) (bnd (u25f k ((↑(List.getD a (Int.toNat 1) 0).toNat : Int) == 1)) (fun y1=>some (y1,2))) (none)) (none)) (some (((0 : Int),(0 : Int),(0 : Int),([] : List UInt8),()),0))) (none)) (none)) (some (((0 : Int),(0 : Int),(0 : Int),([] : List UInt8),()),0))) (br ((↑(List.getD a (Int.toNat 0) 0).toNat : Int) == 3) (br (decide ((List.length a : Int) < 13)) (some (((0 : Int),(0 : Int),(0 : Int),([] : List UInt8),()),0)) (br (decide (0 ≤ 1)) (br (decide (1 < (List.length a : Int))) (br (decide ((↑(List.getD a (Int.toNat 1) 0).toNat : Int) ≥ 128)) (some (((0 : Int),(0 : Int),(0 : Int),([] : List UInt8),()),0)) (br (decide (0 ≤ 1)) (br (decide (1 ≤ 9)) (br (decide (9 ≤ (List.length a : Int))) (bnd (u26f k (List.drop (Int.toNat 1) (List.take (Int.toNat 9) a))) (fun y1=>br (decide (0 ≤ 9)) (br (decide (9 ≤ 12)) (br (decide (12 ≤ (List.length a : Int))) (bnd (u26f k (List.drop (Int.toNat 9) (List.take (Int.toNat 12) a))) (fun y2=>br (decide (IntKind.i64.wrap (y1 - 1152921504606846976) > 1000000000000000)) (some (((0 : Int),(0 : Int),(0 : Int),([] : List UInt8),()),0)) (br (decide (IntKind.i64.wrap (y1 - 1152921504606846976) < -1000000000000000)) (some (((0 : Int),(0 : Int),(0 : Int),([] : List UInt8),()),0)) (br (decide (y2 > 999999)) (some (((0 : Int),(0 : Int),(0 : Int),([] : List UInt8),()),0)) (bnd (br (decide (0 ≤ 12)) (br (decide (12 < (List.length a : Int))) (br ((↑(List.getD a (Int.toNat 12) 0).toNat : Int) == 2) (br (y2 == 0) (bnd (u24f k (IntKind.i64.wrap (y1 - 1152921504606846976))) (fun y3=>some (Sum.inr (y3,13)))) (some (Sum.inl (a,((0 : Int),(0 : Int),(0 : Int),([] : List UInt8),()),IntKind.i64.wrap (y1 - 1152921504606846976),y2)))) (some (Sum.inl (a,((0 : Int),(0 : Int),(0 : Int),([] : List UInt8),()),IntKind.i64.wrap (y1 - 1152921504606846976),y2)))) (none)) (none)) (fun y3=>onSum y3 (fun y4=>br (decide (0 ≤ 12)) (br (decide (12 < (List.length y4.1 : Int))) (br ((↑(List.getD y4.1 (Int.toNat 12) 0).toNat : Int) == 3) (br (decide (y4.2.2.1 ≤ 1000000000)) (br (decide (y4.2.2.1 ≥ -1000000000)) (bnd (u29f k (IntKind.i64.wrap (IntKind.i64.wrap (y4.2.2.1 * 1000000) + y4.2.2.2)) 6) (fun y5=>br (y5.2 == 0) (some (y5.1,13)) (some (((0 : Int),(0 : Int),(0 : Int),([] : List UInt8),()),0)))) (some (((0 : Int),(0 : Int),(0 : Int),([] : List UInt8),()),0))) (some (((0 : Int),(0 : Int),(0 : Int),([] : List UInt8),()),0))) (some (((0 : Int),(0 : Int),(0 : Int),([] : List UInt8),()),0))) (none)) (none)) (fun y4=>some y4))))))) (none)) (none)) (none))) (none)) (none)) (none))) (none)) (none))) (br ((↑(List.getD a (Int.toNat 0) 0).toNat : Int) == 4) (bnd (u31f_l1 k a ((0 : Int),(0 : Int),(0 : Int),([] : List UInt8),()) 1) (fun y1=>onSum y1 (fun y2=>some (((0 : Int),(0 : Int),(0 : Int),([] : List UInt8),()),0)) (fun y2=>some y2))) (br ((↑(List.getD a (Int.toNat 0) 0).toNat : Int) == 5) (br (decide ((List.length a : Int) ≥ 4)) (br (decide (0 ≤ 1)) (br (decide (1 ≤ 4)) (br (decide (4 ≤ (List.length a : Int))) (bnd (u26f k (List.drop (Int.toNat 1) (List.take (Int.toNat 4) a))) (fun y1=>br (decide (y1 ≤ 3652058)) (br (decide (0 ≤ 1)) (br (decide (1 ≤ 4)) (br (decide (4 ≤ (List.length a : Int))) (bnd (u26f k (List.drop (Int.toNat 1) (List.take (Int.toNat 4) a))) (fun y2=>some (((5 : Int),y2,(0 : Int),([] : List UInt8),()),4))) (none)) (none)) (none)) (some (((0 : Int),(0 : Int),(0 : Int),([] : List UInt8),()),0)))) (none)) (none)) (none)) (some (((0 : Int),(0 : Int),(0 : Int),([] : List UInt8),()),0))) (some (((0 : Int),(0 : Int),(0 : Int),([] : List UInt8),()),0))))))) (none)) (none):=by kernel_rfl
theorem u31f_l1_zero (v0 : T9.den) (v2 : T91.den) (v8 : T3.den) : u31f_l1 0 v0 v2 v8 = none:=by kernel_rfl
theorem u31f_l1_succ (k : Nat) (v0 : T9.den) (v2 : T91.den) (v8 : T3.den) : u31f_l1 (k + 1) v0 v2 v8 = br (decide (v8 < (List.length v0 : Int))) (br (decide (0 ≤ v8)) (br (decide (v8 < (List.length v0 : Int))) (br ((↑(List.getD v0 (Int.toNat v8) 0).toNat : Int) == 0) (br (decide (0 ≤ 1)) (br (decide (1 ≤ v8)) (br (decide (v8 ≤ (List.length v0 : Int))) (bnd (u30f k (List.drop (Int.toNat 1) (List.take (Int.toNat v8) v0))) (fun y1=>bnd (u22f k y1) (fun y2=>br (!y2) (some (Sum.inr (((0 : Int),(0 : Int),(0 : Int),([] : List UInt8),()),0))) (some (Sum.inr (y1,IntKind.i64.wrap (v8 + 1))))))) (none)) (none)) (none)) (u31f_l1 k v0 v2 (IntKind.i64.wrap (v8 + 1)))) (none)) (none)) (some (Sum.inl v2)):=by kernel_rfl
def c_u31f : Con:=⟨[.val T9],[T91,T3],fun k x=>u31f k x.1⟩
theorem del_u31f {w0 : World} (hS : Stops w0) : DelOk Tryz.prog w0 d_u31f:=.cons (ok_u24f hS) ent_u24f (.cons (ok_u22f hS) ent_u22f (.cons (ok_u25f hS) ent_u25f (.cons (ok_u26f hS) ent_u26f (.cons (ok_u29f hS) ent_u29f (.cons (ok_u30f hS) ent_u30f (.nil))))))
theorem ok_u31f {w0 : World} (hS : Stops w0) : Keeps Tryz.prog w0 94 c_u31f:=.con (y9q (A:=a_u31f) y24q (del_u31f hS) (draws (del_u31f hS)) Tryz.func94 (by kernel_rfl) (fun k x=>by kernel_rfl) (by kernel_rfl)) (by kernel_rfl)
theorem ent_u31f : Enters' Tryz.prog 94:=enters' Tryz.func94 (by kernel_rfl)
attribute [irreducible] u31f u31f_l1
def a_u32f : Ann:=⟨[(0,[.val 0 T9, .val 4 O47],⟨[.val 4 O47],false⟩)],[]⟩
def d_u32f : List (Nat × Con):=[(94,c_u31f)]
def u32f (k : Nat) (a : T9.den) : Option (den1 [T47,T3]):=evFn Γ d_u32f a_u32f Tryz.f68 [.val T9] [T47,T3] k (a,())
def u32f_l0 (k : Nat) (v0 : T9.den) (v4 : O47.den) : Option ((Items.den [.val 4 O47]) ⊕ (den1 [T47,T3])):=loopR (ρ:=(den1 [T47,T3])) 0 [.val 0 T9, .val 4 O47] [.val 4 O47] (runOf Γ d_u32f a_u32f Tryz.f68 [.val T9] [T47,T3] 0) k (v0,v4)
theorem u32f_eq (k : Nat) (a : T9.den) : u32f k a = br (decide ((List.length a : Int) > 4000)) (some ([],5)) (bnd (u32f_l0 k a []) (fun y1=>onSum y1 (fun y2=>some (y2,0)) (fun y2=>some y2))):=by kernel_rfl
theorem u32f_l0_zero (v0 : T9.den) (v4 : O47.den) : u32f_l0 0 v0 v4 = none:=by kernel_rfl
theorem u32f_l0_succ (k : Nat) (v0 : T9.den) (v4 : O47.den) : u32f_l0 (k + 1) v0 v4 = br (decide ((List.length v0 : Int) > 0)) (bnd (u31f k v0) (fun y1=>br (y1.2 == 0) (some (Sum.inr ([],5))) (br (decide ((List.length v4 : Int) ≥ 16)) (some (Sum.inr ([],5))) (br (decide (List.length v4 + [y1.1].length ≤ capN)) (br (decide (0 ≤ y1.2)) (br (decide (y1.2 ≤ (List.length v0 : Int))) (u32f_l0 k (List.drop (Int.toNat y1.2) v0) (v4 ++ [y1.1])) (none)) (none)) (none))))) (some (Sum.inl v4)):=by kernel_rfl
def c_u32f : Con:=⟨[.val T9],[T47,T3],fun k x=>u32f k x.1⟩
theorem del_u32f {w0 : World} (hS : Stops w0) : DelOk Tryz.prog w0 d_u32f:=.cons (ok_u31f hS) ent_u31f (.nil)
theorem ok_u32f {w0 : World} (hS : Stops w0) : Keeps Tryz.prog w0 68 c_u32f:=.con (y9q (A:=a_u32f) y24q (del_u32f hS) (draws (del_u32f hS)) Tryz.func68 (by kernel_rfl) (fun k x=>by kernel_rfl) (by kernel_rfl)) (by kernel_rfl)
theorem ent_u32f : Enters' Tryz.prog 68:=enters' Tryz.func68 (by kernel_rfl)
attribute [irreducible] u32f u32f_l0
def a_u33f : Ann:=⟨[(0,[.var 2 T36, .val 6 O47, .val 7 T47, .val 9 T47, .val 11 O47, .val 12 T3, .val 13 T3],⟨[.var 2 T36, .val 6 O47, .val 7 T47, .val 11 O47],false⟩),(2,[.var 2 T36, .val 6 O47, .val 7 T47, .val 11 O47, .val 15 T3],⟨[.val 11 O47],false⟩)],[(15,⟨[.var 2 T36, .val 6 O47, .val 7 T47, .val 9 T47, .val 11 O47, .val 13 T3],false⟩)]⟩
def d_u33f : List (Nat × Con):=[(32,c_u19f),(54,c_u23f),(65,c_u14f),(68,c_u32f),(69,c_u24f)]
def u33f (k : Nat) (a : T36.den) (b : T68.den) : Option (den1 [T47,T3]):=evFn Γ d_u33f a_u33f Tryz.f34 [.val T36, .val T68] [T47,T3] k (a,b,())
def u33f_l0 (k : Nat) (v2 : T36.den) (v6 : O47.den) (v7 : T47.den) (v9 : T47.den) (v11 : O47.den) (v12 : T3.den) (v13 : T3.den) : Option ((Items.den [.var 2 T36, .val 6 O47, .val 7 T47, .val 11 O47]) ⊕ (den1 [T47,T3])):=loopR (ρ:=(den1 [T47,T3])) 0 [.var 2 T36, .val 6 O47, .val 7 T47, .val 9 T47, .val 11 O47, .val 12 T3, .val 13 T3] [.var 2 T36, .val 6 O47, .val 7 T47, .val 11 O47] (runOf Γ d_u33f a_u33f Tryz.f34 [.val T36, .val T68] [T47,T3] 0) k (v2,v6,v7,v9,v11,v12,v13)
def u33f_l2 (k : Nat) (v2 : T36.den) (v6 : O47.den) (v7 : T47.den) (v11 : O47.den) (v15 : T3.den) : Option ((Items.den [.val 11 O47]) ⊕ (den1 [T47,T3])):=loopR (ρ:=(den1 [T47,T3])) 2 [.var 2 T36, .val 6 O47, .val 7 T47, .val 11 O47, .val 15 T3] [.val 11 O47] (runOf Γ d_u33f a_u33f Tryz.f34 [.val T36, .val T68] [T47,T3] 2) k (v2,v6,v7,v11,v15)
theorem u33f_eq (k : Nat) (a : T36.den) (b : T68.den) : u33f k a b = bnd (u19f k a) (fun y1=>br (!y1) (some ([],1)) (bnd (u32f k b.1) (fun y2=>bnd (u32f k b.2.1) (fun y3=>br (y2.2 != 0) (some ([],5)) (br (y3.2 != 0) (some ([],5)) (br ((List.length y2.1 : Int) != IntKind.i64.wrap ((List.length a.2.2.2.2.1 : Int) + 2)) (some ([],5)) (br (!2 == 0) (br ((List.length y3.1 : Int).tmod 2 != 0) (some ([],5)) (br (decide (0 ≤ 0)) (br (decide (0 < (List.length y2.1 : Int))) (bnd (u24f k a.1) (fun y4=>br (!andB (eqI (List.getD y2.1 (Int.toNat 0) T91.zero).1 y4.1) (andB (eqI (List.getD y2.1 (Int.toNat 0) T91.zero).2.1 y4.2.1) (andB (eqI (List.getD y2.1 (Int.toNat 0) T91.zero).2.2.1 y4.2.2.1) (andB (eqS (List.getD y2.1 (Int.toNat 0) T91.zero).2.2.2.1 y4.2.2.2.1) true)))) (some ([],5)) (br (decide (0 ≤ 1)) (br (decide (1 < (List.length y2.1 : Int))) (bnd (u24f k 0) (fun y5=>br (!andB (eqI (List.getD y2.1 (Int.toNat 1) T91.zero).1 y5.1) (andB (eqI (List.getD y2.1 (Int.toNat 1) T91.zero).2.1 y5.2.1) (andB (eqI (List.getD y2.1 (Int.toNat 1) T91.zero).2.2.1 y5.2.2.1) (andB (eqS (List.getD y2.1 (Int.toNat 1) T91.zero).2.2.2.1 y5.2.2.2.1) true)))) (some ([],5)) (br ((List.length a.2.2.2.1 : Int) == (List.length a.2.2.2.1 : Int)) (br (decide (0 ≤ (List.length a.2.2.2.1 : Int))) (br (decide ((List.length a.2.2.2.1 : Int) ≤ (↑capN : Int))) (bnd (u33f_l0 k a [] y2.1 y3.1 (List.replicate (List.length a.2.2.2.1 : Int).toNat (T3.pair (T3.pair (T3.pair (T9.pair Ty.unit)))).zero) 0 0) (fun y6=>onSum y6 (fun y7=>bnd (u23f k y7.1 y7.2.2.2) (fun y8=>br (!y8) (some (y7.2.1,5)) (bnd (u33f_l2 k y7.1 y7.2.1 y7.2.2.1 y7.2.2.2 0) (fun y9=>onSum y9 (fun y10=>some (y10,0)) (fun y10=>some y10))))) (fun y7=>some y7))) (none)) (none)) (none)))) (none)) (none)))) (none)) (none))) (none)))))))):=by kernel_rfl
theorem u33f_l0_zero (v2 : T36.den) (v6 : O47.den) (v7 : T47.den) (v9 : T47.den) (v11 : O47.den) (v12 : T3.den) (v13 : T3.den) : u33f_l0 0 v2 v6 v7 v9 v11 v12 v13 = none:=by kernel_rfl
theorem u33f_l0_succ (k : Nat) (v2 : T36.den) (v6 : O47.den) (v7 : T47.den) (v9 : T47.den) (v11 : O47.den) (v12 : T3.den) (v13 : T3.den) : u33f_l0 (k + 1) v2 v6 v7 v9 v11 v12 v13 = br (decide (v13 < (List.length v9 : Int))) (bnd (br (decide (0 ≤ v13)) (br (decide (v13 < (List.length v9 : Int))) (br ((List.getD v9 (Int.toNat v13) T91.zero).1 != 2) (some (Sum.inr (v6,5))) (br (decide (0 ≤ v13)) (br (decide (v13 < (List.length v9 : Int))) (br (decide ((List.getD v9 (Int.toNat v13) T91.zero).2.1 ≤ v12)) (br (decide (v13 > 0)) (some (Sum.inr (v6,5))) (br (decide (0 ≤ IntKind.i64.wrap (v13 + 1))) (br (decide (IntKind.i64.wrap (v13 + 1) < (List.length v9 : Int))) (br ((List.getD v9 (IntKind.i64.wrap (v13 + 1)).toNat T91.zero).1 == 0) (some (Sum.inr (v6,5))) (some (Sum.inl (v2,v6,v7,v9,v11,v13)))) (none)) (none))) (br (decide (0 ≤ IntKind.i64.wrap (v13 + 1))) (br (decide (IntKind.i64.wrap (v13 + 1) < (List.length v9 : Int))) (br ((List.getD v9 (IntKind.i64.wrap (v13 + 1)).toNat T91.zero).1 == 0) (some (Sum.inr (v6,5))) (some (Sum.inl (v2,v6,v7,v9,v11,v13)))) (none)) (none))) (none)) (none))) (none)) (none)) (fun y1=>onSum y1 (fun y2=>br (decide (0 ≤ y2.2.2.2.2.2)) (br (decide (y2.2.2.2.2.2 < (List.length y2.2.2.2.1 : Int))) (bnd (u14f k y2.1 (List.getD y2.2.2.2.1 (Int.toNat y2.2.2.2.2.2) T91.zero).2.1) (fun y3=>br (decide (y3 ≥ 0)) (br (decide (0 ≤ IntKind.i64.wrap (y2.2.2.2.2.2 + 1))) (br (decide (IntKind.i64.wrap (y2.2.2.2.2.2 + 1) < (List.length y2.2.2.2.1 : Int))) (br (decide (0 ≤ y3)) (br (decide (y3 < (List.length y2.2.2.2.2.1 : Int))) (u33f_l0 k y2.1 y2.2.1 y2.2.2.1 y2.2.2.2.1 (List.set y2.2.2.2.2.1 (Int.toNat y3) (List.getD y2.2.2.2.1 (IntKind.i64.wrap (y2.2.2.2.2.2 + 1)).toNat T91.zero)) (List.getD y2.2.2.2.1 (Int.toNat y2.2.2.2.2.2) T91.zero).2.1 (IntKind.i64.wrap (y2.2.2.2.2.2 + 2))) (none)) (none)) (none)) (none)) (u33f_l0 k y2.1 y2.2.1 y2.2.2.1 y2.2.2.2.1 y2.2.2.2.2.1 (List.getD y2.2.2.2.1 (Int.toNat y2.2.2.2.2.2) T91.zero).2.1 (IntKind.i64.wrap (y2.2.2.2.2.2 + 2))))) (none)) (none)) (fun y2=>some (Sum.inr y2)))) (some (Sum.inl (v2,v6,v7,v11))):=by kernel_rfl
theorem u33f_l2_zero (v2 : T36.den) (v6 : O47.den) (v7 : T47.den) (v11 : O47.den) (v15 : T3.den) : u33f_l2 0 v2 v6 v7 v11 v15 = none:=by kernel_rfl
theorem u33f_l2_succ (k : Nat) (v2 : T36.den) (v6 : O47.den) (v7 : T47.den) (v11 : O47.den) (v15 : T3.den) : u33f_l2 (k + 1) v2 v6 v7 v11 v15 = br (decide (v15 < (List.length v2.2.2.2.2.1 : Int))) (br (decide (0 ≤ v15)) (br (decide (v15 < (List.length v2.2.2.2.2.1 : Int))) (bnd (u14f k v2 (List.getD v2.2.2.2.2.1 (Int.toNat v15) T3.zero)) (fun y1=>br (decide (0 ≤ y1)) (br (decide (y1 < (List.length v11 : Int))) (br (decide (0 ≤ IntKind.i64.wrap (v15 + 2))) (br (decide (IntKind.i64.wrap (v15 + 2) < (List.length v7 : Int))) (br (!andB (eqI (List.getD v11 (Int.toNat y1) T91.zero).1 (List.getD v7 (IntKind.i64.wrap (v15 + 2)).toNat T91.zero).1) (andB (eqI (List.getD v11 (Int.toNat y1) T91.zero).2.1 (List.getD v7 (IntKind.i64.wrap (v15 + 2)).toNat T91.zero).2.1) (andB (eqI (List.getD v11 (Int.toNat y1) T91.zero).2.2.1 (List.getD v7 (IntKind.i64.wrap (v15 + 2)).toNat T91.zero).2.2.1) (andB (eqS (List.getD v11 (Int.toNat y1) T91.zero).2.2.2.1 (List.getD v7 (IntKind.i64.wrap (v15 + 2)).toNat T91.zero).2.2.2.1) true)))) (some (Sum.inr (v6,5))) (u33f_l2 k v2 v6 v7 v11 (IntKind.i64.wrap (v15 + 1)))) (none)) (none)) (none)) (none))) (none)) (none)) (some (Sum.inl v11)):=by kernel_rfl
def c_u33f : Con:=⟨[.val T36, .val T68],[T47,T3],fun k x=>u33f k x.1 x.2.1⟩
theorem del_u33f {w0 : World} (hS : Stops w0) : DelOk Tryz.prog w0 d_u33f:=.cons (ok_u19f hS) ent_u19f (.cons (ok_u23f hS) ent_u23f (.cons (ok_u14f hS) ent_u14f (.cons (ok_u32f hS) ent_u32f (.cons (ok_u24f hS) ent_u24f (.nil)))))
theorem ok_u33f {w0 : World} (hS : Stops w0) : Keeps Tryz.prog w0 34 c_u33f:=.con (y9q (A:=a_u33f) y24q (del_u33f hS) (draws (del_u33f hS)) Tryz.func34 (by kernel_rfl) (fun k x=>by kernel_rfl) (by kernel_rfl)) (by kernel_rfl)
theorem ent_u33f : Enters' Tryz.prog 34:=enters' Tryz.func34 (by kernel_rfl)
attribute [irreducible] u33f u33f_l0 u33f_l2
def a_u34f : Ann:=⟨[(0,[.val 1 T47, .val 2 T23, .var 3 T36, .val 7 O47, .val 8 T3],⟨[.val 7 O47],true⟩)],[]⟩
def d_u34f : List (Nat × Con):=[(65,c_u14f)]
def u34f (k : Nat) (a : T36.den) (b : T47.den) (c : T23.den) : Option (den1 [T47]):=evFn Γ d_u34f a_u34f Tryz.f70 [.val T36, .val T47, .val T23] [T47] k (a,b,c,())
def u34f_l0 (k : Nat) (v1 : T47.den) (v2 : T23.den) (v3 : T36.den) (v7 : O47.den) (v8 : T3.den) : Option (Items.den [.val 7 O47]):=loopQ (ρ:=(den1 [T47])) 0 [.val 1 T47, .val 2 T23, .var 3 T36, .val 7 O47, .val 8 T3] [.val 7 O47] (runOf Γ d_u34f a_u34f Tryz.f70 [.val T36, .val T47, .val T23] [T47] 0) k (v1,v2,v3,v7,v8)
theorem u34f_eq (k : Nat) (a : T36.den) (b : T47.den) (c : T23.den) : u34f k a b c = bnd (u34f_l0 k b c a [] 0) (fun y1=>some y1):=by kernel_rfl
theorem u34f_l0_zero (v1 : T47.den) (v2 : T23.den) (v3 : T36.den) (v7 : O47.den) (v8 : T3.den) : u34f_l0 0 v1 v2 v3 v7 v8 = none:=by kernel_rfl
theorem u34f_l0_succ (k : Nat) (v1 : T47.den) (v2 : T23.den) (v3 : T36.den) (v7 : O47.den) (v8 : T3.den) : u34f_l0 (k + 1) v1 v2 v3 v7 v8 = br (decide (v8 < (List.length v2 : Int))) (br (decide (0 ≤ v8)) (br (decide (v8 < (List.length v2 : Int))) (bnd (u14f k v3 (List.getD v2 (Int.toNat v8) T3.zero)) (fun y1=>br (decide (0 ≤ y1)) (br (decide (y1 < (List.length v1 : Int))) (br (decide (List.length v7 + [(List.getD v1 (Int.toNat y1) T91.zero)].length ≤ capN)) (u34f_l0 k v1 v2 v3 (v7 ++ [(List.getD v1 (Int.toNat y1) T91.zero)]) (IntKind.i64.wrap (v8 + 1))) (none)) (none)) (none))) (none)) (none)) (some v7):=by kernel_rfl
def c_u34f : Con:=⟨[.val T36, .val T47, .val T23],[T47],fun k x=>u34f k x.1 x.2.1 x.2.2.1⟩
theorem del_u34f {w0 : World} (hS : Stops w0) : DelOk Tryz.prog w0 d_u34f:=.cons (ok_u14f hS) ent_u14f (.nil)
theorem ok_u34f {w0 : World} (hS : Stops w0) : Keeps Tryz.prog w0 70 c_u34f:=.con (y9q (A:=a_u34f) y24q (del_u34f hS) (draws (del_u34f hS)) Tryz.func70 (by kernel_rfl) (fun k x=>by kernel_rfl) (by kernel_rfl)) (by kernel_rfl)
theorem ent_u34f : Enters' Tryz.prog 70:=enters' Tryz.func70 (by kernel_rfl)
attribute [irreducible] u34f u34f_l0
def a_u35f : Ann:=⟨[],[(9,⟨[.var 1 T91, .val 5 T3, .val 6 T3],true⟩)]⟩
def d_u35f : List (Nat × Con):=[(118,c_u27f)]
def u35f (k : Nat) (a : T91.den) : Option (den1 [T3,T3]):=evFn Γ d_u35f a_u35f Tryz.f95 [.val T91] [T3,T3] k (a,())
theorem u35f_eq (k : Nat) (a : T91.den) : u35f k a = br (a.1 == 2) (some (a.2.1,0)) (bnd (u27f k a.2.2.1) (fun y1=>br (!y1 == 0) (br (!y1 == 0) (bnd (br (decide (Int.tmod a.2.1 y1 < 0)) (some (a,IntKind.i64.wrap (IntKind.i64.wrap (Int.tdiv a.2.1 y1) - 1),IntKind.i64.wrap (Int.tmod a.2.1 y1 + y1))) (some (a,IntKind.i64.wrap (Int.tdiv a.2.1 y1),Int.tmod a.2.1 y1))) (fun y2=>bnd (u27f k (IntKind.i64.wrap (6 - y2.1.2.2.1))) (fun y3=>some (y2.2.1,IntKind.i64.wrap (y2.2.2 * y3))))) (none)) (none))):=by kernel_rfl
def c_u35f : Con:=⟨[.val T91],[T3,T3],fun k x=>u35f k x.1⟩
theorem del_u35f {w0 : World} (hS : Stops w0) : DelOk Tryz.prog w0 d_u35f:=.cons (ok_u27f hS) ent_u27f (.nil)
theorem ok_u35f {w0 : World} (hS : Stops w0) : Keeps Tryz.prog w0 95 c_u35f:=.con (y9q (A:=a_u35f) y24q (del_u35f hS) (draws (del_u35f hS)) Tryz.func95 (by kernel_rfl) (fun k x=>by kernel_rfl) (by kernel_rfl)) (by kernel_rfl)
theorem ent_u35f : Enters' Tryz.prog 95:=enters' Tryz.func95 (by kernel_rfl)
attribute [irreducible] u35f
def a_u36f : Ann:=⟨[(0,[.val 0 T3, .val 5 X117_v_0, .val 6 T3],⟨[.val 5 X117_v_0],true⟩)],[]⟩
def d_u36f : List (Nat × Con):=[]
def u36f (k : Nat) (a : T3.den) (b : T3.den) : Option (den1 [T9]):=evFn Γ d_u36f a_u36f Tryz.f96 [.val T3, .val T3] [T9] k (a,b,())
def u36f_l0 (k : Nat) (v0 : T3.den) (v5 : X117_v_0.den) (v6 : T3.den) : Option (Items.den [.val 5 X117_v_0]):=loopQ (ρ:=(den1 [T9])) 0 [.val 0 T3, .val 5 X117_v_0, .val 6 T3] [.val 5 X117_v_0] (runOf Γ d_u36f a_u36f Tryz.f96 [.val T3, .val T3] [T9] 0) k (v0,v5,v6)
theorem u36f_eq (k : Nat) (a : T3.den) (b : T3.den) : u36f k a b = br (b == b) (br (decide (0 ≤ b)) (br (decide (b ≤ (↑capN : Int))) (bnd (u36f_l0 k a (List.replicate (Int.toNat b) (Ty.int IntKind.u8).zero) (IntKind.i64.wrap (b - 1))) (fun y1=>some (List.map (fun n=>UInt8.ofNat n.toNat) y1))) (none)) (none)) (none):=by kernel_rfl
theorem u36f_l0_zero (v0 : T3.den) (v5 : X117_v_0.den) (v6 : T3.den) : u36f_l0 0 v0 v5 v6 = none:=by kernel_rfl
theorem u36f_l0_succ (k : Nat) (v0 : T3.den) (v5 : X117_v_0.den) (v6 : T3.den) : u36f_l0 (k + 1) v0 v5 v6 = br (decide (v6 ≥ 0)) (br (!256 == 0) (br (decide (0 ≤ v6)) (br (decide (v6 < (List.length v5 : Int))) (br (!256 == 0) (u36f_l0 k (IntKind.i64.wrap (Int.tdiv v0 256)) (List.set v5 (Int.toNat v6) (IntKind.u8.wrap (Int.tmod v0 256))) (IntKind.i64.wrap (v6 - 1))) (none)) (none)) (none)) (none)) (some v5):=by kernel_rfl
def c_u36f : Con:=⟨[.val T3, .val T3],[T9],fun k x=>u36f k x.1 x.2.1⟩
theorem del_u36f {w0 : World} (hS : Stops w0) : DelOk Tryz.prog w0 d_u36f:=.nil
theorem ok_u36f {w0 : World} (hS : Stops w0) : Keeps Tryz.prog w0 96 c_u36f:=.con (y9q (A:=a_u36f) y24q (del_u36f hS) (draws (del_u36f hS)) Tryz.func96 (by kernel_rfl) (fun k x=>by kernel_rfl) (by kernel_rfl)) (by kernel_rfl)
theorem ent_u36f : Enters' Tryz.prog 96:=enters' Tryz.func96 (by kernel_rfl)
attribute [irreducible] u36f u36f_l0
def a_u37f : Ann:=⟨[(0,[.val 0 T47, .val 4 T9, .val 5 T3],⟨[.val 4 T9],false⟩)],[]⟩
def d_u37f : List (Nat × Con):=[(86,c_u22f),(95,c_u35f),(96,c_u36f)]
def u37f (k : Nat) (a : T47.den) : Option (den1 [T9,T3]):=evFn Γ d_u37f a_u37f Tryz.f71 [.val T47] [T9,T3] k (a,())
def u37f_l0 (k : Nat) (v0 : T47.den) (v4 : T9.den) (v5 : T3.den) : Option ((Items.den [.val 4 T9]) ⊕ (den1 [T9,T3])):=loopR (ρ:=(den1 [T9,T3])) 0 [.val 0 T47, .val 4 T9, .val 5 T3] [.val 4 T9] (runOf Γ d_u37f a_u37f Tryz.f71 [.val T47] [T9,T3] 0) k (v0,v4,v5)
theorem u37f_eq (k : Nat) (a : T47.den) : u37f k a = br (decide ((List.length a : Int) > 16)) (some ([],1)) (bnd (u37f_l0 k a [] 0) (fun y1=>onSum y1 (fun y2=>some (y2,0)) (fun y2=>some y2))):=by kernel_rfl
theorem u37f_l0_zero (v0 : T47.den) (v4 : T9.den) (v5 : T3.den) : u37f_l0 0 v0 v4 v5 = none:=by kernel_rfl
theorem u37f_l0_succ (k : Nat) (v0 : T47.den) (v4 : T9.den) (v5 : T3.den) : u37f_l0 (k + 1) v0 v4 v5 = br (decide (v5 < (List.length v0 : Int))) (br (decide (0 ≤ v5)) (br (decide (v5 < (List.length v0 : Int))) (bnd (u22f k (List.getD v0 (Int.toNat v5) T91.zero)) (fun y1=>br (!y1) (some (Sum.inr ([],1))) (br ((List.getD v0 (Int.toNat v5) T91.zero).1 == 0) (br (decide (List.length v4 + [1].length ≤ capN)) (u37f_l0 k v0 (v4 ++ [1]) (IntKind.i64.wrap (v5 + 1))) (none)) (br ((List.getD v0 (Int.toNat v5) T91.zero).1 == 1) (br (decide (List.length v4 + [2].length ≤ capN)) (br (decide ((v4 ++ [2]).length + (List.map (fun n=>UInt8.ofNat n.toNat) [IntKind.u8.wrap (List.getD v0 (Int.toNat v5) T91.zero).2.1]).length ≤ capN)) (u37f_l0 k v0 (v4 ++ [2] ++ List.map (fun n=>UInt8.ofNat n.toNat) [IntKind.u8.wrap (List.getD v0 (Int.toNat v5) T91.zero).2.1]) (IntKind.i64.wrap (v5 + 1))) (none)) (none)) (br ((List.getD v0 (Int.toNat v5) T91.zero).1 == 2) (br ((List.getD v0 (Int.toNat v5) T91.zero).1 == 2) (bnd (u35f k (List.getD v0 (Int.toNat v5) T91.zero)) (fun y2=>br (decide (List.length v4 + [3].length ≤ capN)) (bnd (u36f k (IntKind.i64.wrap (y2.1 + 1152921504606846976)) 8) (fun y3=>br (decide ((v4 ++ [3]).length + List.length y3 ≤ capN)) (bnd (u36f k y2.2 3) (fun y4=>br (decide ((v4 ++ [3] ++ y3).length + List.length y4 ≤ capN)) (br (decide ((v4 ++ [3] ++ y3 ++ y4).length + (List.map (fun n=>UInt8.ofNat n.toNat) [IntKind.u8.wrap (List.getD v0 (Int.toNat v5) T91.zero).1]).length ≤ capN)) (u37f_l0 k v0 (v4 ++ [3] ++ y3 ++ y4 ++ List.map (fun n=>UInt8.ofNat n.toNat) [IntKind.u8.wrap (List.getD v0 (Int.toNat v5) T91.zero).1]) (IntKind.i64.wrap (v5 + 1))) (none)) (none))) (none))) (none))) (br ((List.getD v0 (Int.toNat v5) T91.zero).1 == 4) (br (decide (List.length v4 + [4].length ≤ capN)) (br (decide ((v4 ++ [4]).length + List.length (List.getD v0 (Int.toNat v5) T91.zero).2.2.2.1 ≤ capN)) (br (decide ((v4 ++ [4] ++ (List.getD v0 (Int.toNat v5) T91.zero).2.2.2.1).length + [0].length ≤ capN)) (u37f_l0 k v0 (v4 ++ [4] ++ (List.getD v0 (Int.toNat v5) T91.zero).2.2.2.1 ++ [0]) (IntKind.i64.wrap (v5 + 1))) (none)) (none)) (none)) (br ((List.getD v0 (Int.toNat v5) T91.zero).1 == 5) (br (decide (List.length v4 + [5].length ≤ capN)) (bnd (u36f k (List.getD v0 (Int.toNat v5) T91.zero).2.1 3) (fun y2=>br (decide ((v4 ++ [5]).length + List.length y2 ≤ capN)) (u37f_l0 k v0 (v4 ++ [5] ++ y2) (IntKind.i64.wrap (v5 + 1))) (none))) (none)) (u37f_l0 k v0 v4 (IntKind.i64.wrap (v5 + 1)))))) (br ((List.getD v0 (Int.toNat v5) T91.zero).1 == 3) (bnd (u35f k (List.getD v0 (Int.toNat v5) T91.zero)) (fun y2=>br (decide (List.length v4 + [3].length ≤ capN)) (bnd (u36f k (IntKind.i64.wrap (y2.1 + 1152921504606846976)) 8) (fun y3=>br (decide ((v4 ++ [3]).length + List.length y3 ≤ capN)) (bnd (u36f k y2.2 3) (fun y4=>br (decide ((v4 ++ [3] ++ y3).length + List.length y4 ≤ capN)) (br (decide ((v4 ++ [3] ++ y3 ++ y4).length + (List.map (fun n=>UInt8.ofNat n.toNat) [IntKind.u8.wrap (List.getD v0 (Int.toNat v5) T91.zero).1]).length ≤ capN)) (u37f_l0 k v0 (v4 ++ [3] ++ y3 ++ y4 ++ List.map (fun n=>UInt8.ofNat n.toNat) [IntKind.u8.wrap (List.getD v0 (Int.toNat v5) T91.zero).1]) (IntKind.i64.wrap (v5 + 1))) (none)) (none))) (none))) (none))) (br ((List.getD v0 (Int.toNat v5) T91.zero).1 == 4) (br (decide (List.length v4 + [4].length ≤ capN)) (br (decide ((v4 ++ [4]).length + List.length (List.getD v0 (Int.toNat v5) T91.zero).2.2.2.1 ≤ capN)) (br (decide ((v4 ++ [4] ++ (List.getD v0 (Int.toNat v5) T91.zero).2.2.2.1).length + [0].length ≤ capN)) (u37f_l0 k v0 (v4 ++ [4] ++ (List.getD v0 (Int.toNat v5) T91.zero).2.2.2.1 ++ [0]) (IntKind.i64.wrap (v5 + 1))) (none)) (none)) (none)) (br ((List.getD v0 (Int.toNat v5) T91.zero).1 == 5) (br (decide (List.length v4 + [5].length ≤ capN)) (bnd (u36f k (List.getD v0 (Int.toNat v5) T91.zero).2.1 3) (fun y2=>br (decide ((v4 ++ [5]).length + List.length y2 ≤ capN)) (u37f_l0 k v0 (v4 ++ [5] ++ y2) (IntKind.i64.wrap (v5 + 1))) (none))) (none)) (u37f_l0 k v0 v4 (IntKind.i64.wrap (v5 + 1))))))))))) (none)) (none)) (some (Sum.inl v4)):=by kernel_rfl
def c_u37f : Con:=⟨[.val T47],[T9,T3],fun k x=>u37f k x.1⟩
theorem del_u37f {w0 : World} (hS : Stops w0) : DelOk Tryz.prog w0 d_u37f:=.cons (ok_u22f hS) ent_u22f (.cons (ok_u35f hS) ent_u35f (.cons (ok_u36f hS) ent_u36f (.nil)))
theorem ok_u37f {w0 : World} (hS : Stops w0) : Keeps Tryz.prog w0 71 c_u37f:=.con (y9q (A:=a_u37f) y24q (del_u37f hS) (draws (del_u37f hS)) Tryz.func71 (by kernel_rfl) (fun k x=>by kernel_rfl) (by kernel_rfl)) (by kernel_rfl)
theorem ent_u37f : Enters' Tryz.prog 71:=enters' Tryz.func71 (by kernel_rfl)
attribute [irreducible] u37f u37f_l0
def a_u38f : Ann:=⟨[],[]⟩
def d_u38f : List (Nat × Con):=[(69,c_u24f),(70,c_u34f),(71,c_u37f)]
def u38f (k : Nat) (a : T36.den) (b : T71.den) (c : T47.den) : Option (den1 [T68]):=evFn Γ d_u38f a_u38f Tryz.f35 [.val T36, .val T71, .val T47] [T68] k (a,b,c,())
theorem u38f_eq (k : Nat) (a : T36.den) (b : T71.den) (c : T47.den) : u38f k a b c = bnd (u24f k a.1) (fun y1=>bnd (u24f k b.1) (fun y2=>bnd (u34f k a c b.2.2.1) (fun y3=>br (decide ([y1,y2].length + List.length y3 ≤ capN)) (bnd (u34f k a c a.2.2.2.2.1) (fun y4=>br (decide (List.length ([y1,y2] ++ y3) + List.length y4 ≤ capN)) (bnd (u37f k ([y1,y2] ++ y3 ++ y4)) (fun y5=>some (y5.1,([] : List UInt8),()))) (none))) (none)))):=by kernel_rfl
def c_u38f : Con:=⟨[.val T36, .val T71, .val T47],[T68],fun k x=>u38f k x.1 x.2.1 x.2.2.1⟩
theorem del_u38f {w0 : World} (hS : Stops w0) : DelOk Tryz.prog w0 d_u38f:=.cons (ok_u24f hS) ent_u24f (.cons (ok_u34f hS) ent_u34f (.cons (ok_u37f hS) ent_u37f (.nil)))
theorem ok_u38f {w0 : World} (hS : Stops w0) : Keeps Tryz.prog w0 35 c_u38f:=.con (y9q (A:=a_u38f) y24q (del_u38f hS) (draws (del_u38f hS)) Tryz.func35 (by kernel_rfl) (fun k x=>by kernel_rfl) (by kernel_rfl)) (by kernel_rfl)
theorem ent_u38f : Enters' Tryz.prog 35:=enters' Tryz.func35 (by kernel_rfl)
attribute [irreducible] u38f
def a_u39f : Ann:=⟨[(0,[.val 2 T30, .var 3 T36, .val 8 O30, .val 9 T3, .val 10 T3],⟨[.val 8 O30],false⟩)],[]⟩
def d_u39f : List (Nat × Con):=[(32,c_u19f),(33,c_u20f),(34,c_u33f),(35,c_u38f)]
def u39f (k : Nat) (a : T36.den) (b : T9.den) (c : T30.den) : Option (den1 [T30,T3]):=evFn Γ d_u39f a_u39f Tryz.f8 [.val T36, .val T9, .val T30] [T30,T3] k (a,b,c,())
def u39f_l0 (k : Nat) (v2 : T30.den) (v3 : T36.den) (v8 : O30.den) (v9 : T3.den) (v10 : T3.den) : Option ((Items.den [.val 8 O30]) ⊕ (den1 [T30,T3])):=loopR (ρ:=(den1 [T30,T3])) 0 [.val 2 T30, .var 3 T36, .val 8 O30, .val 9 T3, .val 10 T3] [.val 8 O30] (runOf Γ d_u39f a_u39f Tryz.f8 [.val T36, .val T9, .val T30] [T30,T3] 0) k (v2,v3,v8,v9,v10)
theorem u39f_eq (k : Nat) (a : T36.den) (b : T9.den) (c : T30.den) : u39f k a b c = bnd (u19f k a) (fun y1=>br (!y1) (some ([],1)) (br (decide ((List.length c : Int) > 4000)) (some ([],1)) (bnd (u20f k a b) (fun y2=>br (decide (y2 < 0)) (some ([],14)) (bnd (u39f_l0 k c a [] y2 0) (fun y3=>onSum y3 (fun y4=>some (y4,0)) (fun y4=>some y4))))))):=by kernel_rfl
theorem u39f_l0_zero (v2 : T30.den) (v3 : T36.den) (v8 : O30.den) (v9 : T3.den) (v10 : T3.den) : u39f_l0 0 v2 v3 v8 v9 v10 = none:=by kernel_rfl
theorem u39f_l0_succ (k : Nat) (v2 : T30.den) (v3 : T36.den) (v8 : O30.den) (v9 : T3.den) (v10 : T3.den) : u39f_l0 (k + 1) v2 v3 v8 v9 v10 = br (decide (v10 < (List.length v2 : Int))) (br (decide (0 ≤ v10)) (br (decide (v10 < (List.length v2 : Int))) (bnd (u33f k v3 (List.getD v2 (Int.toNat v10) T68.zero)) (fun y1=>br (y1.2 != 0) (some (Sum.inr ([],y1.2))) (br (decide (0 ≤ v9)) (br (decide (v9 < (List.length v3.2.2.2.2.2.1 : Int))) (bnd (u38f k v3 (List.getD v3.2.2.2.2.2.1 (Int.toNat v9) T71.zero) y1.1) (fun y2=>br (decide (List.length v8 + [y2].length ≤ capN)) (u39f_l0 k v2 v3 (v8 ++ [y2]) v9 (IntKind.i64.wrap (v10 + 1))) (none))) (none)) (none)))) (none)) (none)) (some (Sum.inl v8)):=by kernel_rfl
def c_u39f : Con:=⟨[.val T36, .val T9, .val T30],[T30,T3],fun k x=>u39f k x.1 x.2.1 x.2.2.1⟩
theorem del_u39f {w0 : World} (hS : Stops w0) : DelOk Tryz.prog w0 d_u39f:=.cons (ok_u19f hS) ent_u19f (.cons (ok_u20f hS) ent_u20f (.cons (ok_u33f hS) ent_u33f (.cons (ok_u38f hS) ent_u38f (.nil))))
theorem ok_u39f {w0 : World} (hS : Stops w0) : Keeps Tryz.prog w0 8 c_u39f:=.con (y9q (A:=a_u39f) y24q (del_u39f hS) (draws (del_u39f hS)) Tryz.func8 (by kernel_rfl) (fun k x=>by kernel_rfl) (by kernel_rfl)) (by kernel_rfl)
theorem ent_u39f : Enters' Tryz.prog 8:=enters' Tryz.func8 (by kernel_rfl)
attribute [irreducible] u39f u39f_l0
def a_u40f : Ann:=⟨[],[]⟩
def d_u40f : List (Nat × Con):=[]
def u40f (k : Nat) (a : T98.den) : Option (den1 [T102]):=evFn Γo d_u40f a_u40f Tryz.f72 [.val T98] [T102] k (a,())
theorem u40f_eq (k : Nat) (a : T98.den) : u40f k a = some a:=by kernel_rfl
def c_u40f : Con:=⟨[.val T98],[T102],fun k x=>u40f k x.1⟩
theorem del_u40f {w0 : World} (hS : Stops w0) : DelOk Tryz.prog w0 d_u40f:=.nil
theorem ok_u40f {w0 : World} (hS : Stops w0) : Keeps Tryz.prog w0 72 c_u40f:=.con (y9q (A:=a_u40f) y55q (del_u40f hS) (drawso (del_u40f hS)) Tryz.func72 (by kernel_rfl) (fun k x=>by kernel_rfl) (by kernel_rfl)) (by kernel_rfl)
theorem ent_u40f : Enters' Tryz.prog 72:=enters' Tryz.func72 (by kernel_rfl)
attribute [irreducible] u40f
def a_u41f : Ann:=⟨[(0,[.val 0 T22, .val 3 O33, .val 4 T3],⟨[.val 3 O33],true⟩)],[]⟩
def d_u41f : List (Nat × Con):=[(72,c_u40f)]
def u41f (k : Nat) (a : T22.den) : Option (den1 [O33]):=evFn Γo d_u41f a_u41f Tryz.f36 [.val T22] [O33] k (a,())
def u41f_l0 (k : Nat) (v0 : T22.den) (v3 : O33.den) (v4 : T3.den) : Option (Items.den [.val 3 O33]):=loopQ (ρ:=(den1 [O33])) 0 [.val 0 T22, .val 3 O33, .val 4 T3] [.val 3 O33] (runOf Γo d_u41f a_u41f Tryz.f36 [.val T22] [O33] 0) k (v0,v3,v4)
theorem u41f_eq (k : Nat) (a : T22.den) : u41f k a = br ((List.length a : Int) == (List.length a : Int)) (br (decide (0 ≤ (List.length a : Int))) (br (decide ((List.length a : Int) ≤ (↑capN : Int))) (bnd (u41f_l0 k a (List.replicate (List.length a : Int).toNat (T3.pair (T9.pair (T3.pair (T4.pair Ty.unit)))).zero) 0) (fun y1=>some y1)) (none)) (none)) (none):=by kernel_rfl
theorem u41f_l0_zero (v0 : T22.den) (v3 : O33.den) (v4 : T3.den) : u41f_l0 0 v0 v3 v4 = none:=by kernel_rfl
theorem u41f_l0_succ (k : Nat) (v0 : T22.den) (v3 : O33.den) (v4 : T3.den) : u41f_l0 (k + 1) v0 v3 v4 = br (decide (v4 < (List.length v0 : Int))) (br (decide (0 ≤ v4)) (br (decide (v4 < (List.length v0 : Int))) (bnd (u40f k (List.getD v0 (Int.toNat v4) T98.zero)) (fun y1=>br (decide (0 ≤ v4)) (br (decide (v4 < (List.length v3 : Int))) (u41f_l0 k v0 (List.set v3 (Int.toNat v4) y1) (IntKind.i64.wrap (v4 + 1))) (none)) (none))) (none)) (none)) (some v3):=by kernel_rfl
def c_u41f : Con:=⟨[.val T22],[O33],fun k x=>u41f k x.1⟩
theorem del_u41f {w0 : World} (hS : Stops w0) : DelOk Tryz.prog w0 d_u41f:=.cons (ok_u40f hS) ent_u40f (.nil)
theorem ok_u41f {w0 : World} (hS : Stops w0) : Keeps Tryz.prog w0 36 c_u41f:=.gn (y48q (A:=a_u41f) y55q (del_u41f hS) (drawso (del_u41f hS)) Tryz.func36 (by kernel_rfl) (fun k x=>by kernel_rfl) (by kernel_rfl)) (by kernel_rfl)
theorem ent_u41f : Enters' Tryz.prog 36:=enters' Tryz.func36 (by kernel_rfl)
attribute [irreducible] u41f u41f_l0
def a_u42f : Ann:=⟨[(0,[.val 0 T23, .val 3 O23, .val 4 T3],⟨[.val 3 O23],true⟩)],[]⟩
def d_u42f : List (Nat × Con):=[]
def u42f (k : Nat) (a : T23.den) : Option (den1 [O23]):=evFn Γo d_u42f a_u42f Tryz.f37 [.val T23] [O23] k (a,())
def u42f_l0 (k : Nat) (v0 : T23.den) (v3 : O23.den) (v4 : T3.den) : Option (Items.den [.val 3 O23]):=loopQ (ρ:=(den1 [O23])) 0 [.val 0 T23, .val 3 O23, .val 4 T3] [.val 3 O23] (runOf Γo d_u42f a_u42f Tryz.f37 [.val T23] [O23] 0) k (v0,v3,v4)
theorem u42f_eq (k : Nat) (a : T23.den) : u42f k a = br ((List.length a : Int) == (List.length a : Int)) (br (decide (0 ≤ (List.length a : Int))) (br (decide ((List.length a : Int) ≤ (↑capN : Int))) (bnd (u42f_l0 k a (List.replicate (List.length a : Int).toNat (Ty.int IntKind.i64).zero) 0) (fun y1=>some y1)) (none)) (none)) (none):=by kernel_rfl
theorem u42f_l0_zero (v0 : T23.den) (v3 : O23.den) (v4 : T3.den) : u42f_l0 0 v0 v3 v4 = none:=by kernel_rfl
theorem u42f_l0_succ (k : Nat) (v0 : T23.den) (v3 : O23.den) (v4 : T3.den) : u42f_l0 (k + 1) v0 v3 v4 = br (decide (v4 < (List.length v0 : Int))) (br (decide (0 ≤ v4)) (br (decide (v4 < (List.length v0 : Int))) (br (decide (0 ≤ v4)) (br (decide (v4 < (List.length v3 : Int))) (u42f_l0 k v0 (List.set v3 (Int.toNat v4) (List.getD v0 (Int.toNat v4) T3.zero)) (IntKind.i64.wrap (v4 + 1))) (none)) (none)) (none)) (none)) (some v3):=by kernel_rfl
def c_u42f : Con:=⟨[.val T23],[O23],fun k x=>u42f k x.1⟩
theorem del_u42f {w0 : World} (hS : Stops w0) : DelOk Tryz.prog w0 d_u42f:=.nil
theorem ok_u42f {w0 : World} (hS : Stops w0) : Keeps Tryz.prog w0 37 c_u42f:=.gn (y48q (A:=a_u42f) y55q (del_u42f hS) (drawso (del_u42f hS)) Tryz.func37 (by kernel_rfl) (fun k x=>by kernel_rfl) (by kernel_rfl)) (by kernel_rfl)
theorem ent_u42f : Enters' Tryz.prog 37:=enters' Tryz.func37 (by kernel_rfl)
attribute [irreducible] u42f u42f_l0
def a_u43f : Ann:=⟨[],[]⟩
def d_u43f : List (Nat × Con):=[(37,c_u42f)]
def u43f (k : Nat) (a : T100.den) : Option (den1 [O71]):=evFn Γo d_u43f a_u43f Tryz.f73 [.val T100] [O71] k (a,())
theorem u43f_eq (k : Nat) (a : T100.den) : u43f k a = bnd (u42f k a.2.2.1) (fun y1=>some (a.1,a.2.1,y1,a.2.2.2.1,a.2.2.2.2.1,a.2.2.2.2.2.1,())):=by kernel_rfl
def c_u43f : Con:=⟨[.val T100],[O71],fun k x=>u43f k x.1⟩
theorem del_u43f {w0 : World} (hS : Stops w0) : DelOk Tryz.prog w0 d_u43f:=.cons (ok_u42f hS) ent_u42f (.nil)
theorem ok_u43f {w0 : World} (hS : Stops w0) : Keeps Tryz.prog w0 73 c_u43f:=.gn (y48q (A:=a_u43f) y55q (del_u43f hS) (drawso (del_u43f hS)) Tryz.func73 (by kernel_rfl) (fun k x=>by kernel_rfl) (by kernel_rfl)) (by kernel_rfl)
theorem ent_u43f : Enters' Tryz.prog 73:=enters' Tryz.func73 (by kernel_rfl)
attribute [irreducible] u43f
def a_u44f : Ann:=⟨[(0,[.val 0 T24, .val 3 O34, .val 4 T3],⟨[.val 3 O34],true⟩)],[]⟩
def d_u44f : List (Nat × Con):=[(73,c_u43f)]
def u44f (k : Nat) (a : T24.den) : Option (den1 [O34]):=evFn Γo d_u44f a_u44f Tryz.f38 [.val T24] [O34] k (a,())
def u44f_l0 (k : Nat) (v0 : T24.den) (v3 : O34.den) (v4 : T3.den) : Option (Items.den [.val 3 O34]):=loopQ (ρ:=(den1 [O34])) 0 [.val 0 T24, .val 3 O34, .val 4 T3] [.val 3 O34] (runOf Γo d_u44f a_u44f Tryz.f38 [.val T24] [O34] 0) k (v0,v3,v4)
theorem u44f_eq (k : Nat) (a : T24.den) : u44f k a = br ((List.length a : Int) == (List.length a : Int)) (br (decide (0 ≤ (List.length a : Int))) (br (decide ((List.length a : Int) ≤ (↑capN : Int))) (bnd (u44f_l0 k a (List.replicate (List.length a : Int).toNat (T3.pair (T9.pair (O23.pair (T4.pair (T3.pair (T4.pair Ty.unit)))))).zero) 0) (fun y1=>some y1)) (none)) (none)) (none):=by kernel_rfl
theorem u44f_l0_zero (v0 : T24.den) (v3 : O34.den) (v4 : T3.den) : u44f_l0 0 v0 v3 v4 = none:=by kernel_rfl
theorem u44f_l0_succ (k : Nat) (v0 : T24.den) (v3 : O34.den) (v4 : T3.den) : u44f_l0 (k + 1) v0 v3 v4 = br (decide (v4 < (List.length v0 : Int))) (br (decide (0 ≤ v4)) (br (decide (v4 < (List.length v0 : Int))) (bnd (u43f k (List.getD v0 (Int.toNat v4) T100.zero)) (fun y1=>br (decide (0 ≤ v4)) (br (decide (v4 < (List.length v3 : Int))) (u44f_l0 k v0 (List.set v3 (Int.toNat v4) y1) (IntKind.i64.wrap (v4 + 1))) (none)) (none))) (none)) (none)) (some v3):=by kernel_rfl
def c_u44f : Con:=⟨[.val T24],[O34],fun k x=>u44f k x.1⟩
theorem del_u44f {w0 : World} (hS : Stops w0) : DelOk Tryz.prog w0 d_u44f:=.cons (ok_u43f hS) ent_u43f (.nil)
theorem ok_u44f {w0 : World} (hS : Stops w0) : Keeps Tryz.prog w0 38 c_u44f:=.gn (y48q (A:=a_u44f) y55q (del_u44f hS) (drawso (del_u44f hS)) Tryz.func38 (by kernel_rfl) (fun k x=>by kernel_rfl) (by kernel_rfl)) (by kernel_rfl)
theorem ent_u44f : Enters' Tryz.prog 38:=enters' Tryz.func38 (by kernel_rfl)
attribute [irreducible] u44f u44f_l0
def a_u45f : Ann:=⟨[],[]⟩
def d_u45f : List (Nat × Con):=[(36,c_u41f),(37,c_u42f),(38,c_u44f)]
def u45f (k : Nat) (a : T26.den) : Option (den1 [O36]):=evFn Γo d_u45f a_u45f Tryz.f9 [.val T26] [O36] k (a,())
theorem u45f_eq (k : Nat) (a : T26.den) : u45f k a = bnd (u41f k a.2.2.2.1) (fun y1=>bnd (u42f k a.2.2.2.2.1) (fun y2=>bnd (u44f k a.2.2.2.2.2.1) (fun y3=>some (a.1,a.2.1,a.2.2.1,y1,y2,y3,())))):=by kernel_rfl
def c_u45f : Con:=⟨[.val T26],[O36],fun k x=>u45f k x.1⟩
theorem del_u45f {w0 : World} (hS : Stops w0) : DelOk Tryz.prog w0 d_u45f:=.cons (ok_u41f hS) ent_u41f (.cons (ok_u42f hS) ent_u42f (.cons (ok_u44f hS) ent_u44f (.nil)))
theorem ok_u45f {w0 : World} (hS : Stops w0) : Keeps Tryz.prog w0 9 c_u45f:=.gn (y48q (A:=a_u45f) y55q (del_u45f hS) (drawso (del_u45f hS)) Tryz.func9 (by kernel_rfl) (fun k x=>by kernel_rfl) (by kernel_rfl)) (by kernel_rfl)
theorem ent_u45f : Enters' Tryz.prog 9:=enters' Tryz.func9 (by kernel_rfl)
attribute [irreducible] u45f
def a_u46f : Ann:=⟨[],[]⟩
def d_u46f : List (Nat × Con):=[]
def u46f (k : Nat) (a : T63.den) : Option (den1 [T68]):=evFn Γo d_u46f a_u46f Tryz.f39 [.val T63] [T68] k (a,())
theorem u46f_eq (k : Nat) (a : T63.den) : u46f k a = some a:=by kernel_rfl
def c_u46f : Con:=⟨[.val T63],[T68],fun k x=>u46f k x.1⟩
theorem del_u46f {w0 : World} (hS : Stops w0) : DelOk Tryz.prog w0 d_u46f:=.nil
theorem ok_u46f {w0 : World} (hS : Stops w0) : Keeps Tryz.prog w0 39 c_u46f:=.con (y9q (A:=a_u46f) y55q (del_u46f hS) (drawso (del_u46f hS)) Tryz.func39 (by kernel_rfl) (fun k x=>by kernel_rfl) (by kernel_rfl)) (by kernel_rfl)
theorem ent_u46f : Enters' Tryz.prog 39:=enters' Tryz.func39 (by kernel_rfl)
attribute [irreducible] u46f
def a_u47f : Ann:=⟨[(0,[.val 0 T27, .val 3 O30, .val 4 T3],⟨[.val 3 O30],true⟩)],[]⟩
def d_u47f : List (Nat × Con):=[(39,c_u46f)]
def u47f (k : Nat) (a : T27.den) : Option (den1 [O30]):=evFn Γo d_u47f a_u47f Tryz.f10 [.val T27] [O30] k (a,())
def u47f_l0 (k : Nat) (v0 : T27.den) (v3 : O30.den) (v4 : T3.den) : Option (Items.den [.val 3 O30]):=loopQ (ρ:=(den1 [O30])) 0 [.val 0 T27, .val 3 O30, .val 4 T3] [.val 3 O30] (runOf Γo d_u47f a_u47f Tryz.f10 [.val T27] [O30] 0) k (v0,v3,v4)
theorem u47f_eq (k : Nat) (a : T27.den) : u47f k a = br ((List.length a : Int) == (List.length a : Int)) (br (decide (0 ≤ (List.length a : Int))) (br (decide ((List.length a : Int) ≤ (↑capN : Int))) (bnd (u47f_l0 k a (List.replicate (List.length a : Int).toNat (T9.pair (T9.pair Ty.unit)).zero) 0) (fun y1=>some y1)) (none)) (none)) (none):=by kernel_rfl
theorem u47f_l0_zero (v0 : T27.den) (v3 : O30.den) (v4 : T3.den) : u47f_l0 0 v0 v3 v4 = none:=by kernel_rfl
theorem u47f_l0_succ (k : Nat) (v0 : T27.den) (v3 : O30.den) (v4 : T3.den) : u47f_l0 (k + 1) v0 v3 v4 = br (decide (v4 < (List.length v0 : Int))) (br (decide (0 ≤ v4)) (br (decide (v4 < (List.length v0 : Int))) (bnd (u46f k (List.getD v0 (Int.toNat v4) T63.zero)) (fun y1=>br (decide (0 ≤ v4)) (br (decide (v4 < (List.length v3 : Int))) (u47f_l0 k v0 (List.set v3 (Int.toNat v4) y1) (IntKind.i64.wrap (v4 + 1))) (none)) (none))) (none)) (none)) (some v3):=by kernel_rfl
def c_u47f : Con:=⟨[.val T27],[O30],fun k x=>u47f k x.1⟩
theorem del_u47f {w0 : World} (hS : Stops w0) : DelOk Tryz.prog w0 d_u47f:=.cons (ok_u46f hS) ent_u46f (.nil)
theorem ok_u47f {w0 : World} (hS : Stops w0) : Keeps Tryz.prog w0 10 c_u47f:=.gn (y48q (A:=a_u47f) y55q (del_u47f hS) (drawso (del_u47f hS)) Tryz.func10 (by kernel_rfl) (fun k x=>by kernel_rfl) (by kernel_rfl)) (by kernel_rfl)
theorem ent_u47f : Enters' Tryz.prog 10:=enters' Tryz.func10 (by kernel_rfl)
attribute [irreducible] u47f u47f_l0
def a_u48f : Ann:=⟨[],[]⟩
def d_u48f : List (Nat × Con):=[]
def u48f (k : Nat) (a : T3.den) (b : T3.den) (c : T3.den) : Option (den1 [T4]):=evFn Γ d_u48f a_u48f Tryz.f74 [.val T3, .val T3, .val T3] [T4] k (a,b,c,())
theorem u48f_eq (k : Nat) (a : T3.den) (b : T3.den) (c : T3.den) : u48f k a b c = br (decide (a ≥ b)) (some (decide (a ≤ c))) (some false):=by kernel_rfl
def c_u48f : Con:=⟨[.val T3, .val T3, .val T3],[T4],fun k x=>u48f k x.1 x.2.1 x.2.2.1⟩
theorem del_u48f {w0 : World} (hS : Stops w0) : DelOk Tryz.prog w0 d_u48f:=.nil
theorem ok_u48f {w0 : World} (hS : Stops w0) : Keeps Tryz.prog w0 74 c_u48f:=.con (y9q (A:=a_u48f) y24q (del_u48f hS) (draws (del_u48f hS)) Tryz.func74 (by kernel_rfl) (fun k x=>by kernel_rfl) (by kernel_rfl)) (by kernel_rfl)
theorem ent_u48f : Enters' Tryz.prog 74:=enters' Tryz.func74 (by kernel_rfl)
attribute [irreducible] u48f
def a_u49f : Ann:=⟨[(0,[.val 0 T9, .val 19 T3, .val 20 T3],⟨[],false⟩)],[]⟩
def d_u49f : List (Nat × Con):=[(97,c_strings_Contains)]
def u49f (k : Nat) (a : T9.den) : Option (den1 [T4]):=evFn Γ d_u49f a_u49f Tryz.f75 [.val T9] [T4] k (a,())
def u49f_l0 (k : Nat) (v0 : T9.den) (v19 : T3.den) (v20 : T3.den) : Option ((Items.den []) ⊕ (den1 [T4])):=loopR (ρ:=(den1 [T4])) 0 [.val 0 T9, .val 19 T3, .val 20 T3] [] (runOf Γ d_u49f a_u49f Tryz.f75 [.val T9] [T4] 0) k (v0,v19,v20)
theorem u49f_eq (k : Nat) (a : T9.den) : u49f k a = br (a == []) (some false) (br (decide ((List.length a : Int) > 30)) (some false) (br (decide ([32].length + List.length a ≤ capN)) (br (decide (([32] ++ a).length + [32].length ≤ capN)) (bnd (strings_Contains k [32,97,108,108,32,97,110,100,32,97,115,32,97,115,99,32,98,101,103,105,110,32,98,101,116,119,101,101,110,32,98,121,32,99,97,115,101,32,99,97,115,116,32,99,111,109,109,105,116,32,99,114,101,97,116,101,32,99,114,111,115,115,32,100,97,121,32,100,101,108,101,116,101,32,100,101,115,99,32,100,105,115,116,105,110,99,116,32,100,114,111,112,32,101,108,115,101,32,101,110,100,32,101,120,99,101,112,116,32,101,120,105,115,116,115,32,101,120,112,108,97,105,110,32,102,97,108,115,101,32,102,114,111,109,32,103,114,111,117,112,32,104,97,118,105,110,103,32,105,110,32,105,110,100,101,120,32,105,110,115,101,114,116,32,105,110,116,101,114,115,101,99,116,32,105,110,116,111,32,105,115,32,106,111,105,110,32,107,101,121,32,108,101,102,116,32,108,105,109,105,116,32,110,111,116,32,110,117,108,108,32,111,110,32,111,114,32,111,114,100,101,114,32,111,118,101,114,32,112,97,114,116,105,116,105,111,110,32,112,114,105,109,97,114,121,32,114,101,99,117,114,115,105,118,101,32,114,111,108,108,98,97,99,107,32,115,101,108,101,99,116,32,115,101,116,32,116,97,98,108,101,32,116,104,101,110,32,116,114,117,101,32,117,110,105,111,110,32,117,110,105,113,117,101,32,117,112,100,97,116,101,32,118,97,108,117,101,115,32,118,105,101,119,32,119,104,101,110,32,119,104,101,114,101,32,119,105,116,104,32,97,108,116,101,114,32,97,100,100,32,99,111,108,117,109,110,32,108,101,118,101,108,32,115,101,114,105,97,108,32,115,110,97,112,115,104,111,116,32,108,97,116,101,115,116,32] ([32] ++ a ++ [32])) (fun y1=>br (y1) (some false) (bnd (u49f_l0 k a ((List.length a : Int)) 0) (fun y2=>onSum y2 (fun y3=>some true) (fun y3=>some y3))))) (none)) (none))):=by kernel_rfl
theorem u49f_l0_zero (v0 : T9.den) (v19 : T3.den) (v20 : T3.den) : u49f_l0 0 v0 v19 v20 = none:=by kernel_rfl
theorem u49f_l0_succ (k : Nat) (v0 : T9.den) (v19 : T3.den) (v20 : T3.den) : u49f_l0 (k + 1) v0 v19 v20 = br (decide (v20 < v19)) (br (decide (0 ≤ v20)) (br (decide (v20 < (List.length v0 : Int))) (br (decide ((↑(List.getD v0 (Int.toNat v20) 0).toNat : Int) ≥ 97)) (br (decide ((↑(List.getD v0 (Int.toNat v20) 0).toNat : Int) ≤ 122)) (br (!true) (some (Sum.inr false)) (u49f_l0 k v0 v19 (IntKind.i64.wrap (v20 + 1)))) (br ((↑(List.getD v0 (Int.toNat v20) 0).toNat : Int) == 95) (br (!true) (some (Sum.inr false)) (u49f_l0 k v0 v19 (IntKind.i64.wrap (v20 + 1)))) (br (decide (v20 > 0)) (br (decide ((↑(List.getD v0 (Int.toNat v20) 0).toNat : Int) ≥ 48)) (br (!decide ((↑(List.getD v0 (Int.toNat v20) 0).toNat : Int) ≤ 57)) (some (Sum.inr false)) (u49f_l0 k v0 v19 (IntKind.i64.wrap (v20 + 1)))) (br (!false) (some (Sum.inr false)) (u49f_l0 k v0 v19 (IntKind.i64.wrap (v20 + 1))))) (br (!false) (some (Sum.inr false)) (u49f_l0 k v0 v19 (IntKind.i64.wrap (v20 + 1))))))) (br ((↑(List.getD v0 (Int.toNat v20) 0).toNat : Int) == 95) (br (!true) (some (Sum.inr false)) (u49f_l0 k v0 v19 (IntKind.i64.wrap (v20 + 1)))) (br (decide (v20 > 0)) (br (decide ((↑(List.getD v0 (Int.toNat v20) 0).toNat : Int) ≥ 48)) (br (!decide ((↑(List.getD v0 (Int.toNat v20) 0).toNat : Int) ≤ 57)) (some (Sum.inr false)) (u49f_l0 k v0 v19 (IntKind.i64.wrap (v20 + 1)))) (br (!false) (some (Sum.inr false)) (u49f_l0 k v0 v19 (IntKind.i64.wrap (v20 + 1))))) (br (!false) (some (Sum.inr false)) (u49f_l0 k v0 v19 (IntKind.i64.wrap (v20 + 1))))))) (none)) (none)) (some (Sum.inl ())):=by kernel_rfl
def c_u49f : Con:=⟨[.val T9],[T4],fun k x=>u49f k x.1⟩
theorem del_u49f {w0 : World} (hS : Stops w0) : DelOk Tryz.prog w0 d_u49f:=.cons (hS.strings_Contains.1) hS.strings_Contains.2 (.nil)
theorem ok_u49f {w0 : World} (hS : Stops w0) : Keeps Tryz.prog w0 75 c_u49f:=.con (y9q (A:=a_u49f) y24q (del_u49f hS) (draws (del_u49f hS)) Tryz.func75 (by kernel_rfl) (fun k x=>by kernel_rfl) (by kernel_rfl)) (by kernel_rfl)
theorem ent_u49f : Enters' Tryz.prog 75:=enters' Tryz.func75 (by kernel_rfl)
attribute [irreducible] u49f u49f_l0
def a_slices_Index_int_int : Ann:=⟨[(0,[.val 0 T23, .val 1 T3, .val 7 T3, .val 8 T3],⟨[],false⟩)],[]⟩
def d_slices_Index_int_int : List (Nat × Con):=[]
def slices_Index_int_int (k : Nat) (a : T23.den) (b : T3.den) : Option (den1 [T3]):=evFn Γ d_slices_Index_int_int a_slices_Index_int_int Tryz.f120 [.val T23, .val T3] [T3] k (a,b,())
def slices_Index_int_int_l0 (k : Nat) (v0 : T23.den) (v1 : T3.den) (v7 : T3.den) (v8 : T3.den) : Option ((Items.den []) ⊕ (den1 [T3])):=loopR (ρ:=(den1 [T3])) 0 [.val 0 T23, .val 1 T3, .val 7 T3, .val 8 T3] [] (runOf Γ d_slices_Index_int_int a_slices_Index_int_int Tryz.f120 [.val T23, .val T3] [T3] 0) k (v0,v1,v7,v8)
theorem slices_Index_int_int_eq (k : Nat) (a : T23.den) (b : T3.den) : slices_Index_int_int k a b = bnd (slices_Index_int_int_l0 k a b ((List.length a : Int)) 0) (fun y1=>onSum y1 (fun y2=>some (-1)) (fun y2=>some y2)):=by kernel_rfl
theorem slices_Index_int_int_l0_zero (v0 : T23.den) (v1 : T3.den) (v7 : T3.den) (v8 : T3.den) : slices_Index_int_int_l0 0 v0 v1 v7 v8 = none:=by kernel_rfl
theorem y121q (k : Nat) (v0 : T23.den) (v1 : T3.den) (v7 : T3.den) (v8 : T3.den) : slices_Index_int_int_l0 (k + 1) v0 v1 v7 v8 = br (decide (v8 < v7)) (br (decide (0 ≤ v8)) (br (decide (v8 < (List.length v0 : Int))) (br (v1 == List.getD v0 (Int.toNat v8) T3.zero) (some (Sum.inr v8)) (slices_Index_int_int_l0 k v0 v1 v7 (IntKind.i64.wrap (v8 + 1)))) (none)) (none)) (some (Sum.inl ())):=by kernel_rfl
def c_slices_Index_int_int : Con:=⟨[.val T23, .val T3],[T3],fun k x=>slices_Index_int_int k x.1 x.2.1⟩
theorem y74q {w0 : World} (hS : Stops w0) : DelOk Tryz.prog w0 d_slices_Index_int_int:=.nil
theorem ok_slices_Index_int_int {w0 : World} (hS : Stops w0) : Keeps Tryz.prog w0 120 c_slices_Index_int_int:=.con (y9q (A:=a_slices_Index_int_int) y24q (y74q hS) (draws (y74q hS)) Tryz.func120 (by kernel_rfl) (fun k x=>by kernel_rfl) (by kernel_rfl)) (by kernel_rfl)
theorem ent_slices_Index_int_int : Enters' Tryz.prog 120:=enters' Tryz.func120 (by kernel_rfl)
attribute [irreducible] slices_Index_int_int slices_Index_int_int_l0
def a_slices_Contains_int_int : Ann:=⟨[],[]⟩
def d_slices_Contains_int_int : List (Nat × Con):=[(120,c_slices_Index_int_int)]
def slices_Contains_int_int (k : Nat) (a : T23.den) (b : T3.den) : Option (den1 [T4]):=evFn Γ d_slices_Contains_int_int a_slices_Contains_int_int Tryz.f98 [.val T23, .val T3] [T4] k (a,b,())
theorem y137q (k : Nat) (a : T23.den) (b : T3.den) : slices_Contains_int_int k a b = bnd (slices_Index_int_int k a b) (fun y1=>some (decide (y1 ≥ 0))):=by kernel_rfl
def c_slices_Contains_int_int : Con:=⟨[.val T23, .val T3],[T4],fun k x=>slices_Contains_int_int k x.1 x.2.1⟩
theorem y56q {w0 : World} (hS : Stops w0) : DelOk Tryz.prog w0 d_slices_Contains_int_int:=.cons (ok_slices_Index_int_int hS) ent_slices_Index_int_int (.nil)
theorem y138q {w0 : World} (hS : Stops w0) : Keeps Tryz.prog w0 98 c_slices_Contains_int_int:=.con (y9q (A:=a_slices_Contains_int_int) y24q (y56q hS) (draws (y56q hS)) Tryz.func98 (by kernel_rfl) (fun k x=>by kernel_rfl) (by kernel_rfl)) (by kernel_rfl)
theorem y128q : Enters' Tryz.prog 98:=enters' Tryz.func98 (by kernel_rfl)
attribute [irreducible] slices_Contains_int_int
def a_u50f : Ann:=⟨[(0,[.val 0 T23, .val 5 T3, .val 6 T3],⟨[],false⟩)],[]⟩
def d_u50f : List (Nat × Con):=[(98,c_slices_Contains_int_int)]
def u50f (k : Nat) (a : T23.den) : Option (den1 [T4]):=evFn Γ d_u50f a_u50f Tryz.f76 [.val T23] [T4] k (a,())
def u50f_l0 (k : Nat) (v0 : T23.den) (v5 : T3.den) (v6 : T3.den) : Option ((Items.den []) ⊕ (den1 [T4])):=loopR (ρ:=(den1 [T4])) 0 [.val 0 T23, .val 5 T3, .val 6 T3] [] (runOf Γ d_u50f a_u50f Tryz.f76 [.val T23] [T4] 0) k (v0,v5,v6)
theorem u50f_eq (k : Nat) (a : T23.den) : u50f k a = bnd (u50f_l0 k a ((List.length a : Int)) 0) (fun y1=>onSum y1 (fun y2=>some false) (fun y2=>some y2)):=by kernel_rfl
theorem u50f_l0_zero (v0 : T23.den) (v5 : T3.den) (v6 : T3.den) : u50f_l0 0 v0 v5 v6 = none:=by kernel_rfl
theorem u50f_l0_succ (k : Nat) (v0 : T23.den) (v5 : T3.den) (v6 : T3.den) : u50f_l0 (k + 1) v0 v5 v6 = br (decide (v6 < v5)) (br (decide (0 ≤ v6)) (br (decide (v6 ≤ (List.length v0 : Int))) (br (decide (0 ≤ v6)) (br (decide (v6 < (List.length v0 : Int))) (bnd (slices_Contains_int_int k (List.take (Int.toNat v6) v0) (List.getD v0 (Int.toNat v6) T3.zero)) (fun y1=>br (y1) (some (Sum.inr true)) (u50f_l0 k v0 v5 (IntKind.i64.wrap (v6 + 1))))) (none)) (none)) (none)) (none)) (some (Sum.inl ())):=by kernel_rfl
def c_u50f : Con:=⟨[.val T23],[T4],fun k x=>u50f k x.1⟩
theorem del_u50f {w0 : World} (hS : Stops w0) : DelOk Tryz.prog w0 d_u50f:=.cons (y138q hS) y128q (.nil)
theorem ok_u50f {w0 : World} (hS : Stops w0) : Keeps Tryz.prog w0 76 c_u50f:=.con (y9q (A:=a_u50f) y24q (del_u50f hS) (draws (del_u50f hS)) Tryz.func76 (by kernel_rfl) (fun k x=>by kernel_rfl) (by kernel_rfl)) (by kernel_rfl)
theorem ent_u50f : Enters' Tryz.prog 76:=enters' Tryz.func76 (by kernel_rfl)
attribute [irreducible] u50f u50f_l0
def a_slices_Index_string_string : Ann:=⟨[(0,[.val 0 T52, .val 1 T9, .val 7 T3, .val 8 T3],⟨[],false⟩)],[]⟩
def d_slices_Index_string_string : List (Nat × Con):=[]
def slices_Index_string_string (k : Nat) (a : T52.den) (b : T9.den) : Option (den1 [T3]):=evFn Γ d_slices_Index_string_string a_slices_Index_string_string Tryz.f121 [.val T52, .val T9] [T3] k (a,b,())
def slices_Index_string_string_l0 (k : Nat) (v0 : T52.den) (v1 : T9.den) (v7 : T3.den) (v8 : T3.den) : Option ((Items.den []) ⊕ (den1 [T3])):=loopR (ρ:=(den1 [T3])) 0 [.val 0 T52, .val 1 T9, .val 7 T3, .val 8 T3] [] (runOf Γ d_slices_Index_string_string a_slices_Index_string_string Tryz.f121 [.val T52, .val T9] [T3] 0) k (v0,v1,v7,v8)
theorem y110q (k : Nat) (a : T52.den) (b : T9.den) : slices_Index_string_string k a b = bnd (slices_Index_string_string_l0 k a b ((List.length a : Int)) 0) (fun y1=>onSum y1 (fun y2=>some (-1)) (fun y2=>some y2)):=by kernel_rfl
theorem slices_Index_string_string_l0_zero (v0 : T52.den) (v1 : T9.den) (v7 : T3.den) (v8 : T3.den) : slices_Index_string_string_l0 0 v0 v1 v7 v8 = none:=by kernel_rfl
theorem y75q (k : Nat) (v0 : T52.den) (v1 : T9.den) (v7 : T3.den) (v8 : T3.den) : slices_Index_string_string_l0 (k + 1) v0 v1 v7 v8 = br (decide (v8 < v7)) (br (decide (0 ≤ v8)) (br (decide (v8 < (List.length v0 : Int))) (br (v1 == List.getD v0 (Int.toNat v8) T9.zero) (some (Sum.inr v8)) (slices_Index_string_string_l0 k v0 v1 v7 (IntKind.i64.wrap (v8 + 1)))) (none)) (none)) (some (Sum.inl ())):=by kernel_rfl
def c_slices_Index_string_string : Con:=⟨[.val T52, .val T9],[T3],fun k x=>slices_Index_string_string k x.1 x.2.1⟩
theorem y50q {w0 : World} (hS : Stops w0) : DelOk Tryz.prog w0 d_slices_Index_string_string:=.nil
theorem y111q {w0 : World} (hS : Stops w0) : Keeps Tryz.prog w0 121 c_slices_Index_string_string:=.con (y9q (A:=a_slices_Index_string_string) y24q (y50q hS) (draws (y50q hS)) Tryz.func121 (by kernel_rfl) (fun k x=>by kernel_rfl) (by kernel_rfl)) (by kernel_rfl)
theorem y104q : Enters' Tryz.prog 121:=enters' Tryz.func121 (by kernel_rfl)
attribute [irreducible] slices_Index_string_string slices_Index_string_string_l0
def a_slices_Contains_string_string : Ann:=⟨[],[]⟩
def d_slices_Contains_string_string : List (Nat × Con):=[(121,c_slices_Index_string_string)]
def slices_Contains_string_string (k : Nat) (a : T52.den) (b : T9.den) : Option (den1 [T4]):=evFn Γ d_slices_Contains_string_string a_slices_Contains_string_string Tryz.f99 [.val T52, .val T9] [T4] k (a,b,())
theorem y88q (k : Nat) (a : T52.den) (b : T9.den) : slices_Contains_string_string k a b = bnd (slices_Index_string_string k a b) (fun y1=>some (decide (y1 ≥ 0))):=by kernel_rfl
def c_slices_Contains_string_string : Con:=⟨[.val T52, .val T9],[T4],fun k x=>slices_Contains_string_string k x.1 x.2.1⟩
theorem y43q {w0 : World} (hS : Stops w0) : DelOk Tryz.prog w0 d_slices_Contains_string_string:=.cons (y111q hS) y104q (.nil)
theorem y89q {w0 : World} (hS : Stops w0) : Keeps Tryz.prog w0 99 c_slices_Contains_string_string:=.con (y9q (A:=a_slices_Contains_string_string) y24q (y43q hS) (draws (y43q hS)) Tryz.func99 (by kernel_rfl) (fun k x=>by kernel_rfl) (by kernel_rfl)) (by kernel_rfl)
theorem y80q : Enters' Tryz.prog 99:=enters' Tryz.func99 (by kernel_rfl)
attribute [irreducible] slices_Contains_string_string
def a_u51f : Ann:=⟨[(0,[.val 0 T52, .val 5 T3, .val 6 T3],⟨[],false⟩)],[]⟩
def d_u51f : List (Nat × Con):=[(99,c_slices_Contains_string_string)]
def u51f (k : Nat) (a : T52.den) : Option (den1 [T4]):=evFn Γ d_u51f a_u51f Tryz.f77 [.val T52] [T4] k (a,())
def u51f_l0 (k : Nat) (v0 : T52.den) (v5 : T3.den) (v6 : T3.den) : Option ((Items.den []) ⊕ (den1 [T4])):=loopR (ρ:=(den1 [T4])) 0 [.val 0 T52, .val 5 T3, .val 6 T3] [] (runOf Γ d_u51f a_u51f Tryz.f77 [.val T52] [T4] 0) k (v0,v5,v6)
theorem u51f_eq (k : Nat) (a : T52.den) : u51f k a = bnd (u51f_l0 k a ((List.length a : Int)) 0) (fun y1=>onSum y1 (fun y2=>some false) (fun y2=>some y2)):=by kernel_rfl
theorem u51f_l0_zero (v0 : T52.den) (v5 : T3.den) (v6 : T3.den) : u51f_l0 0 v0 v5 v6 = none:=by kernel_rfl
theorem u51f_l0_succ (k : Nat) (v0 : T52.den) (v5 : T3.den) (v6 : T3.den) : u51f_l0 (k + 1) v0 v5 v6 = br (decide (v6 < v5)) (br (decide (0 ≤ v6)) (br (decide (v6 ≤ (List.length v0 : Int))) (br (decide (0 ≤ v6)) (br (decide (v6 < (List.length v0 : Int))) (bnd (slices_Contains_string_string k (List.take (Int.toNat v6) v0) (List.getD v0 (Int.toNat v6) T9.zero)) (fun y1=>br (y1) (some (Sum.inr true)) (u51f_l0 k v0 v5 (IntKind.i64.wrap (v6 + 1))))) (none)) (none)) (none)) (none)) (some (Sum.inl ())):=by kernel_rfl
def c_u51f : Con:=⟨[.val T52],[T4],fun k x=>u51f k x.1⟩
theorem del_u51f {w0 : World} (hS : Stops w0) : DelOk Tryz.prog w0 d_u51f:=.cons (y89q hS) y80q (.nil)
theorem ok_u51f {w0 : World} (hS : Stops w0) : Keeps Tryz.prog w0 77 c_u51f:=.con (y9q (A:=a_u51f) y24q (del_u51f hS) (draws (del_u51f hS)) Tryz.func77 (by kernel_rfl) (fun k x=>by kernel_rfl) (by kernel_rfl)) (by kernel_rfl)
theorem ent_u51f : Enters' Tryz.prog 77:=enters' Tryz.func77 (by kernel_rfl)
attribute [irreducible] u51f u51f_l0
def a_u52f : Ann:=⟨[],[]⟩
def d_u52f : List (Nat × Con):=[]
def u52f (k : Nat) (a : T102.den) (b : T3.den) : Option (den1 [T4]):=evFn Γ d_u52f a_u52f Tryz.f101 [.val T102, .ptr T3] [T4] k (a,b,())
theorem u52f_eq (k : Nat) (a : T102.den) (b : T3.den) : u52f k a b = some (a.1 == b):=by kernel_rfl
def c_u52f : Con:=⟨[.val T102, .ptr T3],[T4],fun k x=>u52f k x.1 x.2.1⟩
theorem del_u52f {w0 : World} (hS : Stops w0) : DelOk Tryz.prog w0 d_u52f:=.nil
theorem ok_u52f {w0 : World} (hS : Stops w0) : Keeps Tryz.prog w0 101 c_u52f:=.con (y9q (A:=a_u52f) y24q (del_u52f hS) (draws (del_u52f hS)) Tryz.func101 (by kernel_rfl) (fun k x=>by kernel_rfl) (by kernel_rfl)) (by kernel_rfl)
theorem ent_u52f : Enters' Tryz.prog 101:=enters' Tryz.func101 (by kernel_rfl)
attribute [irreducible] u52f
def a_slices_IndexFunc_Column : Ann:=⟨[(0,[.val 0 T33, .clo 1 101 [T3], .val 7 T3, .val 8 T3],⟨[],false⟩)],[]⟩
def d_slices_IndexFunc_Column : List (Nat × Con):=[(101,c_u52f)]
def slices_IndexFunc_Column (k : Nat) (a : T33.den) (b : (dens [T3])) : Option (den1 [T3]):=evFn Γ d_slices_IndexFunc_Column a_slices_IndexFunc_Column Tryz.f100 [.val T33, .clo 101 [T3]] [T3] k (a,b,())
def slices_IndexFunc_Column_l0 (k : Nat) (v0 : T33.den) (v1 : (dens [T3])) (v7 : T3.den) (v8 : T3.den) : Option ((Items.den []) ⊕ (den1 [T3])):=loopR (ρ:=(den1 [T3])) 0 [.val 0 T33, .clo 1 101 [T3], .val 7 T3, .val 8 T3] [] (runOf Γ d_slices_IndexFunc_Column a_slices_IndexFunc_Column Tryz.f100 [.val T33, .clo 101 [T3]] [T3] 0) k (v0,v1,v7,v8)
theorem y139q (k : Nat) (a : T33.den) (b : (dens [T3])) : slices_IndexFunc_Column k a b = bnd (slices_IndexFunc_Column_l0 k a (b.1,()) ((List.length a : Int)) 0) (fun y1=>onSum y1 (fun y2=>some (-1)) (fun y2=>some y2)):=by kernel_rfl
theorem slices_IndexFunc_Column_l0_zero (v0 : T33.den) (v1 : (dens [T3])) (v7 : T3.den) (v8 : T3.den) : slices_IndexFunc_Column_l0 0 v0 v1 v7 v8 = none:=by kernel_rfl
theorem y100q (k : Nat) (v0 : T33.den) (v1 : (dens [T3])) (v7 : T3.den) (v8 : T3.den) : slices_IndexFunc_Column_l0 (k + 1) v0 v1 v7 v8 = br (decide (v8 < v7)) (br (decide (0 ≤ v8)) (br (decide (v8 < (List.length v0 : Int))) (bnd (u52f k (List.getD v0 (Int.toNat v8) T102.zero) v1.1) (fun y1=>br (y1) (some (Sum.inr v8)) (slices_IndexFunc_Column_l0 k v0 (v1.1,()) v7 (IntKind.i64.wrap (v8 + 1))))) (none)) (none)) (some (Sum.inl ())):=by kernel_rfl
def c_slices_IndexFunc_Column : Con:=⟨[.val T33, .clo 101 [T3]],[T3],fun k x=>slices_IndexFunc_Column k x.1 x.2.1⟩
theorem y57q {w0 : World} (hS : Stops w0) : DelOk Tryz.prog w0 d_slices_IndexFunc_Column:=.cons (ok_u52f hS) ent_u52f (.nil)
theorem y140q {w0 : World} (hS : Stops w0) : Keeps Tryz.prog w0 100 c_slices_IndexFunc_Column:=.con (y9q (A:=a_slices_IndexFunc_Column) y24q (y57q hS) (draws (y57q hS)) Tryz.func100 (by kernel_rfl) (fun k x=>by kernel_rfl) (by kernel_rfl)) (by kernel_rfl)
theorem y129q : Enters' Tryz.prog 100:=enters' Tryz.func100 (by kernel_rfl)
attribute [irreducible] slices_IndexFunc_Column slices_IndexFunc_Column_l0
def a_u53f : Ann:=⟨[],[]⟩
def d_u53f : List (Nat × Con):=[(100,c_slices_IndexFunc_Column),(101,c_u52f)]
def u53f (k : Nat) (a : T36.den) (b : T3.den) : Option (den1 [T3]):=evFn Γ d_u53f a_u53f Tryz.f78 [.val T36, .val T3] [T3] k (a,b,())
theorem u53f_eq (k : Nat) (a : T36.den) (b : T3.den) : u53f k a b = bnd (slices_IndexFunc_Column k a.2.2.2.1 (b,())) (fun y1=>some y1):=by kernel_rfl
def c_u53f : Con:=⟨[.val T36, .val T3],[T3],fun k x=>u53f k x.1 x.2.1⟩
theorem del_u53f {w0 : World} (hS : Stops w0) : DelOk Tryz.prog w0 d_u53f:=.cons (y140q hS) y129q (.cons (ok_u52f hS) ent_u52f (.nil))
theorem ok_u53f {w0 : World} (hS : Stops w0) : Keeps Tryz.prog w0 78 c_u53f:=.con (y9q (A:=a_u53f) y24q (del_u53f hS) (draws (del_u53f hS)) Tryz.func78 (by kernel_rfl) (fun k x=>by kernel_rfl) (by kernel_rfl)) (by kernel_rfl)
theorem ent_u53f : Enters' Tryz.prog 78:=enters' Tryz.func78 (by kernel_rfl)
attribute [irreducible] u53f
def a_u54f : Ann:=⟨[(0,[.var 1 T36, .val 3 O23, .val 4 O52, .val 55 T33, .val 56 T3, .val 57 T3],⟨[.var 1 T36, .val 3 O23, .val 4 O52],false⟩),(2,[.var 1 T36, .val 95 T23, .val 96 T3, .val 97 T3],⟨[.var 1 T36],false⟩),(4,[.var 1 T36, .val 3 O23, .val 4 O52, .val 117 T34, .val 118 T3, .val 119 T3],⟨[.val 3 O23, .val 4 O52],false⟩),(6,[.var 1 T36, .val 3 O23, .val 4 O52, .var 11 T71, .val 117 T34, .val 118 T3, .val 119 T3, .val 161 T23, .val 162 T3, .val 163 T3],⟨[.var 1 T36, .val 3 O23, .val 4 O52, .var 11 T71, .val 117 T34, .val 118 T3, .val 119 T3],false⟩)],[]⟩
def d_u54f : List (Nat × Con):=[(74,c_u48f),(75,c_u49f),(76,c_u50f),(77,c_u51f),(78,c_u53f)]
def u54f (k : Nat) (a : T36.den) : Option (den1 [T4]):=evFn Γ d_u54f a_u54f Tryz.f40 [.val T36] [T4] k (a,())
def u54f_l0 (k : Nat) (v1 : T36.den) (v3 : O23.den) (v4 : O52.den) (v55 : T33.den) (v56 : T3.den) (v57 : T3.den) : Option ((Items.den [.var 1 T36, .val 3 O23, .val 4 O52]) ⊕ (den1 [T4])):=loopR (ρ:=(den1 [T4])) 0 [.var 1 T36, .val 3 O23, .val 4 O52, .val 55 T33, .val 56 T3, .val 57 T3] [.var 1 T36, .val 3 O23, .val 4 O52] (runOf Γ d_u54f a_u54f Tryz.f40 [.val T36] [T4] 0) k (v1,v3,v4,v55,v56,v57)
def u54f_l2 (k : Nat) (v1 : T36.den) (v95 : T23.den) (v96 : T3.den) (v97 : T3.den) : Option ((Items.den [.var 1 T36]) ⊕ (den1 [T4])):=loopR (ρ:=(den1 [T4])) 2 [.var 1 T36, .val 95 T23, .val 96 T3, .val 97 T3] [.var 1 T36] (runOf Γ d_u54f a_u54f Tryz.f40 [.val T36] [T4] 2) k (v1,v95,v96,v97)
def u54f_l4 (k : Nat) (v1 : T36.den) (v3 : O23.den) (v4 : O52.den) (v117 : T34.den) (v118 : T3.den) (v119 : T3.den) : Option ((Items.den [.val 3 O23, .val 4 O52]) ⊕ (den1 [T4])):=loopR (ρ:=(den1 [T4])) 4 [.var 1 T36, .val 3 O23, .val 4 O52, .val 117 T34, .val 118 T3, .val 119 T3] [.val 3 O23, .val 4 O52] (runOf Γ d_u54f a_u54f Tryz.f40 [.val T36] [T4] 4) k (v1,v3,v4,v117,v118,v119)
def u54f_l6 (k : Nat) (v1 : T36.den) (v3 : O23.den) (v4 : O52.den) (v11 : T71.den) (v117 : T34.den) (v118 : T3.den) (v119 : T3.den) (v161 : T23.den) (v162 : T3.den) (v163 : T3.den) : Option ((Items.den [.var 1 T36, .val 3 O23, .val 4 O52, .var 11 T71, .val 117 T34, .val 118 T3, .val 119 T3]) ⊕ (den1 [T4])):=loopR (ρ:=(den1 [T4])) 6 [.var 1 T36, .val 3 O23, .val 4 O52, .var 11 T71, .val 117 T34, .val 118 T3, .val 119 T3, .val 161 T23, .val 162 T3, .val 163 T3] [.var 1 T36, .val 3 O23, .val 4 O52, .var 11 T71, .val 117 T34, .val 118 T3, .val 119 T3] (runOf Γ d_u54f a_u54f Tryz.f40 [.val T36] [T4] 6) k (v1,v3,v4,v11,v117,v118,v119,v161,v162,v163)
theorem u54f_eq (k : Nat) (a : T36.den) : u54f k a = bnd (u48f k a.1 1 40) (fun y1=>br (!y1) (some false) (bnd (u48f k a.2.2.1 1 1000000) (fun y2=>br (!y2) (some false) (bnd (u49f k a.2.1) (fun y3=>br (!y3) (some false) (bnd (u48f k (List.length a.2.2.2.1 : Int) 1 14) (fun y4=>br (!y4) (some false) (br ((List.length a.2.2.2.2.1 : Int) == 0) (some false) (bnd (u50f k a.2.2.2.2.1) (fun y5=>br (y5) (some false) (br (decide ((List.length a.2.2.2.2.2.1 : Int) > 8)) (some false) (bnd (u54f_l0 k a [] [] a.2.2.2.1 ((List.length a.2.2.2.1 : Int)) 0) (fun y6=>onSum y6 (fun y7=>bnd (u50f k y7.2.1) (fun y8=>br (y8) (some false) (bnd (u51f k y7.2.2) (fun y9=>br (y9) (some false) (bnd (u54f_l2 k y7.1 y7.1.2.2.2.2.1 ((List.length y7.1.2.2.2.2.1 : Int)) 0) (fun y10=>onSum y10 (fun y11=>bnd (u54f_l4 k y11 [] [] y11.2.2.2.2.2.1 ((List.length y11.2.2.2.2.2.1 : Int)) 0) (fun y12=>onSum y12 (fun y13=>bnd (u50f k y13.1) (fun y14=>br (!y14) (bnd (u51f k y13.2) (fun y15=>some (!y15))) (some false))) (fun y13=>some y13))) (fun y11=>some y11))))))) (fun y7=>some y7)))))))))))))):=by kernel_rfl
theorem u54f_l0_zero (v1 : T36.den) (v3 : O23.den) (v4 : O52.den) (v55 : T33.den) (v56 : T3.den) (v57 : T3.den) : u54f_l0 0 v1 v3 v4 v55 v56 v57 = none:=by kernel_rfl
theorem u54f_l0_succ (k : Nat) (v1 : T36.den) (v3 : O23.den) (v4 : O52.den) (v55 : T33.den) (v56 : T3.den) (v57 : T3.den) : u54f_l0 (k + 1) v1 v3 v4 v55 v56 v57 = br (decide (v57 < v56)) (br (decide (0 ≤ v57)) (br (decide (v57 < (List.length v55 : Int))) (bnd (u48f k (List.getD v55 (Int.toNat v57) T102.zero).1 1 1000) (fun y1=>br (!y1) (some (Sum.inr false)) (bnd (u49f k (List.getD v55 (Int.toNat v57) T102.zero).2.1) (fun y2=>br (!y2) (some (Sum.inr false)) (bnd (u48f k (List.getD v55 (Int.toNat v57) T102.zero).2.2.1 1 5) (fun y3=>br (!y3) (some (Sum.inr false)) (br (decide (List.length v3 + [(List.getD v55 (Int.toNat v57) T102.zero).1].length ≤ capN)) (br (decide (List.length v4 + [(List.getD v55 (Int.toNat v57) T102.zero).2.1].length ≤ capN)) (u54f_l0 k v1 (v3 ++ [(List.getD v55 (Int.toNat v57) T102.zero).1]) (v4 ++ [(List.getD v55 (Int.toNat v57) T102.zero).2.1]) v55 v56 (IntKind.i64.wrap (v57 + 1))) (none)) (none)))))))) (none)) (none)) (some (Sum.inl (v1,v3,v4))):=by kernel_rfl
theorem u54f_l2_zero (v1 : T36.den) (v95 : T23.den) (v96 : T3.den) (v97 : T3.den) : u54f_l2 0 v1 v95 v96 v97 = none:=by kernel_rfl
theorem u54f_l2_succ (k : Nat) (v1 : T36.den) (v95 : T23.den) (v96 : T3.den) (v97 : T3.den) : u54f_l2 (k + 1) v1 v95 v96 v97 = br (decide (v97 < v96)) (br (decide (0 ≤ v97)) (br (decide (v97 < (List.length v95 : Int))) (bnd (u53f k v1 (List.getD v95 (Int.toNat v97) T3.zero)) (fun y1=>br (decide (y1 < 0)) (some (Sum.inr false)) (br (decide (0 ≤ y1)) (br (decide (y1 < (List.length v1.2.2.2.1 : Int))) (br (!(List.getD v1.2.2.2.1 (Int.toNat y1) T102.zero).2.2.2.1) (some (Sum.inr false)) (u54f_l2 k v1 v95 v96 (IntKind.i64.wrap (v97 + 1)))) (none)) (none)))) (none)) (none)) (some (Sum.inl v1)):=by kernel_rfl
theorem u54f_l4_zero (v1 : T36.den) (v3 : O23.den) (v4 : O52.den) (v117 : T34.den) (v118 : T3.den) (v119 : T3.den) : u54f_l4 0 v1 v3 v4 v117 v118 v119 = none:=by kernel_rfl
theorem u54f_l4_succ (k : Nat) (v1 : T36.den) (v3 : O23.den) (v4 : O52.den) (v117 : T34.den) (v118 : T3.den) (v119 : T3.den) : u54f_l4 (k + 1) v1 v3 v4 v117 v118 v119 = br (decide (v119 < v118)) (br (decide (0 ≤ v119)) (br (decide (v119 < (List.length v117 : Int))) (bnd (u48f k (List.getD v117 (Int.toNat v119) T71.zero).1 1 1000) (fun y1=>br (!y1) (some (Sum.inr false)) (bnd (u49f k (List.getD v117 (Int.toNat v119) T71.zero).2.1) (fun y2=>br (!y2) (some (Sum.inr false)) (br ((↑(List.length (List.getD v117 (Int.toNat v119) T71.zero).2.2.1) : Int) == 0) (some (Sum.inr false)) (bnd (u50f k (List.getD v117 (Int.toNat v119) T71.zero).2.2.1) (fun y3=>br (y3) (some (Sum.inr false)) (bnd (u48f k (List.getD v117 (Int.toNat v119) T71.zero).2.2.2.2.1 1 3) (fun y4=>br (!y4) (some (Sum.inr false)) (br (decide (IntKind.i64.wrap ((↑(List.length (List.getD v117 (Int.toNat v119) T71.zero).2.2.1) : Int) + (List.length v1.2.2.2.2.1 : Int)) > 14)) (some (Sum.inr false)) (bnd (u54f_l6 k v1 v3 v4 (List.getD v117 (Int.toNat v119) T71.zero) v117 v118 v119 ((List.getD v117 (Int.toNat v119) T71.zero).2.2.1) ((↑(List.length (List.getD v117 (Int.toNat v119) T71.zero).2.2.1) : Int)) 0) (fun y5=>onSum y5 (fun y6=>br (decide (List.length y6.2.1 + [y6.2.2.2.1.1].length ≤ capN)) (br (decide (List.length y6.2.2.1 + [y6.2.2.2.1.2.1].length ≤ capN)) (u54f_l4 k y6.1 (y6.2.1 ++ [y6.2.2.2.1.1]) (y6.2.2.1 ++ [y6.2.2.2.1.2.1]) y6.2.2.2.2.1 y6.2.2.2.2.2.1 (IntKind.i64.wrap (y6.2.2.2.2.2.2 + 1))) (none)) (none)) (fun y6=>some (Sum.inr y6)))))))))))))) (none)) (none)) (some (Sum.inl (v3,v4))):=by kernel_rfl
theorem u54f_l6_zero (v1 : T36.den) (v3 : O23.den) (v4 : O52.den) (v11 : T71.den) (v117 : T34.den) (v118 : T3.den) (v119 : T3.den) (v161 : T23.den) (v162 : T3.den) (v163 : T3.den) : u54f_l6 0 v1 v3 v4 v11 v117 v118 v119 v161 v162 v163 = none:=by kernel_rfl
theorem u54f_l6_succ (k : Nat) (v1 : T36.den) (v3 : O23.den) (v4 : O52.den) (v11 : T71.den) (v117 : T34.den) (v118 : T3.den) (v119 : T3.den) (v161 : T23.den) (v162 : T3.den) (v163 : T3.den) : u54f_l6 (k + 1) v1 v3 v4 v11 v117 v118 v119 v161 v162 v163 = br (decide (v163 < v162)) (br (decide (0 ≤ v163)) (br (decide (v163 < (List.length v161 : Int))) (bnd (u53f k v1 (List.getD v161 (Int.toNat v163) T3.zero)) (fun y1=>br (decide (y1 < 0)) (some (Sum.inr false)) (u54f_l6 k v1 v3 v4 v11 v117 v118 v119 v161 v162 (IntKind.i64.wrap (v163 + 1))))) (none)) (none)) (some (Sum.inl (v1,v3,v4,v11,v117,v118,v119))):=by kernel_rfl
def c_u54f : Con:=⟨[.val T36],[T4],fun k x=>u54f k x.1⟩
theorem del_u54f {w0 : World} (hS : Stops w0) : DelOk Tryz.prog w0 d_u54f:=.cons (ok_u48f hS) ent_u48f (.cons (ok_u49f hS) ent_u49f (.cons (ok_u50f hS) ent_u50f (.cons (ok_u51f hS) ent_u51f (.cons (ok_u53f hS) ent_u53f (.nil)))))
theorem ok_u54f {w0 : World} (hS : Stops w0) : Keeps Tryz.prog w0 40 c_u54f:=.con (y9q (A:=a_u54f) y24q (del_u54f hS) (draws (del_u54f hS)) Tryz.func40 (by kernel_rfl) (fun k x=>by kernel_rfl) (by kernel_rfl)) (by kernel_rfl)
theorem ent_u54f : Enters' Tryz.prog 40:=enters' Tryz.func40 (by kernel_rfl)
attribute [irreducible] u54f u54f_l0 u54f_l2 u54f_l4 u54f_l6
def a_u55f : Ann:=⟨[],[]⟩
def d_u55f : List (Nat × Con):=[]
def u55f (k : Nat) (a : T71.den) (b : T9.den) : Option (den1 [T4]):=evFn Γ d_u55f a_u55f Tryz.f42 [.val T71, .ptr T9] [T4] k (a,b,())
theorem u55f_eq (k : Nat) (a : T71.den) (b : T9.den) : u55f k a b = some (a.2.1 == b):=by kernel_rfl
def c_u55f : Con:=⟨[.val T71, .ptr T9],[T4],fun k x=>u55f k x.1 x.2.1⟩
theorem del_u55f {w0 : World} (hS : Stops w0) : DelOk Tryz.prog w0 d_u55f:=.nil
theorem ok_u55f {w0 : World} (hS : Stops w0) : Keeps Tryz.prog w0 42 c_u55f:=.con (y9q (A:=a_u55f) y24q (del_u55f hS) (draws (del_u55f hS)) Tryz.func42 (by kernel_rfl) (fun k x=>by kernel_rfl) (by kernel_rfl)) (by kernel_rfl)
theorem ent_u55f : Enters' Tryz.prog 42:=enters' Tryz.func42 (by kernel_rfl)
attribute [irreducible] u55f
def a_slices_IndexFunc_Index : Ann:=⟨[(0,[.val 0 T34, .clo 1 42 [T9], .val 7 T3, .val 8 T3],⟨[],false⟩)],[]⟩
def d_slices_IndexFunc_Index : List (Nat × Con):=[(42,c_u55f)]
def slices_IndexFunc_Index (k : Nat) (a : T34.den) (b : (dens [T9])) : Option (den1 [T3]):=evFn Γ d_slices_IndexFunc_Index a_slices_IndexFunc_Index Tryz.f41 [.val T34, .clo 42 [T9]] [T3] k (a,b,())
def slices_IndexFunc_Index_l0 (k : Nat) (v0 : T34.den) (v1 : (dens [T9])) (v7 : T3.den) (v8 : T3.den) : Option ((Items.den []) ⊕ (den1 [T3])):=loopR (ρ:=(den1 [T3])) 0 [.val 0 T34, .clo 1 42 [T9], .val 7 T3, .val 8 T3] [] (runOf Γ d_slices_IndexFunc_Index a_slices_IndexFunc_Index Tryz.f41 [.val T34, .clo 42 [T9]] [T3] 0) k (v0,v1,v7,v8)
theorem y155q (k : Nat) (a : T34.den) (b : (dens [T9])) : slices_IndexFunc_Index k a b = bnd (slices_IndexFunc_Index_l0 k a (b.1,()) ((List.length a : Int)) 0) (fun y1=>onSum y1 (fun y2=>some (-1)) (fun y2=>some y2)):=by kernel_rfl
theorem slices_IndexFunc_Index_l0_zero (v0 : T34.den) (v1 : (dens [T9])) (v7 : T3.den) (v8 : T3.den) : slices_IndexFunc_Index_l0 0 v0 v1 v7 v8 = none:=by kernel_rfl
theorem y105q (k : Nat) (v0 : T34.den) (v1 : (dens [T9])) (v7 : T3.den) (v8 : T3.den) : slices_IndexFunc_Index_l0 (k + 1) v0 v1 v7 v8 = br (decide (v8 < v7)) (br (decide (0 ≤ v8)) (br (decide (v8 < (List.length v0 : Int))) (bnd (u55f k (List.getD v0 (Int.toNat v8) T71.zero) v1.1) (fun y1=>br (y1) (some (Sum.inr v8)) (slices_IndexFunc_Index_l0 k v0 (v1.1,()) v7 (IntKind.i64.wrap (v8 + 1))))) (none)) (none)) (some (Sum.inl ())):=by kernel_rfl
def c_slices_IndexFunc_Index : Con:=⟨[.val T34, .clo 42 [T9]],[T3],fun k x=>slices_IndexFunc_Index k x.1 x.2.1⟩
theorem y59q {w0 : World} (hS : Stops w0) : DelOk Tryz.prog w0 d_slices_IndexFunc_Index:=.cons (ok_u55f hS) ent_u55f (.nil)
theorem y156q {w0 : World} (hS : Stops w0) : Keeps Tryz.prog w0 41 c_slices_IndexFunc_Index:=.con (y9q (A:=a_slices_IndexFunc_Index) y24q (y59q hS) (draws (y59q hS)) Tryz.func41 (by kernel_rfl) (fun k x=>by kernel_rfl) (by kernel_rfl)) (by kernel_rfl)
theorem y141q : Enters' Tryz.prog 41:=enters' Tryz.func41 (by kernel_rfl)
attribute [irreducible] slices_IndexFunc_Index slices_IndexFunc_Index_l0
def a_u56f : Ann:=⟨[(0,[.val 0 T9, .val 3 T3],⟨[],false⟩)],[]⟩
def d_u56f : List (Nat × Con):=[]
def u56f (k : Nat) (a : T9.den) : Option (den1 [T4]):=evFn Γ d_u56f a_u56f Tryz.f108 [.val T9] [T4] k (a,())
def u56f_l0 (k : Nat) (v0 : T9.den) (v3 : T3.den) : Option ((Items.den []) ⊕ (den1 [T4])):=loopR (ρ:=(den1 [T4])) 0 [.val 0 T9, .val 3 T3] [] (runOf Γ d_u56f a_u56f Tryz.f108 [.val T9] [T4] 0) k (v0,v3)
theorem u56f_eq (k : Nat) (a : T9.den) : u56f k a = bnd (u56f_l0 k a 0) (fun y1=>onSum y1 (fun y2=>some true) (fun y2=>some y2)):=by kernel_rfl
theorem u56f_l0_zero (v0 : T9.den) (v3 : T3.den) : u56f_l0 0 v0 v3 = none:=by kernel_rfl
theorem u56f_l0_succ (k : Nat) (v0 : T9.den) (v3 : T3.den) : u56f_l0 (k + 1) v0 v3 = br (decide (v3 < (List.length v0 : Int))) (br (decide (0 ≤ v3)) (br (decide (v3 < (List.length v0 : Int))) (br (decide ((↑(List.getD v0 (Int.toNat v3) 0).toNat : Int) < 32)) (some (Sum.inr false)) (br (decide (0 ≤ v3)) (br (decide (v3 < (List.length v0 : Int))) (br (decide ((↑(List.getD v0 (Int.toNat v3) 0).toNat : Int) > 126)) (some (Sum.inr false)) (u56f_l0 k v0 (IntKind.i64.wrap (v3 + 1)))) (none)) (none))) (none)) (none)) (some (Sum.inl ())):=by kernel_rfl
def c_u56f : Con:=⟨[.val T9],[T4],fun k x=>u56f k x.1⟩
theorem del_u56f {w0 : World} (hS : Stops w0) : DelOk Tryz.prog w0 d_u56f:=.nil
theorem ok_u56f {w0 : World} (hS : Stops w0) : Keeps Tryz.prog w0 108 c_u56f:=.con (y9q (A:=a_u56f) y24q (del_u56f hS) (draws (del_u56f hS)) Tryz.func108 (by kernel_rfl) (fun k x=>by kernel_rfl) (by kernel_rfl)) (by kernel_rfl)
theorem ent_u56f : Enters' Tryz.prog 108:=enters' Tryz.func108 (by kernel_rfl)
attribute [irreducible] u56f u56f_l0
def a_u57f : Ann:=⟨[],[]⟩
def d_u57f : List (Nat × Con):=[(108,c_u56f)]
def u57f (k : Nat) (a : T91.den) : Option (den1 [T4]):=evFn Γ d_u57f a_u57f Tryz.f87 [.val T91] [T4] k (a,())
theorem u57f_eq (k : Nat) (a : T91.den) : u57f k a = br (a.1 == 0) (some (andB (eqI a.1 a.1) (andB (eqI a.2.1 0) (andB (eqI a.2.2.1 0) (andB (eqS a.2.2.2.1 []) true))))) (br (a.1 == 1) (br (decide (a.2.1 < 0)) (some false) (br (decide (a.2.1 > 1)) (some false) (some (andB (eqI a.1 a.1) (andB (eqI 0 0) (andB (eqI a.2.2.1 0) (andB (eqS a.2.2.2.1 []) true))))))) (br (a.1 == 2) (br (decide (a.2.1 < -1000000000000000)) (some false) (br (decide (a.2.1 > 1000000000000000)) (some false) (some (andB (eqI a.1 a.1) (andB (eqI 0 0) (andB (eqI a.2.2.1 0) (andB (eqS a.2.2.2.1 []) true))))))) (br (a.1 == 3) (br (decide (a.2.1 < -1000000000)) (some false) (br (decide (a.2.1 > 1000000000)) (some false) (br (decide (a.2.2.1 < 0)) (some false) (br (decide (a.2.2.1 > 6)) (some false) (br (decide (a.2.2.1 > 0)) (br (!10 == 0) (br (Int.tmod a.2.1 10 == 0) (some false) (some (andB (eqI a.1 a.1) (andB (eqI 0 0) (andB (eqI 0 0) (andB (eqS a.2.2.2.1 []) true)))))) (none)) (some (andB (eqI a.1 a.1) (andB (eqI 0 0) (andB (eqI 0 0) (andB (eqS a.2.2.2.1 []) true)))))))))) (br (a.1 == 4) (br (decide ((List.length a.2.2.2.1 : Int) > 200)) (some false) (bnd (u56f k a.2.2.2.1) (fun y1=>br (!y1) (some false) (some (andB (eqI a.1 a.1) (andB (eqI a.2.1 0) (andB (eqI a.2.2.1 0) (andB (eqS [] []) true)))))))) (br (a.1 == 5) (br (decide (a.2.1 < 0)) (some false) (br (decide (a.2.1 > 3652058)) (some false) (some (andB (eqI a.1 a.1) (andB (eqI 0 0) (andB (eqI a.2.2.1 0) (andB (eqS a.2.2.2.1 []) true))))))) (some false)))))):=by kernel_rfl
def c_u57f : Con:=⟨[.val T91],[T4],fun k x=>u57f k x.1⟩
theorem del_u57f {w0 : World} (hS : Stops w0) : DelOk Tryz.prog w0 d_u57f:=.cons (ok_u56f hS) ent_u56f (.nil)
theorem ok_u57f {w0 : World} (hS : Stops w0) : Keeps Tryz.prog w0 87 c_u57f:=.con (y9q (A:=a_u57f) y24q (del_u57f hS) (draws (del_u57f hS)) Tryz.func87 (by kernel_rfl) (fun k x=>by kernel_rfl) (by kernel_rfl)) (by kernel_rfl)
theorem ent_u57f : Enters' Tryz.prog 87:=enters' Tryz.func87 (by kernel_rfl)
attribute [irreducible] u57f
def a_u58f : Ann:=⟨[(0,[.var 2 T36, .val 13 T47, .val 14 T3, .val 15 T3],⟨[],false⟩)],[]⟩
def d_u58f : List (Nat × Con):=[(87,c_u57f)]
def u58f (k : Nat) (a : T36.den) (b : T47.den) : Option (den1 [T4]):=evFn Γ d_u58f a_u58f Tryz.f57 [.val T36, .val T47] [T4] k (a,b,())
def u58f_l0 (k : Nat) (v2 : T36.den) (v13 : T47.den) (v14 : T3.den) (v15 : T3.den) : Option ((Items.den []) ⊕ (den1 [T4])):=loopR (ρ:=(den1 [T4])) 0 [.var 2 T36, .val 13 T47, .val 14 T3, .val 15 T3] [] (runOf Γ d_u58f a_u58f Tryz.f57 [.val T36, .val T47] [T4] 0) k (v2,v13,v14,v15)
theorem u58f_eq (k : Nat) (a : T36.den) (b : T47.den) : u58f k a b = br ((List.length b : Int) != (List.length a.2.2.2.1 : Int)) (some false) (bnd (u58f_l0 k a b ((List.length b : Int)) 0) (fun y1=>onSum y1 (fun y2=>some true) (fun y2=>some y2))):=by kernel_rfl
theorem u58f_l0_zero (v2 : T36.den) (v13 : T47.den) (v14 : T3.den) (v15 : T3.den) : u58f_l0 0 v2 v13 v14 v15 = none:=by kernel_rfl
theorem u58f_l0_succ (k : Nat) (v2 : T36.den) (v13 : T47.den) (v14 : T3.den) (v15 : T3.den) : u58f_l0 (k + 1) v2 v13 v14 v15 = br (decide (v15 < v14)) (br (decide (0 ≤ v15)) (br (decide (v15 < (List.length v13 : Int))) (bnd (u57f k (List.getD v13 (Int.toNat v15) T91.zero)) (fun y1=>br (!y1) (some (Sum.inr false)) (br ((List.getD v13 (Int.toNat v15) T91.zero).1 != 0) (br (decide (0 ≤ v15)) (br (decide (v15 < (List.length v2.2.2.2.1 : Int))) (br ((List.getD v13 (Int.toNat v15) T91.zero).1 != (List.getD v2.2.2.2.1 (Int.toNat v15) T102.zero).2.2.1) (some (Sum.inr false)) (br ((List.getD v13 (Int.toNat v15) T91.zero).1 == 0) (br (decide (0 ≤ v15)) (br (decide (v15 < (List.length v2.2.2.2.1 : Int))) (br ((List.getD v2.2.2.2.1 (Int.toNat v15) T102.zero).2.2.2.1) (some (Sum.inr false)) (u58f_l0 k v2 v13 v14 (IntKind.i64.wrap (v15 + 1)))) (none)) (none)) (u58f_l0 k v2 v13 v14 (IntKind.i64.wrap (v15 + 1))))) (none)) (none)) (br ((List.getD v13 (Int.toNat v15) T91.zero).1 == 0) (br (decide (0 ≤ v15)) (br (decide (v15 < (List.length v2.2.2.2.1 : Int))) (br ((List.getD v2.2.2.2.1 (Int.toNat v15) T102.zero).2.2.2.1) (some (Sum.inr false)) (u58f_l0 k v2 v13 v14 (IntKind.i64.wrap (v15 + 1)))) (none)) (none)) (u58f_l0 k v2 v13 v14 (IntKind.i64.wrap (v15 + 1))))))) (none)) (none)) (some (Sum.inl ())):=by kernel_rfl
def c_u58f : Con:=⟨[.val T36, .val T47],[T4],fun k x=>u58f k x.1 x.2.1⟩
theorem del_u58f {w0 : World} (hS : Stops w0) : DelOk Tryz.prog w0 d_u58f:=.cons (ok_u57f hS) ent_u57f (.nil)
theorem ok_u58f {w0 : World} (hS : Stops w0) : Keeps Tryz.prog w0 57 c_u58f:=.con (y9q (A:=a_u58f) y24q (del_u58f hS) (draws (del_u58f hS)) Tryz.func57 (by kernel_rfl) (fun k x=>by kernel_rfl) (by kernel_rfl)) (by kernel_rfl)
theorem ent_u58f : Enters' Tryz.prog 57:=enters' Tryz.func57 (by kernel_rfl)
attribute [irreducible] u58f u58f_l0
def a_u59f : Ann:=⟨[(0,[.val 0 T9, .val 3 T3, .val 4 T3],⟨[.val 3 T3],true⟩)],[]⟩
def d_u59f : List (Nat × Con):=[]
def u59f (k : Nat) (a : T9.den) : Option (den1 [T3]):=evFn Γ d_u59f a_u59f Tryz.f102 [.val T9] [T3] k (a,())
def u59f_l0 (k : Nat) (v0 : T9.den) (v3 : T3.den) (v4 : T3.den) : Option (Items.den [.val 3 T3]):=loopQ (ρ:=(den1 [T3])) 0 [.val 0 T9, .val 3 T3, .val 4 T3] [.val 3 T3] (runOf Γ d_u59f a_u59f Tryz.f102 [.val T9] [T3] 0) k (v0,v3,v4)
theorem u59f_eq (k : Nat) (a : T9.den) : u59f k a = bnd (u59f_l0 k a 0 0) (fun y1=>some y1):=by kernel_rfl
theorem u59f_l0_zero (v0 : T9.den) (v3 : T3.den) (v4 : T3.den) : u59f_l0 0 v0 v3 v4 = none:=by kernel_rfl
theorem u59f_l0_succ (k : Nat) (v0 : T9.den) (v3 : T3.den) (v4 : T3.den) : u59f_l0 (k + 1) v0 v3 v4 = br (decide (v4 < (List.length v0 : Int))) (br (decide (0 ≤ 8)) (br (decide (0 ≤ v4)) (br (decide (v4 < (List.length v0 : Int))) (u59f_l0 k v0 (bits BinOp.or IntKind.i64 (IntKind.i64.wrap (v3 * 2 ^ min (Int.toNat 8) IntKind.i64.bits)) (IntKind.i64.wrap (↑(List.getD v0 (Int.toNat v4) 0).toNat : Int))) (IntKind.i64.wrap (v4 + 1))) (none)) (none)) (none)) (some v3):=by kernel_rfl
def c_u59f : Con:=⟨[.val T9],[T3],fun k x=>u59f k x.1⟩
theorem del_u59f {w0 : World} (hS : Stops w0) : DelOk Tryz.prog w0 d_u59f:=.nil
theorem ok_u59f {w0 : World} (hS : Stops w0) : Keeps Tryz.prog w0 102 c_u59f:=.con (y9q (A:=a_u59f) y24q (del_u59f hS) (draws (del_u59f hS)) Tryz.func102 (by kernel_rfl) (fun k x=>by kernel_rfl) (by kernel_rfl)) (by kernel_rfl)
theorem ent_u59f : Enters' Tryz.prog 102:=enters' Tryz.func102 (by kernel_rfl)
attribute [irreducible] u59f u59f_l0
def a_u60f : Ann:=⟨[(0,[.val 0 T3, .val 1 T3, .var 4 T91],⟨[.val 0 T3, .val 1 T3, .var 4 T91],true⟩)],[]⟩
def d_u60f : List (Nat × Con):=[]
def u60f (k : Nat) (a : T3.den) (b : T3.den) : Option (den1 [T91,T3]):=evFn Γ d_u60f a_u60f Tryz.f103 [.val T3, .val T3] [T91,T3] k (a,b,())
def u60f_l0 (k : Nat) (v0 : T3.den) (v1 : T3.den) (v4 : T91.den) : Option (Items.den [.val 0 T3, .val 1 T3, .var 4 T91]):=loopQ (ρ:=(den1 [T91,T3])) 0 [.val 0 T3, .val 1 T3, .var 4 T91] [.val 0 T3, .val 1 T3, .var 4 T91] (runOf Γ d_u60f a_u60f Tryz.f103 [.val T3, .val T3] [T91,T3] 0) k (v0,v1,v4)
theorem u60f_eq (k : Nat) (a : T3.den) (b : T3.den) : u60f k a b = bnd (u60f_l0 k a b ((0 : Int),(0 : Int),(0 : Int),([] : List UInt8),())) (fun y1=>br (decide (y1.1 < -1000000000)) (some (((0 : Int),(0 : Int),(0 : Int),([] : List UInt8),()),3)) (br (decide (y1.1 > 1000000000)) (some (((0 : Int),(0 : Int),(0 : Int),([] : List UInt8),()),3)) (some (((3 : Int),y1.1,y1.2.1,([] : List UInt8),()),0)))):=by kernel_rfl
theorem u60f_l0_zero (v0 : T3.den) (v1 : T3.den) (v4 : T91.den) : u60f_l0 0 v0 v1 v4 = none:=by kernel_rfl
theorem u60f_l0_succ (k : Nat) (v0 : T3.den) (v1 : T3.den) (v4 : T91.den) : u60f_l0 (k + 1) v0 v1 v4 = br (decide (v1 > 0)) (br (!10 == 0) (br (Int.tmod v0 10 == 0) (br (!10 == 0) (u60f_l0 k (IntKind.i64.wrap (Int.tdiv v0 10)) (IntKind.i64.wrap (v1 - 1)) v4) (none)) (some (v0,v1,v4.1,v4.2.1,v4.2.2.1,v4.2.2.2.1,()))) (none)) (some (v0,v1,v4.1,v4.2.1,v4.2.2.1,v4.2.2.2.1,())):=by kernel_rfl
def c_u60f : Con:=⟨[.val T3, .val T3],[T91,T3],fun k x=>u60f k x.1 x.2.1⟩
theorem del_u60f {w0 : World} (hS : Stops w0) : DelOk Tryz.prog w0 d_u60f:=.nil
theorem ok_u60f {w0 : World} (hS : Stops w0) : Keeps Tryz.prog w0 103 c_u60f:=.con (y9q (A:=a_u60f) y24q (del_u60f hS) (draws (del_u60f hS)) Tryz.func103 (by kernel_rfl) (fun k x=>by kernel_rfl) (by kernel_rfl)) (by kernel_rfl)
theorem ent_u60f : Enters' Tryz.prog 103:=enters' Tryz.func103 (by kernel_rfl)
attribute [irreducible] u60f u60f_l0
def a_u61f : Ann:=⟨[(0,[.val 0 T3, .val 3 T3],⟨[.val 3 T3],true⟩)],[]⟩
def d_u61f : List (Nat × Con):=[]
def u61f (k : Nat) (a : T3.den) : Option (den1 [T3]):=evFn Γ d_u61f a_u61f Tryz.f104 [.val T3] [T3] k (a,())
def u61f_l0 (k : Nat) (v0 : T3.den) (v3 : T3.den) : Option (Items.den [.val 3 T3]):=loopQ (ρ:=(den1 [T3])) 0 [.val 0 T3, .val 3 T3] [.val 3 T3] (runOf Γ d_u61f a_u61f Tryz.f104 [.val T3] [T3] 0) k (v0,v3)
theorem u61f_eq (k : Nat) (a : T3.den) : u61f k a = bnd (u61f_l0 k a 1) (fun y1=>some y1):=by kernel_rfl
theorem u61f_l0_zero (v0 : T3.den) (v3 : T3.den) : u61f_l0 0 v0 v3 = none:=by kernel_rfl
theorem u61f_l0_succ (k : Nat) (v0 : T3.den) (v3 : T3.den) : u61f_l0 (k + 1) v0 v3 = br (decide (v0 > 0)) (u61f_l0 k (IntKind.i64.wrap (v0 - 1)) (IntKind.i64.wrap (v3 * 10))) (some v3):=by kernel_rfl
def c_u61f : Con:=⟨[.val T3],[T3],fun k x=>u61f k x.1⟩
theorem del_u61f {w0 : World} (hS : Stops w0) : DelOk Tryz.prog w0 d_u61f:=.nil
theorem ok_u61f {w0 : World} (hS : Stops w0) : Keeps Tryz.prog w0 104 c_u61f:=.con (y9q (A:=a_u61f) y24q (del_u61f hS) (draws (del_u61f hS)) Tryz.func104 (by kernel_rfl) (fun k x=>by kernel_rfl) (by kernel_rfl)) (by kernel_rfl)
theorem ent_u61f : Enters' Tryz.prog 104:=enters' Tryz.func104 (by kernel_rfl)
attribute [irreducible] u61f u61f_l0
def a_u62f : Ann:=⟨[(0,[.val 4 O47, .val 5 T9],⟨[.val 4 O47],false⟩)],[(37,⟨[.val 4 O47, .val 5 T9, .var 6 T91, .val 7 T3],false⟩)]⟩
def d_u62f : List (Nat × Con):=[(102,c_u59f),(103,c_u60f),(104,c_u61f),(105,c_strings_IndexByte),(106,c_u0f)]
def u62f (k : Nat) (a : T9.den) : Option (den1 [O47,T3]):=evFn Γo d_u62f a_u62f Tryz.f79 [.val T9] [O47,T3] k (a,())
def u62f_l0 (k : Nat) (v4 : O47.den) (v5 : T9.den) : Option ((Items.den [.val 4 O47]) ⊕ (den1 [O47,T3])):=loopR (ρ:=(den1 [O47,T3])) 0 [.val 4 O47, .val 5 T9] [.val 4 O47] (runOf Γo d_u62f a_u62f Tryz.f79 [.val T9] [O47,T3] 0) k (v4,v5)
theorem u62f_eq (k : Nat) (a : T9.den) : u62f k a = br (decide ((List.length a : Int) > 4000)) (some ([],5)) (bnd (u62f_l0 k [] a) (fun y1=>onSum y1 (fun y2=>br (decide ((List.length y2 : Int) > 16)) (some ([],5)) (some (y2,0))) (fun y2=>some y2))):=by kernel_rfl
theorem u62f_l0_zero (v4 : O47.den) (v5 : T9.den) : u62f_l0 0 v4 v5 = none:=by kernel_rfl
theorem u62f_l0_succ (k : Nat) (v4 : O47.den) (v5 : T9.den) : u62f_l0 (k + 1) v4 v5 = br (!v5 == []) (bnd (br (decide (0 ≤ 0)) (br (decide (0 < (List.length v5 : Int))) (br ((↑(List.getD v5 (Int.toNat 0) 0).toNat : Int) == 1) (some (Sum.inl (v4,v5,((0 : Int),(0 : Int),(0 : Int),([] : List UInt8),()),1))) (br ((↑(List.getD v5 (Int.toNat 0) 0).toNat : Int) == 2) (br (decide ((List.length v5 : Int) ≥ 2)) (br (decide (0 ≤ 1)) (br (decide (1 < (List.length v5 : Int))) (some (Sum.inl (v4,v5,((1 : Int),IntKind.i64.wrap (↑(List.getD v5 (Int.toNat 1) 0).toNat : Int),(0 : Int),([] : List UInt8),()),2))) (none)) (none)) (some (Sum.inl (v4,v5,((0 : Int),(0 : Int),(0 : Int),([] : List UInt8),()),2)))) (br ((↑(List.getD v5 (Int.toNat 0) 0).toNat : Int) == 3) (br (decide ((List.length v5 : Int) ≥ 13)) (br (decide (0 ≤ 1)) (br (decide (1 ≤ 9)) (br (decide (9 ≤ (List.length v5 : Int))) (bnd (u59f k (List.drop (Int.toNat 1) (List.take (Int.toNat 9) v5))) (fun y1=>br (decide (0 ≤ 9)) (br (decide (9 ≤ 12)) (br (decide (12 ≤ (List.length v5 : Int))) (bnd (u59f k (List.drop (Int.toNat 9) (List.take (Int.toNat 12) v5))) (fun y2=>br (decide (0 ≤ 12)) (br (decide (12 < (List.length v5 : Int))) (br ((↑(List.getD v5 (Int.toNat 12) 0).toNat : Int) == 3) (br (decide (IntKind.i64.wrap (y1 - 1152921504606846976) < -1000000001)) (some (Sum.inr ([],5))) (br (decide (IntKind.i64.wrap (y1 - 1152921504606846976) > 1000000000)) (some (Sum.inr ([],5))) (bnd (u61f k 6) (fun y3=>bnd (u60f k (IntKind.i64.wrap (IntKind.i64.wrap (IntKind.i64.wrap (y1 - 1152921504606846976) * y3) + y2)) 6) (fun y4=>br (y4.2 != 0) (some (Sum.inr ([],5))) (some (Sum.inl (v4,v5,y4.1,13)))))))) (some (Sum.inl (v4,v5,((2 : Int),IntKind.i64.wrap (y1 - 1152921504606846976),(0 : Int),([] : List UInt8),()),13)))) (none)) (none))) (none)) (none)) (none))) (none)) (none)) (none)) (some (Sum.inl (v4,v5,((0 : Int),(0 : Int),(0 : Int),([] : List UInt8),()),13)))) (br ((↑(List.getD v5 (Int.toNat 0) 0).toNat : Int) == 4) (bnd (strings_IndexByte k v5 0) (fun y1=>br (decide (y1 < 0)) (some (Sum.inr ([],5))) (br (decide (0 ≤ 1)) (br (decide (1 ≤ y1)) (br (decide (y1 ≤ (List.length v5 : Int))) (some (Sum.inl (v4,v5,(4,0,0,List.drop (Int.toNat 1) (List.take (Int.toNat y1) v5),()),IntKind.i64.wrap (y1 + 1)))) (none)) (none)) (none)))) (br ((↑(List.getD v5 (Int.toNat 0) 0).toNat : Int) == 5) (br (decide ((List.length v5 : Int) ≥ 4)) (br (decide (0 ≤ 1)) (br (decide (1 ≤ 4)) (br (decide (4 ≤ (List.length v5 : Int))) (bnd (u59f k (List.drop (Int.toNat 1) (List.take (Int.toNat 4) v5))) (fun y1=>some (Sum.inl (v4,v5,((5 : Int),y1,(0 : Int),([] : List UInt8),()),4)))) (none)) (none)) (none)) (some (Sum.inl (v4,v5,((0 : Int),(0 : Int),(0 : Int),([] : List UInt8),()),4)))) (some (Sum.inl (v4,v5,((0 : Int),(0 : Int),(0 : Int),([] : List UInt8),()),0)))))))) (none)) (none)) (fun y1=>onSum y1 (fun y2=>br (y2.2.2.2 == 0) (some (Sum.inr ([],5))) (br (decide (y2.2.2.2 > (List.length y2.2.1 : Int))) (some (Sum.inr ([],5))) (bnd (u0f k [y2.2.2.1]) (fun y3=>br (y3.2 != 0) (some (Sum.inr ([],5))) (br (decide (0 ≤ y2.2.2.2)) (br (decide (y2.2.2.2 ≤ (List.length y2.2.1 : Int))) (br (!y3.1 == List.take (Int.toNat y2.2.2.2) y2.2.1) (some (Sum.inr ([],5))) (br (decide (List.length y2.1 + [y2.2.2.1].length ≤ capN)) (br (decide (0 ≤ y2.2.2.2)) (br (decide (y2.2.2.2 ≤ (List.length y2.2.1 : Int))) (u62f_l0 k (y2.1 ++ [y2.2.2.1]) (List.drop (Int.toNat y2.2.2.2) y2.2.1)) (none)) (none)) (none))) (none)) (none)))))) (fun y2=>some (Sum.inr y2)))) (some (Sum.inl v4)):=by kernel_rfl
def c_u62f : Con:=⟨[.val T9],[O47,T3],fun k x=>u62f k x.1⟩
theorem del_u62f {w0 : World} (hS : Stops w0) : DelOk Tryz.prog w0 d_u62f:=.cons (ok_u59f hS) ent_u59f (.cons (ok_u60f hS) ent_u60f (.cons (ok_u61f hS) ent_u61f (.cons (hS.strings_IndexByte.1) hS.strings_IndexByte.2 (.cons (hS.u0f.1) hS.u0f.2 (.nil)))))
theorem ok_u62f {w0 : World} (hS : Stops w0) : Keeps Tryz.prog w0 79 c_u62f:=.gn (y48q (A:=a_u62f) y55q (del_u62f hS) (drawso (del_u62f hS)) Tryz.func79 (by kernel_rfl) (fun k x=>by kernel_rfl) (by kernel_rfl)) (by kernel_rfl)
theorem ent_u62f : Enters' Tryz.prog 79:=enters' Tryz.func79 (by kernel_rfl)
attribute [irreducible] u62f u62f_l0
def a_u63f : Ann:=⟨[],[]⟩
def d_u63f : List (Nat × Con):=[]
def u63f (k : Nat) (a : T3.den) : Option (den1 [T91]):=evFn Γ d_u63f a_u63f Tryz.f80 [.val T3] [T91] k (a,())
theorem u63f_eq (k : Nat) (a : T3.den) : u63f k a = some ((2 : Int),a,(0 : Int),([] : List UInt8),()):=by kernel_rfl
def c_u63f : Con:=⟨[.val T3],[T91],fun k x=>u63f k x.1⟩
theorem del_u63f {w0 : World} (hS : Stops w0) : DelOk Tryz.prog w0 d_u63f:=.nil
theorem ok_u63f {w0 : World} (hS : Stops w0) : Keeps Tryz.prog w0 80 c_u63f:=.con (y9q (A:=a_u63f) y24q (del_u63f hS) (draws (del_u63f hS)) Tryz.func80 (by kernel_rfl) (fun k x=>by kernel_rfl) (by kernel_rfl)) (by kernel_rfl)
theorem ent_u63f : Enters' Tryz.prog 80:=enters' Tryz.func80 (by kernel_rfl)
attribute [irreducible] u63f
def a_slices_Equal_Value : Ann:=⟨[(0,[.val 0 T47, .val 1 T47, .val 12 T3, .val 13 T3],⟨[],false⟩)],[]⟩
def d_slices_Equal_Value : List (Nat × Con):=[]
def slices_Equal_Value (k : Nat) (a : T47.den) (b : T47.den) : Option (den1 [T4]):=evFn Γ d_slices_Equal_Value a_slices_Equal_Value Tryz.f81 [.val T47, .val T47] [T4] k (a,b,())
def slices_Equal_Value_l0 (k : Nat) (v0 : T47.den) (v1 : T47.den) (v12 : T3.den) (v13 : T3.den) : Option ((Items.den []) ⊕ (den1 [T4])):=loopR (ρ:=(den1 [T4])) 0 [.val 0 T47, .val 1 T47, .val 12 T3, .val 13 T3] [] (runOf Γ d_slices_Equal_Value a_slices_Equal_Value Tryz.f81 [.val T47, .val T47] [T4] 0) k (v0,v1,v12,v13)
theorem slices_Equal_Value_eq (k : Nat) (a : T47.den) (b : T47.den) : slices_Equal_Value k a b = br ((List.length a : Int) != (List.length b : Int)) (some false) (bnd (slices_Equal_Value_l0 k a b ((List.length a : Int)) 0) (fun y1=>onSum y1 (fun y2=>some true) (fun y2=>some y2))):=by kernel_rfl
theorem slices_Equal_Value_l0_zero (v0 : T47.den) (v1 : T47.den) (v12 : T3.den) (v13 : T3.den) : slices_Equal_Value_l0 0 v0 v1 v12 v13 = none:=by kernel_rfl
theorem y142q (k : Nat) (v0 : T47.den) (v1 : T47.den) (v12 : T3.den) (v13 : T3.den) : slices_Equal_Value_l0 (k + 1) v0 v1 v12 v13 = br (decide (v13 < v12)) (br (decide (0 ≤ v13)) (br (decide (v13 < (List.length v0 : Int))) (br (decide (0 ≤ v13)) (br (decide (v13 < (List.length v1 : Int))) (br (!andB (eqI (List.getD v0 (Int.toNat v13) T91.zero).1 (List.getD v1 (Int.toNat v13) T91.zero).1) (andB (eqI (List.getD v0 (Int.toNat v13) T91.zero).2.1 (List.getD v1 (Int.toNat v13) T91.zero).2.1) (andB (eqI (List.getD v0 (Int.toNat v13) T91.zero).2.2.1 (List.getD v1 (Int.toNat v13) T91.zero).2.2.1) (andB (eqS (List.getD v0 (Int.toNat v13) T91.zero).2.2.2.1 (List.getD v1 (Int.toNat v13) T91.zero).2.2.2.1) true)))) (some (Sum.inr false)) (slices_Equal_Value_l0 k v0 v1 v12 (IntKind.i64.wrap (v13 + 1)))) (none)) (none)) (none)) (none)) (some (Sum.inl ())):=by kernel_rfl
def c_slices_Equal_Value : Con:=⟨[.val T47, .val T47],[T4],fun k x=>slices_Equal_Value k x.1 x.2.1⟩
theorem y101q {w0 : World} (hS : Stops w0) : DelOk Tryz.prog w0 d_slices_Equal_Value:=.nil
theorem ok_slices_Equal_Value {w0 : World} (hS : Stops w0) : Keeps Tryz.prog w0 81 c_slices_Equal_Value:=.con (y9q (A:=a_slices_Equal_Value) y24q (y101q hS) (draws (y101q hS)) Tryz.func81 (by kernel_rfl) (fun k x=>by kernel_rfl) (by kernel_rfl)) (by kernel_rfl)
theorem ent_slices_Equal_Value : Enters' Tryz.prog 81:=enters' Tryz.func81 (by kernel_rfl)
attribute [irreducible] slices_Equal_Value slices_Equal_Value_l0
def a_u64f : Ann:=⟨[(0,[.val 1 T47, .var 3 T36, .val 7 O47, .val 10 T23, .val 11 T3, .val 12 T3],⟨[.val 7 O47],true⟩)],[]⟩
def d_u64f : List (Nat × Con):=[(78,c_u53f)]
def u64f (k : Nat) (a : T36.den) (b : T47.den) (c : T23.den) : Option (den1 [O47]):=evFn Γo d_u64f a_u64f Tryz.f82 [.val T36, .val T47, .val T23] [O47] k (a,b,c,())
def u64f_l0 (k : Nat) (v1 : T47.den) (v3 : T36.den) (v7 : O47.den) (v10 : T23.den) (v11 : T3.den) (v12 : T3.den) : Option (Items.den [.val 7 O47]):=loopQ (ρ:=(den1 [O47])) 0 [.val 1 T47, .var 3 T36, .val 7 O47, .val 10 T23, .val 11 T3, .val 12 T3] [.val 7 O47] (runOf Γo d_u64f a_u64f Tryz.f82 [.val T36, .val T47, .val T23] [O47] 0) k (v1,v3,v7,v10,v11,v12)
theorem u64f_eq (k : Nat) (a : T36.den) (b : T47.den) (c : T23.den) : u64f k a b c = bnd (u64f_l0 k b a [] c ((List.length c : Int)) 0) (fun y1=>some y1):=by kernel_rfl
theorem u64f_l0_zero (v1 : T47.den) (v3 : T36.den) (v7 : O47.den) (v10 : T23.den) (v11 : T3.den) (v12 : T3.den) : u64f_l0 0 v1 v3 v7 v10 v11 v12 = none:=by kernel_rfl
theorem u64f_l0_succ (k : Nat) (v1 : T47.den) (v3 : T36.den) (v7 : O47.den) (v10 : T23.den) (v11 : T3.den) (v12 : T3.den) : u64f_l0 (k + 1) v1 v3 v7 v10 v11 v12 = br (decide (v12 < v11)) (br (decide (0 ≤ v12)) (br (decide (v12 < (List.length v10 : Int))) (bnd (u53f k v3 (List.getD v10 (Int.toNat v12) T3.zero)) (fun y1=>br (decide (0 ≤ y1)) (br (decide (y1 < (List.length v1 : Int))) (br (decide (List.length v7 + [(List.getD v1 (Int.toNat y1) T91.zero)].length ≤ capN)) (u64f_l0 k v1 v3 (v7 ++ [(List.getD v1 (Int.toNat y1) T91.zero)]) v10 v11 (IntKind.i64.wrap (v12 + 1))) (none)) (none)) (none))) (none)) (none)) (some v7):=by kernel_rfl
def c_u64f : Con:=⟨[.val T36, .val T47, .val T23],[O47],fun k x=>u64f k x.1 x.2.1 x.2.2.1⟩
theorem del_u64f {w0 : World} (hS : Stops w0) : DelOk Tryz.prog w0 d_u64f:=.cons (ok_u53f hS) ent_u53f (.nil)
theorem ok_u64f {w0 : World} (hS : Stops w0) : Keeps Tryz.prog w0 82 c_u64f:=.gn (y48q (A:=a_u64f) y55q (del_u64f hS) (drawso (del_u64f hS)) Tryz.func82 (by kernel_rfl) (fun k x=>by kernel_rfl) (by kernel_rfl)) (by kernel_rfl)
theorem ent_u64f : Enters' Tryz.prog 82:=enters' Tryz.func82 (by kernel_rfl)
attribute [irreducible] u64f u64f_l0
def a_u65f : Ann:=⟨[(0,[.var 2 T36, .var 3 T68, .val 6 O47, .val 51 T23, .val 52 T3, .val 53 T3],⟨[.var 2 T36, .var 3 T68, .val 6 O47],false⟩),(2,[.var 2 T36, .val 6 O47, .val 10 O47, .val 11 O47, .val 12 T3],⟨[.var 2 T36, .val 6 O47, .val 11 O47],false⟩)],[(21,⟨[.var 2 T36, .val 6 O47, .val 10 O47, .val 11 O47, .val 12 T3],false⟩)]⟩
def d_u65f : List (Nat × Con):=[(40,c_u54f),(57,c_u58f),(78,c_u53f),(79,c_u62f),(80,c_u63f),(81,c_slices_Equal_Value),(82,c_u64f)]
def u65f (k : Nat) (a : T36.den) (b : T68.den) : Option (den1 [O47,T3]):=evFn Γo d_u65f a_u65f Tryz.f43 [.val T36, .val T68] [O47,T3] k (a,b,())
def u65f_l0 (k : Nat) (v2 : T36.den) (v3 : T68.den) (v6 : O47.den) (v51 : T23.den) (v52 : T3.den) (v53 : T3.den) : Option ((Items.den [.var 2 T36, .var 3 T68, .val 6 O47]) ⊕ (den1 [O47,T3])):=loopR (ρ:=(den1 [O47,T3])) 0 [.var 2 T36, .var 3 T68, .val 6 O47, .val 51 T23, .val 52 T3, .val 53 T3] [.var 2 T36, .var 3 T68, .val 6 O47] (runOf Γo d_u65f a_u65f Tryz.f43 [.val T36, .val T68] [O47,T3] 0) k (v2,v3,v6,v51,v52,v53)
def u65f_l2 (k : Nat) (v2 : T36.den) (v6 : O47.den) (v10 : O47.den) (v11 : O47.den) (v12 : T3.den) : Option ((Items.den [.var 2 T36, .val 6 O47, .val 11 O47]) ⊕ (den1 [O47,T3])):=loopR (ρ:=(den1 [O47,T3])) 2 [.var 2 T36, .val 6 O47, .val 10 O47, .val 11 O47, .val 12 T3] [.var 2 T36, .val 6 O47, .val 11 O47] (runOf Γo d_u65f a_u65f Tryz.f43 [.val T36, .val T68] [O47,T3] 2) k (v2,v6,v10,v11,v12)
theorem u65f_eq (k : Nat) (a : T36.den) (b : T68.den) : u65f k a b = bnd (u54f k a) (fun y1=>br (!y1) (some ([],1)) (bnd (u62f k b.1) (fun y2=>br (y2.2 != 0) (some ([],5)) (br ((List.length y2.1 : Int) != IntKind.i64.wrap (2 + (List.length a.2.2.2.2.1 : Int))) (some ([],5)) (br (decide (0 ≤ 0)) (br (decide (0 < (List.length y2.1 : Int))) (bnd (u63f k a.1) (fun y3=>br (!andB (eqI (List.getD y2.1 (Int.toNat 0) T91.zero).1 y3.1) (andB (eqI (List.getD y2.1 (Int.toNat 0) T91.zero).2.1 y3.2.1) (andB (eqI (List.getD y2.1 (Int.toNat 0) T91.zero).2.2.1 y3.2.2.1) (andB (eqS (List.getD y2.1 (Int.toNat 0) T91.zero).2.2.2.1 y3.2.2.2.1) true)))) (some ([],5)) (br (decide (0 ≤ 1)) (br (decide (1 < (List.length y2.1 : Int))) (bnd (u63f k 0) (fun y4=>br (!andB (eqI (List.getD y2.1 (Int.toNat 1) T91.zero).1 y4.1) (andB (eqI (List.getD y2.1 (Int.toNat 1) T91.zero).2.1 y4.2.1) (andB (eqI (List.getD y2.1 (Int.toNat 1) T91.zero).2.2.1 y4.2.2.1) (andB (eqS (List.getD y2.1 (Int.toNat 1) T91.zero).2.2.2.1 y4.2.2.2.1) true)))) (some ([],5)) (bnd (u65f_l0 k a b y2.1 a.2.2.2.2.1 ((List.length a.2.2.2.2.1 : Int)) 0) (fun y5=>onSum y5 (fun y6=>bnd (u62f k y6.2.1.2.1) (fun y7=>br (y7.2 != 0) (some ([],5)) (br (!2 == 0) (br ((List.length y7.1 : Int).tmod 2 != 0) (some ([],5)) (br ((List.length y6.1.2.2.2.1 : Int) == (List.length y6.1.2.2.2.1 : Int)) (br (decide (0 ≤ (List.length y6.1.2.2.2.1 : Int))) (br (decide ((List.length y6.1.2.2.2.1 : Int) ≤ (↑capN : Int))) (bnd (u65f_l2 k y6.1 y6.2.2 y7.1 (List.replicate (List.length y6.1.2.2.2.1 : Int).toNat (T3.pair (T3.pair (T3.pair (T9.pair Ty.unit)))).zero) 0) (fun y8=>onSum y8 (fun y9=>bnd (u58f k y9.1 y9.2.2) (fun y10=>br (!y10) (some ([],5)) (bnd (u64f k y9.1 y9.2.2 y9.1.2.2.2.2.1) (fun y11=>br (decide (0 ≤ 2)) (br (decide (2 ≤ (List.length y9.2.1 : Int))) (bnd (slices_Equal_Value k y11 (List.drop (0 + Int.toNat 2) (List.take (0 + List.length y9.2.1) y9.2.1))) (fun y12=>br (!y12) (some ([],5)) (some (y9.2.2,0)))) (none)) (none))))) (fun y9=>some y9))) (none)) (none)) (none))) (none)))) (fun y6=>some y6))))) (none)) (none)))) (none)) (none)))))):=by kernel_rfl
theorem u65f_l0_zero (v2 : T36.den) (v3 : T68.den) (v6 : O47.den) (v51 : T23.den) (v52 : T3.den) (v53 : T3.den) : u65f_l0 0 v2 v3 v6 v51 v52 v53 = none:=by kernel_rfl
theorem u65f_l0_succ (k : Nat) (v2 : T36.den) (v3 : T68.den) (v6 : O47.den) (v51 : T23.den) (v52 : T3.den) (v53 : T3.den) : u65f_l0 (k + 1) v2 v3 v6 v51 v52 v53 = br (decide (v53 < v52)) (br (decide (0 ≤ v53)) (br (decide (v53 < (List.length v51 : Int))) (br (decide (0 ≤ IntKind.i64.wrap (2 + v53))) (br (decide (IntKind.i64.wrap (2 + v53) < (List.length v6 : Int))) (bnd (u53f k v2 (List.getD v51 (Int.toNat v53) T3.zero)) (fun y1=>br (decide (0 ≤ y1)) (br (decide (y1 < (List.length v2.2.2.2.1 : Int))) (br ((List.getD v6 (IntKind.i64.wrap (2 + v53)).toNat T91.zero).1 != (List.getD v2.2.2.2.1 (Int.toNat y1) T102.zero).2.2.1) (some (Sum.inr ([],5))) (u65f_l0 k v2 v3 v6 v51 v52 (IntKind.i64.wrap (v53 + 1)))) (none)) (none))) (none)) (none)) (none)) (none)) (some (Sum.inl (v2,v3,v6))):=by kernel_rfl
theorem u65f_l2_zero (v2 : T36.den) (v6 : O47.den) (v10 : O47.den) (v11 : O47.den) (v12 : T3.den) : u65f_l2 0 v2 v6 v10 v11 v12 = none:=by kernel_rfl
theorem u65f_l2_succ (k : Nat) (v2 : T36.den) (v6 : O47.den) (v10 : O47.den) (v11 : O47.den) (v12 : T3.den) : u65f_l2 (k + 1) v2 v6 v10 v11 v12 = br (decide (v12 < (List.length v10 : Int))) (bnd (br (decide (0 ≤ v12)) (br (decide (v12 < (List.length v10 : Int))) (br ((List.getD v10 (Int.toNat v12) T91.zero).1 != 2) (some (Sum.inr ([],5))) (br (decide (0 ≤ IntKind.i64.wrap (v12 + 1))) (br (decide (IntKind.i64.wrap (v12 + 1) < (List.length v10 : Int))) (br ((List.getD v10 (IntKind.i64.wrap (v12 + 1)).toNat T91.zero).1 == 0) (some (Sum.inr ([],5))) (br (decide (v12 > 0)) (br (decide (0 ≤ IntKind.i64.wrap (v12 - 2))) (br (decide (IntKind.i64.wrap (v12 - 2) < (List.length v10 : Int))) (br (decide (0 ≤ v12)) (br (decide (v12 < (List.length v10 : Int))) (br (decide ((List.getD v10 (IntKind.i64.wrap (v12 - 2)).toNat T91.zero).2.1 ≥ (List.getD v10 (Int.toNat v12) T91.zero).2.1)) (some (Sum.inr ([],5))) (some (Sum.inl (v2,v6,v10,v11,v12)))) (none)) (none)) (none)) (none)) (some (Sum.inl (v2,v6,v10,v11,v12))))) (none)) (none))) (none)) (none)) (fun y1=>onSum y1 (fun y2=>br (decide (0 ≤ y2.2.2.2.2)) (br (decide (y2.2.2.2.2 < (List.length y2.2.2.1 : Int))) (bnd (u53f k y2.1 (List.getD y2.2.2.1 (Int.toNat y2.2.2.2.2) T91.zero).2.1) (fun y3=>br (decide (y3 ≥ 0)) (br (decide (0 ≤ IntKind.i64.wrap (y2.2.2.2.2 + 1))) (br (decide (IntKind.i64.wrap (y2.2.2.2.2 + 1) < (List.length y2.2.2.1 : Int))) (br (decide (0 ≤ y3)) (br (decide (y3 < (List.length y2.2.2.2.1 : Int))) (u65f_l2 k y2.1 y2.2.1 y2.2.2.1 (List.set y2.2.2.2.1 (Int.toNat y3) (List.getD y2.2.2.1 (IntKind.i64.wrap (y2.2.2.2.2 + 1)).toNat T91.zero)) (IntKind.i64.wrap (y2.2.2.2.2 + 2))) (none)) (none)) (none)) (none)) (u65f_l2 k y2.1 y2.2.1 y2.2.2.1 y2.2.2.2.1 (IntKind.i64.wrap (y2.2.2.2.2 + 2))))) (none)) (none)) (fun y2=>some (Sum.inr y2)))) (some (Sum.inl (v2,v6,v11))):=by kernel_rfl
def c_u65f : Con:=⟨[.val T36, .val T68],[O47,T3],fun k x=>u65f k x.1 x.2.1⟩
theorem del_u65f {w0 : World} (hS : Stops w0) : DelOk Tryz.prog w0 d_u65f:=.cons (ok_u54f hS) ent_u54f (.cons (ok_u58f hS) ent_u58f (.cons (ok_u53f hS) ent_u53f (.cons (ok_u62f hS) ent_u62f (.cons (ok_u63f hS) ent_u63f (.cons (ok_slices_Equal_Value hS) ent_slices_Equal_Value (.cons (ok_u64f hS) ent_u64f (.nil)))))))
theorem ok_u65f {w0 : World} (hS : Stops w0) : Keeps Tryz.prog w0 43 c_u65f:=.gn (y48q (A:=a_u65f) y55q (del_u65f hS) (drawso (del_u65f hS)) Tryz.func43 (by kernel_rfl) (fun k x=>by kernel_rfl) (by kernel_rfl)) (by kernel_rfl)
theorem ent_u65f : Enters' Tryz.prog 43:=enters' Tryz.func43 (by kernel_rfl)
attribute [irreducible] u65f u65f_l0 u65f_l2
def a_u66f : Ann:=⟨[],[]⟩
def d_u66f : List (Nat × Con):=[(106,c_u0f)]
def u66f (k : Nat) (a : T47.den) : Option (den1 [T9]):=evFn Γ d_u66f a_u66f Tryz.f83 [.val T47] [T9] k (a,())
theorem u66f_eq (k : Nat) (a : T47.den) : u66f k a = bnd (u0f k a) (fun y1=>some y1.1):=by kernel_rfl
def c_u66f : Con:=⟨[.val T47],[T9],fun k x=>u66f k x.1⟩
theorem del_u66f {w0 : World} (hS : Stops w0) : DelOk Tryz.prog w0 d_u66f:=.cons (hS.u0f.1) hS.u0f.2 (.nil)
theorem ok_u66f {w0 : World} (hS : Stops w0) : Keeps Tryz.prog w0 83 c_u66f:=.con (y9q (A:=a_u66f) y24q (del_u66f hS) (draws (del_u66f hS)) Tryz.func83 (by kernel_rfl) (fun k x=>by kernel_rfl) (by kernel_rfl)) (by kernel_rfl)
theorem ent_u66f : Enters' Tryz.prog 83:=enters' Tryz.func83 (by kernel_rfl)
attribute [irreducible] u66f
def a_u67f : Ann:=⟨[],[]⟩
def d_u67f : List (Nat × Con):=[(80,c_u63f),(82,c_u64f),(83,c_u66f)]
def u67f (k : Nat) (a : T36.den) (b : T71.den) (c : T47.den) : Option (den1 [T68]):=evFn Γo d_u67f a_u67f Tryz.f44 [.val T36, .val T71, .val T47] [T68] k (a,b,c,())
theorem u67f_eq (k : Nat) (a : T36.den) (b : T71.den) (c : T47.den) : u67f k a b c = bnd (u63f k a.1) (fun y1=>bnd (u63f k b.1) (fun y2=>bnd (u64f k a c b.2.2.1) (fun y3=>br (decide ([y1,y2].length + List.length y3 ≤ capN)) (bnd (u64f k a c a.2.2.2.2.1) (fun y4=>br (decide (List.length ([y1,y2] ++ y3) + List.length y4 ≤ capN)) (bnd (u66f k ([y1,y2] ++ y3 ++ y4)) (fun y5=>some (y5,([] : List UInt8),()))) (none))) (none)))):=by kernel_rfl
def c_u67f : Con:=⟨[.val T36, .val T71, .val T47],[T68],fun k x=>u67f k x.1 x.2.1 x.2.2.1⟩
theorem del_u67f {w0 : World} (hS : Stops w0) : DelOk Tryz.prog w0 d_u67f:=.cons (ok_u63f hS) ent_u63f (.cons (ok_u64f hS) ent_u64f (.cons (ok_u66f hS) ent_u66f (.nil)))
theorem ok_u67f {w0 : World} (hS : Stops w0) : Keeps Tryz.prog w0 44 c_u67f:=.con (y9q (A:=a_u67f) y55q (del_u67f hS) (drawso (del_u67f hS)) Tryz.func44 (by kernel_rfl) (fun k x=>by kernel_rfl) (by kernel_rfl)) (by kernel_rfl)
theorem ent_u67f : Enters' Tryz.prog 44:=enters' Tryz.func44 (by kernel_rfl)
attribute [irreducible] u67f
def a_u68f : Ann:=⟨[(0,[.var 3 T36, .val 8 T3, .val 9 O30, .val 28 T30, .val 29 T3, .val 30 T3],⟨[.val 9 O30],false⟩)],[]⟩
def d_u68f : List (Nat × Con):=[(40,c_u54f),(41,c_slices_IndexFunc_Index),(42,c_u55f),(43,c_u65f),(44,c_u67f)]
def u68f (k : Nat) (a : T36.den) (b : T9.den) (c : T30.den) : Option (den1 [O30,T3]):=evFn Γo d_u68f a_u68f Tryz.f11 [.val T36, .val T9, .val T30] [O30,T3] k (a,b,c,())
def u68f_l0 (k : Nat) (v3 : T36.den) (v8 : T3.den) (v9 : O30.den) (v28 : T30.den) (v29 : T3.den) (v30 : T3.den) : Option ((Items.den [.val 9 O30]) ⊕ (den1 [O30,T3])):=loopR (ρ:=(den1 [O30,T3])) 0 [.var 3 T36, .val 8 T3, .val 9 O30, .val 28 T30, .val 29 T3, .val 30 T3] [.val 9 O30] (runOf Γo d_u68f a_u68f Tryz.f11 [.val T36, .val T9, .val T30] [O30,T3] 0) k (v3,v8,v9,v28,v29,v30)
theorem u68f_eq (k : Nat) (a : T36.den) (b : T9.den) (c : T30.den) : u68f k a b c = bnd (u54f k a) (fun y1=>br (!y1) (some ([],1)) (br (decide ((List.length c : Int) > 4000)) (some ([],1)) (bnd (slices_IndexFunc_Index k a.2.2.2.2.2.1 (b,())) (fun y2=>br (decide (y2 < 0)) (some ([],14)) (bnd (u68f_l0 k a y2 [] c ((List.length c : Int)) 0) (fun y3=>onSum y3 (fun y4=>some (y4,0)) (fun y4=>some y4))))))):=by kernel_rfl
theorem u68f_l0_zero (v3 : T36.den) (v8 : T3.den) (v9 : O30.den) (v28 : T30.den) (v29 : T3.den) (v30 : T3.den) : u68f_l0 0 v3 v8 v9 v28 v29 v30 = none:=by kernel_rfl
theorem u68f_l0_succ (k : Nat) (v3 : T36.den) (v8 : T3.den) (v9 : O30.den) (v28 : T30.den) (v29 : T3.den) (v30 : T3.den) : u68f_l0 (k + 1) v3 v8 v9 v28 v29 v30 = br (decide (v30 < v29)) (br (decide (0 ≤ v30)) (br (decide (v30 < (List.length v28 : Int))) (bnd (u65f k v3 (List.getD v28 (Int.toNat v30) T68.zero)) (fun y1=>br (y1.2 != 0) (some (Sum.inr ([],5))) (br (decide (0 ≤ v8)) (br (decide (v8 < (List.length v3.2.2.2.2.2.1 : Int))) (bnd (u67f k v3 (List.getD v3.2.2.2.2.2.1 (Int.toNat v8) T71.zero) y1.1) (fun y2=>br (decide (List.length v9 + [y2].length ≤ capN)) (u68f_l0 k v3 v8 (v9 ++ [y2]) v28 v29 (IntKind.i64.wrap (v30 + 1))) (none))) (none)) (none)))) (none)) (none)) (some (Sum.inl v9)):=by kernel_rfl
def c_u68f : Con:=⟨[.val T36, .val T9, .val T30],[O30,T3],fun k x=>u68f k x.1 x.2.1 x.2.2.1⟩
theorem del_u68f {w0 : World} (hS : Stops w0) : DelOk Tryz.prog w0 d_u68f:=.cons (ok_u54f hS) ent_u54f (.cons (y156q hS) y141q (.cons (ok_u55f hS) ent_u55f (.cons (ok_u65f hS) ent_u65f (.cons (ok_u67f hS) ent_u67f (.nil)))))
theorem ok_u68f {w0 : World} (hS : Stops w0) : Keeps Tryz.prog w0 11 c_u68f:=.gn (y48q (A:=a_u68f) y55q (del_u68f hS) (drawso (del_u68f hS)) Tryz.func11 (by kernel_rfl) (fun k x=>by kernel_rfl) (by kernel_rfl)) (by kernel_rfl)
theorem ent_u68f : Enters' Tryz.prog 11:=enters' Tryz.func11 (by kernel_rfl)
attribute [irreducible] u68f u68f_l0
def a_u69f : Ann:=⟨[],[]⟩
def d_u69f : List (Nat × Con):=[]
def u69f (k : Nat) (a : T68.den) (b : T68.den) : Option (den1 [T4]):=evFn Γ d_u69f a_u69f Tryz.f45 [.val T68, .val T68] [T4] k (a,b,())
theorem u69f_eq (k : Nat) (a : T68.den) (b : T68.den) : u69f k a b = br (!a.1 == b.1) (some false) (br (!a.2.1 == b.2.1) (some false) (some true)):=by kernel_rfl
def c_u69f : Con:=⟨[.val T68, .val T68],[T4],fun k x=>u69f k x.1 x.2.1⟩
theorem del_u69f {w0 : World} (hS : Stops w0) : DelOk Tryz.prog w0 d_u69f:=.nil
theorem ok_u69f {w0 : World} (hS : Stops w0) : Keeps Tryz.prog w0 45 c_u69f:=.con (y9q (A:=a_u69f) y24q (del_u69f hS) (draws (del_u69f hS)) Tryz.func45 (by kernel_rfl) (fun k x=>by kernel_rfl) (by kernel_rfl)) (by kernel_rfl)
theorem ent_u69f : Enters' Tryz.prog 45:=enters' Tryz.func45 (by kernel_rfl)
attribute [irreducible] u69f
def a_u70f : Ann:=⟨[(0,[.val 0 T30, .val 1 T30, .val 5 T3],⟨[],false⟩)],[]⟩
def d_u70f : List (Nat × Con):=[(45,c_u69f)]
def u70f (k : Nat) (a : T30.den) (b : T30.den) : Option (den1 [T4]):=evFn Γ d_u70f a_u70f Tryz.f12 [.val T30, .val T30] [T4] k (a,b,())
def u70f_l0 (k : Nat) (v0 : T30.den) (v1 : T30.den) (v5 : T3.den) : Option ((Items.den []) ⊕ (den1 [T4])):=loopR (ρ:=(den1 [T4])) 0 [.val 0 T30, .val 1 T30, .val 5 T3] [] (runOf Γ d_u70f a_u70f Tryz.f12 [.val T30, .val T30] [T4] 0) k (v0,v1,v5)
theorem u70f_eq (k : Nat) (a : T30.den) (b : T30.den) : u70f k a b = br ((List.length a : Int) != (List.length b : Int)) (some false) (bnd (u70f_l0 k a b 0) (fun y1=>onSum y1 (fun y2=>some true) (fun y2=>some y2))):=by kernel_rfl
theorem u70f_l0_zero (v0 : T30.den) (v1 : T30.den) (v5 : T3.den) : u70f_l0 0 v0 v1 v5 = none:=by kernel_rfl
theorem u70f_l0_succ (k : Nat) (v0 : T30.den) (v1 : T30.den) (v5 : T3.den) : u70f_l0 (k + 1) v0 v1 v5 = br (decide (v5 < (List.length v0 : Int))) (br (decide (0 ≤ v5)) (br (decide (v5 < (List.length v0 : Int))) (br (decide (0 ≤ v5)) (br (decide (v5 < (List.length v1 : Int))) (bnd (u69f k (List.getD v0 (Int.toNat v5) T68.zero) (List.getD v1 (Int.toNat v5) T68.zero)) (fun y1=>br (!y1) (some (Sum.inr false)) (u70f_l0 k v0 v1 (IntKind.i64.wrap (v5 + 1))))) (none)) (none)) (none)) (none)) (some (Sum.inl ())):=by kernel_rfl
def c_u70f : Con:=⟨[.val T30, .val T30],[T4],fun k x=>u70f k x.1 x.2.1⟩
theorem del_u70f {w0 : World} (hS : Stops w0) : DelOk Tryz.prog w0 d_u70f:=.cons (ok_u69f hS) ent_u69f (.nil)
theorem ok_u70f {w0 : World} (hS : Stops w0) : Keeps Tryz.prog w0 12 c_u70f:=.con (y9q (A:=a_u70f) y24q (del_u70f hS) (draws (del_u70f hS)) Tryz.func12 (by kernel_rfl) (fun k x=>by kernel_rfl) (by kernel_rfl)) (by kernel_rfl)
theorem ent_u70f : Enters' Tryz.prog 12:=enters' Tryz.func12 (by kernel_rfl)
attribute [irreducible] u70f u70f_l0
def a_u71f : Ann:=⟨[],[]⟩
def d_u71f : List (Nat × Con):=[]
def u71f (k : Nat) (a : T102.den) (b : T102.den) : Option (den1 [T4]):=evFn Γ d_u71f a_u71f Tryz.f84 [.val T102, .val T102] [T4] k (a,b,())
theorem u71f_eq (k : Nat) (a : T102.den) (b : T102.den) : u71f k a b = br (a.1 != b.1) (some false) (br (!a.2.1 == b.2.1) (some false) (br (a.2.2.1 != b.2.2.1) (some false) (br (!a.2.2.2.1 == b.2.2.2.1) (some false) (some true)))):=by kernel_rfl
def c_u71f : Con:=⟨[.val T102, .val T102],[T4],fun k x=>u71f k x.1 x.2.1⟩
theorem del_u71f {w0 : World} (hS : Stops w0) : DelOk Tryz.prog w0 d_u71f:=.nil
theorem ok_u71f {w0 : World} (hS : Stops w0) : Keeps Tryz.prog w0 84 c_u71f:=.con (y9q (A:=a_u71f) y24q (del_u71f hS) (draws (del_u71f hS)) Tryz.func84 (by kernel_rfl) (fun k x=>by kernel_rfl) (by kernel_rfl)) (by kernel_rfl)
theorem ent_u71f : Enters' Tryz.prog 84:=enters' Tryz.func84 (by kernel_rfl)
attribute [irreducible] u71f
def a_u72f : Ann:=⟨[(0,[.val 0 T33, .val 1 T33, .val 5 T3],⟨[],false⟩)],[]⟩
def d_u72f : List (Nat × Con):=[(84,c_u71f)]
def u72f (k : Nat) (a : T33.den) (b : T33.den) : Option (den1 [T4]):=evFn Γ d_u72f a_u72f Tryz.f46 [.val T33, .val T33] [T4] k (a,b,())
def u72f_l0 (k : Nat) (v0 : T33.den) (v1 : T33.den) (v5 : T3.den) : Option ((Items.den []) ⊕ (den1 [T4])):=loopR (ρ:=(den1 [T4])) 0 [.val 0 T33, .val 1 T33, .val 5 T3] [] (runOf Γ d_u72f a_u72f Tryz.f46 [.val T33, .val T33] [T4] 0) k (v0,v1,v5)
theorem u72f_eq (k : Nat) (a : T33.den) (b : T33.den) : u72f k a b = br ((List.length a : Int) != (List.length b : Int)) (some false) (bnd (u72f_l0 k a b 0) (fun y1=>onSum y1 (fun y2=>some true) (fun y2=>some y2))):=by kernel_rfl
theorem u72f_l0_zero (v0 : T33.den) (v1 : T33.den) (v5 : T3.den) : u72f_l0 0 v0 v1 v5 = none:=by kernel_rfl
theorem u72f_l0_succ (k : Nat) (v0 : T33.den) (v1 : T33.den) (v5 : T3.den) : u72f_l0 (k + 1) v0 v1 v5 = br (decide (v5 < (List.length v0 : Int))) (br (decide (0 ≤ v5)) (br (decide (v5 < (List.length v0 : Int))) (br (decide (0 ≤ v5)) (br (decide (v5 < (List.length v1 : Int))) (bnd (u71f k (List.getD v0 (Int.toNat v5) T102.zero) (List.getD v1 (Int.toNat v5) T102.zero)) (fun y1=>br (!y1) (some (Sum.inr false)) (u72f_l0 k v0 v1 (IntKind.i64.wrap (v5 + 1))))) (none)) (none)) (none)) (none)) (some (Sum.inl ())):=by kernel_rfl
def c_u72f : Con:=⟨[.val T33, .val T33],[T4],fun k x=>u72f k x.1 x.2.1⟩
theorem del_u72f {w0 : World} (hS : Stops w0) : DelOk Tryz.prog w0 d_u72f:=.cons (ok_u71f hS) ent_u71f (.nil)
theorem ok_u72f {w0 : World} (hS : Stops w0) : Keeps Tryz.prog w0 46 c_u72f:=.con (y9q (A:=a_u72f) y24q (del_u72f hS) (draws (del_u72f hS)) Tryz.func46 (by kernel_rfl) (fun k x=>by kernel_rfl) (by kernel_rfl)) (by kernel_rfl)
theorem ent_u72f : Enters' Tryz.prog 46:=enters' Tryz.func46 (by kernel_rfl)
attribute [irreducible] u72f u72f_l0
def a_u73f : Ann:=⟨[(0,[.val 0 T23, .val 1 T23, .val 5 T3],⟨[],false⟩)],[]⟩
def d_u73f : List (Nat × Con):=[]
def u73f (k : Nat) (a : T23.den) (b : T23.den) : Option (den1 [T4]):=evFn Γ d_u73f a_u73f Tryz.f47 [.val T23, .val T23] [T4] k (a,b,())
def u73f_l0 (k : Nat) (v0 : T23.den) (v1 : T23.den) (v5 : T3.den) : Option ((Items.den []) ⊕ (den1 [T4])):=loopR (ρ:=(den1 [T4])) 0 [.val 0 T23, .val 1 T23, .val 5 T3] [] (runOf Γ d_u73f a_u73f Tryz.f47 [.val T23, .val T23] [T4] 0) k (v0,v1,v5)
theorem u73f_eq (k : Nat) (a : T23.den) (b : T23.den) : u73f k a b = br ((List.length a : Int) != (List.length b : Int)) (some false) (bnd (u73f_l0 k a b 0) (fun y1=>onSum y1 (fun y2=>some true) (fun y2=>some y2))):=by kernel_rfl
theorem u73f_l0_zero (v0 : T23.den) (v1 : T23.den) (v5 : T3.den) : u73f_l0 0 v0 v1 v5 = none:=by kernel_rfl
theorem u73f_l0_succ (k : Nat) (v0 : T23.den) (v1 : T23.den) (v5 : T3.den) : u73f_l0 (k + 1) v0 v1 v5 = br (decide (v5 < (List.length v0 : Int))) (br (decide (0 ≤ v5)) (br (decide (v5 < (List.length v0 : Int))) (br (decide (0 ≤ v5)) (br (decide (v5 < (List.length v1 : Int))) (br (List.getD v0 (Int.toNat v5) T3.zero != List.getD v1 (Int.toNat v5) T3.zero) (some (Sum.inr false)) (u73f_l0 k v0 v1 (IntKind.i64.wrap (v5 + 1)))) (none)) (none)) (none)) (none)) (some (Sum.inl ())):=by kernel_rfl
def c_u73f : Con:=⟨[.val T23, .val T23],[T4],fun k x=>u73f k x.1 x.2.1⟩
theorem del_u73f {w0 : World} (hS : Stops w0) : DelOk Tryz.prog w0 d_u73f:=.nil
theorem ok_u73f {w0 : World} (hS : Stops w0) : Keeps Tryz.prog w0 47 c_u73f:=.con (y9q (A:=a_u73f) y24q (del_u73f hS) (draws (del_u73f hS)) Tryz.func47 (by kernel_rfl) (fun k x=>by kernel_rfl) (by kernel_rfl)) (by kernel_rfl)
theorem ent_u73f : Enters' Tryz.prog 47:=enters' Tryz.func47 (by kernel_rfl)
attribute [irreducible] u73f u73f_l0
def a_u74f : Ann:=⟨[],[]⟩
def d_u74f : List (Nat × Con):=[(47,c_u73f)]
def u74f (k : Nat) (a : T71.den) (b : T71.den) : Option (den1 [T4]):=evFn Γ d_u74f a_u74f Tryz.f85 [.val T71, .val T71] [T4] k (a,b,())
theorem u74f_eq (k : Nat) (a : T71.den) (b : T71.den) : u74f k a b = br (a.1 != b.1) (some false) (br (!a.2.1 == b.2.1) (some false) (bnd (u73f k a.2.2.1 b.2.2.1) (fun y1=>br (!y1) (some false) (br (!a.2.2.2.1 == b.2.2.2.1) (some false) (br (a.2.2.2.2.1 != b.2.2.2.2.1) (some false) (br (!a.2.2.2.2.2.1 == b.2.2.2.2.2.1) (some false) (some true))))))):=by kernel_rfl
def c_u74f : Con:=⟨[.val T71, .val T71],[T4],fun k x=>u74f k x.1 x.2.1⟩
theorem del_u74f {w0 : World} (hS : Stops w0) : DelOk Tryz.prog w0 d_u74f:=.cons (ok_u73f hS) ent_u73f (.nil)
theorem ok_u74f {w0 : World} (hS : Stops w0) : Keeps Tryz.prog w0 85 c_u74f:=.con (y9q (A:=a_u74f) y24q (del_u74f hS) (draws (del_u74f hS)) Tryz.func85 (by kernel_rfl) (fun k x=>by kernel_rfl) (by kernel_rfl)) (by kernel_rfl)
theorem ent_u74f : Enters' Tryz.prog 85:=enters' Tryz.func85 (by kernel_rfl)
attribute [irreducible] u74f
def a_u75f : Ann:=⟨[(0,[.val 0 T34, .val 1 T34, .val 5 T3],⟨[],false⟩)],[]⟩
def d_u75f : List (Nat × Con):=[(85,c_u74f)]
def u75f (k : Nat) (a : T34.den) (b : T34.den) : Option (den1 [T4]):=evFn Γ d_u75f a_u75f Tryz.f48 [.val T34, .val T34] [T4] k (a,b,())
def u75f_l0 (k : Nat) (v0 : T34.den) (v1 : T34.den) (v5 : T3.den) : Option ((Items.den []) ⊕ (den1 [T4])):=loopR (ρ:=(den1 [T4])) 0 [.val 0 T34, .val 1 T34, .val 5 T3] [] (runOf Γ d_u75f a_u75f Tryz.f48 [.val T34, .val T34] [T4] 0) k (v0,v1,v5)
theorem u75f_eq (k : Nat) (a : T34.den) (b : T34.den) : u75f k a b = br ((List.length a : Int) != (List.length b : Int)) (some false) (bnd (u75f_l0 k a b 0) (fun y1=>onSum y1 (fun y2=>some true) (fun y2=>some y2))):=by kernel_rfl
theorem u75f_l0_zero (v0 : T34.den) (v1 : T34.den) (v5 : T3.den) : u75f_l0 0 v0 v1 v5 = none:=by kernel_rfl
theorem u75f_l0_succ (k : Nat) (v0 : T34.den) (v1 : T34.den) (v5 : T3.den) : u75f_l0 (k + 1) v0 v1 v5 = br (decide (v5 < (List.length v0 : Int))) (br (decide (0 ≤ v5)) (br (decide (v5 < (List.length v0 : Int))) (br (decide (0 ≤ v5)) (br (decide (v5 < (List.length v1 : Int))) (bnd (u74f k (List.getD v0 (Int.toNat v5) T71.zero) (List.getD v1 (Int.toNat v5) T71.zero)) (fun y1=>br (!y1) (some (Sum.inr false)) (u75f_l0 k v0 v1 (IntKind.i64.wrap (v5 + 1))))) (none)) (none)) (none)) (none)) (some (Sum.inl ())):=by kernel_rfl
def c_u75f : Con:=⟨[.val T34, .val T34],[T4],fun k x=>u75f k x.1 x.2.1⟩
theorem del_u75f {w0 : World} (hS : Stops w0) : DelOk Tryz.prog w0 d_u75f:=.cons (ok_u74f hS) ent_u74f (.nil)
theorem ok_u75f {w0 : World} (hS : Stops w0) : Keeps Tryz.prog w0 48 c_u75f:=.con (y9q (A:=a_u75f) y24q (del_u75f hS) (draws (del_u75f hS)) Tryz.func48 (by kernel_rfl) (fun k x=>by kernel_rfl) (by kernel_rfl)) (by kernel_rfl)
theorem ent_u75f : Enters' Tryz.prog 48:=enters' Tryz.func48 (by kernel_rfl)
attribute [irreducible] u75f u75f_l0
def a_u76f : Ann:=⟨[],[]⟩
def d_u76f : List (Nat × Con):=[(46,c_u72f),(47,c_u73f),(48,c_u75f)]
def u76f (k : Nat) (a : T36.den) (b : T36.den) : Option (den1 [T4]):=evFn Γ d_u76f a_u76f Tryz.f13 [.val T36, .val T36] [T4] k (a,b,())
theorem u76f_eq (k : Nat) (a : T36.den) (b : T36.den) : u76f k a b = br (a.1 != b.1) (some false) (br (!a.2.1 == b.2.1) (some false) (br (a.2.2.1 != b.2.2.1) (some false) (bnd (u72f k a.2.2.2.1 b.2.2.2.1) (fun y1=>br (!y1) (some false) (bnd (u73f k a.2.2.2.2.1 b.2.2.2.2.1) (fun y2=>br (!y2) (some false) (bnd (u75f k a.2.2.2.2.2.1 b.2.2.2.2.2.1) (fun y3=>br (!y3) (some false) (some true))))))))):=by kernel_rfl
def c_u76f : Con:=⟨[.val T36, .val T36],[T4],fun k x=>u76f k x.1 x.2.1⟩
theorem del_u76f {w0 : World} (hS : Stops w0) : DelOk Tryz.prog w0 d_u76f:=.cons (ok_u72f hS) ent_u72f (.cons (ok_u73f hS) ent_u73f (.cons (ok_u75f hS) ent_u75f (.nil)))
theorem ok_u76f {w0 : World} (hS : Stops w0) : Keeps Tryz.prog w0 13 c_u76f:=.con (y9q (A:=a_u76f) y24q (del_u76f hS) (draws (del_u76f hS)) Tryz.func13 (by kernel_rfl) (fun k x=>by kernel_rfl) (by kernel_rfl)) (by kernel_rfl)
theorem ent_u76f : Enters' Tryz.prog 13:=enters' Tryz.func13 (by kernel_rfl)
attribute [irreducible] u76f
def a_u77f : Ann:=⟨[(0,[.val 0 T3, .val 3 T9],⟨[.val 3 T9],true⟩)],[]⟩
def d_u77f : List (Nat × Con):=[]
def u77f (k : Nat) (a : T3.den) : Option (den1 [T9]):=evFn Γ d_u77f a_u77f Tryz.f52 [.val T3] [T9] k (a,())
def u77f_l0 (k : Nat) (v0 : T3.den) (v3 : T9.den) : Option (Items.den [.val 3 T9]):=loopQ (ρ:=(den1 [T9])) 0 [.val 0 T3, .val 3 T9] [.val 3 T9] (runOf Γ d_u77f a_u77f Tryz.f52 [.val T3] [T9] 0) k (v0,v3)
theorem u77f_eq (k : Nat) (a : T3.den) : u77f k a = br (decide (a ≤ 0)) (some [109,48]) (bnd (u77f_l0 k a []) (fun y1=>br (decide ([109].length + List.length y1 ≤ capN)) (some ([109] ++ y1)) (none))):=by kernel_rfl
theorem u77f_l0_zero (v0 : T3.den) (v3 : T9.den) : u77f_l0 0 v0 v3 = none:=by kernel_rfl
theorem u77f_l0_succ (k : Nat) (v0 : T3.den) (v3 : T9.den) : u77f_l0 (k + 1) v0 v3 = br (decide (v0 > 0)) (br (!10 == 0) (br (decide ((List.map (fun n=>UInt8.ofNat n.toNat) [IntKind.u8.wrap (IntKind.i64.wrap (48 + Int.tmod v0 10))]).length + List.length v3 ≤ capN)) (br (!10 == 0) (u77f_l0 k (IntKind.i64.wrap (Int.tdiv v0 10)) (List.map (fun n=>UInt8.ofNat n.toNat) [IntKind.u8.wrap (IntKind.i64.wrap (48 + Int.tmod v0 10))] ++ v3)) (none)) (none)) (none)) (some v3):=by kernel_rfl
def c_u77f : Con:=⟨[.val T3],[T9],fun k x=>u77f k x.1⟩
theorem del_u77f {w0 : World} (hS : Stops w0) : DelOk Tryz.prog w0 d_u77f:=.nil
theorem ok_u77f {w0 : World} (hS : Stops w0) : Keeps Tryz.prog w0 52 c_u77f:=.con (y9q (A:=a_u77f) y24q (del_u77f hS) (draws (del_u77f hS)) Tryz.func52 (by kernel_rfl) (fun k x=>by kernel_rfl) (by kernel_rfl)) (by kernel_rfl)
theorem ent_u77f : Enters' Tryz.prog 52:=enters' Tryz.func52 (by kernel_rfl)
attribute [irreducible] u77f u77f_l0
def a_u78f : Ann:=⟨[(0,[.val 0 O33, .val 1 T3, .val 5 T3],⟨[.val 0 O33, .val 1 T3],true⟩)],[]⟩
def d_u78f : List (Nat × Con):=[(52,c_u77f)]
def u78f (k : Nat) (a : O33.den) (b : T3.den) : Option (den1 [T3,O33]):=evFn Γo d_u78f a_u78f Tryz.f49 [.io O33, .val T3] [T3,O33] k (a,b,())
def u78f_l0 (k : Nat) (v0 : O33.den) (v1 : T3.den) (v5 : T3.den) : Option (Items.den [.val 0 O33, .val 1 T3]):=loopQ (ρ:=(den1 [T3,O33])) 0 [.val 0 O33, .val 1 T3, .val 5 T3] [.val 0 O33, .val 1 T3] (runOf Γo d_u78f a_u78f Tryz.f49 [.io O33, .val T3] [T3,O33] 0) k (v0,v1,v5)
theorem u78f_eq (k : Nat) (a : O33.den) (b : T3.den) : u78f k a b = bnd (u78f_l0 k a b 0) (fun y1=>some (y1.2,y1.1)):=by kernel_rfl
theorem u78f_l0_zero (v0 : O33.den) (v1 : T3.den) (v5 : T3.den) : u78f_l0 0 v0 v1 v5 = none:=by kernel_rfl
theorem u78f_l0_succ (k : Nat) (v0 : O33.den) (v1 : T3.den) (v5 : T3.den) : u78f_l0 (k + 1) v0 v1 v5 = br (decide (v5 < (List.length v0 : Int))) (br (decide (0 ≤ v5)) (br (decide (v5 < (List.length v0 : Int))) (bnd (some (List.getD v0 (Int.toNat v5) T102.zero)) (fun y1=>bnd (some (List.set v0 (Int.toNat v5) (v1,y1.2.1,y1.2.2.1,y1.2.2.2.1,()))) (fun y2=>bnd (u77f k (IntKind.i64.wrap (v1 + 1))) (fun y3=>br (decide (0 ≤ v5)) (br (decide (v5 < (↑y2.length : Int))) (bnd (some (y2.getD (Int.toNat v5) T102.zero)) (fun y4=>bnd (some (y2.set (Int.toNat v5) (y4.1,y3,y4.2.2.1,y4.2.2.2.1,()))) (fun y5=>br (decide (0 ≤ v5)) (br (decide (v5 < (↑y5.length : Int))) (bnd (some (y5.getD (Int.toNat v5) T102.zero)) (fun y6=>bnd (some (y5.set (Int.toNat v5) (y6.1,y6.2.1,IntKind.i64.wrap (IntKind.i64.wrap (v1 + 1) + 1),y6.2.2.2.1,()))) (fun y7=>br (!3 == 0) (br (decide (0 ≤ v5)) (br (decide (v5 < (↑y7.length : Int))) (bnd (some (y7.getD (Int.toNat v5) T102.zero)) (fun y8=>bnd (some (y7.set (Int.toNat v5) (y8.1,y8.2.1,y8.2.2.1,(IntKind.i64.wrap (IntKind.i64.wrap (IntKind.i64.wrap (v1 + 1) + 1) + 1)).tmod 3 == 0,()))) (fun y9=>u78f_l0 k y9 (IntKind.i64.wrap (IntKind.i64.wrap (IntKind.i64.wrap (IntKind.i64.wrap (v1 + 1) + 1) + 1) + 1)) (IntKind.i64.wrap (v5 + 1))))) (none)) (none)) (none)))) (none)) (none)))) (none)) (none))))) (none)) (none)) (some (v0,v1)):=by kernel_rfl
def c_u78f : Con:=⟨[.io O33, .val T3],[T3,O33],fun k x=>u78f k x.1 x.2.1⟩
theorem del_u78f {w0 : World} (hS : Stops w0) : DelOk Tryz.prog w0 d_u78f:=.cons (ok_u77f hS) ent_u77f (.nil)
theorem ok_u78f {w0 : World} (hS : Stops w0) : Keeps Tryz.prog w0 49 c_u78f:=.gn (y48q (A:=a_u78f) y55q (del_u78f hS) (drawso (del_u78f hS)) Tryz.func49 (by kernel_rfl) (fun k x=>by kernel_rfl) (by kernel_rfl)) (by kernel_rfl)
theorem ent_u78f : Enters' Tryz.prog 49:=enters' Tryz.func49 (by kernel_rfl)
attribute [irreducible] u78f u78f_l0
def a_u79f : Ann:=⟨[(0,[.val 0 O23, .val 1 T3, .val 5 T3],⟨[.val 0 O23, .val 1 T3],true⟩)],[]⟩
def d_u79f : List (Nat × Con):=[]
def u79f (k : Nat) (a : O23.den) (b : T3.den) : Option (den1 [T3,O23]):=evFn Γo d_u79f a_u79f Tryz.f50 [.io O23, .val T3] [T3,O23] k (a,b,())
def u79f_l0 (k : Nat) (v0 : O23.den) (v1 : T3.den) (v5 : T3.den) : Option (Items.den [.val 0 O23, .val 1 T3]):=loopQ (ρ:=(den1 [T3,O23])) 0 [.val 0 O23, .val 1 T3, .val 5 T3] [.val 0 O23, .val 1 T3] (runOf Γo d_u79f a_u79f Tryz.f50 [.io O23, .val T3] [T3,O23] 0) k (v0,v1,v5)
theorem u79f_eq (k : Nat) (a : O23.den) (b : T3.den) : u79f k a b = bnd (u79f_l0 k a b 0) (fun y1=>some (y1.2,y1.1)):=by kernel_rfl
theorem u79f_l0_zero (v0 : O23.den) (v1 : T3.den) (v5 : T3.den) : u79f_l0 0 v0 v1 v5 = none:=by kernel_rfl
theorem u79f_l0_succ (k : Nat) (v0 : O23.den) (v1 : T3.den) (v5 : T3.den) : u79f_l0 (k + 1) v0 v1 v5 = br (decide (v5 < (List.length v0 : Int))) (br (decide (0 ≤ v5)) (br (decide (v5 < (List.length v0 : Int))) (u79f_l0 k (List.set v0 (Int.toNat v5) v1) (IntKind.i64.wrap (v1 + 1)) (IntKind.i64.wrap (v5 + 1))) (none)) (none)) (some (v0,v1)):=by kernel_rfl
def c_u79f : Con:=⟨[.io O23, .val T3],[T3,O23],fun k x=>u79f k x.1 x.2.1⟩
theorem del_u79f {w0 : World} (hS : Stops w0) : DelOk Tryz.prog w0 d_u79f:=.nil
theorem ok_u79f {w0 : World} (hS : Stops w0) : Keeps Tryz.prog w0 50 c_u79f:=.gn (y48q (A:=a_u79f) y55q (del_u79f hS) (drawso (del_u79f hS)) Tryz.func50 (by kernel_rfl) (fun k x=>by kernel_rfl) (by kernel_rfl)) (by kernel_rfl)
theorem ent_u79f : Enters' Tryz.prog 50:=enters' Tryz.func50 (by kernel_rfl)
attribute [irreducible] u79f u79f_l0
def a_u80f : Ann:=⟨[(0,[.val 0 O34, .val 1 T3, .val 5 T3],⟨[.val 0 O34, .val 1 T3],true⟩)],[]⟩
def d_u80f : List (Nat × Con):=[(50,c_u79f),(52,c_u77f)]
def u80f (k : Nat) (a : O34.den) (b : T3.den) : Option (den1 [T3,O34]):=evFn Γo d_u80f a_u80f Tryz.f51 [.io O34, .val T3] [T3,O34] k (a,b,())
def u80f_l0 (k : Nat) (v0 : O34.den) (v1 : T3.den) (v5 : T3.den) : Option (Items.den [.val 0 O34, .val 1 T3]):=loopQ (ρ:=(den1 [T3,O34])) 0 [.val 0 O34, .val 1 T3, .val 5 T3] [.val 0 O34, .val 1 T3] (runOf Γo d_u80f a_u80f Tryz.f51 [.io O34, .val T3] [T3,O34] 0) k (v0,v1,v5)
theorem u80f_eq (k : Nat) (a : O34.den) (b : T3.den) : u80f k a b = bnd (u80f_l0 k a b 0) (fun y1=>some (y1.2,y1.1)):=by kernel_rfl
theorem u80f_l0_zero (v0 : O34.den) (v1 : T3.den) (v5 : T3.den) : u80f_l0 0 v0 v1 v5 = none:=by kernel_rfl
theorem u80f_l0_succ (k : Nat) (v0 : O34.den) (v1 : T3.den) (v5 : T3.den) : u80f_l0 (k + 1) v0 v1 v5 = br (decide (v5 < (List.length v0 : Int))) (br (decide (0 ≤ v5)) (br (decide (v5 < (List.length v0 : Int))) (bnd (some (List.getD v0 (Int.toNat v5) O71.zero)) (fun y1=>bnd (some (List.set v0 (Int.toNat v5) (v1,y1.2))) (fun y2=>bnd (u77f k (IntKind.i64.wrap (v1 + 1))) (fun y3=>br (decide (0 ≤ v5)) (br (decide (v5 < (↑y2.length : Int))) (bnd (some (y2.getD (Int.toNat v5) O71.zero)) (fun y4=>bnd (some (y2.set (Int.toNat v5) (y4.1,y3,y4.2.2))) (fun y5=>br (decide (0 ≤ v5)) (br (decide (v5 < (↑y5.length : Int))) (bnd (u79f k (y5.getD (Int.toNat v5) O71.zero).2.2.1 (IntKind.i64.wrap (IntKind.i64.wrap (v1 + 1) + 1))) (fun y6=>br (!3 == 0) (br (decide (0 ≤ v5)) (br (decide (v5 < (↑(y5.set (Int.toNat v5) ((y5.getD (Int.toNat v5) O71.zero).1,(y5.getD (Int.toNat v5) O71.zero).2.1,y6.2,(y5.getD (Int.toNat v5) O71.zero).2.2.2)).length : Int))) (bnd (some ((y5.set (Int.toNat v5) ((y5.getD (Int.toNat v5) O71.zero).1,(y5.getD (Int.toNat v5) O71.zero).2.1,y6.2,(y5.getD (Int.toNat v5) O71.zero).2.2.2)).getD (Int.toNat v5) O71.zero)) (fun y7=>bnd (some ((y5.set (Int.toNat v5) ((y5.getD (Int.toNat v5) O71.zero).1,(y5.getD (Int.toNat v5) O71.zero).2.1,y6.2,(y5.getD (Int.toNat v5) O71.zero).2.2.2)).set (Int.toNat v5) (y7.1,y7.2.1,y7.2.2.1,Int.tmod y6.1 3 == 0,y7.2.2.2.2))) (fun y8=>br (decide (0 ≤ v5)) (br (decide (v5 < (↑y8.length : Int))) (bnd (some (y8.getD (Int.toNat v5) O71.zero)) (fun y9=>bnd (some (y8.set (Int.toNat v5) (y9.1,y9.2.1,y9.2.2.1,y9.2.2.2.1,IntKind.i64.wrap (y6.1 + 1),y9.2.2.2.2.2))) (fun y10=>br (!3 == 0) (br (decide (0 ≤ v5)) (br (decide (v5 < (↑y10.length : Int))) (bnd (some (y10.getD (Int.toNat v5) O71.zero)) (fun y11=>bnd (some (y10.set (Int.toNat v5) (y11.1,y11.2.1,y11.2.2.1,y11.2.2.2.1,y11.2.2.2.2.1,(IntKind.i64.wrap (IntKind.i64.wrap (y6.1 + 1) + 1)).tmod 3 == 0,y11.2.2.2.2.2.2))) (fun y12=>u80f_l0 k y12 (IntKind.i64.wrap (IntKind.i64.wrap (IntKind.i64.wrap (y6.1 + 1) + 1) + 1)) (IntKind.i64.wrap (v5 + 1))))) (none)) (none)) (none)))) (none)) (none)))) (none)) (none)) (none))) (none)) (none)))) (none)) (none))))) (none)) (none)) (some (v0,v1)):=by kernel_rfl
def c_u80f : Con:=⟨[.io O34, .val T3],[T3,O34],fun k x=>u80f k x.1 x.2.1⟩
theorem del_u80f {w0 : World} (hS : Stops w0) : DelOk Tryz.prog w0 d_u80f:=.cons (ok_u79f hS) ent_u79f (.cons (ok_u77f hS) ent_u77f (.nil))
theorem ok_u80f {w0 : World} (hS : Stops w0) : Keeps Tryz.prog w0 51 c_u80f:=.gn (y48q (A:=a_u80f) y55q (del_u80f hS) (drawso (del_u80f hS)) Tryz.func51 (by kernel_rfl) (fun k x=>by kernel_rfl) (by kernel_rfl)) (by kernel_rfl)
theorem ent_u80f : Enters' Tryz.prog 51:=enters' Tryz.func51 (by kernel_rfl)
attribute [irreducible] u80f u80f_l0
def a_u81f : Ann:=⟨[],[]⟩
def d_u81f : List (Nat × Con):=[(49,c_u78f),(50,c_u79f),(51,c_u80f)]
def u81f (k : Nat) (a : O36.den) (b : T3.den) : Option (den1 [T3,O36]):=evFn Γo d_u81f a_u81f Tryz.f14 [.io O36, .val T3] [T3,O36] k (a,b,())
theorem u81f_eq (k : Nat) (a : O36.den) (b : T3.den) : u81f k a b = bnd (u78f k a.2.2.2.1 b) (fun y1=>bnd (u79f k a.2.2.2.2.1 y1.1) (fun y2=>bnd (u80f k a.2.2.2.2.2.1 y2.1) (fun y3=>some (y3.1,a.1,a.2.1,a.2.2.1,y1.2,y2.2,y3.2,())))):=by kernel_rfl
def c_u81f : Con:=⟨[.io O36, .val T3],[T3,O36],fun k x=>u81f k x.1 x.2.1⟩
theorem del_u81f {w0 : World} (hS : Stops w0) : DelOk Tryz.prog w0 d_u81f:=.cons (ok_u78f hS) ent_u78f (.cons (ok_u79f hS) ent_u79f (.cons (ok_u80f hS) ent_u80f (.nil)))
theorem ok_u81f {w0 : World} (hS : Stops w0) : Keeps Tryz.prog w0 14 c_u81f:=.gn (y48q (A:=a_u81f) y55q (del_u81f hS) (drawso (del_u81f hS)) Tryz.func14 (by kernel_rfl) (fun k x=>by kernel_rfl) (by kernel_rfl)) (by kernel_rfl)
theorem ent_u81f : Enters' Tryz.prog 14:=enters' Tryz.func14 (by kernel_rfl)
attribute [irreducible] u81f
def a_u82f : Ann:=⟨[(0,[.val 0 O30, .val 1 T3, .val 5 T3],⟨[.val 0 O30, .val 1 T3],true⟩)],[]⟩
def d_u82f : List (Nat × Con):=[(52,c_u77f)]
def u82f (k : Nat) (a : O30.den) (b : T3.den) : Option (den1 [T3,O30]):=evFn Γo d_u82f a_u82f Tryz.f15 [.io O30, .val T3] [T3,O30] k (a,b,())
def u82f_l0 (k : Nat) (v0 : O30.den) (v1 : T3.den) (v5 : T3.den) : Option (Items.den [.val 0 O30, .val 1 T3]):=loopQ (ρ:=(den1 [T3,O30])) 0 [.val 0 O30, .val 1 T3, .val 5 T3] [.val 0 O30, .val 1 T3] (runOf Γo d_u82f a_u82f Tryz.f15 [.io O30, .val T3] [T3,O30] 0) k (v0,v1,v5)
theorem u82f_eq (k : Nat) (a : O30.den) (b : T3.den) : u82f k a b = bnd (u82f_l0 k a b 0) (fun y1=>some (y1.2,y1.1)):=by kernel_rfl
theorem u82f_l0_zero (v0 : O30.den) (v1 : T3.den) (v5 : T3.den) : u82f_l0 0 v0 v1 v5 = none:=by kernel_rfl
theorem u82f_l0_succ (k : Nat) (v0 : O30.den) (v1 : T3.den) (v5 : T3.den) : u82f_l0 (k + 1) v0 v1 v5 = br (decide (v5 < (List.length v0 : Int))) (bnd (u77f k v1) (fun y1=>br (decide (0 ≤ v5)) (br (decide (v5 < (List.length v0 : Int))) (bnd (some (List.getD v0 (Int.toNat v5) T68.zero)) (fun y2=>bnd (some (List.set v0 (Int.toNat v5) (y1,y2.2.1,()))) (fun y3=>bnd (u77f k (IntKind.i64.wrap (v1 + 1))) (fun y4=>br (decide (0 ≤ v5)) (br (decide (v5 < (↑y3.length : Int))) (bnd (some (y3.getD (Int.toNat v5) T68.zero)) (fun y5=>bnd (some (y3.set (Int.toNat v5) (y5.1,y4,()))) (fun y6=>u82f_l0 k y6 (IntKind.i64.wrap (IntKind.i64.wrap (v1 + 1) + 1)) (IntKind.i64.wrap (v5 + 1))))) (none)) (none))))) (none)) (none))) (some (v0,v1)):=by kernel_rfl
def c_u82f : Con:=⟨[.io O30, .val T3],[T3,O30],fun k x=>u82f k x.1 x.2.1⟩
theorem del_u82f {w0 : World} (hS : Stops w0) : DelOk Tryz.prog w0 d_u82f:=.cons (ok_u77f hS) ent_u77f (.nil)
theorem ok_u82f {w0 : World} (hS : Stops w0) : Keeps Tryz.prog w0 15 c_u82f:=.gn (y48q (A:=a_u82f) y55q (del_u82f hS) (drawso (del_u82f hS)) Tryz.func15 (by kernel_rfl) (fun k x=>by kernel_rfl) (by kernel_rfl)) (by kernel_rfl)
theorem ent_u82f : Enters' Tryz.prog 15:=enters' Tryz.func15 (by kernel_rfl)
attribute [irreducible] u82f u82f_l0
def a_u83f : Ann:=⟨[(0,[.val 0 T30, .val 1 T3, .val 5 T3],⟨[.val 1 T3],false⟩)],[]⟩
def d_u83f : List (Nat × Con):=[(52,c_u77f)]
def u83f (k : Nat) (a : T30.den) (b : T3.den) : Option (den1 [T3]):=evFn Γ d_u83f a_u83f Tryz.f16 [.val T30, .val T3] [T3] k (a,b,())
def u83f_l0 (k : Nat) (v0 : T30.den) (v1 : T3.den) (v5 : T3.den) : Option ((Items.den [.val 1 T3]) ⊕ (den1 [T3])):=loopR (ρ:=(den1 [T3])) 0 [.val 0 T30, .val 1 T3, .val 5 T3] [.val 1 T3] (runOf Γ d_u83f a_u83f Tryz.f16 [.val T30, .val T3] [T3] 0) k (v0,v1,v5)
theorem u83f_eq (k : Nat) (a : T30.den) (b : T3.den) : u83f k a b = bnd (u83f_l0 k a b 0) (fun y1=>onSum y1 (fun y2=>some y2) (fun y2=>some y2)):=by kernel_rfl
theorem u83f_l0_zero (v0 : T30.den) (v1 : T3.den) (v5 : T3.den) : u83f_l0 0 v0 v1 v5 = none:=by kernel_rfl
theorem u83f_l0_succ (k : Nat) (v0 : T30.den) (v1 : T3.den) (v5 : T3.den) : u83f_l0 (k + 1) v0 v1 v5 = br (decide (v5 < (List.length v0 : Int))) (br (decide (0 ≤ v5)) (br (decide (v5 < (List.length v0 : Int))) (bnd (u77f k v1) (fun y1=>br (!(List.getD v0 (Int.toNat v5) T68.zero).1 == y1) (some (Sum.inr (-1))) (br (decide (0 ≤ v5)) (br (decide (v5 < (List.length v0 : Int))) (bnd (u77f k (IntKind.i64.wrap (v1 + 1))) (fun y2=>br (!(List.getD v0 (Int.toNat v5) T68.zero).2.1 == y2) (some (Sum.inr (-1))) (u83f_l0 k v0 (IntKind.i64.wrap (IntKind.i64.wrap (v1 + 1) + 1)) (IntKind.i64.wrap (v5 + 1))))) (none)) (none)))) (none)) (none)) (some (Sum.inl v1)):=by kernel_rfl
def c_u83f : Con:=⟨[.val T30, .val T3],[T3],fun k x=>u83f k x.1 x.2.1⟩
theorem del_u83f {w0 : World} (hS : Stops w0) : DelOk Tryz.prog w0 d_u83f:=.cons (ok_u77f hS) ent_u77f (.nil)
theorem ok_u83f {w0 : World} (hS : Stops w0) : Keeps Tryz.prog w0 16 c_u83f:=.con (y9q (A:=a_u83f) y24q (del_u83f hS) (draws (del_u83f hS)) Tryz.func16 (by kernel_rfl) (fun k x=>by kernel_rfl) (by kernel_rfl)) (by kernel_rfl)
theorem ent_u83f : Enters' Tryz.prog 16:=enters' Tryz.func16 (by kernel_rfl)
attribute [irreducible] u83f u83f_l0
def a_u84f : Ann:=⟨[],[]⟩
def d_u84f : List (Nat × Con):=[(6,c_u6f),(7,c_u8f),(8,c_u39f),(9,c_u45f),(10,c_u47f),(11,c_u68f),(12,c_u70f),(13,c_u76f),(14,c_u81f),(15,c_u82f),(16,c_u83f)]
def u84f (k : Nat) (a : T26.den) (b : T9.den) (c : T27.den) : Option (den1 [T4]):=evFn Γo d_u84f a_u84f Tryz.f3 [.val T26, .val T9, .val T27] [T4] k (a,b,c,())
theorem u84f_eq (k : Nat) (a : T26.den) (b : T9.den) (c : T27.den) : u84f k a b c = br (decide ((List.length b : Int) > 1048576)) (some true) (bnd (u6f k a 1048576) (fun y1=>br (decide (y1 < 0)) (some true) (bnd (u8f k c y1) (fun y2=>br (decide (y2 < 0)) (some true) (bnd (u45f k a) (fun y3=>bnd (u47f k c) (fun y4=>bnd (u39f k y3 b y4) (fun y5=>bnd (u45f k a) (fun y6=>bnd (u47f k c) (fun y7=>bnd (u68f k y6 b y7) (fun y8=>bnd (u70f k y8.1 y5.1) (fun y9=>br (!y9) (some false) (br (y8.2 != y5.2) (some false) (bnd (u45f k a) (fun y10=>bnd (u76f k y6 y10) (fun y11=>br (!y11) (some false) (bnd (u47f k c) (fun y12=>bnd (u70f k y7 y12) (fun y13=>br (!y13) (some false) (bnd (u81f k y6 1) (fun y14=>bnd (u82f k y7 y14.1) (fun y15=>br (decide (y15.1 < 0)) (some false) (bnd (u70f k y8.1 y5.1) (fun y16=>br (!y16) (some false) (br (y8.2 != y5.2) (some false) (bnd (u82f k y8.1 1) (fun y17=>bnd (u83f k y17.2 1) (fun y18=>br (decide (y18 < 0)) (some false) (br (y18 != y17.1) (some false) (bnd (u45f k a) (fun y19=>bnd (u47f k c) (fun y20=>bnd (u68f k y19 b y20) (fun y21=>bnd (u70f k y21.1 y5.1) (fun y22=>br (!y22) (some false) (br (y21.2 != y5.2) (some false) (bnd (u83f k y17.2 1) (fun y23=>br (decide (y23 < 0)) (some false) (br (y23 != y17.1) (some false) (some true))))))))))))))))))))))))))))))))))))))):=by kernel_rfl
def c_u84f : Con:=⟨[.val T26, .val T9, .val T27],[T4],fun k x=>u84f k x.1 x.2.1 x.2.2.1⟩
theorem del_u84f {w0 : World} (hS : Stops w0) : DelOk Tryz.prog w0 d_u84f:=.cons (ok_u6f hS) ent_u6f (.cons (ok_u8f hS) ent_u8f (.cons (ok_u39f hS) ent_u39f (.cons (ok_u45f hS) ent_u45f (.cons (ok_u47f hS) ent_u47f (.cons (ok_u68f hS) ent_u68f (.cons (ok_u70f hS) ent_u70f (.cons (ok_u76f hS) ent_u76f (.cons (ok_u81f hS) ent_u81f (.cons (ok_u82f hS) ent_u82f (.cons (ok_u83f hS) ent_u83f (.nil)))))))))))
theorem ok_u84f {w0 : World} (hS : Stops w0) : Keeps Tryz.prog w0 3 c_u84f:=.con (y9q (A:=a_u84f) y55q (del_u84f hS) (drawso (del_u84f hS)) Tryz.func3 (by kernel_rfl) (fun k x=>by kernel_rfl) (by kernel_rfl)) (by kernel_rfl)
theorem ent_u84f : Enters' Tryz.prog 3:=enters' Tryz.func3 (by kernel_rfl)
attribute [irreducible] u84f
end
end Go.Ev.T1
