import Derived.Test.YtmigbnokhhdopaaRrTab8
import Derived.Test.YtmigbnokhhdopaaRrEvG
import Derived.Lib.IndexMore
import Derived.Test.YtmigbnokhhdopaaRrKbDef
import Derived.Lib.Bytealg
set_option linter.unusedVariables false
namespace Go.Ev.T1
noncomputable section
open Go.Proofs Go
set_option maxRecDepth 100000
def strings_IndexByte (k : Nat) (a : List UInt8) (b : Int) : Option Int:=some (Go.Lib.indexByte a b.toNat.toUInt8)
def c_strings_IndexByte : Con:=⟨[.val T9, .val T5],[T3],fun k x=>strings_IndexByte k x.1 x.2.1⟩
def strings_Contains (k : Nat) (a b : List UInt8) : Option Bool:=chk (Nat.blt a.length 4294967281) (some (Go.Lib.contains a b))
def c_strings_Contains : Con:=⟨[.val T9, .val T9],[T4],fun k x=>strings_Contains k x.1 x.2.1⟩
def u0f (k : Nat) (a : T31.den) : Option (List UInt8 × Int):=chk (a.all fun v=>Nat.ble v.2.2.2.1.length 1048576) (some (KB a))
def c_u0f : Con:=⟨[.val T31],[T9,T3],fun k x=>u0f k x.1⟩
structure Stops (w0 : World) : Prop where
 strings_IndexByte : Keeps Try.prog w0 57 c_strings_IndexByte ∧ Enters' Try.prog 57
 strings_Contains : Keeps Try.prog w0 72 c_strings_Contains ∧ Enters' Try.prog 72
 u0f : Keeps Try.prog w0 58 c_u0f ∧ Enters' Try.prog 58
theorem y28q : TabOk Try.prog Γ:=tab_of (by kernel_rfl)
theorem y71q : TabOk Try.prog Γo:=tab_of (by kernel_rfl)
theorem drawso {w0 : World} {Δ : List (Nat × Con)} (h : DelOk Try.prog w0 Δ) {w : World} (hb : Go.RowKit.Below w0.heap.size w0 w) : DrawSound Try.prog w Γo Δ:=draws_of y71q h (by kernel_rfl) hb
theorem draws {w0 : World} {Δ : List (Nat × Con)} (h : DelOk Try.prog w0 Δ) {w : World} (hb : Go.RowKit.Below w0.heap.size w0 w) : DrawSound Try.prog w Γ Δ:=draws_of y28q h (by kernel_rfl) hb
def a_u1f : Ann:=⟨[],[]⟩
def d_u1f : List (Nat × Con):=[]
def u1f (k : Nat) (a : T69.den) (b : T3.den) : Option (den1 [T3]):=evFn Γ d_u1f a_u1f Try.f41 [.val T69, .val T3] [T3] k (a,b,())
theorem u1f_eq (k : Nat) (a : T69.den) (b : T3.den) : u1f k a b = br (decide (IntKind.i64.wrap (b - (List.length a.2.1 : Int)) < 0)) (some (-1)) (some (IntKind.i64.wrap (b - (List.length a.2.1 : Int)))):=by kernel_rfl
def c_u1f : Con:=⟨[.val T69, .val T3],[T3],fun k x=>u1f k x.1 x.2.1⟩
theorem del_u1f {w0 : World} (hS : Stops w0) : DelOk Try.prog w0 d_u1f:=.nil
theorem ok_u1f {w0 : World} (hS : Stops w0) : Keeps Try.prog w0 41 c_u1f:=.con (y9q (A:=a_u1f) y28q (del_u1f hS) (draws (del_u1f hS)) Try.func41 (by kernel_rfl) (fun k x=>by kernel_rfl) (by kernel_rfl)) (by kernel_rfl)
theorem ent_u1f : Enters' Try.prog 41:=enters' Try.func41 (by kernel_rfl)
attribute [irreducible] u1f
def a_u2f : Ann:=⟨[(0,[.val 0 T22, .val 1 T3, .val 5 T3],⟨[.val 1 T3],false⟩)],[]⟩
def d_u2f : List (Nat × Con):=[(41,c_u1f)]
def u2f (k : Nat) (a : T22.den) (b : T3.den) : Option (den1 [T3]):=evFn Γ d_u2f a_u2f Try.f15 [.val T22, .val T3] [T3] k (a,b,())
def u2f_l0 (k : Nat) (v0 : T22.den) (v1 : T3.den) (v5 : T3.den) : Option ((Items.den [.val 1 T3]) ⊕ (den1 [T3])):=loopR (ρ:=(den1 [T3])) 0 [.val 0 T22, .val 1 T3, .val 5 T3] [.val 1 T3] (runOf Γ d_u2f a_u2f Try.f15 [.val T22, .val T3] [T3] 0) k (v0,v1,v5)
theorem u2f_eq (k : Nat) (a : T22.den) (b : T3.den) : u2f k a b = br (decide (IntKind.i64.wrap (b - (List.length a : Int)) < 0)) (some (-1)) (bnd (u2f_l0 k a (IntKind.i64.wrap (b - (List.length a : Int))) 0) (fun y1=>onSum y1 (fun y2=>some y2) (fun y2=>some y2))):=by kernel_rfl
theorem u2f_l0_zero (v0 : T22.den) (v1 : T3.den) (v5 : T3.den) : u2f_l0 0 v0 v1 v5 = none:=by kernel_rfl
theorem u2f_l0_succ (k : Nat) (v0 : T22.den) (v1 : T3.den) (v5 : T3.den) : u2f_l0 (k + 1) v0 v1 v5 = br (decide (v5 < (List.length v0 : Int))) (br (decide (0 ≤ v5)) (br (decide (v5 < (List.length v0 : Int))) (bnd (u1f k (List.getD v0 (Int.toNat v5) T69.zero) v1) (fun y1=>br (decide (y1 < 0)) (some (Sum.inr (-1))) (u2f_l0 k v0 y1 (IntKind.i64.wrap (v5 + 1))))) (none)) (none)) (some (Sum.inl v1)):=by kernel_rfl
def c_u2f : Con:=⟨[.val T22, .val T3],[T3],fun k x=>u2f k x.1 x.2.1⟩
theorem del_u2f {w0 : World} (hS : Stops w0) : DelOk Try.prog w0 d_u2f:=.cons (ok_u1f hS) ent_u1f (.nil)
theorem ok_u2f {w0 : World} (hS : Stops w0) : Keeps Try.prog w0 15 c_u2f:=.con (y9q (A:=a_u2f) y28q (del_u2f hS) (draws (del_u2f hS)) Try.func15 (by kernel_rfl) (fun k x=>by kernel_rfl) (by kernel_rfl)) (by kernel_rfl)
theorem ent_u2f : Enters' Try.prog 15:=enters' Try.func15 (by kernel_rfl)
attribute [irreducible] u2f u2f_l0
def a_u3f : Ann:=⟨[],[]⟩
def d_u3f : List (Nat × Con):=[]
def u3f (k : Nat) (a : T23.den) (b : T3.den) : Option (den1 [T3]):=evFn Γ d_u3f a_u3f Try.f16 [.val T23, .val T3] [T3] k (a,b,())
theorem u3f_eq (k : Nat) (a : T23.den) (b : T3.den) : u3f k a b = br (decide (IntKind.i64.wrap (b - (List.length a : Int)) < 0)) (some (-1)) (some (IntKind.i64.wrap (b - (List.length a : Int)))):=by kernel_rfl
def c_u3f : Con:=⟨[.val T23, .val T3],[T3],fun k x=>u3f k x.1 x.2.1⟩
theorem del_u3f {w0 : World} (hS : Stops w0) : DelOk Try.prog w0 d_u3f:=.nil
theorem ok_u3f {w0 : World} (hS : Stops w0) : Keeps Try.prog w0 16 c_u3f:=.con (y9q (A:=a_u3f) y28q (del_u3f hS) (draws (del_u3f hS)) Try.func16 (by kernel_rfl) (fun k x=>by kernel_rfl) (by kernel_rfl)) (by kernel_rfl)
theorem ent_u3f : Enters' Try.prog 16:=enters' Try.func16 (by kernel_rfl)
attribute [irreducible] u3f
def a_u4f : Ann:=⟨[],[]⟩
def d_u4f : List (Nat × Con):=[(16,c_u3f)]
def u4f (k : Nat) (a : T72.den) (b : T3.den) : Option (den1 [T3]):=evFn Γ d_u4f a_u4f Try.f42 [.val T72, .val T3] [T3] k (a,b,())
theorem u4f_eq (k : Nat) (a : T72.den) (b : T3.den) : u4f k a b = br (decide (IntKind.i64.wrap (b - (List.length a.2.1 : Int)) < 0)) (some (-1)) (bnd (u3f k a.2.2.1 (IntKind.i64.wrap (b - (List.length a.2.1 : Int)))) (fun y1=>br (decide (y1 < 0)) (some (-1)) (some y1))):=by kernel_rfl
def c_u4f : Con:=⟨[.val T72, .val T3],[T3],fun k x=>u4f k x.1 x.2.1⟩
theorem del_u4f {w0 : World} (hS : Stops w0) : DelOk Try.prog w0 d_u4f:=.cons (ok_u3f hS) ent_u3f (.nil)
theorem ok_u4f {w0 : World} (hS : Stops w0) : Keeps Try.prog w0 42 c_u4f:=.con (y9q (A:=a_u4f) y28q (del_u4f hS) (draws (del_u4f hS)) Try.func42 (by kernel_rfl) (fun k x=>by kernel_rfl) (by kernel_rfl)) (by kernel_rfl)
theorem ent_u4f : Enters' Try.prog 42:=enters' Try.func42 (by kernel_rfl)
attribute [irreducible] u4f
def a_u5f : Ann:=⟨[(0,[.val 0 T24, .val 1 T3, .val 5 T3],⟨[.val 1 T3],false⟩)],[]⟩
def d_u5f : List (Nat × Con):=[(42,c_u4f)]
def u5f (k : Nat) (a : T24.den) (b : T3.den) : Option (den1 [T3]):=evFn Γ d_u5f a_u5f Try.f17 [.val T24, .val T3] [T3] k (a,b,())
def u5f_l0 (k : Nat) (v0 : T24.den) (v1 : T3.den) (v5 : T3.den) : Option ((Items.den [.val 1 T3]) ⊕ (den1 [T3])):=loopR (ρ:=(den1 [T3])) 0 [.val 0 T24, .val 1 T3, .val 5 T3] [.val 1 T3] (runOf Γ d_u5f a_u5f Try.f17 [.val T24, .val T3] [T3] 0) k (v0,v1,v5)
theorem u5f_eq (k : Nat) (a : T24.den) (b : T3.den) : u5f k a b = br (decide (IntKind.i64.wrap (b - (List.length a : Int)) < 0)) (some (-1)) (bnd (u5f_l0 k a (IntKind.i64.wrap (b - (List.length a : Int))) 0) (fun y1=>onSum y1 (fun y2=>some y2) (fun y2=>some y2))):=by kernel_rfl
theorem u5f_l0_zero (v0 : T24.den) (v1 : T3.den) (v5 : T3.den) : u5f_l0 0 v0 v1 v5 = none:=by kernel_rfl
theorem u5f_l0_succ (k : Nat) (v0 : T24.den) (v1 : T3.den) (v5 : T3.den) : u5f_l0 (k + 1) v0 v1 v5 = br (decide (v5 < (List.length v0 : Int))) (br (decide (0 ≤ v5)) (br (decide (v5 < (List.length v0 : Int))) (bnd (u4f k (List.getD v0 (Int.toNat v5) T72.zero) v1) (fun y1=>br (decide (y1 < 0)) (some (Sum.inr (-1))) (u5f_l0 k v0 y1 (IntKind.i64.wrap (v5 + 1))))) (none)) (none)) (some (Sum.inl v1)):=by kernel_rfl
def c_u5f : Con:=⟨[.val T24, .val T3],[T3],fun k x=>u5f k x.1 x.2.1⟩
theorem del_u5f {w0 : World} (hS : Stops w0) : DelOk Try.prog w0 d_u5f:=.cons (ok_u4f hS) ent_u4f (.nil)
theorem ok_u5f {w0 : World} (hS : Stops w0) : Keeps Try.prog w0 17 c_u5f:=.con (y9q (A:=a_u5f) y28q (del_u5f hS) (draws (del_u5f hS)) Try.func17 (by kernel_rfl) (fun k x=>by kernel_rfl) (by kernel_rfl)) (by kernel_rfl)
theorem ent_u5f : Enters' Try.prog 17:=enters' Try.func17 (by kernel_rfl)
attribute [irreducible] u5f u5f_l0
def a_u6f : Ann:=⟨[],[]⟩
def d_u6f : List (Nat × Con):=[(15,c_u2f),(16,c_u3f),(17,c_u5f)]
def u6f (k : Nat) (a : T26.den) (b : T3.den) : Option (den1 [T3]):=evFn Γ d_u6f a_u6f Try.f4 [.val T26, .val T3] [T3] k (a,b,())
theorem u6f_eq (k : Nat) (a : T26.den) (b : T3.den) : u6f k a b = br (decide (IntKind.i64.wrap (b - (List.length a.2.1 : Int)) < 0)) (some (-1)) (bnd (u2f k a.2.2.2.1 (IntKind.i64.wrap (b - (List.length a.2.1 : Int)))) (fun y1=>br (decide (y1 < 0)) (some (-1)) (bnd (u3f k a.2.2.2.2.1 y1) (fun y2=>br (decide (y2 < 0)) (some (-1)) (bnd (u5f k a.2.2.2.2.2.1 y2) (fun y3=>br (decide (y3 < 0)) (some (-1)) (some y3))))))):=by kernel_rfl
def c_u6f : Con:=⟨[.val T26, .val T3],[T3],fun k x=>u6f k x.1 x.2.1⟩
theorem del_u6f {w0 : World} (hS : Stops w0) : DelOk Try.prog w0 d_u6f:=.cons (ok_u2f hS) ent_u2f (.cons (ok_u3f hS) ent_u3f (.cons (ok_u5f hS) ent_u5f (.nil)))
theorem ok_u6f {w0 : World} (hS : Stops w0) : Keeps Try.prog w0 4 c_u6f:=.con (y9q (A:=a_u6f) y28q (del_u6f hS) (draws (del_u6f hS)) Try.func4 (by kernel_rfl) (fun k x=>by kernel_rfl) (by kernel_rfl)) (by kernel_rfl)
theorem ent_u6f : Enters' Try.prog 4:=enters' Try.func4 (by kernel_rfl)
attribute [irreducible] u6f
def a_u7f : Ann:=⟨[],[]⟩
def d_u7f : List (Nat × Con):=[]
def u7f (k : Nat) (a : T28.den) (b : T3.den) : Option (den1 [T3]):=evFn Γ d_u7f a_u7f Try.f5 [.val T28, .val T3] [T3] k (a,b,())
theorem u7f_eq (k : Nat) (a : T28.den) (b : T3.den) : u7f k a b = br (decide (IntKind.i64.wrap (b - (List.length a.1 : Int)) < 0)) (some (-1)) (br (decide (IntKind.i64.wrap (IntKind.i64.wrap (b - (List.length a.1 : Int)) - (List.length a.2.1 : Int)) < 0)) (some (-1)) (some (IntKind.i64.wrap (IntKind.i64.wrap (b - (List.length a.1 : Int)) - (List.length a.2.1 : Int))))):=by kernel_rfl
def c_u7f : Con:=⟨[.val T28, .val T3],[T3],fun k x=>u7f k x.1 x.2.1⟩
theorem del_u7f {w0 : World} (hS : Stops w0) : DelOk Try.prog w0 d_u7f:=.nil
theorem ok_u7f {w0 : World} (hS : Stops w0) : Keeps Try.prog w0 5 c_u7f:=.con (y9q (A:=a_u7f) y28q (del_u7f hS) (draws (del_u7f hS)) Try.func5 (by kernel_rfl) (fun k x=>by kernel_rfl) (by kernel_rfl)) (by kernel_rfl)
theorem ent_u7f : Enters' Try.prog 5:=enters' Try.func5 (by kernel_rfl)
attribute [irreducible] u7f
def a_u8f : Ann:=⟨[(0,[.val 1 T3, .var 2 T37, .val 5 T3],⟨[],false⟩)],[]⟩
def d_u8f : List (Nat × Con):=[]
def u8f (k : Nat) (a : T37.den) (b : T3.den) : Option (den1 [T3]):=evFn Γ d_u8f a_u8f Try.f21 [.val T37, .val T3] [T3] k (a,b,())
def u8f_l0 (k : Nat) (v1 : T3.den) (v2 : T37.den) (v5 : T3.den) : Option ((Items.den []) ⊕ (den1 [T3])):=loopR (ρ:=(den1 [T3])) 0 [.val 1 T3, .var 2 T37, .val 5 T3] [] (runOf Γ d_u8f a_u8f Try.f21 [.val T37, .val T3] [T3] 0) k (v1,v2,v5)
theorem u8f_eq (k : Nat) (a : T37.den) (b : T3.den) : u8f k a b = bnd (u8f_l0 k b a 0) (fun y1=>onSum y1 (fun y2=>some (-1)) (fun y2=>some y2)):=by kernel_rfl
theorem u8f_l0_zero (v1 : T3.den) (v2 : T37.den) (v5 : T3.den) : u8f_l0 0 v1 v2 v5 = none:=by kernel_rfl
theorem u8f_l0_succ (k : Nat) (v1 : T3.den) (v2 : T37.den) (v5 : T3.den) : u8f_l0 (k + 1) v1 v2 v5 = br (decide (v5 < (List.length v2.2.2.2.1 : Int))) (br (decide (0 ≤ v5)) (br (decide (v5 < (List.length v2.2.2.2.1 : Int))) (br ((List.getD v2.2.2.2.1 (Int.toNat v5) T59.zero).1 == v1) (some (Sum.inr v5)) (u8f_l0 k v1 v2 (IntKind.i64.wrap (v5 + 1)))) (none)) (none)) (some (Sum.inl ())):=by kernel_rfl
def c_u8f : Con:=⟨[.val T37, .val T3],[T3],fun k x=>u8f k x.1 x.2.1⟩
theorem del_u8f {w0 : World} (hS : Stops w0) : DelOk Try.prog w0 d_u8f:=.nil
theorem ok_u8f {w0 : World} (hS : Stops w0) : Keeps Try.prog w0 21 c_u8f:=.con (y9q (A:=a_u8f) y28q (del_u8f hS) (draws (del_u8f hS)) Try.func21 (by kernel_rfl) (fun k x=>by kernel_rfl) (by kernel_rfl)) (by kernel_rfl)
theorem ent_u8f : Enters' Try.prog 21:=enters' Try.func21 (by kernel_rfl)
attribute [irreducible] u8f u8f_l0
def a_u9f : Ann:=⟨[],[]⟩
def d_u9f : List (Nat × Con):=[]
def u9f (k : Nat) (a : T5.den) : Option (den1 [T4]):=evFn Γ d_u9f a_u9f Try.f81 [.val T5] [T4] k (a,())
theorem u9f_eq (k : Nat) (a : T5.den) : u9f k a = br (decide (a ≥ 97)) (br (decide (a ≤ 122)) (some true) (some (a == 95))) (some (a == 95)):=by kernel_rfl
def c_u9f : Con:=⟨[.val T5],[T4],fun k x=>u9f k x.1⟩
theorem del_u9f {w0 : World} (hS : Stops w0) : DelOk Try.prog w0 d_u9f:=.nil
theorem ok_u9f {w0 : World} (hS : Stops w0) : Keeps Try.prog w0 81 c_u9f:=.con (y9q (A:=a_u9f) y28q (del_u9f hS) (draws (del_u9f hS)) Try.func81 (by kernel_rfl) (fun k x=>by kernel_rfl) (by kernel_rfl)) (by kernel_rfl)
theorem ent_u9f : Enters' Try.prog 81:=enters' Try.func81 (by kernel_rfl)
attribute [irreducible] u9f
def a_u10f : Ann:=⟨[],[]⟩
def d_u10f : List (Nat × Con):=[]
def u10f (k : Nat) (a : T5.den) : Option (den1 [T4]):=evFn Γ d_u10f a_u10f Try.f82 [.val T5] [T4] k (a,())
theorem u10f_eq (k : Nat) (a : T5.den) : u10f k a = br (decide (a ≥ 48)) (some (decide (a ≤ 57))) (some false):=by kernel_rfl
def c_u10f : Con:=⟨[.val T5],[T4],fun k x=>u10f k x.1⟩
theorem del_u10f {w0 : World} (hS : Stops w0) : DelOk Try.prog w0 d_u10f:=.nil
theorem ok_u10f {w0 : World} (hS : Stops w0) : Keeps Try.prog w0 82 c_u10f:=.con (y9q (A:=a_u10f) y28q (del_u10f hS) (draws (del_u10f hS)) Try.func82 (by kernel_rfl) (fun k x=>by kernel_rfl) (by kernel_rfl)) (by kernel_rfl)
theorem ent_u10f : Enters' Try.prog 82:=enters' Try.func82 (by kernel_rfl)
attribute [irreducible] u10f
def a_u11f : Ann:=⟨[(0,[.val 0 T9, .val 3 T3],⟨[.val 0 T9],false⟩)],[]⟩
def d_u11f : List (Nat × Con):=[(81,c_u9f),(82,c_u10f)]
def u11f (k : Nat) (a : T9.den) : Option (den1 [T4]):=evFn Γ d_u11f a_u11f Try.f64 [.val T9] [T4] k (a,())
def u11f_l0 (k : Nat) (v0 : T9.den) (v3 : T3.den) : Option ((Items.den [.val 0 T9]) ⊕ (den1 [T4])):=loopR (ρ:=(den1 [T4])) 0 [.val 0 T9, .val 3 T3] [.val 0 T9] (runOf Γ d_u11f a_u11f Try.f64 [.val T9] [T4] 0) k (v0,v3)
theorem u11f_eq (k : Nat) (a : T9.den) : u11f k a = bnd (u11f_l0 k a 0) (fun y1=>onSum y1 (fun y2=>br (decide ((List.length y2 : Int) > 0)) (some (decide ((List.length y2 : Int) ≤ 30))) (some false)) (fun y2=>some y2)):=by kernel_rfl
theorem u11f_l0_zero (v0 : T9.den) (v3 : T3.den) : u11f_l0 0 v0 v3 = none:=by kernel_rfl
theorem u11f_l0_succ (k : Nat) (v0 : T9.den) (v3 : T3.den) : u11f_l0 (k + 1) v0 v3 = br (decide (v3 < (List.length v0 : Int))) (br (decide (0 ≤ v3)) (br (decide (v3 < (List.length v0 : Int))) (bnd (u9f k (↑(List.getD v0 (Int.toNat v3) 0).toNat : Int)) (fun y1=>br (!y1) (br (decide (v3 > 0)) (br (decide (0 ≤ v3)) (br (decide (v3 < (List.length v0 : Int))) (bnd (u10f k (↑(List.getD v0 (Int.toNat v3) 0).toNat : Int)) (fun y2=>br (!y2) (some (Sum.inr false)) (u11f_l0 k v0 (IntKind.i64.wrap (v3 + 1))))) (none)) (none)) (br (!false) (some (Sum.inr false)) (u11f_l0 k v0 (IntKind.i64.wrap (v3 + 1))))) (u11f_l0 k v0 (IntKind.i64.wrap (v3 + 1))))) (none)) (none)) (some (Sum.inl v0)):=by kernel_rfl
def c_u11f : Con:=⟨[.val T9],[T4],fun k x=>u11f k x.1⟩
theorem del_u11f {w0 : World} (hS : Stops w0) : DelOk Try.prog w0 d_u11f:=.cons (ok_u9f hS) ent_u9f (.cons (ok_u10f hS) ent_u10f (.nil))
theorem ok_u11f {w0 : World} (hS : Stops w0) : Keeps Try.prog w0 64 c_u11f:=.con (y9q (A:=a_u11f) y28q (del_u11f hS) (draws (del_u11f hS)) Try.func64 (by kernel_rfl) (fun k x=>by kernel_rfl) (by kernel_rfl)) (by kernel_rfl)
theorem ent_u11f : Enters' Try.prog 64:=enters' Try.func64 (by kernel_rfl)
attribute [irreducible] u11f u11f_l0
def a_u12f : Ann:=⟨[],[]⟩
def d_u12f : List (Nat × Con):=[]
def u12f (k : Nat) (a : T9.den) : Option (den1 [T4]):=evFn Γ d_u12f a_u12f Try.f65 [.val T9] [T4] k (a,())
theorem u12f_eq (k : Nat) (a : T9.den) : u12f k a = br (a == [97,108,108]) (br (a == [97,108,108]) (some true) (some false)) (br (a == [97,110,100]) (br (a == [97,110,100]) (some true) (some false)) (br (a == [97,115]) (br (a == [97,115]) (some true) (some false)) (br (a == [97,115,99]) (br (a == [97,115,99]) (some true) (some false)) (br (a == [98,101,103,105,110]) (br (a == [98,101,103,105,110]) (some true) (some false)) (br (a == [98,101,116,119,101,101,110]) (br (a == [98,101,116,119,101,101,110]) (some true) (some false)) (br (a == [98,121]) (br (a == [98,121]) (some true) (some false)) (br (a == [99,97,115,101]) (br (a == [99,97,115,101]) (some true) (some false)) (br (a == [99,97,115,116]) (br (a == [99,97,115,116]) (some true) (some false)) (br (a == [99,111,109,109,105,116]) (br (a == [99,111,109,109,105,116]) (some true) (some false)) (br (a == [99,114,101,97,116,101]) (br (a == [99,114,101,97,116,101]) (some true) (some false)) (br (a == [99,114,111,115,115]) (br (a == [99,114,111,115,115]) (some true) (some false)) (br (a == [100,97,121]) (br (a == [100,97,121]) (some true) (some false)) (br (a == [100,101,108,101,116,101]) (br (a == [100,101,108,101,116,101]) (some true) (some false)) (br (a == [100,101,115,99]) (br (a == [100,101,115,99]) (some true) (some false)) (br (a == [100,105,115,116,105,110,99,116]) (br (a == [100,105,115,116,105,110,99,116]) (some true) (some false)) (br (a == [100,114,111,112]) (br (a == [100,114,111,112]) (some true) (some false)) (br (a == [101,108,115,101]) (br (a == [101,108,115,101]) (some true) (some false)) (br (a == [101,110,100]) (br (a == [101,110,100]) (some true) (some false)) (br (a == [101,120,99,101,112,116]) (br (a == [101,120,99,101,112,116]) (some true) (some false)) (br (a == [101,120,105,115,116,115]) (br (a == [101,120,105,115,116,115]) (some true) (some false)) (br (a == [101,120,112,108,97,105,110]) (br (a == [101,120,112,108,97,105,110]) (some true) (some false)) (br (a == [102,97,108,115,101]) (br (a == [102,97,108,115,101]) (some true) (some false)) (br (a == [102,114,111,109]) (br (a == [102,114,111,109]) (some true) (some false)) (br (a == [103,114,111,117,112]) (br (a == [103,114,111,117,112]) (some true) (some false)) (br (a == [104,97,118,105,110,103]) (br (a == [104,97,118,105,110,103]) (some true) (some false)) (br (a == [105,110]) (br (a == [105,110]) (some true) (some false)) (br (a == [105,110,100,101,120]) (br (a == [105,110,100,101,120]) (some true) (some false)) (br (a == [105,110,115,101,114,116]) (br (a == [105,110,115,101,114,116]) (some true) (some false)) (br (a == [105,110,116,101,114,115,101,99,116]) (br (a == [105,110,116,101,114,115,101,99,116]) (some true) (some false)) (br (a == [105,110,116,111]) (br (a == [105,110,116,111]) (some true) (some false)) (br (a == [105,115]) (br (a == [105,115]) (some true) (some false)) (br (a == [106,111,105,110]) (br (a == [106,111,105,110]) (some true) (some false)) (br (a == [107,101,121]) (br (a == [107,101,121]) (some true) (some false)) (br (a == [108,101,102,116]) (br (a == [108,101,102,116]) (some true) (some false)) (br (a == [108,105,109,105,116]) (br (a == [108,105,109,105,116]) (some true) (some false)) (br (a == [110,111,116]) (br (a == [110,111,116]) (some true) (some false)) (br (a == [110,117,108,108]) (br (a == [110,117,108,108]) (some true) (some false)) (br (a == [111,110]) (br (a == [111,110]) (some true) (some false)) (br (a == [111,114]) (br (a == [111,114]) (some true) (some false)) (br (a == [111,114,100,101,114]) (br (a == [111,114,100,101,114]) (some true) (some false)) (br (a == [111,118,101,114]) (br (a == [111,118,101,114]) (some true) (some false)) (br (a == [112,97,114,116,105,116,105,111,110]) (br (a == [112,97,114,116,105,116,105,111,110]) (some true) (some false)) (br (a == [112,114,105,109,97,114,121]) (br (a == [112,114,105,109,97,114,121]) (some true) (some false)) (br (a == [114,101,99,117,114,115,105,118,101]) (br (a == [114,101,99,117,114,115,105,118,101]) (some true) (some false)) (br (a == [114,111,108,108,98,97,99,107]) (br (a == [114,111,108,108,98,97,99,107]) (some true) (some false)) (br (a == [115,101,108,101,99,116]) (br (a == [115,101,108,101,99,116]) (some true) (some false)) (br (a == [115,101,116]) (br (a == [115,101,116]) (some true) (some false)) (br (a == [116,97,98,108,101]) (br (a == [116,97,98,108,101]) (some true) (some false)) (br (a == [116,104,101,110]) (br (a == [116,104,101,110]) (some true) (some false)) (br (a == [116,114,117,101]) (br (a == [116,114,117,101]) (some true) (some false)) (br (a == [117,110,105,111,110]) (br (a == [117,110,105,111,110]) (some true) (some false)) (br (a == [117,110,105,113,117,101]) (br (a == [117,110,105,113,117,101]) (some true) (some false)) (br (a == [117,112,100,97,116,101]) (br (a == [117,112,100,97,116,101]) (some true) (some false)) (br (a == [118,97,108,117,101,115]) (br (a == [118,97,108,117,101,115]) (some true) (some false)) (br (a == [118,105,101,119]) (br (a == [118,105,101,119]) (some true) (some false)) (br (a == [119,104,101,110]) (br (a == [119,104,101,110]) (some true) (some false)) (br (a == [119,104,101,114,101]) (br (a == [119,104,101,114,101]) (some true) (some false)) (br (a == [119,105,116,104]) (br (a == [119,105,116,104]) (some true) (some false)) (br (a == [97,108,116,101,114]) (br (a == [97,108,116,101,114]) (some true) (some false)) (br (a == [97,100,100]) (br (a == [97,100,100]) (some true) (some false)) (br (a == [99,111,108,117,109,110]) (br (a == [99,111,108,117,109,110]) (some true) (some false)) (br (a == [108,101,118,101,108]) (br (a == [108,101,118,101,108]) (some true) (some false)) (br (a == [115,101,114,105,97,108]) (br (a == [115,101,114,105,97,108]) (some true) (some false)) (br (a == [115,110,97,112,115,104,111,116]) (br (a == [115,110,97,112,115,104,111,116]) (some true) (some false)) (br (a == [108,97,116,101,115,116]) (some true) (some false)))))))))))))))))))))))))))))))))))))))))))))))))))))))))))))))))):=by kernel_rfl
def c_u12f : Con:=⟨[.val T9],[T4],fun k x=>u12f k x.1⟩
theorem del_u12f {w0 : World} (hS : Stops w0) : DelOk Try.prog w0 d_u12f:=.nil
theorem ok_u12f {w0 : World} (hS : Stops w0) : Keeps Try.prog w0 65 c_u12f:=.con (y9q (A:=a_u12f) y28q (del_u12f hS) (draws (del_u12f hS)) Try.func65 (by kernel_rfl) (fun k x=>by kernel_rfl) (by kernel_rfl)) (by kernel_rfl)
theorem ent_u12f : Enters' Try.prog 65:=enters' Try.func65 (by kernel_rfl)
attribute [irreducible] u12f
def a_u13f : Ann:=⟨[],[]⟩
def d_u13f : List (Nat × Con):=[(64,c_u11f),(65,c_u12f)]
def u13f (k : Nat) (a : T9.den) : Option (den1 [T4]):=evFn Γ d_u13f a_u13f Try.f43 [.val T9] [T4] k (a,())
theorem u13f_eq (k : Nat) (a : T9.den) : u13f k a = bnd (u11f k a) (fun y1=>br (y1) (bnd (u12f k a) (fun y2=>some (!y2))) (some false)):=by kernel_rfl
def c_u13f : Con:=⟨[.val T9],[T4],fun k x=>u13f k x.1⟩
theorem del_u13f {w0 : World} (hS : Stops w0) : DelOk Try.prog w0 d_u13f:=.cons (ok_u11f hS) ent_u11f (.cons (ok_u12f hS) ent_u12f (.nil))
theorem ok_u13f {w0 : World} (hS : Stops w0) : Keeps Try.prog w0 43 c_u13f:=.con (y9q (A:=a_u13f) y28q (del_u13f hS) (draws (del_u13f hS)) Try.func43 (by kernel_rfl) (fun k x=>by kernel_rfl) (by kernel_rfl)) (by kernel_rfl)
theorem ent_u13f : Enters' Try.prog 43:=enters' Try.func43 (by kernel_rfl)
attribute [irreducible] u13f
def a_u14f : Ann:=⟨[(0,[.val 1 T9, .var 2 T37, .val 5 T3],⟨[],false⟩)],[]⟩
def d_u14f : List (Nat × Con):=[]
def u14f (k : Nat) (a : T37.den) (b : T9.den) : Option (den1 [T3]):=evFn Γ d_u14f a_u14f Try.f44 [.val T37, .val T9] [T3] k (a,b,())
def u14f_l0 (k : Nat) (v1 : T9.den) (v2 : T37.den) (v5 : T3.den) : Option ((Items.den []) ⊕ (den1 [T3])):=loopR (ρ:=(den1 [T3])) 0 [.val 1 T9, .var 2 T37, .val 5 T3] [] (runOf Γ d_u14f a_u14f Try.f44 [.val T37, .val T9] [T3] 0) k (v1,v2,v5)
theorem u14f_eq (k : Nat) (a : T37.den) (b : T9.den) : u14f k a b = bnd (u14f_l0 k b a 0) (fun y1=>onSum y1 (fun y2=>some (-1)) (fun y2=>some y2)):=by kernel_rfl
theorem u14f_l0_zero (v1 : T9.den) (v2 : T37.den) (v5 : T3.den) : u14f_l0 0 v1 v2 v5 = none:=by kernel_rfl
theorem u14f_l0_succ (k : Nat) (v1 : T9.den) (v2 : T37.den) (v5 : T3.den) : u14f_l0 (k + 1) v1 v2 v5 = br (decide (v5 < (List.length v2.2.2.2.1 : Int))) (br (decide (0 ≤ v5)) (br (decide (v5 < (List.length v2.2.2.2.1 : Int))) (br ((List.getD v2.2.2.2.1 (Int.toNat v5) T59.zero).2.1 == v1) (some (Sum.inr v5)) (u14f_l0 k v1 v2 (IntKind.i64.wrap (v5 + 1)))) (none)) (none)) (some (Sum.inl ())):=by kernel_rfl
def c_u14f : Con:=⟨[.val T37, .val T9],[T3],fun k x=>u14f k x.1 x.2.1⟩
theorem del_u14f {w0 : World} (hS : Stops w0) : DelOk Try.prog w0 d_u14f:=.nil
theorem ok_u14f {w0 : World} (hS : Stops w0) : Keeps Try.prog w0 44 c_u14f:=.con (y9q (A:=a_u14f) y28q (del_u14f hS) (draws (del_u14f hS)) Try.func44 (by kernel_rfl) (fun k x=>by kernel_rfl) (by kernel_rfl)) (by kernel_rfl)
theorem ent_u14f : Enters' Try.prog 44:=enters' Try.func44 (by kernel_rfl)
attribute [irreducible] u14f u14f_l0
def a_u15f : Ann:=⟨[(0,[.val 0 T23, .val 1 T3, .val 5 T3],⟨[],false⟩)],[]⟩
def d_u15f : List (Nat × Con):=[]
def u15f (k : Nat) (a : T23.den) (b : T3.den) : Option (den1 [T4]):=evFn Γ d_u15f a_u15f Try.f83 [.val T23, .val T3] [T4] k (a,b,())
def u15f_l0 (k : Nat) (v0 : T23.den) (v1 : T3.den) (v5 : T3.den) : Option ((Items.den []) ⊕ (den1 [T4])):=loopR (ρ:=(den1 [T4])) 0 [.val 0 T23, .val 1 T3, .val 5 T3] [] (runOf Γ d_u15f a_u15f Try.f83 [.val T23, .val T3] [T4] 0) k (v0,v1,v5)
theorem u15f_eq (k : Nat) (a : T23.den) (b : T3.den) : u15f k a b = bnd (u15f_l0 k a b 0) (fun y1=>onSum y1 (fun y2=>some false) (fun y2=>some y2)):=by kernel_rfl
theorem u15f_l0_zero (v0 : T23.den) (v1 : T3.den) (v5 : T3.den) : u15f_l0 0 v0 v1 v5 = none:=by kernel_rfl
theorem u15f_l0_succ (k : Nat) (v0 : T23.den) (v1 : T3.den) (v5 : T3.den) : u15f_l0 (k + 1) v0 v1 v5 = br (decide (v5 < (List.length v0 : Int))) (br (decide (0 ≤ v5)) (br (decide (v5 < (List.length v0 : Int))) (br (List.getD v0 (Int.toNat v5) T3.zero == v1) (some (Sum.inr true)) (u15f_l0 k v0 v1 (IntKind.i64.wrap (v5 + 1)))) (none)) (none)) (some (Sum.inl ())):=by kernel_rfl
def c_u15f : Con:=⟨[.val T23, .val T3],[T4],fun k x=>u15f k x.1 x.2.1⟩
theorem del_u15f {w0 : World} (hS : Stops w0) : DelOk Try.prog w0 d_u15f:=.nil
theorem ok_u15f {w0 : World} (hS : Stops w0) : Keeps Try.prog w0 83 c_u15f:=.con (y9q (A:=a_u15f) y28q (del_u15f hS) (draws (del_u15f hS)) Try.func83 (by kernel_rfl) (fun k x=>by kernel_rfl) (by kernel_rfl)) (by kernel_rfl)
theorem ent_u15f : Enters' Try.prog 83:=enters' Try.func83 (by kernel_rfl)
attribute [irreducible] u15f u15f_l0
def a_u16f : Ann:=⟨[(0,[.val 0 T23, .val 3 T3],⟨[],false⟩)],[]⟩
def d_u16f : List (Nat × Con):=[(83,c_u15f)]
def u16f (k : Nat) (a : T23.den) : Option (den1 [T4]):=evFn Γ d_u16f a_u16f Try.f66 [.val T23] [T4] k (a,())
def u16f_l0 (k : Nat) (v0 : T23.den) (v3 : T3.den) : Option ((Items.den []) ⊕ (den1 [T4])):=loopR (ρ:=(den1 [T4])) 0 [.val 0 T23, .val 3 T3] [] (runOf Γ d_u16f a_u16f Try.f66 [.val T23] [T4] 0) k (v0,v3)
theorem u16f_eq (k : Nat) (a : T23.den) : u16f k a = bnd (u16f_l0 k a 0) (fun y1=>onSum y1 (fun y2=>some true) (fun y2=>some y2)):=by kernel_rfl
theorem u16f_l0_zero (v0 : T23.den) (v3 : T3.den) : u16f_l0 0 v0 v3 = none:=by kernel_rfl
theorem u16f_l0_succ (k : Nat) (v0 : T23.den) (v3 : T3.den) : u16f_l0 (k + 1) v0 v3 = br (decide (v3 < (List.length v0 : Int))) (br (decide (0 ≤ v3)) (br (decide (v3 ≤ (List.length v0 : Int))) (br (decide (0 ≤ v3)) (br (decide (v3 < (List.length v0 : Int))) (bnd (u15f k (List.take (Int.toNat v3) v0) (List.getD v0 (Int.toNat v3) T3.zero)) (fun y1=>br (y1) (some (Sum.inr false)) (u16f_l0 k v0 (IntKind.i64.wrap (v3 + 1))))) (none)) (none)) (none)) (none)) (some (Sum.inl ())):=by kernel_rfl
def c_u16f : Con:=⟨[.val T23],[T4],fun k x=>u16f k x.1⟩
theorem del_u16f {w0 : World} (hS : Stops w0) : DelOk Try.prog w0 d_u16f:=.cons (ok_u15f hS) ent_u15f (.nil)
theorem ok_u16f {w0 : World} (hS : Stops w0) : Keeps Try.prog w0 66 c_u16f:=.con (y9q (A:=a_u16f) y28q (del_u16f hS) (draws (del_u16f hS)) Try.func66 (by kernel_rfl) (fun k x=>by kernel_rfl) (by kernel_rfl)) (by kernel_rfl)
theorem ent_u16f : Enters' Try.prog 66:=enters' Try.func66 (by kernel_rfl)
attribute [irreducible] u16f u16f_l0
def a_u17f : Ann:=⟨[(0,[.val 1 T23, .val 2 T4, .var 3 T37, .val 7 T3],⟨[],false⟩)],[]⟩
def d_u17f : List (Nat × Con):=[(21,c_u8f),(66,c_u16f)]
def u17f (k : Nat) (a : T37.den) (b : T23.den) (c : T4.den) : Option (den1 [T4]):=evFn Γ d_u17f a_u17f Try.f45 [.val T37, .val T23, .val T4] [T4] k (a,b,c,())
def u17f_l0 (k : Nat) (v1 : T23.den) (v2 : T4.den) (v3 : T37.den) (v7 : T3.den) : Option ((Items.den []) ⊕ (den1 [T4])):=loopR (ρ:=(den1 [T4])) 0 [.val 1 T23, .val 2 T4, .var 3 T37, .val 7 T3] [] (runOf Γ d_u17f a_u17f Try.f45 [.val T37, .val T23, .val T4] [T4] 0) k (v1,v2,v3,v7)
theorem u17f_eq (k : Nat) (a : T37.den) (b : T23.den) (c : T4.den) : u17f k a b c = br ((List.length b : Int) == 0) (some false) (br (decide ((List.length b : Int) > 16)) (some false) (bnd (u16f k b) (fun y1=>br (!y1) (some false) (bnd (u17f_l0 k b c a 0) (fun y2=>onSum y2 (fun y3=>some true) (fun y3=>some y3)))))):=by kernel_rfl
theorem u17f_l0_zero (v1 : T23.den) (v2 : T4.den) (v3 : T37.den) (v7 : T3.den) : u17f_l0 0 v1 v2 v3 v7 = none:=by kernel_rfl
theorem u17f_l0_succ (k : Nat) (v1 : T23.den) (v2 : T4.den) (v3 : T37.den) (v7 : T3.den) : u17f_l0 (k + 1) v1 v2 v3 v7 = br (decide (v7 < (List.length v1 : Int))) (br (decide (0 ≤ v7)) (br (decide (v7 < (List.length v1 : Int))) (bnd (u8f k v3 (List.getD v1 (Int.toNat v7) T3.zero)) (fun y1=>br (decide (y1 < 0)) (some (Sum.inr false)) (br (v2) (br (decide (0 ≤ y1)) (br (decide (y1 < (List.length v3.2.2.2.1 : Int))) (br (!(List.getD v3.2.2.2.1 (Int.toNat y1) T59.zero).2.2.2.1) (some (Sum.inr false)) (u17f_l0 k v1 v2 v3 (IntKind.i64.wrap (v7 + 1)))) (none)) (none)) (u17f_l0 k v1 v2 v3 (IntKind.i64.wrap (v7 + 1)))))) (none)) (none)) (some (Sum.inl ())):=by kernel_rfl
def c_u17f : Con:=⟨[.val T37, .val T23, .val T4],[T4],fun k x=>u17f k x.1 x.2.1 x.2.2.1⟩
theorem del_u17f {w0 : World} (hS : Stops w0) : DelOk Try.prog w0 d_u17f:=.cons (ok_u8f hS) ent_u8f (.cons (ok_u16f hS) ent_u16f (.nil))
theorem ok_u17f {w0 : World} (hS : Stops w0) : Keeps Try.prog w0 45 c_u17f:=.con (y9q (A:=a_u17f) y28q (del_u17f hS) (draws (del_u17f hS)) Try.func45 (by kernel_rfl) (fun k x=>by kernel_rfl) (by kernel_rfl)) (by kernel_rfl)
theorem ent_u17f : Enters' Try.prog 45:=enters' Try.func45 (by kernel_rfl)
attribute [irreducible] u17f u17f_l0
def a_u18f : Ann:=⟨[(0,[.var 1 T37, .val 3 T3],⟨[.var 1 T37],false⟩),(2,[.var 1 T37, .val 5 T3],⟨[],false⟩),(4,[.var 1 T37, .val 5 T3, .var 6 T76, .val 7 T3],⟨[.var 1 T37, .val 5 T3],false⟩)],[]⟩
def d_u18f : List (Nat × Con):=[(21,c_u8f),(43,c_u13f),(44,c_u14f),(45,c_u17f)]
def u18f (k : Nat) (a : T37.den) : Option (den1 [T4]):=evFn Γ d_u18f a_u18f Try.f18 [.val T37] [T4] k (a,())
def u18f_l0 (k : Nat) (v1 : T37.den) (v3 : T3.den) : Option ((Items.den [.var 1 T37]) ⊕ (den1 [T4])):=loopR (ρ:=(den1 [T4])) 0 [.var 1 T37, .val 3 T3] [.var 1 T37] (runOf Γ d_u18f a_u18f Try.f18 [.val T37] [T4] 0) k (v1,v3)
def u18f_l2 (k : Nat) (v1 : T37.den) (v5 : T3.den) : Option ((Items.den []) ⊕ (den1 [T4])):=loopR (ρ:=(den1 [T4])) 2 [.var 1 T37, .val 5 T3] [] (runOf Γ d_u18f a_u18f Try.f18 [.val T37] [T4] 2) k (v1,v5)
def u18f_l4 (k : Nat) (v1 : T37.den) (v5 : T3.den) (v6 : T76.den) (v7 : T3.den) : Option ((Items.den [.var 1 T37, .val 5 T3]) ⊕ (den1 [T4])):=loopR (ρ:=(den1 [T4])) 4 [.var 1 T37, .val 5 T3, .var 6 T76, .val 7 T3] [.var 1 T37, .val 5 T3] (runOf Γ d_u18f a_u18f Try.f18 [.val T37] [T4] 4) k (v1,v5,v6,v7)
theorem u18f_eq (k : Nat) (a : T37.den) : u18f k a = br (decide (a.1 < 1)) (some false) (br (decide (a.1 > 40)) (some false) (bnd (u13f k a.2.1) (fun y1=>br (!y1) (some false) (br (decide (a.2.2.1 < 1)) (some false) (br (decide (a.2.2.1 > 1000000)) (some false) (br (decide ((List.length a.2.2.2.1 : Int) < 1)) (some false) (br (decide ((List.length a.2.2.2.1 : Int) > 14)) (some false) (br (decide ((List.length a.2.2.2.2.2.1 : Int) > 8)) (some false) (bnd (u18f_l0 k a 0) (fun y2=>onSum y2 (fun y3=>bnd (u17f k y3 y3.2.2.2.2.1 true) (fun y4=>br (!y4) (some false) (bnd (u18f_l2 k y3 0) (fun y5=>onSum y5 (fun y6=>some true) (fun y6=>some y6))))) (fun y3=>some y3))))))))))):=by kernel_rfl
theorem u18f_l0_zero (v1 : T37.den) (v3 : T3.den) : u18f_l0 0 v1 v3 = none:=by kernel_rfl
theorem u18f_l0_succ (k : Nat) (v1 : T37.den) (v3 : T3.den) : u18f_l0 (k + 1) v1 v3 = br (decide (v3 < (List.length v1.2.2.2.1 : Int))) (br (decide (0 ≤ v3)) (br (decide (v3 < (List.length v1.2.2.2.1 : Int))) (br (decide ((List.getD v1.2.2.2.1 (Int.toNat v3) T59.zero).1 < 1)) (some (Sum.inr false)) (br (decide ((List.getD v1.2.2.2.1 (Int.toNat v3) T59.zero).1 > 1000)) (some (Sum.inr false)) (bnd (u13f k (List.getD v1.2.2.2.1 (Int.toNat v3) T59.zero).2.1) (fun y1=>br (!y1) (some (Sum.inr false)) (br (decide ((List.getD v1.2.2.2.1 (Int.toNat v3) T59.zero).2.2.1 < 1)) (some (Sum.inr false)) (br (decide ((List.getD v1.2.2.2.1 (Int.toNat v3) T59.zero).2.2.1 > 5)) (some (Sum.inr false)) (bnd (u8f k v1 (List.getD v1.2.2.2.1 (Int.toNat v3) T59.zero).1) (fun y2=>br (y2 != v3) (some (Sum.inr false)) (bnd (u14f k v1 (List.getD v1.2.2.2.1 (Int.toNat v3) T59.zero).2.1) (fun y3=>br (y3 != v3) (some (Sum.inr false)) (u18f_l0 k v1 (IntKind.i64.wrap (v3 + 1))))))))))))) (none)) (none)) (some (Sum.inl v1)):=by kernel_rfl
theorem u18f_l2_zero (v1 : T37.den) (v5 : T3.den) : u18f_l2 0 v1 v5 = none:=by kernel_rfl
theorem u18f_l2_succ (k : Nat) (v1 : T37.den) (v5 : T3.den) : u18f_l2 (k + 1) v1 v5 = br (decide (v5 < (List.length v1.2.2.2.2.2.1 : Int))) (br (decide (0 ≤ v5)) (br (decide (v5 < (List.length v1.2.2.2.2.2.1 : Int))) (br (decide ((List.getD v1.2.2.2.2.2.1 (Int.toNat v5) T76.zero).1 < 1)) (some (Sum.inr false)) (br (decide ((List.getD v1.2.2.2.2.2.1 (Int.toNat v5) T76.zero).1 > 1000)) (some (Sum.inr false)) (bnd (u13f k (List.getD v1.2.2.2.2.2.1 (Int.toNat v5) T76.zero).2.1) (fun y1=>br (!y1) (some (Sum.inr false)) (br (decide ((List.getD v1.2.2.2.2.2.1 (Int.toNat v5) T76.zero).2.2.2.2.1 < 1)) (some (Sum.inr false)) (br (decide ((List.getD v1.2.2.2.2.2.1 (Int.toNat v5) T76.zero).2.2.2.2.1 > 3)) (some (Sum.inr false)) (bnd (u17f k v1 (List.getD v1.2.2.2.2.2.1 (Int.toNat v5) T76.zero).2.2.1 false) (fun y2=>br (!y2) (some (Sum.inr false)) (br (decide (IntKind.i64.wrap ((↑(List.length (List.getD v1.2.2.2.2.2.1 (Int.toNat v5) T76.zero).2.2.1) : Int) + (List.length v1.2.2.2.2.1 : Int)) > 14)) (some (Sum.inr false)) (bnd (u18f_l4 k v1 v5 (List.getD v1.2.2.2.2.2.1 (Int.toNat v5) T76.zero) 0) (fun y3=>onSum y3 (fun y4=>u18f_l2 k y4.1 (IntKind.i64.wrap (y4.2 + 1))) (fun y4=>some (Sum.inr y4))))))))))))) (none)) (none)) (some (Sum.inl ())):=by kernel_rfl
theorem u18f_l4_zero (v1 : T37.den) (v5 : T3.den) (v6 : T76.den) (v7 : T3.den) : u18f_l4 0 v1 v5 v6 v7 = none:=by kernel_rfl
theorem u18f_l4_succ (k : Nat) (v1 : T37.den) (v5 : T3.den) (v6 : T76.den) (v7 : T3.den) : u18f_l4 (k + 1) v1 v5 v6 v7 = br (decide (v7 < v5)) (br (decide (0 ≤ v7)) (br (decide (v7 < (List.length v1.2.2.2.2.2.1 : Int))) (br ((List.getD v1.2.2.2.2.2.1 (Int.toNat v7) T76.zero).1 == v6.1) (some (Sum.inr false)) (br (decide (0 ≤ v7)) (br (decide (v7 < (List.length v1.2.2.2.2.2.1 : Int))) (br ((List.getD v1.2.2.2.2.2.1 (Int.toNat v7) T76.zero).2.1 == v6.2.1) (some (Sum.inr false)) (u18f_l4 k v1 v5 v6 (IntKind.i64.wrap (v7 + 1)))) (none)) (none))) (none)) (none)) (some (Sum.inl (v1,v5))):=by kernel_rfl
def c_u18f : Con:=⟨[.val T37],[T4],fun k x=>u18f k x.1⟩
theorem del_u18f {w0 : World} (hS : Stops w0) : DelOk Try.prog w0 d_u18f:=.cons (ok_u8f hS) ent_u8f (.cons (ok_u13f hS) ent_u13f (.cons (ok_u14f hS) ent_u14f (.cons (ok_u17f hS) ent_u17f (.nil))))
theorem ok_u18f {w0 : World} (hS : Stops w0) : Keeps Try.prog w0 18 c_u18f:=.con (y9q (A:=a_u18f) y28q (del_u18f hS) (draws (del_u18f hS)) Try.func18 (by kernel_rfl) (fun k x=>by kernel_rfl) (by kernel_rfl)) (by kernel_rfl)
theorem ent_u18f : Enters' Try.prog 18:=enters' Try.func18 (by kernel_rfl)
attribute [irreducible] u18f u18f_l0 u18f_l2 u18f_l4
def a_u19f : Ann:=⟨[],[]⟩
def d_u19f : List (Nat × Con):=[]
def u19f (k : Nat) (a : T3.den) : Option (den1 [T52]):=evFn Γ d_u19f a_u19f Try.f20 [.val T3] [T52] k (a,())
theorem u19f_eq (k : Nat) (a : T3.den) : u19f k a = some ((2 : Int),a,(0 : Int),([] : List UInt8),()):=by kernel_rfl
def c_u19f : Con:=⟨[.val T3],[T52],fun k x=>u19f k x.1⟩
theorem del_u19f {w0 : World} (hS : Stops w0) : DelOk Try.prog w0 d_u19f:=.nil
theorem ok_u19f {w0 : World} (hS : Stops w0) : Keeps Try.prog w0 20 c_u19f:=.con (y9q (A:=a_u19f) y28q (del_u19f hS) (draws (del_u19f hS)) Try.func20 (by kernel_rfl) (fun k x=>by kernel_rfl) (by kernel_rfl)) (by kernel_rfl)
theorem ent_u19f : Enters' Try.prog 20:=enters' Try.func20 (by kernel_rfl)
attribute [irreducible] u19f
def a_u20f : Ann:=⟨[(0,[.val 0 T9, .val 3 T3],⟨[],false⟩)],[]⟩
def d_u20f : List (Nat × Con):=[]
def u20f (k : Nat) (a : T9.den) : Option (den1 [T4]):=evFn Γ d_u20f a_u20f Try.f71 [.val T9] [T4] k (a,())
def u20f_l0 (k : Nat) (v0 : T9.den) (v3 : T3.den) : Option ((Items.den []) ⊕ (den1 [T4])):=loopR (ρ:=(den1 [T4])) 0 [.val 0 T9, .val 3 T3] [] (runOf Γ d_u20f a_u20f Try.f71 [.val T9] [T4] 0) k (v0,v3)
theorem u20f_eq (k : Nat) (a : T9.den) : u20f k a = bnd (u20f_l0 k a 0) (fun y1=>onSum y1 (fun y2=>some true) (fun y2=>some y2)):=by kernel_rfl
theorem u20f_l0_zero (v0 : T9.den) (v3 : T3.den) : u20f_l0 0 v0 v3 = none:=by kernel_rfl
theorem u20f_l0_succ (k : Nat) (v0 : T9.den) (v3 : T3.den) : u20f_l0 (k + 1) v0 v3 = br (decide (v3 < (List.length v0 : Int))) (br (decide (0 ≤ v3)) (br (decide (v3 < (List.length v0 : Int))) (br (decide ((↑(List.getD v0 (Int.toNat v3) 0).toNat : Int) < 32)) (some (Sum.inr false)) (br (decide (0 ≤ v3)) (br (decide (v3 < (List.length v0 : Int))) (br (decide ((↑(List.getD v0 (Int.toNat v3) 0).toNat : Int) > 126)) (some (Sum.inr false)) (u20f_l0 k v0 (IntKind.i64.wrap (v3 + 1)))) (none)) (none))) (none)) (none)) (some (Sum.inl ())):=by kernel_rfl
def c_u20f : Con:=⟨[.val T9],[T4],fun k x=>u20f k x.1⟩
theorem del_u20f {w0 : World} (hS : Stops w0) : DelOk Try.prog w0 d_u20f:=.nil
theorem ok_u20f {w0 : World} (hS : Stops w0) : Keeps Try.prog w0 71 c_u20f:=.con (y9q (A:=a_u20f) y28q (del_u20f hS) (draws (del_u20f hS)) Try.func71 (by kernel_rfl) (fun k x=>by kernel_rfl) (by kernel_rfl)) (by kernel_rfl)
theorem ent_u20f : Enters' Try.prog 71:=enters' Try.func71 (by kernel_rfl)
attribute [irreducible] u20f u20f_l0
def a_u21f : Ann:=⟨[],[(3,⟨[.var 1 T52],false⟩)]⟩
def d_u21f : List (Nat × Con):=[(71,c_u20f)]
def u21f (k : Nat) (a : T52.den) : Option (den1 [T4]):=evFn Γ d_u21f a_u21f Try.f47 [.val T52] [T4] k (a,())
theorem u21f_eq (k : Nat) (a : T52.den) : u21f k a = bnd (br (a.1 != 4) (br (decide ((List.length a.2.2.2.1 : Int) > 0)) (some (Sum.inr false)) (br (a.1 != 3) (br (a.2.2.1 != 0) (some (Sum.inr false)) (some (Sum.inl a))) (some (Sum.inl a)))) (br (a.1 != 3) (br (a.2.2.1 != 0) (some (Sum.inr false)) (some (Sum.inl a))) (some (Sum.inl a)))) (fun y1=>onSum y1 (fun y2=>br (y2.1 == 0) (some (y2.2.1 == 0)) (br (y2.1 == 1) (br (y2.2.1 == 0) (some true) (some (y2.2.1 == 1))) (br (y2.1 == 2) (br (decide (y2.2.1 ≥ -1000000000000000)) (some (decide (y2.2.1 ≤ 1000000000000000))) (some false)) (br (y2.1 == 3) (br (decide (y2.2.1 ≥ -1000000000)) (br (decide (y2.2.1 ≤ 1000000000)) (br (decide (y2.2.2.1 ≥ 0)) (br (decide (y2.2.2.1 ≤ 6)) (br (y2.2.2.1 == 0) (some true) (br (!10 == 0) (some (Int.tmod y2.2.1 10 != 0)) (none))) (some false)) (some false)) (some false)) (some false)) (br (y2.1 == 5) (br (decide (y2.2.1 ≥ 0)) (some (decide (y2.2.1 ≤ 3652058))) (some false)) (br (y2.1 == 4) (br (y2.2.1 == 0) (bnd (u20f k y2.2.2.2.1) (fun y3=>br (y3) (some (decide ((List.length y2.2.2.2.1 : Int) ≤ 200))) (some false))) (some false)) (some false))))))) (fun y2=>some y2)):=by kernel_rfl
def c_u21f : Con:=⟨[.val T52],[T4],fun k x=>u21f k x.1⟩
theorem del_u21f {w0 : World} (hS : Stops w0) : DelOk Try.prog w0 d_u21f:=.cons (ok_u20f hS) ent_u20f (.nil)
theorem ok_u21f {w0 : World} (hS : Stops w0) : Keeps Try.prog w0 47 c_u21f:=.con (y9q (A:=a_u21f) y28q (del_u21f hS) (draws (del_u21f hS)) Try.func47 (by kernel_rfl) (fun k x=>by kernel_rfl) (by kernel_rfl)) (by kernel_rfl)
theorem ent_u21f : Enters' Try.prog 47:=enters' Try.func47 (by kernel_rfl)
attribute [irreducible] u21f
def a_u22f : Ann:=⟨[],[]⟩
def d_u22f : List (Nat × Con):=[]
def u22f (k : Nat) (a : T4.den) : Option (den1 [T52]):=evFn Γ d_u22f a_u22f Try.f67 [.val T4] [T52] k (a,())
theorem u22f_eq (k : Nat) (a : T4.den) : u22f k a = br (a) (some ((1 : Int),(1 : Int),(0 : Int),([] : List UInt8),())) (some ((1 : Int),(0 : Int),(0 : Int),([] : List UInt8),())):=by kernel_rfl
def c_u22f : Con:=⟨[.val T4],[T52],fun k x=>u22f k x.1⟩
theorem del_u22f {w0 : World} (hS : Stops w0) : DelOk Try.prog w0 d_u22f:=.nil
theorem ok_u22f {w0 : World} (hS : Stops w0) : Keeps Try.prog w0 67 c_u22f:=.con (y9q (A:=a_u22f) y28q (del_u22f hS) (draws (del_u22f hS)) Try.func67 (by kernel_rfl) (fun k x=>by kernel_rfl) (by kernel_rfl)) (by kernel_rfl)
theorem ent_u22f : Enters' Try.prog 67:=enters' Try.func67 (by kernel_rfl)
attribute [irreducible] u22f
def a_u23f : Ann:=⟨[(0,[.val 0 T9, .val 3 T3, .val 4 T3],⟨[.val 3 T3],true⟩)],[]⟩
def d_u23f : List (Nat × Con):=[]
def u23f (k : Nat) (a : T9.den) : Option (den1 [T3]):=evFn Γ d_u23f a_u23f Try.f68 [.val T9] [T3] k (a,())
def u23f_l0 (k : Nat) (v0 : T9.den) (v3 : T3.den) (v4 : T3.den) : Option (Items.den [.val 3 T3]):=loopQ (ρ:=(den1 [T3])) 0 [.val 0 T9, .val 3 T3, .val 4 T3] [.val 3 T3] (runOf Γ d_u23f a_u23f Try.f68 [.val T9] [T3] 0) k (v0,v3,v4)
theorem u23f_eq (k : Nat) (a : T9.den) : u23f k a = bnd (u23f_l0 k a 0 0) (fun y1=>some y1):=by kernel_rfl
theorem u23f_l0_zero (v0 : T9.den) (v3 : T3.den) (v4 : T3.den) : u23f_l0 0 v0 v3 v4 = none:=by kernel_rfl
theorem u23f_l0_succ (k : Nat) (v0 : T9.den) (v3 : T3.den) (v4 : T3.den) : u23f_l0 (k + 1) v0 v3 v4 = br (decide (v4 < (List.length v0 : Int))) (br (decide (0 ≤ v4)) (br (decide (v4 < (List.length v0 : Int))) (u23f_l0 k v0 (IntKind.i64.wrap (IntKind.i64.wrap (v3 * 256) + IntKind.i64.wrap (↑(List.getD v0 (Int.toNat v4) 0).toNat : Int))) (IntKind.i64.wrap (v4 + 1))) (none)) (none)) (some v3):=by kernel_rfl
def c_u23f : Con:=⟨[.val T9],[T3],fun k x=>u23f k x.1⟩
theorem del_u23f {w0 : World} (hS : Stops w0) : DelOk Try.prog w0 d_u23f:=.nil
theorem ok_u23f {w0 : World} (hS : Stops w0) : Keeps Try.prog w0 68 c_u23f:=.con (y9q (A:=a_u23f) y28q (del_u23f hS) (draws (del_u23f hS)) Try.func68 (by kernel_rfl) (fun k x=>by kernel_rfl) (by kernel_rfl)) (by kernel_rfl)
theorem ent_u23f : Enters' Try.prog 68:=enters' Try.func68 (by kernel_rfl)
attribute [irreducible] u23f u23f_l0
def a_u24f : Ann:=⟨[(0,[.val 0 T3, .val 3 T3, .val 4 T3],⟨[.val 3 T3],true⟩)],[]⟩
def d_u24f : List (Nat × Con):=[]
def u24f (k : Nat) (a : T3.den) : Option (den1 [T3]):=evFn Γ d_u24f a_u24f Try.f84 [.val T3] [T3] k (a,())
def u24f_l0 (k : Nat) (v0 : T3.den) (v3 : T3.den) (v4 : T3.den) : Option (Items.den [.val 3 T3]):=loopQ (ρ:=(den1 [T3])) 0 [.val 0 T3, .val 3 T3, .val 4 T3] [.val 3 T3] (runOf Γ d_u24f a_u24f Try.f84 [.val T3] [T3] 0) k (v0,v3,v4)
theorem u24f_eq (k : Nat) (a : T3.den) : u24f k a = bnd (u24f_l0 k a 1 0) (fun y1=>some y1):=by kernel_rfl
theorem u24f_l0_zero (v0 : T3.den) (v3 : T3.den) (v4 : T3.den) : u24f_l0 0 v0 v3 v4 = none:=by kernel_rfl
theorem u24f_l0_succ (k : Nat) (v0 : T3.den) (v3 : T3.den) (v4 : T3.den) : u24f_l0 (k + 1) v0 v3 v4 = br (decide (v4 < v0)) (u24f_l0 k v0 (IntKind.i64.wrap (v3 * 10)) (IntKind.i64.wrap (v4 + 1))) (some v3):=by kernel_rfl
def c_u24f : Con:=⟨[.val T3],[T3],fun k x=>u24f k x.1⟩
theorem del_u24f {w0 : World} (hS : Stops w0) : DelOk Try.prog w0 d_u24f:=.nil
theorem ok_u24f {w0 : World} (hS : Stops w0) : Keeps Try.prog w0 84 c_u24f:=.con (y9q (A:=a_u24f) y28q (del_u24f hS) (draws (del_u24f hS)) Try.func84 (by kernel_rfl) (fun k x=>by kernel_rfl) (by kernel_rfl)) (by kernel_rfl)
theorem ent_u24f : Enters' Try.prog 84:=enters' Try.func84 (by kernel_rfl)
attribute [irreducible] u24f u24f_l0
def a_u25f : Ann:=⟨[],[(4,⟨[.val 0 T3, .val 1 T3, .val 5 T4],true⟩)]⟩
def d_u25f : List (Nat × Con):=[]
def u25f (k : Nat) (a : T3.den) (b : T3.den) : Option (den1 [T3]):=evFn Γ d_u25f a_u25f Try.f85 [.val T3, .val T3] [T3] k (a,b,())
theorem u25f_eq (k : Nat) (a : T3.den) (b : T3.den) : u25f k a b = bnd (br (decide (a < 0)) (some (IntKind.i64.wrap (0 - a),b,decide (a < 0))) (some (a,b,decide (a < 0)))) (fun y1=>br (!y1.2.1 == 0) (br (!y1.2.1 == 0) (br (decide (IntKind.i64.wrap (2 * Int.tmod y1.1 y1.2.1) > y1.2.1)) (br (y1.2.2) (some (IntKind.i64.wrap (0 - IntKind.i64.wrap (IntKind.i64.wrap (Int.tdiv y1.1 y1.2.1) + 1)))) (some (IntKind.i64.wrap (IntKind.i64.wrap (Int.tdiv y1.1 y1.2.1) + 1)))) (br (IntKind.i64.wrap (2 * Int.tmod y1.1 y1.2.1) == y1.2.1) (br (!2 == 0) (br ((IntKind.i64.wrap (Int.tdiv y1.1 y1.2.1)).tmod 2 == 1) (br (y1.2.2) (some (IntKind.i64.wrap (0 - IntKind.i64.wrap (IntKind.i64.wrap (Int.tdiv y1.1 y1.2.1) + 1)))) (some (IntKind.i64.wrap (IntKind.i64.wrap (Int.tdiv y1.1 y1.2.1) + 1)))) (br (y1.2.2) (some (IntKind.i64.wrap (0 - IntKind.i64.wrap (Int.tdiv y1.1 y1.2.1)))) (some (IntKind.i64.wrap (Int.tdiv y1.1 y1.2.1))))) (none)) (br (y1.2.2) (some (IntKind.i64.wrap (0 - IntKind.i64.wrap (Int.tdiv y1.1 y1.2.1)))) (some (IntKind.i64.wrap (Int.tdiv y1.1 y1.2.1)))))) (none)) (none)):=by kernel_rfl
def c_u25f : Con:=⟨[.val T3, .val T3],[T3],fun k x=>u25f k x.1 x.2.1⟩
theorem del_u25f {w0 : World} (hS : Stops w0) : DelOk Try.prog w0 d_u25f:=.nil
theorem ok_u25f {w0 : World} (hS : Stops w0) : Keeps Try.prog w0 85 c_u25f:=.con (y9q (A:=a_u25f) y28q (del_u25f hS) (draws (del_u25f hS)) Try.func85 (by kernel_rfl) (fun k x=>by kernel_rfl) (by kernel_rfl)) (by kernel_rfl)
theorem ent_u25f : Enters' Try.prog 85:=enters' Try.func85 (by kernel_rfl)
attribute [irreducible] u25f
def a_u26f : Ann:=⟨[(0,[.val 0 T3, .val 1 T3, .var 4 T52],⟨[.val 0 T3, .val 1 T3, .var 4 T52],true⟩),(2,[.val 0 T3, .val 1 T3, .var 4 T52],⟨[.val 0 T3, .val 1 T3, .var 4 T52],true⟩)],[]⟩
def d_u26f : List (Nat × Con):=[(84,c_u24f),(85,c_u25f)]
def u26f (k : Nat) (a : T3.den) (b : T3.den) : Option (den1 [T52,T3]):=evFn Γ d_u26f a_u26f Try.f69 [.val T3, .val T3] [T52,T3] k (a,b,())
def u26f_l0 (k : Nat) (v0 : T3.den) (v1 : T3.den) (v4 : T52.den) : Option (Items.den [.val 0 T3, .val 1 T3, .var 4 T52]):=loopQ (ρ:=(den1 [T52,T3])) 0 [.val 0 T3, .val 1 T3, .var 4 T52] [.val 0 T3, .val 1 T3, .var 4 T52] (runOf Γ d_u26f a_u26f Try.f69 [.val T3, .val T3] [T52,T3] 0) k (v0,v1,v4)
def u26f_l2 (k : Nat) (v0 : T3.den) (v1 : T3.den) (v4 : T52.den) : Option (Items.den [.val 0 T3, .val 1 T3, .var 4 T52]):=loopQ (ρ:=(den1 [T52,T3])) 2 [.val 0 T3, .val 1 T3, .var 4 T52] [.val 0 T3, .val 1 T3, .var 4 T52] (runOf Γ d_u26f a_u26f Try.f69 [.val T3, .val T3] [T52,T3] 2) k (v0,v1,v4)
theorem u26f_eq (k : Nat) (a : T3.den) (b : T3.den) : u26f k a b = bnd (u26f_l0 k a b ((0 : Int),(0 : Int),(0 : Int),([] : List UInt8),())) (fun y1=>bnd (u26f_l2 k y1.1 y1.2.1 y1.2.2) (fun y2=>br (decide (y2.1 > 1000000000)) (some (((0 : Int),(0 : Int),(0 : Int),([] : List UInt8),()),3)) (br (decide (y2.1 < -1000000000)) (some (((0 : Int),(0 : Int),(0 : Int),([] : List UInt8),()),3)) (some (((3 : Int),y2.1,y2.2.1,([] : List UInt8),()),0))))):=by kernel_rfl
theorem u26f_l0_zero (v0 : T3.den) (v1 : T3.den) (v4 : T52.den) : u26f_l0 0 v0 v1 v4 = none:=by kernel_rfl
theorem u26f_l0_succ (k : Nat) (v0 : T3.den) (v1 : T3.den) (v4 : T52.den) : u26f_l0 (k + 1) v0 v1 v4 = br (decide (v1 > 6)) (bnd (u24f k (IntKind.i64.wrap (v1 - 6))) (fun y1=>bnd (u25f k v0 y1) (fun y2=>u26f_l0 k y2 6 v4))) (some (v0,v1,v4.1,v4.2.1,v4.2.2.1,v4.2.2.2.1,())):=by kernel_rfl
theorem u26f_l2_zero (v0 : T3.den) (v1 : T3.den) (v4 : T52.den) : u26f_l2 0 v0 v1 v4 = none:=by kernel_rfl
theorem u26f_l2_succ (k : Nat) (v0 : T3.den) (v1 : T3.den) (v4 : T52.den) : u26f_l2 (k + 1) v0 v1 v4 = br (decide (v1 > 0)) (br (!10 == 0) (br (Int.tmod v0 10 == 0) (br (!10 == 0) (u26f_l2 k (IntKind.i64.wrap (Int.tdiv v0 10)) (IntKind.i64.wrap (v1 - 1)) v4) (none)) (some (v0,v1,v4.1,v4.2.1,v4.2.2.1,v4.2.2.2.1,()))) (none)) (some (v0,v1,v4.1,v4.2.1,v4.2.2.1,v4.2.2.2.1,())):=by kernel_rfl
def c_u26f : Con:=⟨[.val T3, .val T3],[T52,T3],fun k x=>u26f k x.1 x.2.1⟩
theorem del_u26f {w0 : World} (hS : Stops w0) : DelOk Try.prog w0 d_u26f:=.cons (ok_u24f hS) ent_u24f (.cons (ok_u25f hS) ent_u25f (.nil))
theorem ok_u26f {w0 : World} (hS : Stops w0) : Keeps Try.prog w0 69 c_u26f:=.con (y9q (A:=a_u26f) y28q (del_u26f hS) (draws (del_u26f hS)) Try.func69 (by kernel_rfl) (fun k x=>by kernel_rfl) (by kernel_rfl)) (by kernel_rfl)
theorem ent_u26f : Enters' Try.prog 69:=enters' Try.func69 (by kernel_rfl)
attribute [irreducible] u26f u26f_l0 u26f_l2
def a_u27f : Ann:=⟨[],[]⟩
def d_u27f : List (Nat × Con):=[]
def u27f (k : Nat) (a : T9.den) : Option (den1 [T52]):=evFn Γ d_u27f a_u27f Try.f70 [.val T9] [T52] k (a,())
theorem u27f_eq (k : Nat) (a : T9.den) : u27f k a = some (4,0,0,a,()):=by kernel_rfl
def c_u27f : Con:=⟨[.val T9],[T52],fun k x=>u27f k x.1⟩
theorem del_u27f {w0 : World} (hS : Stops w0) : DelOk Try.prog w0 d_u27f:=.nil
theorem ok_u27f {w0 : World} (hS : Stops w0) : Keeps Try.prog w0 70 c_u27f:=.con (y9q (A:=a_u27f) y28q (del_u27f hS) (draws (del_u27f hS)) Try.func70 (by kernel_rfl) (fun k x=>by kernel_rfl) (by kernel_rfl)) (by kernel_rfl)
theorem ent_u27f : Enters' Try.prog 70:=enters' Try.func70 (by kernel_rfl)
attribute [irreducible] u27f
def a_u28f : Ann:=⟨[(1,[.val 0 T9, .var 2 T52, .val 8 T3],⟨[.var 2 T52],false⟩)],[(16,⟨[.val 0 T9, .var 2 T52, .val 4 T3, .val 5 T3],false⟩)]⟩
def d_u28f : List (Nat × Con):=[(20,c_u19f),(47,c_u21f),(67,c_u22f),(68,c_u23f),(69,c_u26f),(70,c_u27f)]
def u28f (k : Nat) (a : T9.den) : Option (den1 [T52,T3]):=evFn Γ d_u28f a_u28f Try.f46 [.val T9] [T52,T3] k (a,())
def u28f_l1 (k : Nat) (v0 : T9.den) (v2 : T52.den) (v8 : T3.den) : Option ((Items.den [.var 2 T52]) ⊕ (den1 [T52,T3])):=loopR (ρ:=(den1 [T52,T3])) 1 [.val 0 T9, .var 2 T52, .val 8 T3] [.var 2 T52] (runOf Γ d_u28f a_u28f Try.f46 [.val T9] [T52,T3] 1) k (v0,v2,v8)
theorem u28f_eq (k : Nat) (a : T9.den) : u28f k a = br (decide (0 ≤ 0)) (br (decide (0 < (List.length a : Int))) (br ((↑(List.getD a (Int.toNat 0) 0).toNat : Int) == 1) (some (((0 : Int),(0 : Int),(0 : Int),([] : List UInt8),()),1)) (br ((↑(List.getD a (Int.toNat 0) 0).toNat : Int) == 2) (br (decide ((List.length a : Int) > 1)) (br (decide (0 ≤ 1)) (br (decide (1 < (List.length a : Int))) (br (decide ((↑(List.getD a (Int.toNat 1) 0).toNat : Int) < 2)) (br (decide (0 ≤ 1)) (br (decide (1 < (List.length a : Int))) (bnd (u22f k ((↑(List.getD a (Int.toNat 1) 0).toNat : Int) == 1)) (fun y1=>some (y1,2))) (none)) (none)) (some (((0 : Int),(0 : Int),(0 : Int),([] : List UInt8),()),0))) (none)) (none)) (some (((0 : Int),(0 : Int),(0 : Int),([] : List UInt8),()),0))) (br ((↑(List.getD a (Int.toNat 0) 0).toNat : Int) == 3) (br (decide ((List.length a : Int) < 13)) (some (((0 : Int),(0 : Int),(0 : Int),([] : List UInt8),()),0)) (br (decide (0 ≤ 1)) (br (decide (1 < (List.length a : Int))) (br (decide ((↑(List.getD a (Int.toNat 1) 0).toNat : Int) ≥ 128)) (some (((0 : Int),(0 : Int),(0 : Int),([] : List UInt8),()),0)) (br (decide (0 ≤ 1)) (br (decide (1 ≤ 9)) (br (decide (9 ≤ (List.length a : Int))) (bnd (u23f k (List.drop (Int.toNat 1) (List.take (Int.toNat 9) a))) (fun y1=>br (decide (0 ≤ 9)) (br (decide (9 ≤ 12)) (br (decide (12 ≤ (List.length a : Int))) (bnd (u23f k (List.drop (Int.toNat 9) (List.take (Int.toNat 12) a))) (fun y2=>br (decide (IntKind.i64.wrap (y1 - 1152921504606846976) > 1000000000000000)) (some (((0 : Int),(0 : Int),(0 : Int),([] : List UInt8),()),0)) (br (decide (IntKind.i64.wrap (y1 - 1152921504606846976) < -1000000000000000)) (some (((0 : Int),(0 : Int),(0 : Int),([] : List UInt8),()),0)) (br (decide (y2 > 999999)) (some (((0 : Int),(0 : Int),(0 : Int),([] : List UInt8),()),0)) (bnd (br (decide (0 ≤ 12)) (br (decide (12 < (List.length a : Int))) (br ((↑(List.getD a (Int.toNat 12) 0).toNat : Int) == 2) (br (y2 == 0) (bnd (u19f k (IntKind.i64.wrap (y1 - 1152921504606846976))) (fun y3=>some (Sum.inr (y3,13)))) (some (Sum.inl (a,((0 : Int),(0 : Int),(0 : Int),([] : List UInt8),()),IntKind.i64.wrap (y1 - 1152921504606846976),y2)))) (some (Sum.inl (a,((0 : Int),(0 : Int),(0 : Int),([] : List UInt8),()),IntKind.i64.wrap (y1 - 1152921504606846976),y2)))) (none)) (none)) (fun y3=>onSum y3 (fun y4=>br (decide (0 ≤ 12)) (br (decide (12 < (List.length y4.1 : Int))) (br ((↑(List.getD y4.1 (Int.toNat 12) 0).toNat : Int) == 3) (br (decide (y4.2.2.1 ≤ 1000000000)) (br (decide (y4.2.2.1 ≥ -1000000000)) (bnd (u26f k (IntKind.i64.wrap (IntKind.i64.wrap (y4.2.2.1 * 1000000) + y4.2.2.2)) 6) (fun y5=>br (y5.2 == 0) (some (y5.1,13)) (some (((0 : Int),(0 : Int),(0 : Int),([] : List UInt8),()),0)))) (some (((0 : Int),(0 : Int),(0 : Int),([] : List UInt8),()),0))) (some (((0 : Int),(0 : Int),(0 : Int),([] : List UInt8),()),0))) (some (((0 : Int),(0 : Int),(0 : Int),([] : List UInt8),()),0))) (none)) (none)) (fun y4=>some y4))))))) (none)) (none)) (none))) (none)) (none)) (none))) (none)) (none))) (br ((↑(List.getD a (Int.toNat 0) 0).toNat : Int) == 4) (bnd (u28f_l1 k a ((0 : Int),(0 : Int),(0 : Int),([] : List UInt8),()) 1) (fun y1=>onSum y1 (fun y2=>some (((0 : Int),(0 : Int),(0 : Int),([] : List UInt8),()),0)) (fun y2=>some y2))) (br ((↑(List.getD a (Int.toNat 0) 0).toNat : Int) == 5) (br (decide ((List.length a : Int) ≥ 4)) (br (decide (0 ≤ 1)) (br (decide (1 ≤ 4)) (br (decide (4 ≤ (List.length a : Int))) (bnd (u23f k (List.drop (Int.toNat 1) (List.take (Int.toNat 4) a))) (fun y1=>br (decide (y1 ≤ 3652058)) (br (decide (0 ≤ 1)) (br (decide (1 ≤ 4)) (br (decide (4 ≤ (List.length a : Int))) (bnd (u23f k (List.drop (Int.toNat 1) (List.take (Int.toNat 4) a))) (fun y2=>some (((5 : Int),y2,(0 : Int),([] : List UInt8),()),4))) (none)) (none)) (none)) (some (((0 : Int),(0 : Int),(0 : Int),([] : List UInt8),()),0)))) (none)) (none)) (none)) (some (((0 : Int),(0 : Int),(0 : Int),([] : List UInt8),()),0))) (some (((0 : Int),(0 : Int),(0 : Int),([] : List UInt8),()),0))))))) (none)) (none):=by kernel_rfl
theorem u28f_l1_zero (v0 : T9.den) (v2 : T52.den) (v8 : T3.den) : u28f_l1 0 v0 v2 v8 = none:=by kernel_rfl
theorem u28f_l1_succ (k : Nat) (v0 : T9.den) (v2 : T52.den) (v8 : T3.den) : u28f_l1 (k + 1) v0 v2 v8 = br (decide (v8 < (List.length v0 : Int))) (br (decide (0 ≤ v8)) (br (decide (v8 < (List.length v0 : Int))) (br ((↑(List.getD v0 (Int.toNat v8) 0).toNat : Int) == 0) (br (decide (0 ≤ 1)) (br (decide (1 ≤ v8)) (br (decide (v8 ≤ (List.length v0 : Int))) (bnd (u27f k (List.drop (Int.toNat 1) (List.take (Int.toNat v8) v0))) (fun y1=>bnd (u21f k y1) (fun y2=>br (!y2) (some (Sum.inr (((0 : Int),(0 : Int),(0 : Int),([] : List UInt8),()),0))) (some (Sum.inr (y1,IntKind.i64.wrap (v8 + 1))))))) (none)) (none)) (none)) (u28f_l1 k v0 v2 (IntKind.i64.wrap (v8 + 1)))) (none)) (none)) (some (Sum.inl v2)):=by kernel_rfl
def c_u28f : Con:=⟨[.val T9],[T52,T3],fun k x=>u28f k x.1⟩
theorem del_u28f {w0 : World} (hS : Stops w0) : DelOk Try.prog w0 d_u28f:=.cons (ok_u19f hS) ent_u19f (.cons (ok_u21f hS) ent_u21f (.cons (ok_u22f hS) ent_u22f (.cons (ok_u23f hS) ent_u23f (.cons (ok_u26f hS) ent_u26f (.cons (ok_u27f hS) ent_u27f (.nil))))))
theorem ok_u28f {w0 : World} (hS : Stops w0) : Keeps Try.prog w0 46 c_u28f:=.con (y9q (A:=a_u28f) y28q (del_u28f hS) (draws (del_u28f hS)) Try.func46 (by kernel_rfl) (fun k x=>by kernel_rfl) (by kernel_rfl)) (by kernel_rfl)
theorem ent_u28f : Enters' Try.prog 46:=enters' Try.func46 (by kernel_rfl)
attribute [irreducible] u28f u28f_l1
def a_u29f : Ann:=⟨[(0,[.val 0 T9, .val 4 O31],⟨[.val 4 O31],false⟩)],[]⟩
def d_u29f : List (Nat × Con):=[(46,c_u28f)]
def u29f (k : Nat) (a : T9.den) : Option (den1 [T31,T3]):=evFn Γ d_u29f a_u29f Try.f19 [.val T9] [T31,T3] k (a,())
def u29f_l0 (k : Nat) (v0 : T9.den) (v4 : O31.den) : Option ((Items.den [.val 4 O31]) ⊕ (den1 [T31,T3])):=loopR (ρ:=(den1 [T31,T3])) 0 [.val 0 T9, .val 4 O31] [.val 4 O31] (runOf Γ d_u29f a_u29f Try.f19 [.val T9] [T31,T3] 0) k (v0,v4)
theorem u29f_eq (k : Nat) (a : T9.den) : u29f k a = br (decide ((List.length a : Int) > 4000)) (some ([],5)) (bnd (u29f_l0 k a []) (fun y1=>onSum y1 (fun y2=>some (y2,0)) (fun y2=>some y2))):=by kernel_rfl
theorem u29f_l0_zero (v0 : T9.den) (v4 : O31.den) : u29f_l0 0 v0 v4 = none:=by kernel_rfl
theorem u29f_l0_succ (k : Nat) (v0 : T9.den) (v4 : O31.den) : u29f_l0 (k + 1) v0 v4 = br (decide ((List.length v0 : Int) > 0)) (bnd (u28f k v0) (fun y1=>br (y1.2 == 0) (some (Sum.inr ([],5))) (br (decide ((List.length v4 : Int) ≥ 16)) (some (Sum.inr ([],5))) (br (decide (List.length v4 + [y1.1].length ≤ capN)) (br (decide (0 ≤ y1.2)) (br (decide (y1.2 ≤ (List.length v0 : Int))) (u29f_l0 k (List.drop (Int.toNat y1.2) v0) (v4 ++ [y1.1])) (none)) (none)) (none))))) (some (Sum.inl v4)):=by kernel_rfl
def c_u29f : Con:=⟨[.val T9],[T31,T3],fun k x=>u29f k x.1⟩
theorem del_u29f {w0 : World} (hS : Stops w0) : DelOk Try.prog w0 d_u29f:=.cons (ok_u28f hS) ent_u28f (.nil)
theorem ok_u29f {w0 : World} (hS : Stops w0) : Keeps Try.prog w0 19 c_u29f:=.con (y9q (A:=a_u29f) y28q (del_u29f hS) (draws (del_u29f hS)) Try.func19 (by kernel_rfl) (fun k x=>by kernel_rfl) (by kernel_rfl)) (by kernel_rfl)
theorem ent_u29f : Enters' Try.prog 19:=enters' Try.func19 (by kernel_rfl)
attribute [irreducible] u29f u29f_l0
def a_u30f : Ann:=⟨[(0,[.val 1 T31, .var 2 T37, .val 5 T3],⟨[],false⟩)],[]⟩
def d_u30f : List (Nat × Con):=[(47,c_u21f)]
def u30f (k : Nat) (a : T37.den) (b : T31.den) : Option (den1 [T4]):=evFn Γ d_u30f a_u30f Try.f22 [.val T37, .val T31] [T4] k (a,b,())
def u30f_l0 (k : Nat) (v1 : T31.den) (v2 : T37.den) (v5 : T3.den) : Option ((Items.den []) ⊕ (den1 [T4])):=loopR (ρ:=(den1 [T4])) 0 [.val 1 T31, .var 2 T37, .val 5 T3] [] (runOf Γ d_u30f a_u30f Try.f22 [.val T37, .val T31] [T4] 0) k (v1,v2,v5)
theorem u30f_eq (k : Nat) (a : T37.den) (b : T31.den) : u30f k a b = br ((List.length b : Int) != (List.length a.2.2.2.1 : Int)) (some false) (bnd (u30f_l0 k b a 0) (fun y1=>onSum y1 (fun y2=>some true) (fun y2=>some y2))):=by kernel_rfl
theorem u30f_l0_zero (v1 : T31.den) (v2 : T37.den) (v5 : T3.den) : u30f_l0 0 v1 v2 v5 = none:=by kernel_rfl
theorem u30f_l0_succ (k : Nat) (v1 : T31.den) (v2 : T37.den) (v5 : T3.den) : u30f_l0 (k + 1) v1 v2 v5 = br (decide (v5 < (List.length v1 : Int))) (br (decide (0 ≤ v5)) (br (decide (v5 < (List.length v1 : Int))) (bnd (u21f k (List.getD v1 (Int.toNat v5) T52.zero)) (fun y1=>br (!y1) (some (Sum.inr false)) (br (decide (0 ≤ v5)) (br (decide (v5 < (List.length v1 : Int))) (br ((List.getD v1 (Int.toNat v5) T52.zero).1 != 0) (br (decide (0 ≤ v5)) (br (decide (v5 < (List.length v1 : Int))) (br (decide (0 ≤ v5)) (br (decide (v5 < (List.length v2.2.2.2.1 : Int))) (br ((List.getD v1 (Int.toNat v5) T52.zero).1 != (List.getD v2.2.2.2.1 (Int.toNat v5) T59.zero).2.2.1) (some (Sum.inr false)) (br (decide (0 ≤ v5)) (br (decide (v5 < (List.length v1 : Int))) (br ((List.getD v1 (Int.toNat v5) T52.zero).1 == 0) (br (decide (0 ≤ v5)) (br (decide (v5 < (List.length v2.2.2.2.1 : Int))) (br ((List.getD v2.2.2.2.1 (Int.toNat v5) T59.zero).2.2.2.1) (some (Sum.inr false)) (u30f_l0 k v1 v2 (IntKind.i64.wrap (v5 + 1)))) (none)) (none)) (u30f_l0 k v1 v2 (IntKind.i64.wrap (v5 + 1)))) (none)) (none))) (none)) (none)) (none)) (none)) (br (decide (0 ≤ v5)) (br (decide (v5 < (List.length v1 : Int))) (br ((List.getD v1 (Int.toNat v5) T52.zero).1 == 0) (br (decide (0 ≤ v5)) (br (decide (v5 < (List.length v2.2.2.2.1 : Int))) (br ((List.getD v2.2.2.2.1 (Int.toNat v5) T59.zero).2.2.2.1) (some (Sum.inr false)) (u30f_l0 k v1 v2 (IntKind.i64.wrap (v5 + 1)))) (none)) (none)) (u30f_l0 k v1 v2 (IntKind.i64.wrap (v5 + 1)))) (none)) (none))) (none)) (none)))) (none)) (none)) (some (Sum.inl ())):=by kernel_rfl
def c_u30f : Con:=⟨[.val T37, .val T31],[T4],fun k x=>u30f k x.1 x.2.1⟩
theorem del_u30f {w0 : World} (hS : Stops w0) : DelOk Try.prog w0 d_u30f:=.cons (ok_u21f hS) ent_u21f (.nil)
theorem ok_u30f {w0 : World} (hS : Stops w0) : Keeps Try.prog w0 22 c_u30f:=.con (y9q (A:=a_u30f) y28q (del_u30f hS) (draws (del_u30f hS)) Try.func22 (by kernel_rfl) (fun k x=>by kernel_rfl) (by kernel_rfl)) (by kernel_rfl)
theorem ent_u30f : Enters' Try.prog 22:=enters' Try.func22 (by kernel_rfl)
attribute [irreducible] u30f u30f_l0
def a_u31f : Ann:=⟨[(0,[.var 2 T37, .val 6 O31, .val 7 T31, .val 9 T31, .val 11 O31, .val 12 T3, .val 13 T3],⟨[.var 2 T37, .val 6 O31, .val 7 T31, .val 11 O31],false⟩),(2,[.var 2 T37, .val 6 O31, .val 7 T31, .val 11 O31, .val 15 T3],⟨[.val 11 O31],false⟩)],[(15,⟨[.var 2 T37, .val 6 O31, .val 7 T31, .val 9 T31, .val 11 O31, .val 13 T3],false⟩)]⟩
def d_u31f : List (Nat × Con):=[(18,c_u18f),(19,c_u29f),(20,c_u19f),(21,c_u8f),(22,c_u30f)]
def u31f (k : Nat) (a : T37.den) (b : T39.den) : Option (den1 [T31,T3]):=evFn Γ d_u31f a_u31f Try.f6 [.val T37, .val T39] [T31,T3] k (a,b,())
def u31f_l0 (k : Nat) (v2 : T37.den) (v6 : O31.den) (v7 : T31.den) (v9 : T31.den) (v11 : O31.den) (v12 : T3.den) (v13 : T3.den) : Option ((Items.den [.var 2 T37, .val 6 O31, .val 7 T31, .val 11 O31]) ⊕ (den1 [T31,T3])):=loopR (ρ:=(den1 [T31,T3])) 0 [.var 2 T37, .val 6 O31, .val 7 T31, .val 9 T31, .val 11 O31, .val 12 T3, .val 13 T3] [.var 2 T37, .val 6 O31, .val 7 T31, .val 11 O31] (runOf Γ d_u31f a_u31f Try.f6 [.val T37, .val T39] [T31,T3] 0) k (v2,v6,v7,v9,v11,v12,v13)
def u31f_l2 (k : Nat) (v2 : T37.den) (v6 : O31.den) (v7 : T31.den) (v11 : O31.den) (v15 : T3.den) : Option ((Items.den [.val 11 O31]) ⊕ (den1 [T31,T3])):=loopR (ρ:=(den1 [T31,T3])) 2 [.var 2 T37, .val 6 O31, .val 7 T31, .val 11 O31, .val 15 T3] [.val 11 O31] (runOf Γ d_u31f a_u31f Try.f6 [.val T37, .val T39] [T31,T3] 2) k (v2,v6,v7,v11,v15)
theorem u31f_eq (k : Nat) (a : T37.den) (b : T39.den) : u31f k a b = bnd (u18f k a) (fun y1=>br (!y1) (some ([],1)) (bnd (u29f k b.1) (fun y2=>bnd (u29f k b.2.1) (fun y3=>br (y2.2 != 0) (some ([],5)) (br (y3.2 != 0) (some ([],5)) (br ((List.length y2.1 : Int) != IntKind.i64.wrap ((List.length a.2.2.2.2.1 : Int) + 2)) (some ([],5)) (br (!2 == 0) (br ((List.length y3.1 : Int).tmod 2 != 0) (some ([],5)) (br (decide (0 ≤ 0)) (br (decide (0 < (List.length y2.1 : Int))) (bnd (u19f k a.1) (fun y4=>br (!andB (eqI (List.getD y2.1 (Int.toNat 0) T52.zero).1 y4.1) (andB (eqI (List.getD y2.1 (Int.toNat 0) T52.zero).2.1 y4.2.1) (andB (eqI (List.getD y2.1 (Int.toNat 0) T52.zero).2.2.1 y4.2.2.1) (andB (eqS (List.getD y2.1 (Int.toNat 0) T52.zero).2.2.2.1 y4.2.2.2.1) true)))) (some ([],5)) (br (decide (0 ≤ 1)) (br (decide (1 < (List.length y2.1 : Int))) (bnd (u19f k 0) (fun y5=>br (!andB (eqI (List.getD y2.1 (Int.toNat 1) T52.zero).1 y5.1) (andB (eqI (List.getD y2.1 (Int.toNat 1) T52.zero).2.1 y5.2.1) (andB (eqI (List.getD y2.1 (Int.toNat 1) T52.zero).2.2.1 y5.2.2.1) (andB (eqS (List.getD y2.1 (Int.toNat 1) T52.zero).2.2.2.1 y5.2.2.2.1) true)))) (some ([],5)) (br ((List.length a.2.2.2.1 : Int) == (List.length a.2.2.2.1 : Int)) (br (decide (0 ≤ (List.length a.2.2.2.1 : Int))) (br (decide ((List.length a.2.2.2.1 : Int) ≤ (↑capN : Int))) (bnd (u31f_l0 k a [] y2.1 y3.1 (List.replicate (List.length a.2.2.2.1 : Int).toNat (T3.pair (T3.pair (T3.pair (T9.pair Ty.unit)))).zero) 0 0) (fun y6=>onSum y6 (fun y7=>bnd (u30f k y7.1 y7.2.2.2) (fun y8=>br (!y8) (some (y7.2.1,5)) (bnd (u31f_l2 k y7.1 y7.2.1 y7.2.2.1 y7.2.2.2 0) (fun y9=>onSum y9 (fun y10=>some (y10,0)) (fun y10=>some y10))))) (fun y7=>some y7))) (none)) (none)) (none)))) (none)) (none)))) (none)) (none))) (none)))))))):=by kernel_rfl
theorem u31f_l0_zero (v2 : T37.den) (v6 : O31.den) (v7 : T31.den) (v9 : T31.den) (v11 : O31.den) (v12 : T3.den) (v13 : T3.den) : u31f_l0 0 v2 v6 v7 v9 v11 v12 v13 = none:=by kernel_rfl
theorem u31f_l0_succ (k : Nat) (v2 : T37.den) (v6 : O31.den) (v7 : T31.den) (v9 : T31.den) (v11 : O31.den) (v12 : T3.den) (v13 : T3.den) : u31f_l0 (k + 1) v2 v6 v7 v9 v11 v12 v13 = br (decide (v13 < (List.length v9 : Int))) (bnd (br (decide (0 ≤ v13)) (br (decide (v13 < (List.length v9 : Int))) (br ((List.getD v9 (Int.toNat v13) T52.zero).1 != 2) (some (Sum.inr (v6,5))) (br (decide (0 ≤ v13)) (br (decide (v13 < (List.length v9 : Int))) (br (decide ((List.getD v9 (Int.toNat v13) T52.zero).2.1 ≤ v12)) (br (decide (v13 > 0)) (some (Sum.inr (v6,5))) (br (decide (0 ≤ IntKind.i64.wrap (v13 + 1))) (br (decide (IntKind.i64.wrap (v13 + 1) < (List.length v9 : Int))) (br ((List.getD v9 (IntKind.i64.wrap (v13 + 1)).toNat T52.zero).1 == 0) (some (Sum.inr (v6,5))) (some (Sum.inl (v2,v6,v7,v9,v11,v13)))) (none)) (none))) (br (decide (0 ≤ IntKind.i64.wrap (v13 + 1))) (br (decide (IntKind.i64.wrap (v13 + 1) < (List.length v9 : Int))) (br ((List.getD v9 (IntKind.i64.wrap (v13 + 1)).toNat T52.zero).1 == 0) (some (Sum.inr (v6,5))) (some (Sum.inl (v2,v6,v7,v9,v11,v13)))) (none)) (none))) (none)) (none))) (none)) (none)) (fun y1=>onSum y1 (fun y2=>br (decide (0 ≤ y2.2.2.2.2.2)) (br (decide (y2.2.2.2.2.2 < (List.length y2.2.2.2.1 : Int))) (bnd (u8f k y2.1 (List.getD y2.2.2.2.1 (Int.toNat y2.2.2.2.2.2) T52.zero).2.1) (fun y3=>br (decide (y3 ≥ 0)) (br (decide (0 ≤ IntKind.i64.wrap (y2.2.2.2.2.2 + 1))) (br (decide (IntKind.i64.wrap (y2.2.2.2.2.2 + 1) < (List.length y2.2.2.2.1 : Int))) (br (decide (0 ≤ y3)) (br (decide (y3 < (List.length y2.2.2.2.2.1 : Int))) (u31f_l0 k y2.1 y2.2.1 y2.2.2.1 y2.2.2.2.1 (List.set y2.2.2.2.2.1 (Int.toNat y3) (List.getD y2.2.2.2.1 (IntKind.i64.wrap (y2.2.2.2.2.2 + 1)).toNat T52.zero)) (List.getD y2.2.2.2.1 (Int.toNat y2.2.2.2.2.2) T52.zero).2.1 (IntKind.i64.wrap (y2.2.2.2.2.2 + 2))) (none)) (none)) (none)) (none)) (u31f_l0 k y2.1 y2.2.1 y2.2.2.1 y2.2.2.2.1 y2.2.2.2.2.1 (List.getD y2.2.2.2.1 (Int.toNat y2.2.2.2.2.2) T52.zero).2.1 (IntKind.i64.wrap (y2.2.2.2.2.2 + 2))))) (none)) (none)) (fun y2=>some (Sum.inr y2)))) (some (Sum.inl (v2,v6,v7,v11))):=by kernel_rfl
theorem u31f_l2_zero (v2 : T37.den) (v6 : O31.den) (v7 : T31.den) (v11 : O31.den) (v15 : T3.den) : u31f_l2 0 v2 v6 v7 v11 v15 = none:=by kernel_rfl
theorem u31f_l2_succ (k : Nat) (v2 : T37.den) (v6 : O31.den) (v7 : T31.den) (v11 : O31.den) (v15 : T3.den) : u31f_l2 (k + 1) v2 v6 v7 v11 v15 = br (decide (v15 < (List.length v2.2.2.2.2.1 : Int))) (br (decide (0 ≤ v15)) (br (decide (v15 < (List.length v2.2.2.2.2.1 : Int))) (bnd (u8f k v2 (List.getD v2.2.2.2.2.1 (Int.toNat v15) T3.zero)) (fun y1=>br (decide (0 ≤ y1)) (br (decide (y1 < (List.length v11 : Int))) (br (decide (0 ≤ IntKind.i64.wrap (v15 + 2))) (br (decide (IntKind.i64.wrap (v15 + 2) < (List.length v7 : Int))) (br (!andB (eqI (List.getD v11 (Int.toNat y1) T52.zero).1 (List.getD v7 (IntKind.i64.wrap (v15 + 2)).toNat T52.zero).1) (andB (eqI (List.getD v11 (Int.toNat y1) T52.zero).2.1 (List.getD v7 (IntKind.i64.wrap (v15 + 2)).toNat T52.zero).2.1) (andB (eqI (List.getD v11 (Int.toNat y1) T52.zero).2.2.1 (List.getD v7 (IntKind.i64.wrap (v15 + 2)).toNat T52.zero).2.2.1) (andB (eqS (List.getD v11 (Int.toNat y1) T52.zero).2.2.2.1 (List.getD v7 (IntKind.i64.wrap (v15 + 2)).toNat T52.zero).2.2.2.1) true)))) (some (Sum.inr (v6,5))) (u31f_l2 k v2 v6 v7 v11 (IntKind.i64.wrap (v15 + 1)))) (none)) (none)) (none)) (none))) (none)) (none)) (some (Sum.inl v11)):=by kernel_rfl
def c_u31f : Con:=⟨[.val T37, .val T39],[T31,T3],fun k x=>u31f k x.1 x.2.1⟩
theorem del_u31f {w0 : World} (hS : Stops w0) : DelOk Try.prog w0 d_u31f:=.cons (ok_u18f hS) ent_u18f (.cons (ok_u29f hS) ent_u29f (.cons (ok_u19f hS) ent_u19f (.cons (ok_u8f hS) ent_u8f (.cons (ok_u30f hS) ent_u30f (.nil)))))
theorem ok_u31f {w0 : World} (hS : Stops w0) : Keeps Try.prog w0 6 c_u31f:=.con (y9q (A:=a_u31f) y28q (del_u31f hS) (draws (del_u31f hS)) Try.func6 (by kernel_rfl) (fun k x=>by kernel_rfl) (by kernel_rfl)) (by kernel_rfl)
theorem ent_u31f : Enters' Try.prog 6:=enters' Try.func6 (by kernel_rfl)
attribute [irreducible] u31f u31f_l0 u31f_l2
def a_u32f : Ann:=⟨[],[]⟩
def d_u32f : List (Nat × Con):=[]
def u32f (k : Nat) (a : T69.den) : Option (den1 [T59]):=evFn Γo d_u32f a_u32f Try.f48 [.val T69] [T59] k (a,())
theorem u32f_eq (k : Nat) (a : T69.den) : u32f k a = some a:=by kernel_rfl
def c_u32f : Con:=⟨[.val T69],[T59],fun k x=>u32f k x.1⟩
theorem del_u32f {w0 : World} (hS : Stops w0) : DelOk Try.prog w0 d_u32f:=.nil
theorem ok_u32f {w0 : World} (hS : Stops w0) : Keeps Try.prog w0 48 c_u32f:=.con (y9q (A:=a_u32f) y71q (del_u32f hS) (drawso (del_u32f hS)) Try.func48 (by kernel_rfl) (fun k x=>by kernel_rfl) (by kernel_rfl)) (by kernel_rfl)
theorem ent_u32f : Enters' Try.prog 48:=enters' Try.func48 (by kernel_rfl)
attribute [irreducible] u32f
def a_u33f : Ann:=⟨[(0,[.val 0 T22, .val 3 O34, .val 4 T3],⟨[.val 3 O34],true⟩)],[]⟩
def d_u33f : List (Nat × Con):=[(48,c_u32f)]
def u33f (k : Nat) (a : T22.den) : Option (den1 [O34]):=evFn Γo d_u33f a_u33f Try.f23 [.val T22] [O34] k (a,())
def u33f_l0 (k : Nat) (v0 : T22.den) (v3 : O34.den) (v4 : T3.den) : Option (Items.den [.val 3 O34]):=loopQ (ρ:=(den1 [O34])) 0 [.val 0 T22, .val 3 O34, .val 4 T3] [.val 3 O34] (runOf Γo d_u33f a_u33f Try.f23 [.val T22] [O34] 0) k (v0,v3,v4)
theorem u33f_eq (k : Nat) (a : T22.den) : u33f k a = br ((List.length a : Int) == (List.length a : Int)) (br (decide (0 ≤ (List.length a : Int))) (br (decide ((List.length a : Int) ≤ (↑capN : Int))) (bnd (u33f_l0 k a (List.replicate (List.length a : Int).toNat (T3.pair (T9.pair (T3.pair (T4.pair Ty.unit)))).zero) 0) (fun y1=>some y1)) (none)) (none)) (none):=by kernel_rfl
theorem u33f_l0_zero (v0 : T22.den) (v3 : O34.den) (v4 : T3.den) : u33f_l0 0 v0 v3 v4 = none:=by kernel_rfl
theorem u33f_l0_succ (k : Nat) (v0 : T22.den) (v3 : O34.den) (v4 : T3.den) : u33f_l0 (k + 1) v0 v3 v4 = br (decide (v4 < (List.length v0 : Int))) (br (decide (0 ≤ v4)) (br (decide (v4 < (List.length v0 : Int))) (bnd (u32f k (List.getD v0 (Int.toNat v4) T69.zero)) (fun y1=>br (decide (0 ≤ v4)) (br (decide (v4 < (List.length v3 : Int))) (u33f_l0 k v0 (List.set v3 (Int.toNat v4) y1) (IntKind.i64.wrap (v4 + 1))) (none)) (none))) (none)) (none)) (some v3):=by kernel_rfl
def c_u33f : Con:=⟨[.val T22],[O34],fun k x=>u33f k x.1⟩
theorem del_u33f {w0 : World} (hS : Stops w0) : DelOk Try.prog w0 d_u33f:=.cons (ok_u32f hS) ent_u32f (.nil)
theorem ok_u33f {w0 : World} (hS : Stops w0) : Keeps Try.prog w0 23 c_u33f:=.gn (y53q (A:=a_u33f) y71q (del_u33f hS) (drawso (del_u33f hS)) Try.func23 (by kernel_rfl) (fun k x=>by kernel_rfl) (by kernel_rfl)) (by kernel_rfl)
theorem ent_u33f : Enters' Try.prog 23:=enters' Try.func23 (by kernel_rfl)
attribute [irreducible] u33f u33f_l0
def a_u34f : Ann:=⟨[(0,[.val 0 T23, .val 3 O23, .val 4 T3],⟨[.val 3 O23],true⟩)],[]⟩
def d_u34f : List (Nat × Con):=[]
def u34f (k : Nat) (a : T23.den) : Option (den1 [O23]):=evFn Γo d_u34f a_u34f Try.f24 [.val T23] [O23] k (a,())
def u34f_l0 (k : Nat) (v0 : T23.den) (v3 : O23.den) (v4 : T3.den) : Option (Items.den [.val 3 O23]):=loopQ (ρ:=(den1 [O23])) 0 [.val 0 T23, .val 3 O23, .val 4 T3] [.val 3 O23] (runOf Γo d_u34f a_u34f Try.f24 [.val T23] [O23] 0) k (v0,v3,v4)
theorem u34f_eq (k : Nat) (a : T23.den) : u34f k a = br ((List.length a : Int) == (List.length a : Int)) (br (decide (0 ≤ (List.length a : Int))) (br (decide ((List.length a : Int) ≤ (↑capN : Int))) (bnd (u34f_l0 k a (List.replicate (List.length a : Int).toNat (Ty.int IntKind.i64).zero) 0) (fun y1=>some y1)) (none)) (none)) (none):=by kernel_rfl
theorem u34f_l0_zero (v0 : T23.den) (v3 : O23.den) (v4 : T3.den) : u34f_l0 0 v0 v3 v4 = none:=by kernel_rfl
theorem u34f_l0_succ (k : Nat) (v0 : T23.den) (v3 : O23.den) (v4 : T3.den) : u34f_l0 (k + 1) v0 v3 v4 = br (decide (v4 < (List.length v0 : Int))) (br (decide (0 ≤ v4)) (br (decide (v4 < (List.length v0 : Int))) (br (decide (0 ≤ v4)) (br (decide (v4 < (List.length v3 : Int))) (u34f_l0 k v0 (List.set v3 (Int.toNat v4) (List.getD v0 (Int.toNat v4) T3.zero)) (IntKind.i64.wrap (v4 + 1))) (none)) (none)) (none)) (none)) (some v3):=by kernel_rfl
def c_u34f : Con:=⟨[.val T23],[O23],fun k x=>u34f k x.1⟩
theorem del_u34f {w0 : World} (hS : Stops w0) : DelOk Try.prog w0 d_u34f:=.nil
theorem ok_u34f {w0 : World} (hS : Stops w0) : Keeps Try.prog w0 24 c_u34f:=.gn (y53q (A:=a_u34f) y71q (del_u34f hS) (drawso (del_u34f hS)) Try.func24 (by kernel_rfl) (fun k x=>by kernel_rfl) (by kernel_rfl)) (by kernel_rfl)
theorem ent_u34f : Enters' Try.prog 24:=enters' Try.func24 (by kernel_rfl)
attribute [irreducible] u34f u34f_l0
def a_u35f : Ann:=⟨[],[]⟩
def d_u35f : List (Nat × Con):=[(24,c_u34f)]
def u35f (k : Nat) (a : T72.den) : Option (den1 [O76]):=evFn Γo d_u35f a_u35f Try.f49 [.val T72] [O76] k (a,())
theorem u35f_eq (k : Nat) (a : T72.den) : u35f k a = bnd (u34f k a.2.2.1) (fun y1=>some (a.1,a.2.1,y1,a.2.2.2.1,a.2.2.2.2.1,a.2.2.2.2.2.1,())):=by kernel_rfl
def c_u35f : Con:=⟨[.val T72],[O76],fun k x=>u35f k x.1⟩
theorem del_u35f {w0 : World} (hS : Stops w0) : DelOk Try.prog w0 d_u35f:=.cons (ok_u34f hS) ent_u34f (.nil)
theorem ok_u35f {w0 : World} (hS : Stops w0) : Keeps Try.prog w0 49 c_u35f:=.gn (y53q (A:=a_u35f) y71q (del_u35f hS) (drawso (del_u35f hS)) Try.func49 (by kernel_rfl) (fun k x=>by kernel_rfl) (by kernel_rfl)) (by kernel_rfl)
theorem ent_u35f : Enters' Try.prog 49:=enters' Try.func49 (by kernel_rfl)
attribute [irreducible] u35f
def a_u36f : Ann:=⟨[(0,[.val 0 T24, .val 3 O35, .val 4 T3],⟨[.val 3 O35],true⟩)],[]⟩
def d_u36f : List (Nat × Con):=[(49,c_u35f)]
def u36f (k : Nat) (a : T24.den) : Option (den1 [O35]):=evFn Γo d_u36f a_u36f Try.f25 [.val T24] [O35] k (a,())
def u36f_l0 (k : Nat) (v0 : T24.den) (v3 : O35.den) (v4 : T3.den) : Option (Items.den [.val 3 O35]):=loopQ (ρ:=(den1 [O35])) 0 [.val 0 T24, .val 3 O35, .val 4 T3] [.val 3 O35] (runOf Γo d_u36f a_u36f Try.f25 [.val T24] [O35] 0) k (v0,v3,v4)
theorem u36f_eq (k : Nat) (a : T24.den) : u36f k a = br ((List.length a : Int) == (List.length a : Int)) (br (decide (0 ≤ (List.length a : Int))) (br (decide ((List.length a : Int) ≤ (↑capN : Int))) (bnd (u36f_l0 k a (List.replicate (List.length a : Int).toNat (T3.pair (T9.pair (O23.pair (T4.pair (T3.pair (T4.pair Ty.unit)))))).zero) 0) (fun y1=>some y1)) (none)) (none)) (none):=by kernel_rfl
theorem u36f_l0_zero (v0 : T24.den) (v3 : O35.den) (v4 : T3.den) : u36f_l0 0 v0 v3 v4 = none:=by kernel_rfl
theorem u36f_l0_succ (k : Nat) (v0 : T24.den) (v3 : O35.den) (v4 : T3.den) : u36f_l0 (k + 1) v0 v3 v4 = br (decide (v4 < (List.length v0 : Int))) (br (decide (0 ≤ v4)) (br (decide (v4 < (List.length v0 : Int))) (bnd (u35f k (List.getD v0 (Int.toNat v4) T72.zero)) (fun y1=>br (decide (0 ≤ v4)) (br (decide (v4 < (List.length v3 : Int))) (u36f_l0 k v0 (List.set v3 (Int.toNat v4) y1) (IntKind.i64.wrap (v4 + 1))) (none)) (none))) (none)) (none)) (some v3):=by kernel_rfl
def c_u36f : Con:=⟨[.val T24],[O35],fun k x=>u36f k x.1⟩
theorem del_u36f {w0 : World} (hS : Stops w0) : DelOk Try.prog w0 d_u36f:=.cons (ok_u35f hS) ent_u35f (.nil)
theorem ok_u36f {w0 : World} (hS : Stops w0) : Keeps Try.prog w0 25 c_u36f:=.gn (y53q (A:=a_u36f) y71q (del_u36f hS) (drawso (del_u36f hS)) Try.func25 (by kernel_rfl) (fun k x=>by kernel_rfl) (by kernel_rfl)) (by kernel_rfl)
theorem ent_u36f : Enters' Try.prog 25:=enters' Try.func25 (by kernel_rfl)
attribute [irreducible] u36f u36f_l0
def a_u37f : Ann:=⟨[],[]⟩
def d_u37f : List (Nat × Con):=[(23,c_u33f),(24,c_u34f),(25,c_u36f)]
def u37f (k : Nat) (a : T26.den) : Option (den1 [O37]):=evFn Γo d_u37f a_u37f Try.f7 [.val T26] [O37] k (a,())
theorem u37f_eq (k : Nat) (a : T26.den) : u37f k a = bnd (u33f k a.2.2.2.1) (fun y1=>bnd (u34f k a.2.2.2.2.1) (fun y2=>bnd (u36f k a.2.2.2.2.2.1) (fun y3=>some (a.1,a.2.1,a.2.2.1,y1,y2,y3,())))):=by kernel_rfl
def c_u37f : Con:=⟨[.val T26],[O37],fun k x=>u37f k x.1⟩
theorem del_u37f {w0 : World} (hS : Stops w0) : DelOk Try.prog w0 d_u37f:=.cons (ok_u33f hS) ent_u33f (.cons (ok_u34f hS) ent_u34f (.cons (ok_u36f hS) ent_u36f (.nil)))
theorem ok_u37f {w0 : World} (hS : Stops w0) : Keeps Try.prog w0 7 c_u37f:=.gn (y53q (A:=a_u37f) y71q (del_u37f hS) (drawso (del_u37f hS)) Try.func7 (by kernel_rfl) (fun k x=>by kernel_rfl) (by kernel_rfl)) (by kernel_rfl)
theorem ent_u37f : Enters' Try.prog 7:=enters' Try.func7 (by kernel_rfl)
attribute [irreducible] u37f
def a_u38f : Ann:=⟨[],[]⟩
def d_u38f : List (Nat × Con):=[]
def u38f (k : Nat) (a : T28.den) : Option (den1 [T39]):=evFn Γo d_u38f a_u38f Try.f8 [.val T28] [T39] k (a,())
theorem u38f_eq (k : Nat) (a : T28.den) : u38f k a = some a:=by kernel_rfl
def c_u38f : Con:=⟨[.val T28],[T39],fun k x=>u38f k x.1⟩
theorem del_u38f {w0 : World} (hS : Stops w0) : DelOk Try.prog w0 d_u38f:=.nil
theorem ok_u38f {w0 : World} (hS : Stops w0) : Keeps Try.prog w0 8 c_u38f:=.con (y9q (A:=a_u38f) y71q (del_u38f hS) (drawso (del_u38f hS)) Try.func8 (by kernel_rfl) (fun k x=>by kernel_rfl) (by kernel_rfl)) (by kernel_rfl)
theorem ent_u38f : Enters' Try.prog 8:=enters' Try.func8 (by kernel_rfl)
attribute [irreducible] u38f
def a_u39f : Ann:=⟨[],[]⟩
def d_u39f : List (Nat × Con):=[]
def u39f (k : Nat) (a : T59.den) (b : T3.den) : Option (den1 [T4]):=evFn Γ d_u39f a_u39f Try.f60 [.val T59, .ptr T3] [T4] k (a,b,())
theorem u39f_eq (k : Nat) (a : T59.den) (b : T3.den) : u39f k a b = some (a.1 == b):=by kernel_rfl
def c_u39f : Con:=⟨[.val T59, .ptr T3],[T4],fun k x=>u39f k x.1 x.2.1⟩
theorem del_u39f {w0 : World} (hS : Stops w0) : DelOk Try.prog w0 d_u39f:=.nil
theorem ok_u39f {w0 : World} (hS : Stops w0) : Keeps Try.prog w0 60 c_u39f:=.con (y9q (A:=a_u39f) y28q (del_u39f hS) (draws (del_u39f hS)) Try.func60 (by kernel_rfl) (fun k x=>by kernel_rfl) (by kernel_rfl)) (by kernel_rfl)
theorem ent_u39f : Enters' Try.prog 60:=enters' Try.func60 (by kernel_rfl)
attribute [irreducible] u39f
def a_slices_IndexFunc_Column : Ann:=⟨[(0,[.val 0 T34, .clo 1 60 [T3], .val 7 T3, .val 8 T3],⟨[],false⟩)],[]⟩
def d_slices_IndexFunc_Column : List (Nat × Con):=[(60,c_u39f)]
def slices_IndexFunc_Column (k : Nat) (a : T34.den) (b : (dens [T3])) : Option (den1 [T3]):=evFn Γ d_slices_IndexFunc_Column a_slices_IndexFunc_Column Try.f59 [.val T34, .clo 60 [T3]] [T3] k (a,b,())
def slices_IndexFunc_Column_l0 (k : Nat) (v0 : T34.den) (v1 : (dens [T3])) (v7 : T3.den) (v8 : T3.den) : Option ((Items.den []) ⊕ (den1 [T3])):=loopR (ρ:=(den1 [T3])) 0 [.val 0 T34, .clo 1 60 [T3], .val 7 T3, .val 8 T3] [] (runOf Γ d_slices_IndexFunc_Column a_slices_IndexFunc_Column Try.f59 [.val T34, .clo 60 [T3]] [T3] 0) k (v0,v1,v7,v8)
theorem y133q (k : Nat) (a : T34.den) (b : (dens [T3])) : slices_IndexFunc_Column k a b = bnd (slices_IndexFunc_Column_l0 k a (b.1,()) ((List.length a : Int)) 0) (fun y1=>onSum y1 (fun y2=>some (-1)) (fun y2=>some y2)):=by kernel_rfl
theorem slices_IndexFunc_Column_l0_zero (v0 : T34.den) (v1 : (dens [T3])) (v7 : T3.den) (v8 : T3.den) : slices_IndexFunc_Column_l0 0 v0 v1 v7 v8 = none:=by kernel_rfl
theorem y99q (k : Nat) (v0 : T34.den) (v1 : (dens [T3])) (v7 : T3.den) (v8 : T3.den) : slices_IndexFunc_Column_l0 (k + 1) v0 v1 v7 v8 = br (decide (v8 < v7)) (br (decide (0 ≤ v8)) (br (decide (v8 < (List.length v0 : Int))) (bnd (u39f k (List.getD v0 (Int.toNat v8) T59.zero) v1.1) (fun y1=>br (y1) (some (Sum.inr v8)) (slices_IndexFunc_Column_l0 k v0 (v1.1,()) v7 (IntKind.i64.wrap (v8 + 1))))) (none)) (none)) (some (Sum.inl ())):=by kernel_rfl
def c_slices_IndexFunc_Column : Con:=⟨[.val T34, .clo 60 [T3]],[T3],fun k x=>slices_IndexFunc_Column k x.1 x.2.1⟩
theorem y54q {w0 : World} (hS : Stops w0) : DelOk Try.prog w0 d_slices_IndexFunc_Column:=.cons (ok_u39f hS) ent_u39f (.nil)
theorem y134q {w0 : World} (hS : Stops w0) : Keeps Try.prog w0 59 c_slices_IndexFunc_Column:=.con (y9q (A:=a_slices_IndexFunc_Column) y28q (y54q hS) (draws (y54q hS)) Try.func59 (by kernel_rfl) (fun k x=>by kernel_rfl) (by kernel_rfl)) (by kernel_rfl)
theorem y123q : Enters' Try.prog 59:=enters' Try.func59 (by kernel_rfl)
attribute [irreducible] slices_IndexFunc_Column slices_IndexFunc_Column_l0
def a_u40f : Ann:=⟨[],[]⟩
def d_u40f : List (Nat × Con):=[(59,c_slices_IndexFunc_Column),(60,c_u39f)]
def u40f (k : Nat) (a : T37.den) (b : T3.den) : Option (den1 [T3]):=evFn Γ d_u40f a_u40f Try.f29 [.val T37, .val T3] [T3] k (a,b,())
theorem u40f_eq (k : Nat) (a : T37.den) (b : T3.den) : u40f k a b = bnd (slices_IndexFunc_Column k a.2.2.2.1 (b,())) (fun y1=>some y1):=by kernel_rfl
def c_u40f : Con:=⟨[.val T37, .val T3],[T3],fun k x=>u40f k x.1 x.2.1⟩
theorem del_u40f {w0 : World} (hS : Stops w0) : DelOk Try.prog w0 d_u40f:=.cons (y134q hS) y123q (.cons (ok_u39f hS) ent_u39f (.nil))
theorem ok_u40f {w0 : World} (hS : Stops w0) : Keeps Try.prog w0 29 c_u40f:=.con (y9q (A:=a_u40f) y28q (del_u40f hS) (draws (del_u40f hS)) Try.func29 (by kernel_rfl) (fun k x=>by kernel_rfl) (by kernel_rfl)) (by kernel_rfl)
theorem ent_u40f : Enters' Try.prog 29:=enters' Try.func29 (by kernel_rfl)
attribute [irreducible] u40f
def a_u41f : Ann:=⟨[],[]⟩
def d_u41f : List (Nat × Con):=[]
def u41f (k : Nat) (a : T3.den) (b : T3.den) (c : T3.den) : Option (den1 [T4]):=evFn Γ d_u41f a_u41f Try.f50 [.val T3, .val T3, .val T3] [T4] k (a,b,c,())
theorem u41f_eq (k : Nat) (a : T3.den) (b : T3.den) (c : T3.den) : u41f k a b c = br (decide (a ≥ b)) (some (decide (a ≤ c))) (some false):=by kernel_rfl
def c_u41f : Con:=⟨[.val T3, .val T3, .val T3],[T4],fun k x=>u41f k x.1 x.2.1 x.2.2.1⟩
theorem del_u41f {w0 : World} (hS : Stops w0) : DelOk Try.prog w0 d_u41f:=.nil
theorem ok_u41f {w0 : World} (hS : Stops w0) : Keeps Try.prog w0 50 c_u41f:=.con (y9q (A:=a_u41f) y28q (del_u41f hS) (draws (del_u41f hS)) Try.func50 (by kernel_rfl) (fun k x=>by kernel_rfl) (by kernel_rfl)) (by kernel_rfl)
theorem ent_u41f : Enters' Try.prog 50:=enters' Try.func50 (by kernel_rfl)
attribute [irreducible] u41f
def a_u42f : Ann:=⟨[(0,[.val 0 T9, .val 19 T3, .val 20 T3],⟨[],false⟩)],[]⟩
def d_u42f : List (Nat × Con):=[(72,c_strings_Contains)]
def u42f (k : Nat) (a : T9.den) : Option (den1 [T4]):=evFn Γ d_u42f a_u42f Try.f51 [.val T9] [T4] k (a,())
def u42f_l0 (k : Nat) (v0 : T9.den) (v19 : T3.den) (v20 : T3.den) : Option ((Items.den []) ⊕ (den1 [T4])):=loopR (ρ:=(den1 [T4])) 0 [.val 0 T9, .val 19 T3, .val 20 T3] [] (runOf Γ d_u42f a_u42f Try.f51 [.val T9] [T4] 0) k (v0,v19,v20)
theorem u42f_eq (k : Nat) (a : T9.den) : u42f k a = br (a == []) (some false) (br (decide ((List.length a : Int) > 30)) (some false) (br (decide ([32].length + List.length a ≤ capN)) (br (decide (([32] ++ a).length + [32].length ≤ capN)) (bnd (strings_Contains k [32,97,108,108,32,97,110,100,32,97,115,32,97,115,99,32,98,101,103,105,110,32,98,101,116,119,101,101,110,32,98,121,32,99,97,115,101,32,99,97,115,116,32,99,111,109,109,105,116,32,99,114,101,97,116,101,32,99,114,111,115,115,32,100,97,121,32,100,101,108,101,116,101,32,100,101,115,99,32,100,105,115,116,105,110,99,116,32,100,114,111,112,32,101,108,115,101,32,101,110,100,32,101,120,99,101,112,116,32,101,120,105,115,116,115,32,101,120,112,108,97,105,110,32,102,97,108,115,101,32,102,114,111,109,32,103,114,111,117,112,32,104,97,118,105,110,103,32,105,110,32,105,110,100,101,120,32,105,110,115,101,114,116,32,105,110,116,101,114,115,101,99,116,32,105,110,116,111,32,105,115,32,106,111,105,110,32,107,101,121,32,108,101,102,116,32,108,105,109,105,116,32,110,111,116,32,110,117,108,108,32,111,110,32,111,114,32,111,114,100,101,114,32,111,118,101,114,32,112,97,114,116,105,116,105,111,110,32,112,114,105,109,97,114,121,32,114,101,99,117,114,115,105,118,101,32,114,111,108,108,98,97,99,107,32,115,101,108,101,99,116,32,115,101,116,32,116,97,98,108,101,32,116,104,101,110,32,116,114,117,101,32,117,110,105,111,110,32,117,110,105,113,117,101,32,117,112,100,97,116,101,32,118,97,108,117,101,115,32,118,105,101,119,32,119,104,101,110,32,119,104,101,114,101,32,119,105,116,104,32,97,108,116,101,114,32,97,100,100,32,99,111,108,117,109,110,32,108,101,118,101,108,32,115,101,114,105,97,108,32,115,110,97,112,115,104,111,116,32,108,97,116,101,115,116,32] ([32] ++ a ++ [32])) (fun y1=>br (y1) (some false) (bnd (u42f_l0 k a ((List.length a : Int)) 0) (fun y2=>onSum y2 (fun y3=>some true) (fun y3=>some y3))))) (none)) (none))):=by kernel_rfl
theorem u42f_l0_zero (v0 : T9.den) (v19 : T3.den) (v20 : T3.den) : u42f_l0 0 v0 v19 v20 = none:=by kernel_rfl
theorem u42f_l0_succ (k : Nat) (v0 : T9.den) (v19 : T3.den) (v20 : T3.den) : u42f_l0 (k + 1) v0 v19 v20 = br (decide (v20 < v19)) (br (decide (0 ≤ v20)) (br (decide (v20 < (List.length v0 : Int))) (br (decide ((↑(List.getD v0 (Int.toNat v20) 0).toNat : Int) ≥ 97)) (br (decide ((↑(List.getD v0 (Int.toNat v20) 0).toNat : Int) ≤ 122)) (br (!true) (some (Sum.inr false)) (u42f_l0 k v0 v19 (IntKind.i64.wrap (v20 + 1)))) (br ((↑(List.getD v0 (Int.toNat v20) 0).toNat : Int) == 95) (br (!true) (some (Sum.inr false)) (u42f_l0 k v0 v19 (IntKind.i64.wrap (v20 + 1)))) (br (decide (v20 > 0)) (br (decide ((↑(List.getD v0 (Int.toNat v20) 0).toNat : Int) ≥ 48)) (br (!decide ((↑(List.getD v0 (Int.toNat v20) 0).toNat : Int) ≤ 57)) (some (Sum.inr false)) (u42f_l0 k v0 v19 (IntKind.i64.wrap (v20 + 1)))) (br (!false) (some (Sum.inr false)) (u42f_l0 k v0 v19 (IntKind.i64.wrap (v20 + 1))))) (br (!false) (some (Sum.inr false)) (u42f_l0 k v0 v19 (IntKind.i64.wrap (v20 + 1))))))) (br ((↑(List.getD v0 (Int.toNat v20) 0).toNat : Int) == 95) (br (!true) (some (Sum.inr false)) (u42f_l0 k v0 v19 (IntKind.i64.wrap (v20 + 1)))) (br (decide (v20 > 0)) (br (decide ((↑(List.getD v0 (Int.toNat v20) 0).toNat : Int) ≥ 48)) (br (!decide ((↑(List.getD v0 (Int.toNat v20) 0).toNat : Int) ≤ 57)) (some (Sum.inr false)) (u42f_l0 k v0 v19 (IntKind.i64.wrap (v20 + 1)))) (br (!false) (some (Sum.inr false)) (u42f_l0 k v0 v19 (IntKind.i64.wrap (v20 + 1))))) (br (!false) (some (Sum.inr false)) (u42f_l0 k v0 v19 (IntKind.i64.wrap (v20 + 1))))))) (none)) (none)) (some (Sum.inl ())):=by kernel_rfl
def c_u42f : Con:=⟨[.val T9],[T4],fun k x=>u42f k x.1⟩
theorem del_u42f {w0 : World} (hS : Stops w0) : DelOk Try.prog w0 d_u42f:=.cons (hS.strings_Contains.1) hS.strings_Contains.2 (.nil)
theorem ok_u42f {w0 : World} (hS : Stops w0) : Keeps Try.prog w0 51 c_u42f:=.con (y9q (A:=a_u42f) y28q (del_u42f hS) (draws (del_u42f hS)) Try.func51 (by kernel_rfl) (fun k x=>by kernel_rfl) (by kernel_rfl)) (by kernel_rfl)
theorem ent_u42f : Enters' Try.prog 51:=enters' Try.func51 (by kernel_rfl)
attribute [irreducible] u42f u42f_l0
def a_slices_Index_int_int : Ann:=⟨[(0,[.val 0 T23, .val 1 T3, .val 7 T3, .val 8 T3],⟨[],false⟩)],[]⟩
def d_slices_Index_int_int : List (Nat × Con):=[]
def slices_Index_int_int (k : Nat) (a : T23.den) (b : T3.den) : Option (den1 [T3]):=evFn Γ d_slices_Index_int_int a_slices_Index_int_int Try.f87 [.val T23, .val T3] [T3] k (a,b,())
def slices_Index_int_int_l0 (k : Nat) (v0 : T23.den) (v1 : T3.den) (v7 : T3.den) (v8 : T3.den) : Option ((Items.den []) ⊕ (den1 [T3])):=loopR (ρ:=(den1 [T3])) 0 [.val 0 T23, .val 1 T3, .val 7 T3, .val 8 T3] [] (runOf Γ d_slices_Index_int_int a_slices_Index_int_int Try.f87 [.val T23, .val T3] [T3] 0) k (v0,v1,v7,v8)
theorem slices_Index_int_int_eq (k : Nat) (a : T23.den) (b : T3.den) : slices_Index_int_int k a b = bnd (slices_Index_int_int_l0 k a b ((List.length a : Int)) 0) (fun y1=>onSum y1 (fun y2=>some (-1)) (fun y2=>some y2)):=by kernel_rfl
theorem slices_Index_int_int_l0_zero (v0 : T23.den) (v1 : T3.den) (v7 : T3.den) (v8 : T3.den) : slices_Index_int_int_l0 0 v0 v1 v7 v8 = none:=by kernel_rfl
theorem y118q (k : Nat) (v0 : T23.den) (v1 : T3.den) (v7 : T3.den) (v8 : T3.den) : slices_Index_int_int_l0 (k + 1) v0 v1 v7 v8 = br (decide (v8 < v7)) (br (decide (0 ≤ v8)) (br (decide (v8 < (List.length v0 : Int))) (br (v1 == List.getD v0 (Int.toNat v8) T3.zero) (some (Sum.inr v8)) (slices_Index_int_int_l0 k v0 v1 v7 (IntKind.i64.wrap (v8 + 1)))) (none)) (none)) (some (Sum.inl ())):=by kernel_rfl
def c_slices_Index_int_int : Con:=⟨[.val T23, .val T3],[T3],fun k x=>slices_Index_int_int k x.1 x.2.1⟩
theorem y72q {w0 : World} (hS : Stops w0) : DelOk Try.prog w0 d_slices_Index_int_int:=.nil
theorem ok_slices_Index_int_int {w0 : World} (hS : Stops w0) : Keeps Try.prog w0 87 c_slices_Index_int_int:=.con (y9q (A:=a_slices_Index_int_int) y28q (y72q hS) (draws (y72q hS)) Try.func87 (by kernel_rfl) (fun k x=>by kernel_rfl) (by kernel_rfl)) (by kernel_rfl)
theorem ent_slices_Index_int_int : Enters' Try.prog 87:=enters' Try.func87 (by kernel_rfl)
attribute [irreducible] slices_Index_int_int slices_Index_int_int_l0
def a_slices_Contains_int_int : Ann:=⟨[],[]⟩
def d_slices_Contains_int_int : List (Nat × Con):=[(87,c_slices_Index_int_int)]
def slices_Contains_int_int (k : Nat) (a : T23.den) (b : T3.den) : Option (den1 [T4]):=evFn Γ d_slices_Contains_int_int a_slices_Contains_int_int Try.f73 [.val T23, .val T3] [T4] k (a,b,())
theorem y135q (k : Nat) (a : T23.den) (b : T3.den) : slices_Contains_int_int k a b = bnd (slices_Index_int_int k a b) (fun y1=>some (decide (y1 ≥ 0))):=by kernel_rfl
def c_slices_Contains_int_int : Con:=⟨[.val T23, .val T3],[T4],fun k x=>slices_Contains_int_int k x.1 x.2.1⟩
theorem y55q {w0 : World} (hS : Stops w0) : DelOk Try.prog w0 d_slices_Contains_int_int:=.cons (ok_slices_Index_int_int hS) ent_slices_Index_int_int (.nil)
theorem y136q {w0 : World} (hS : Stops w0) : Keeps Try.prog w0 73 c_slices_Contains_int_int:=.con (y9q (A:=a_slices_Contains_int_int) y28q (y55q hS) (draws (y55q hS)) Try.func73 (by kernel_rfl) (fun k x=>by kernel_rfl) (by kernel_rfl)) (by kernel_rfl)
theorem y124q : Enters' Try.prog 73:=enters' Try.func73 (by kernel_rfl)
attribute [irreducible] slices_Contains_int_int
def a_u43f : Ann:=⟨[(0,[.val 0 T23, .val 5 T3, .val 6 T3],⟨[],false⟩)],[]⟩
def d_u43f : List (Nat × Con):=[(73,c_slices_Contains_int_int)]
def u43f (k : Nat) (a : T23.den) : Option (den1 [T4]):=evFn Γ d_u43f a_u43f Try.f52 [.val T23] [T4] k (a,())
def u43f_l0 (k : Nat) (v0 : T23.den) (v5 : T3.den) (v6 : T3.den) : Option ((Items.den []) ⊕ (den1 [T4])):=loopR (ρ:=(den1 [T4])) 0 [.val 0 T23, .val 5 T3, .val 6 T3] [] (runOf Γ d_u43f a_u43f Try.f52 [.val T23] [T4] 0) k (v0,v5,v6)
theorem u43f_eq (k : Nat) (a : T23.den) : u43f k a = bnd (u43f_l0 k a ((List.length a : Int)) 0) (fun y1=>onSum y1 (fun y2=>some false) (fun y2=>some y2)):=by kernel_rfl
theorem u43f_l0_zero (v0 : T23.den) (v5 : T3.den) (v6 : T3.den) : u43f_l0 0 v0 v5 v6 = none:=by kernel_rfl
theorem u43f_l0_succ (k : Nat) (v0 : T23.den) (v5 : T3.den) (v6 : T3.den) : u43f_l0 (k + 1) v0 v5 v6 = br (decide (v6 < v5)) (br (decide (0 ≤ v6)) (br (decide (v6 ≤ (List.length v0 : Int))) (br (decide (0 ≤ v6)) (br (decide (v6 < (List.length v0 : Int))) (bnd (slices_Contains_int_int k (List.take (Int.toNat v6) v0) (List.getD v0 (Int.toNat v6) T3.zero)) (fun y1=>br (y1) (some (Sum.inr true)) (u43f_l0 k v0 v5 (IntKind.i64.wrap (v6 + 1))))) (none)) (none)) (none)) (none)) (some (Sum.inl ())):=by kernel_rfl
def c_u43f : Con:=⟨[.val T23],[T4],fun k x=>u43f k x.1⟩
theorem del_u43f {w0 : World} (hS : Stops w0) : DelOk Try.prog w0 d_u43f:=.cons (y136q hS) y124q (.nil)
theorem ok_u43f {w0 : World} (hS : Stops w0) : Keeps Try.prog w0 52 c_u43f:=.con (y9q (A:=a_u43f) y28q (del_u43f hS) (draws (del_u43f hS)) Try.func52 (by kernel_rfl) (fun k x=>by kernel_rfl) (by kernel_rfl)) (by kernel_rfl)
theorem ent_u43f : Enters' Try.prog 52:=enters' Try.func52 (by kernel_rfl)
attribute [irreducible] u43f u43f_l0
def a_slices_Index_string_string : Ann:=⟨[(0,[.val 0 T84, .val 1 T9, .val 7 T3, .val 8 T3],⟨[],false⟩)],[]⟩
def d_slices_Index_string_string : List (Nat × Con):=[]
def slices_Index_string_string (k : Nat) (a : T84.den) (b : T9.den) : Option (den1 [T3]):=evFn Γ d_slices_Index_string_string a_slices_Index_string_string Try.f88 [.val T84, .val T9] [T3] k (a,b,())
def slices_Index_string_string_l0 (k : Nat) (v0 : T84.den) (v1 : T9.den) (v7 : T3.den) (v8 : T3.den) : Option ((Items.den []) ⊕ (den1 [T3])):=loopR (ρ:=(den1 [T3])) 0 [.val 0 T84, .val 1 T9, .val 7 T3, .val 8 T3] [] (runOf Γ d_slices_Index_string_string a_slices_Index_string_string Try.f88 [.val T84, .val T9] [T3] 0) k (v0,v1,v7,v8)
theorem y107q (k : Nat) (a : T84.den) (b : T9.den) : slices_Index_string_string k a b = bnd (slices_Index_string_string_l0 k a b ((List.length a : Int)) 0) (fun y1=>onSum y1 (fun y2=>some (-1)) (fun y2=>some y2)):=by kernel_rfl
theorem slices_Index_string_string_l0_zero (v0 : T84.den) (v1 : T9.den) (v7 : T3.den) (v8 : T3.den) : slices_Index_string_string_l0 0 v0 v1 v7 v8 = none:=by kernel_rfl
theorem y73q (k : Nat) (v0 : T84.den) (v1 : T9.den) (v7 : T3.den) (v8 : T3.den) : slices_Index_string_string_l0 (k + 1) v0 v1 v7 v8 = br (decide (v8 < v7)) (br (decide (0 ≤ v8)) (br (decide (v8 < (List.length v0 : Int))) (br (v1 == List.getD v0 (Int.toNat v8) T9.zero) (some (Sum.inr v8)) (slices_Index_string_string_l0 k v0 v1 v7 (IntKind.i64.wrap (v8 + 1)))) (none)) (none)) (some (Sum.inl ())):=by kernel_rfl
def c_slices_Index_string_string : Con:=⟨[.val T84, .val T9],[T3],fun k x=>slices_Index_string_string k x.1 x.2.1⟩
theorem y49q {w0 : World} (hS : Stops w0) : DelOk Try.prog w0 d_slices_Index_string_string:=.nil
theorem y108q {w0 : World} (hS : Stops w0) : Keeps Try.prog w0 88 c_slices_Index_string_string:=.con (y9q (A:=a_slices_Index_string_string) y28q (y49q hS) (draws (y49q hS)) Try.func88 (by kernel_rfl) (fun k x=>by kernel_rfl) (by kernel_rfl)) (by kernel_rfl)
theorem y103q : Enters' Try.prog 88:=enters' Try.func88 (by kernel_rfl)
attribute [irreducible] slices_Index_string_string slices_Index_string_string_l0
def a_slices_Contains_string_string : Ann:=⟨[],[]⟩
def d_slices_Contains_string_string : List (Nat × Con):=[(88,c_slices_Index_string_string)]
def slices_Contains_string_string (k : Nat) (a : T84.den) (b : T9.den) : Option (den1 [T4]):=evFn Γ d_slices_Contains_string_string a_slices_Contains_string_string Try.f74 [.val T84, .val T9] [T4] k (a,b,())
theorem y86q (k : Nat) (a : T84.den) (b : T9.den) : slices_Contains_string_string k a b = bnd (slices_Index_string_string k a b) (fun y1=>some (decide (y1 ≥ 0))):=by kernel_rfl
def c_slices_Contains_string_string : Con:=⟨[.val T84, .val T9],[T4],fun k x=>slices_Contains_string_string k x.1 x.2.1⟩
theorem y42q {w0 : World} (hS : Stops w0) : DelOk Try.prog w0 d_slices_Contains_string_string:=.cons (y108q hS) y103q (.nil)
theorem y87q {w0 : World} (hS : Stops w0) : Keeps Try.prog w0 74 c_slices_Contains_string_string:=.con (y9q (A:=a_slices_Contains_string_string) y28q (y42q hS) (draws (y42q hS)) Try.func74 (by kernel_rfl) (fun k x=>by kernel_rfl) (by kernel_rfl)) (by kernel_rfl)
theorem y78q : Enters' Try.prog 74:=enters' Try.func74 (by kernel_rfl)
attribute [irreducible] slices_Contains_string_string
def a_u44f : Ann:=⟨[(0,[.val 0 T84, .val 5 T3, .val 6 T3],⟨[],false⟩)],[]⟩
def d_u44f : List (Nat × Con):=[(74,c_slices_Contains_string_string)]
def u44f (k : Nat) (a : T84.den) : Option (den1 [T4]):=evFn Γ d_u44f a_u44f Try.f53 [.val T84] [T4] k (a,())
def u44f_l0 (k : Nat) (v0 : T84.den) (v5 : T3.den) (v6 : T3.den) : Option ((Items.den []) ⊕ (den1 [T4])):=loopR (ρ:=(den1 [T4])) 0 [.val 0 T84, .val 5 T3, .val 6 T3] [] (runOf Γ d_u44f a_u44f Try.f53 [.val T84] [T4] 0) k (v0,v5,v6)
theorem u44f_eq (k : Nat) (a : T84.den) : u44f k a = bnd (u44f_l0 k a ((List.length a : Int)) 0) (fun y1=>onSum y1 (fun y2=>some false) (fun y2=>some y2)):=by kernel_rfl
theorem u44f_l0_zero (v0 : T84.den) (v5 : T3.den) (v6 : T3.den) : u44f_l0 0 v0 v5 v6 = none:=by kernel_rfl
theorem u44f_l0_succ (k : Nat) (v0 : T84.den) (v5 : T3.den) (v6 : T3.den) : u44f_l0 (k + 1) v0 v5 v6 = br (decide (v6 < v5)) (br (decide (0 ≤ v6)) (br (decide (v6 ≤ (List.length v0 : Int))) (br (decide (0 ≤ v6)) (br (decide (v6 < (List.length v0 : Int))) (bnd (slices_Contains_string_string k (List.take (Int.toNat v6) v0) (List.getD v0 (Int.toNat v6) T9.zero)) (fun y1=>br (y1) (some (Sum.inr true)) (u44f_l0 k v0 v5 (IntKind.i64.wrap (v6 + 1))))) (none)) (none)) (none)) (none)) (some (Sum.inl ())):=by kernel_rfl
def c_u44f : Con:=⟨[.val T84],[T4],fun k x=>u44f k x.1⟩
theorem del_u44f {w0 : World} (hS : Stops w0) : DelOk Try.prog w0 d_u44f:=.cons (y87q hS) y78q (.nil)
theorem ok_u44f {w0 : World} (hS : Stops w0) : Keeps Try.prog w0 53 c_u44f:=.con (y9q (A:=a_u44f) y28q (del_u44f hS) (draws (del_u44f hS)) Try.func53 (by kernel_rfl) (fun k x=>by kernel_rfl) (by kernel_rfl)) (by kernel_rfl)
theorem ent_u44f : Enters' Try.prog 53:=enters' Try.func53 (by kernel_rfl)
attribute [irreducible] u44f u44f_l0
def a_u45f : Ann:=⟨[(0,[.var 1 T37, .val 3 O23, .val 4 O84, .val 55 T34, .val 56 T3, .val 57 T3],⟨[.var 1 T37, .val 3 O23, .val 4 O84],false⟩),(2,[.var 1 T37, .val 95 T23, .val 96 T3, .val 97 T3],⟨[.var 1 T37],false⟩),(4,[.var 1 T37, .val 3 O23, .val 4 O84, .val 117 T35, .val 118 T3, .val 119 T3],⟨[.val 3 O23, .val 4 O84],false⟩),(6,[.var 1 T37, .val 3 O23, .val 4 O84, .var 11 T76, .val 117 T35, .val 118 T3, .val 119 T3, .val 161 T23, .val 162 T3, .val 163 T3],⟨[.var 1 T37, .val 3 O23, .val 4 O84, .var 11 T76, .val 117 T35, .val 118 T3, .val 119 T3],false⟩)],[]⟩
def d_u45f : List (Nat × Con):=[(29,c_u40f),(50,c_u41f),(51,c_u42f),(52,c_u43f),(53,c_u44f)]
def u45f (k : Nat) (a : T37.den) : Option (den1 [T4]):=evFn Γ d_u45f a_u45f Try.f26 [.val T37] [T4] k (a,())
def u45f_l0 (k : Nat) (v1 : T37.den) (v3 : O23.den) (v4 : O84.den) (v55 : T34.den) (v56 : T3.den) (v57 : T3.den) : Option ((Items.den [.var 1 T37, .val 3 O23, .val 4 O84]) ⊕ (den1 [T4])):=loopR (ρ:=(den1 [T4])) 0 [.var 1 T37, .val 3 O23, .val 4 O84, .val 55 T34, .val 56 T3, .val 57 T3] [.var 1 T37, .val 3 O23, .val 4 O84] (runOf Γ d_u45f a_u45f Try.f26 [.val T37] [T4] 0) k (v1,v3,v4,v55,v56,v57)
def u45f_l2 (k : Nat) (v1 : T37.den) (v95 : T23.den) (v96 : T3.den) (v97 : T3.den) : Option ((Items.den [.var 1 T37]) ⊕ (den1 [T4])):=loopR (ρ:=(den1 [T4])) 2 [.var 1 T37, .val 95 T23, .val 96 T3, .val 97 T3] [.var 1 T37] (runOf Γ d_u45f a_u45f Try.f26 [.val T37] [T4] 2) k (v1,v95,v96,v97)
def u45f_l4 (k : Nat) (v1 : T37.den) (v3 : O23.den) (v4 : O84.den) (v117 : T35.den) (v118 : T3.den) (v119 : T3.den) : Option ((Items.den [.val 3 O23, .val 4 O84]) ⊕ (den1 [T4])):=loopR (ρ:=(den1 [T4])) 4 [.var 1 T37, .val 3 O23, .val 4 O84, .val 117 T35, .val 118 T3, .val 119 T3] [.val 3 O23, .val 4 O84] (runOf Γ d_u45f a_u45f Try.f26 [.val T37] [T4] 4) k (v1,v3,v4,v117,v118,v119)
def u45f_l6 (k : Nat) (v1 : T37.den) (v3 : O23.den) (v4 : O84.den) (v11 : T76.den) (v117 : T35.den) (v118 : T3.den) (v119 : T3.den) (v161 : T23.den) (v162 : T3.den) (v163 : T3.den) : Option ((Items.den [.var 1 T37, .val 3 O23, .val 4 O84, .var 11 T76, .val 117 T35, .val 118 T3, .val 119 T3]) ⊕ (den1 [T4])):=loopR (ρ:=(den1 [T4])) 6 [.var 1 T37, .val 3 O23, .val 4 O84, .var 11 T76, .val 117 T35, .val 118 T3, .val 119 T3, .val 161 T23, .val 162 T3, .val 163 T3] [.var 1 T37, .val 3 O23, .val 4 O84, .var 11 T76, .val 117 T35, .val 118 T3, .val 119 T3] (runOf Γ d_u45f a_u45f Try.f26 [.val T37] [T4] 6) k (v1,v3,v4,v11,v117,v118,v119,v161,v162,v163)
theorem u45f_eq (k : Nat) (a : T37.den) : u45f k a = bnd (u41f k a.1 1 40) (fun y1=>br (!y1) (some false) (bnd (u41f k a.2.2.1 1 1000000) (fun y2=>br (!y2) (some false) (bnd (u42f k a.2.1) (fun y3=>br (!y3) (some false) (bnd (u41f k (List.length a.2.2.2.1 : Int) 1 14) (fun y4=>br (!y4) (some false) (br ((List.length a.2.2.2.2.1 : Int) == 0) (some false) (bnd (u43f k a.2.2.2.2.1) (fun y5=>br (y5) (some false) (br (decide ((List.length a.2.2.2.2.2.1 : Int) > 8)) (some false) (bnd (u45f_l0 k a [] [] a.2.2.2.1 ((List.length a.2.2.2.1 : Int)) 0) (fun y6=>onSum y6 (fun y7=>bnd (u43f k y7.2.1) (fun y8=>br (y8) (some false) (bnd (u44f k y7.2.2) (fun y9=>br (y9) (some false) (bnd (u45f_l2 k y7.1 y7.1.2.2.2.2.1 ((List.length y7.1.2.2.2.2.1 : Int)) 0) (fun y10=>onSum y10 (fun y11=>bnd (u45f_l4 k y11 [] [] y11.2.2.2.2.2.1 ((List.length y11.2.2.2.2.2.1 : Int)) 0) (fun y12=>onSum y12 (fun y13=>bnd (u43f k y13.1) (fun y14=>br (!y14) (bnd (u44f k y13.2) (fun y15=>some (!y15))) (some false))) (fun y13=>some y13))) (fun y11=>some y11))))))) (fun y7=>some y7)))))))))))))):=by kernel_rfl
theorem u45f_l0_zero (v1 : T37.den) (v3 : O23.den) (v4 : O84.den) (v55 : T34.den) (v56 : T3.den) (v57 : T3.den) : u45f_l0 0 v1 v3 v4 v55 v56 v57 = none:=by kernel_rfl
theorem u45f_l0_succ (k : Nat) (v1 : T37.den) (v3 : O23.den) (v4 : O84.den) (v55 : T34.den) (v56 : T3.den) (v57 : T3.den) : u45f_l0 (k + 1) v1 v3 v4 v55 v56 v57 = br (decide (v57 < v56)) (br (decide (0 ≤ v57)) (br (decide (v57 < (List.length v55 : Int))) (bnd (u41f k (List.getD v55 (Int.toNat v57) T59.zero).1 1 1000) (fun y1=>br (!y1) (some (Sum.inr false)) (bnd (u42f k (List.getD v55 (Int.toNat v57) T59.zero).2.1) (fun y2=>br (!y2) (some (Sum.inr false)) (bnd (u41f k (List.getD v55 (Int.toNat v57) T59.zero).2.2.1 1 5) (fun y3=>br (!y3) (some (Sum.inr false)) (br (decide (List.length v3 + [(List.getD v55 (Int.toNat v57) T59.zero).1].length ≤ capN)) (br (decide (List.length v4 + [(List.getD v55 (Int.toNat v57) T59.zero).2.1].length ≤ capN)) (u45f_l0 k v1 (v3 ++ [(List.getD v55 (Int.toNat v57) T59.zero).1]) (v4 ++ [(List.getD v55 (Int.toNat v57) T59.zero).2.1]) v55 v56 (IntKind.i64.wrap (v57 + 1))) (none)) (none)))))))) (none)) (none)) (some (Sum.inl (v1,v3,v4))):=by kernel_rfl
theorem u45f_l2_zero (v1 : T37.den) (v95 : T23.den) (v96 : T3.den) (v97 : T3.den) : u45f_l2 0 v1 v95 v96 v97 = none:=by kernel_rfl
theorem u45f_l2_succ (k : Nat) (v1 : T37.den) (v95 : T23.den) (v96 : T3.den) (v97 : T3.den) : u45f_l2 (k + 1) v1 v95 v96 v97 = br (decide (v97 < v96)) (br (decide (0 ≤ v97)) (br (decide (v97 < (List.length v95 : Int))) (bnd (u40f k v1 (List.getD v95 (Int.toNat v97) T3.zero)) (fun y1=>br (decide (y1 < 0)) (some (Sum.inr false)) (br (decide (0 ≤ y1)) (br (decide (y1 < (List.length v1.2.2.2.1 : Int))) (br (!(List.getD v1.2.2.2.1 (Int.toNat y1) T59.zero).2.2.2.1) (some (Sum.inr false)) (u45f_l2 k v1 v95 v96 (IntKind.i64.wrap (v97 + 1)))) (none)) (none)))) (none)) (none)) (some (Sum.inl v1)):=by kernel_rfl
theorem u45f_l4_zero (v1 : T37.den) (v3 : O23.den) (v4 : O84.den) (v117 : T35.den) (v118 : T3.den) (v119 : T3.den) : u45f_l4 0 v1 v3 v4 v117 v118 v119 = none:=by kernel_rfl
theorem u45f_l4_succ (k : Nat) (v1 : T37.den) (v3 : O23.den) (v4 : O84.den) (v117 : T35.den) (v118 : T3.den) (v119 : T3.den) : u45f_l4 (k + 1) v1 v3 v4 v117 v118 v119 = br (decide (v119 < v118)) (br (decide (0 ≤ v119)) (br (decide (v119 < (List.length v117 : Int))) (bnd (u41f k (List.getD v117 (Int.toNat v119) T76.zero).1 1 1000) (fun y1=>br (!y1) (some (Sum.inr false)) (bnd (u42f k (List.getD v117 (Int.toNat v119) T76.zero).2.1) (fun y2=>br (!y2) (some (Sum.inr false)) (br ((↑(List.length (List.getD v117 (Int.toNat v119) T76.zero).2.2.1) : Int) == 0) (some (Sum.inr false)) (bnd (u43f k (List.getD v117 (Int.toNat v119) T76.zero).2.2.1) (fun y3=>br (y3) (some (Sum.inr false)) (bnd (u41f k (List.getD v117 (Int.toNat v119) T76.zero).2.2.2.2.1 1 3) (fun y4=>br (!y4) (some (Sum.inr false)) (br (decide (IntKind.i64.wrap ((↑(List.length (List.getD v117 (Int.toNat v119) T76.zero).2.2.1) : Int) + (List.length v1.2.2.2.2.1 : Int)) > 14)) (some (Sum.inr false)) (bnd (u45f_l6 k v1 v3 v4 (List.getD v117 (Int.toNat v119) T76.zero) v117 v118 v119 ((List.getD v117 (Int.toNat v119) T76.zero).2.2.1) ((↑(List.length (List.getD v117 (Int.toNat v119) T76.zero).2.2.1) : Int)) 0) (fun y5=>onSum y5 (fun y6=>br (decide (List.length y6.2.1 + [y6.2.2.2.1.1].length ≤ capN)) (br (decide (List.length y6.2.2.1 + [y6.2.2.2.1.2.1].length ≤ capN)) (u45f_l4 k y6.1 (y6.2.1 ++ [y6.2.2.2.1.1]) (y6.2.2.1 ++ [y6.2.2.2.1.2.1]) y6.2.2.2.2.1 y6.2.2.2.2.2.1 (IntKind.i64.wrap (y6.2.2.2.2.2.2 + 1))) (none)) (none)) (fun y6=>some (Sum.inr y6)))))))))))))) (none)) (none)) (some (Sum.inl (v3,v4))):=by kernel_rfl
theorem u45f_l6_zero (v1 : T37.den) (v3 : O23.den) (v4 : O84.den) (v11 : T76.den) (v117 : T35.den) (v118 : T3.den) (v119 : T3.den) (v161 : T23.den) (v162 : T3.den) (v163 : T3.den) : u45f_l6 0 v1 v3 v4 v11 v117 v118 v119 v161 v162 v163 = none:=by kernel_rfl
theorem u45f_l6_succ (k : Nat) (v1 : T37.den) (v3 : O23.den) (v4 : O84.den) (v11 : T76.den) (v117 : T35.den) (v118 : T3.den) (v119 : T3.den) (v161 : T23.den) (v162 : T3.den) (v163 : T3.den) : u45f_l6 (k + 1) v1 v3 v4 v11 v117 v118 v119 v161 v162 v163 = br (decide (v163 < v162)) (br (decide (0 ≤ v163)) (br (decide (v163 < (List.length v161 : Int))) (bnd (u40f k v1 (List.getD v161 (Int.toNat v163) T3.zero)) (fun y1=>br (decide (y1 < 0)) (some (Sum.inr false)) (u45f_l6 k v1 v3 v4 v11 v117 v118 v119 v161 v162 (IntKind.i64.wrap (v163 + 1))))) (none)) (none)) (some (Sum.inl (v1,v3,v4,v11,v117,v118,v119))):=by kernel_rfl
def c_u45f : Con:=⟨[.val T37],[T4],fun k x=>u45f k x.1⟩
theorem del_u45f {w0 : World} (hS : Stops w0) : DelOk Try.prog w0 d_u45f:=.cons (ok_u40f hS) ent_u40f (.cons (ok_u41f hS) ent_u41f (.cons (ok_u42f hS) ent_u42f (.cons (ok_u43f hS) ent_u43f (.cons (ok_u44f hS) ent_u44f (.nil)))))
theorem ok_u45f {w0 : World} (hS : Stops w0) : Keeps Try.prog w0 26 c_u45f:=.con (y9q (A:=a_u45f) y28q (del_u45f hS) (draws (del_u45f hS)) Try.func26 (by kernel_rfl) (fun k x=>by kernel_rfl) (by kernel_rfl)) (by kernel_rfl)
theorem ent_u45f : Enters' Try.prog 26:=enters' Try.func26 (by kernel_rfl)
attribute [irreducible] u45f u45f_l0 u45f_l2 u45f_l4 u45f_l6
def a_u46f : Ann:=⟨[(0,[.val 0 T9, .val 3 T3, .val 4 T3],⟨[.val 3 T3],true⟩)],[]⟩
def d_u46f : List (Nat × Con):=[]
def u46f (k : Nat) (a : T9.den) : Option (den1 [T3]):=evFn Γ d_u46f a_u46f Try.f54 [.val T9] [T3] k (a,())
def u46f_l0 (k : Nat) (v0 : T9.den) (v3 : T3.den) (v4 : T3.den) : Option (Items.den [.val 3 T3]):=loopQ (ρ:=(den1 [T3])) 0 [.val 0 T9, .val 3 T3, .val 4 T3] [.val 3 T3] (runOf Γ d_u46f a_u46f Try.f54 [.val T9] [T3] 0) k (v0,v3,v4)
theorem u46f_eq (k : Nat) (a : T9.den) : u46f k a = bnd (u46f_l0 k a 0 0) (fun y1=>some y1):=by kernel_rfl
theorem u46f_l0_zero (v0 : T9.den) (v3 : T3.den) (v4 : T3.den) : u46f_l0 0 v0 v3 v4 = none:=by kernel_rfl
theorem u46f_l0_succ (k : Nat) (v0 : T9.den) (v3 : T3.den) (v4 : T3.den) : u46f_l0 (k + 1) v0 v3 v4 = br (decide (v4 < (List.length v0 : Int))) (br (decide (0 ≤ 8)) (br (decide (0 ≤ v4)) (br (decide (v4 < (List.length v0 : Int))) (u46f_l0 k v0 (bits BinOp.or IntKind.i64 (IntKind.i64.wrap (v3 * 2 ^ min (Int.toNat 8) IntKind.i64.bits)) (IntKind.i64.wrap (↑(List.getD v0 (Int.toNat v4) 0).toNat : Int))) (IntKind.i64.wrap (v4 + 1))) (none)) (none)) (none)) (some v3):=by kernel_rfl
def c_u46f : Con:=⟨[.val T9],[T3],fun k x=>u46f k x.1⟩
theorem del_u46f {w0 : World} (hS : Stops w0) : DelOk Try.prog w0 d_u46f:=.nil
theorem ok_u46f {w0 : World} (hS : Stops w0) : Keeps Try.prog w0 54 c_u46f:=.con (y9q (A:=a_u46f) y28q (del_u46f hS) (draws (del_u46f hS)) Try.func54 (by kernel_rfl) (fun k x=>by kernel_rfl) (by kernel_rfl)) (by kernel_rfl)
theorem ent_u46f : Enters' Try.prog 54:=enters' Try.func54 (by kernel_rfl)
attribute [irreducible] u46f u46f_l0
def a_u47f : Ann:=⟨[(0,[.val 0 T3, .val 1 T3, .var 4 T52],⟨[.val 0 T3, .val 1 T3, .var 4 T52],true⟩)],[]⟩
def d_u47f : List (Nat × Con):=[]
def u47f (k : Nat) (a : T3.den) (b : T3.den) : Option (den1 [T52,T3]):=evFn Γ d_u47f a_u47f Try.f55 [.val T3, .val T3] [T52,T3] k (a,b,())
def u47f_l0 (k : Nat) (v0 : T3.den) (v1 : T3.den) (v4 : T52.den) : Option (Items.den [.val 0 T3, .val 1 T3, .var 4 T52]):=loopQ (ρ:=(den1 [T52,T3])) 0 [.val 0 T3, .val 1 T3, .var 4 T52] [.val 0 T3, .val 1 T3, .var 4 T52] (runOf Γ d_u47f a_u47f Try.f55 [.val T3, .val T3] [T52,T3] 0) k (v0,v1,v4)
theorem u47f_eq (k : Nat) (a : T3.den) (b : T3.den) : u47f k a b = bnd (u47f_l0 k a b ((0 : Int),(0 : Int),(0 : Int),([] : List UInt8),())) (fun y1=>br (decide (y1.1 < -1000000000)) (some (((0 : Int),(0 : Int),(0 : Int),([] : List UInt8),()),3)) (br (decide (y1.1 > 1000000000)) (some (((0 : Int),(0 : Int),(0 : Int),([] : List UInt8),()),3)) (some (((3 : Int),y1.1,y1.2.1,([] : List UInt8),()),0)))):=by kernel_rfl
theorem u47f_l0_zero (v0 : T3.den) (v1 : T3.den) (v4 : T52.den) : u47f_l0 0 v0 v1 v4 = none:=by kernel_rfl
theorem u47f_l0_succ (k : Nat) (v0 : T3.den) (v1 : T3.den) (v4 : T52.den) : u47f_l0 (k + 1) v0 v1 v4 = br (decide (v1 > 0)) (br (!10 == 0) (br (Int.tmod v0 10 == 0) (br (!10 == 0) (u47f_l0 k (IntKind.i64.wrap (Int.tdiv v0 10)) (IntKind.i64.wrap (v1 - 1)) v4) (none)) (some (v0,v1,v4.1,v4.2.1,v4.2.2.1,v4.2.2.2.1,()))) (none)) (some (v0,v1,v4.1,v4.2.1,v4.2.2.1,v4.2.2.2.1,())):=by kernel_rfl
def c_u47f : Con:=⟨[.val T3, .val T3],[T52,T3],fun k x=>u47f k x.1 x.2.1⟩
theorem del_u47f {w0 : World} (hS : Stops w0) : DelOk Try.prog w0 d_u47f:=.nil
theorem ok_u47f {w0 : World} (hS : Stops w0) : Keeps Try.prog w0 55 c_u47f:=.con (y9q (A:=a_u47f) y28q (del_u47f hS) (draws (del_u47f hS)) Try.func55 (by kernel_rfl) (fun k x=>by kernel_rfl) (by kernel_rfl)) (by kernel_rfl)
theorem ent_u47f : Enters' Try.prog 55:=enters' Try.func55 (by kernel_rfl)
attribute [irreducible] u47f u47f_l0
def a_u48f : Ann:=⟨[(0,[.val 0 T3, .val 3 T3],⟨[.val 3 T3],true⟩)],[]⟩
def d_u48f : List (Nat × Con):=[]
def u48f (k : Nat) (a : T3.den) : Option (den1 [T3]):=evFn Γ d_u48f a_u48f Try.f56 [.val T3] [T3] k (a,())
def u48f_l0 (k : Nat) (v0 : T3.den) (v3 : T3.den) : Option (Items.den [.val 3 T3]):=loopQ (ρ:=(den1 [T3])) 0 [.val 0 T3, .val 3 T3] [.val 3 T3] (runOf Γ d_u48f a_u48f Try.f56 [.val T3] [T3] 0) k (v0,v3)
theorem u48f_eq (k : Nat) (a : T3.den) : u48f k a = bnd (u48f_l0 k a 1) (fun y1=>some y1):=by kernel_rfl
theorem u48f_l0_zero (v0 : T3.den) (v3 : T3.den) : u48f_l0 0 v0 v3 = none:=by kernel_rfl
theorem u48f_l0_succ (k : Nat) (v0 : T3.den) (v3 : T3.den) : u48f_l0 (k + 1) v0 v3 = br (decide (v0 > 0)) (u48f_l0 k (IntKind.i64.wrap (v0 - 1)) (IntKind.i64.wrap (v3 * 10))) (some v3):=by kernel_rfl
def c_u48f : Con:=⟨[.val T3],[T3],fun k x=>u48f k x.1⟩
theorem del_u48f {w0 : World} (hS : Stops w0) : DelOk Try.prog w0 d_u48f:=.nil
theorem ok_u48f {w0 : World} (hS : Stops w0) : Keeps Try.prog w0 56 c_u48f:=.con (y9q (A:=a_u48f) y28q (del_u48f hS) (draws (del_u48f hS)) Try.func56 (by kernel_rfl) (fun k x=>by kernel_rfl) (by kernel_rfl)) (by kernel_rfl)
theorem ent_u48f : Enters' Try.prog 56:=enters' Try.func56 (by kernel_rfl)
attribute [irreducible] u48f u48f_l0
def a_u49f : Ann:=⟨[(0,[.val 4 O31, .val 5 T9],⟨[.val 4 O31],false⟩)],[(37,⟨[.val 4 O31, .val 5 T9, .var 6 T52, .val 7 T3],false⟩)]⟩
def d_u49f : List (Nat × Con):=[(54,c_u46f),(55,c_u47f),(56,c_u48f),(57,c_strings_IndexByte),(58,c_u0f)]
def u49f (k : Nat) (a : T9.den) : Option (den1 [O31,T3]):=evFn Γo d_u49f a_u49f Try.f27 [.val T9] [O31,T3] k (a,())
def u49f_l0 (k : Nat) (v4 : O31.den) (v5 : T9.den) : Option ((Items.den [.val 4 O31]) ⊕ (den1 [O31,T3])):=loopR (ρ:=(den1 [O31,T3])) 0 [.val 4 O31, .val 5 T9] [.val 4 O31] (runOf Γo d_u49f a_u49f Try.f27 [.val T9] [O31,T3] 0) k (v4,v5)
theorem u49f_eq (k : Nat) (a : T9.den) : u49f k a = br (decide ((List.length a : Int) > 4000)) (some ([],5)) (bnd (u49f_l0 k [] a) (fun y1=>onSum y1 (fun y2=>br (decide ((List.length y2 : Int) > 16)) (some ([],5)) (some (y2,0))) (fun y2=>some y2))):=by kernel_rfl
theorem u49f_l0_zero (v4 : O31.den) (v5 : T9.den) : u49f_l0 0 v4 v5 = none:=by kernel_rfl
theorem u49f_l0_succ (k : Nat) (v4 : O31.den) (v5 : T9.den) : u49f_l0 (k + 1) v4 v5 = br (!v5 == []) (bnd (br (decide (0 ≤ 0)) (br (decide (0 < (List.length v5 : Int))) (br ((↑(List.getD v5 (Int.toNat 0) 0).toNat : Int) == 1) (some (Sum.inl (v4,v5,((0 : Int),(0 : Int),(0 : Int),([] : List UInt8),()),1))) (br ((↑(List.getD v5 (Int.toNat 0) 0).toNat : Int) == 2) (br (decide ((List.length v5 : Int) ≥ 2)) (br (decide (0 ≤ 1)) (br (decide (1 < (List.length v5 : Int))) (some (Sum.inl (v4,v5,((1 : Int),IntKind.i64.wrap (↑(List.getD v5 (Int.toNat 1) 0).toNat : Int),(0 : Int),([] : List UInt8),()),2))) (none)) (none)) (some (Sum.inl (v4,v5,((0 : Int),(0 : Int),(0 : Int),([] : List UInt8),()),2)))) (br ((↑(List.getD v5 (Int.toNat 0) 0).toNat : Int) == 3) (br (decide ((List.length v5 : Int) ≥ 13)) (br (decide (0 ≤ 1)) (br (decide (1 ≤ 9)) (br (decide (9 ≤ (List.length v5 : Int))) (bnd (u46f k (List.drop (Int.toNat 1) (List.take (Int.toNat 9) v5))) (fun y1=>br (decide (0 ≤ 9)) (br (decide (9 ≤ 12)) (br (decide (12 ≤ (List.length v5 : Int))) (bnd (u46f k (List.drop (Int.toNat 9) (List.take (Int.toNat 12) v5))) (fun y2=>br (decide (0 ≤ 12)) (br (decide (12 < (List.length v5 : Int))) (br ((↑(List.getD v5 (Int.toNat 12) 0).toNat : Int) == 3) (br (decide (IntKind.i64.wrap (y1 - 1152921504606846976) < -1000000001)) (some (Sum.inr ([],5))) (br (decide (IntKind.i64.wrap (y1 - 1152921504606846976) > 1000000000)) (some (Sum.inr ([],5))) (bnd (u48f k 6) (fun y3=>bnd (u47f k (IntKind.i64.wrap (IntKind.i64.wrap (IntKind.i64.wrap (y1 - 1152921504606846976) * y3) + y2)) 6) (fun y4=>br (y4.2 != 0) (some (Sum.inr ([],5))) (some (Sum.inl (v4,v5,y4.1,13)))))))) (some (Sum.inl (v4,v5,((2 : Int),IntKind.i64.wrap (y1 - 1152921504606846976),(0 : Int),([] : List UInt8),()),13)))) (none)) (none))) (none)) (none)) (none))) (none)) (none)) (none)) (some (Sum.inl (v4,v5,((0 : Int),(0 : Int),(0 : Int),([] : List UInt8),()),13)))) (br ((↑(List.getD v5 (Int.toNat 0) 0).toNat : Int) == 4) (bnd (strings_IndexByte k v5 0) (fun y1=>br (decide (y1 < 0)) (some (Sum.inr ([],5))) (br (decide (0 ≤ 1)) (br (decide (1 ≤ y1)) (br (decide (y1 ≤ (List.length v5 : Int))) (some (Sum.inl (v4,v5,(4,0,0,List.drop (Int.toNat 1) (List.take (Int.toNat y1) v5),()),IntKind.i64.wrap (y1 + 1)))) (none)) (none)) (none)))) (br ((↑(List.getD v5 (Int.toNat 0) 0).toNat : Int) == 5) (br (decide ((List.length v5 : Int) ≥ 4)) (br (decide (0 ≤ 1)) (br (decide (1 ≤ 4)) (br (decide (4 ≤ (List.length v5 : Int))) (bnd (u46f k (List.drop (Int.toNat 1) (List.take (Int.toNat 4) v5))) (fun y1=>some (Sum.inl (v4,v5,((5 : Int),y1,(0 : Int),([] : List UInt8),()),4)))) (none)) (none)) (none)) (some (Sum.inl (v4,v5,((0 : Int),(0 : Int),(0 : Int),([] : List UInt8),()),4)))) (some (Sum.inl (v4,v5,((0 : Int),(0 : Int),(0 : Int),([] : List UInt8),()),0)))))))) (none)) (none)) (fun y1=>onSum y1 (fun y2=>br (y2.2.2.2 == 0) (some (Sum.inr ([],5))) (br (decide (y2.2.2.2 > (List.length y2.2.1 : Int))) (some (Sum.inr ([],5))) (bnd (u0f k [y2.2.2.1]) (fun y3=>br (y3.2 != 0) (some (Sum.inr ([],5))) (br (decide (0 ≤ y2.2.2.2)) (br (decide (y2.2.2.2 ≤ (List.length y2.2.1 : Int))) (br (!y3.1 == List.take (Int.toNat y2.2.2.2) y2.2.1) (some (Sum.inr ([],5))) (br (decide (List.length y2.1 + [y2.2.2.1].length ≤ capN)) (br (decide (0 ≤ y2.2.2.2)) (br (decide (y2.2.2.2 ≤ (List.length y2.2.1 : Int))) (u49f_l0 k (y2.1 ++ [y2.2.2.1]) (List.drop (Int.toNat y2.2.2.2) y2.2.1)) (none)) (none)) (none))) (none)) (none)))))) (fun y2=>some (Sum.inr y2)))) (some (Sum.inl v4)):=by kernel_rfl
def c_u49f : Con:=⟨[.val T9],[O31,T3],fun k x=>u49f k x.1⟩
theorem del_u49f {w0 : World} (hS : Stops w0) : DelOk Try.prog w0 d_u49f:=.cons (ok_u46f hS) ent_u46f (.cons (ok_u47f hS) ent_u47f (.cons (ok_u48f hS) ent_u48f (.cons (hS.strings_IndexByte.1) hS.strings_IndexByte.2 (.cons (hS.u0f.1) hS.u0f.2 (.nil)))))
theorem ok_u49f {w0 : World} (hS : Stops w0) : Keeps Try.prog w0 27 c_u49f:=.gn (y53q (A:=a_u49f) y71q (del_u49f hS) (drawso (del_u49f hS)) Try.func27 (by kernel_rfl) (fun k x=>by kernel_rfl) (by kernel_rfl)) (by kernel_rfl)
theorem ent_u49f : Enters' Try.prog 27:=enters' Try.func27 (by kernel_rfl)
attribute [irreducible] u49f u49f_l0
def a_u50f : Ann:=⟨[],[]⟩
def d_u50f : List (Nat × Con):=[]
def u50f (k : Nat) (a : T3.den) : Option (den1 [T52]):=evFn Γ d_u50f a_u50f Try.f28 [.val T3] [T52] k (a,())
theorem u50f_eq (k : Nat) (a : T3.den) : u50f k a = some ((2 : Int),a,(0 : Int),([] : List UInt8),()):=by kernel_rfl
def c_u50f : Con:=⟨[.val T3],[T52],fun k x=>u50f k x.1⟩
theorem del_u50f {w0 : World} (hS : Stops w0) : DelOk Try.prog w0 d_u50f:=.nil
theorem ok_u50f {w0 : World} (hS : Stops w0) : Keeps Try.prog w0 28 c_u50f:=.con (y9q (A:=a_u50f) y28q (del_u50f hS) (draws (del_u50f hS)) Try.func28 (by kernel_rfl) (fun k x=>by kernel_rfl) (by kernel_rfl)) (by kernel_rfl)
theorem ent_u50f : Enters' Try.prog 28:=enters' Try.func28 (by kernel_rfl)
attribute [irreducible] u50f
def a_u51f : Ann:=⟨[(0,[.val 0 T9, .val 3 T3],⟨[],false⟩)],[]⟩
def d_u51f : List (Nat × Con):=[]
def u51f (k : Nat) (a : T9.den) : Option (den1 [T4]):=evFn Γ d_u51f a_u51f Try.f80 [.val T9] [T4] k (a,())
def u51f_l0 (k : Nat) (v0 : T9.den) (v3 : T3.den) : Option ((Items.den []) ⊕ (den1 [T4])):=loopR (ρ:=(den1 [T4])) 0 [.val 0 T9, .val 3 T3] [] (runOf Γ d_u51f a_u51f Try.f80 [.val T9] [T4] 0) k (v0,v3)
theorem u51f_eq (k : Nat) (a : T9.den) : u51f k a = bnd (u51f_l0 k a 0) (fun y1=>onSum y1 (fun y2=>some true) (fun y2=>some y2)):=by kernel_rfl
theorem u51f_l0_zero (v0 : T9.den) (v3 : T3.den) : u51f_l0 0 v0 v3 = none:=by kernel_rfl
theorem u51f_l0_succ (k : Nat) (v0 : T9.den) (v3 : T3.den) : u51f_l0 (k + 1) v0 v3 = br (decide (v3 < (List.length v0 : Int))) (br (decide (0 ≤ v3)) (br (decide (v3 < (List.length v0 : Int))) (br (decide ((↑(List.getD v0 (Int.toNat v3) 0).toNat : Int) < 32)) (some (Sum.inr false)) (br (decide (0 ≤ v3)) (br (decide (v3 < (List.length v0 : Int))) (br (decide ((↑(List.getD v0 (Int.toNat v3) 0).toNat : Int) > 126)) (some (Sum.inr false)) (u51f_l0 k v0 (IntKind.i64.wrap (v3 + 1)))) (none)) (none))) (none)) (none)) (some (Sum.inl ())):=by kernel_rfl
def c_u51f : Con:=⟨[.val T9],[T4],fun k x=>u51f k x.1⟩
theorem del_u51f {w0 : World} (hS : Stops w0) : DelOk Try.prog w0 d_u51f:=.nil
theorem ok_u51f {w0 : World} (hS : Stops w0) : Keeps Try.prog w0 80 c_u51f:=.con (y9q (A:=a_u51f) y28q (del_u51f hS) (draws (del_u51f hS)) Try.func80 (by kernel_rfl) (fun k x=>by kernel_rfl) (by kernel_rfl)) (by kernel_rfl)
theorem ent_u51f : Enters' Try.prog 80:=enters' Try.func80 (by kernel_rfl)
attribute [irreducible] u51f u51f_l0
def a_u52f : Ann:=⟨[],[]⟩
def d_u52f : List (Nat × Con):=[(80,c_u51f)]
def u52f (k : Nat) (a : T52.den) : Option (den1 [T4]):=evFn Γ d_u52f a_u52f Try.f61 [.val T52] [T4] k (a,())
theorem u52f_eq (k : Nat) (a : T52.den) : u52f k a = br (a.1 == 0) (some (andB (eqI a.1 a.1) (andB (eqI a.2.1 0) (andB (eqI a.2.2.1 0) (andB (eqS a.2.2.2.1 []) true))))) (br (a.1 == 1) (br (decide (a.2.1 < 0)) (some false) (br (decide (a.2.1 > 1)) (some false) (some (andB (eqI a.1 a.1) (andB (eqI 0 0) (andB (eqI a.2.2.1 0) (andB (eqS a.2.2.2.1 []) true))))))) (br (a.1 == 2) (br (decide (a.2.1 < -1000000000000000)) (some false) (br (decide (a.2.1 > 1000000000000000)) (some false) (some (andB (eqI a.1 a.1) (andB (eqI 0 0) (andB (eqI a.2.2.1 0) (andB (eqS a.2.2.2.1 []) true))))))) (br (a.1 == 3) (br (decide (a.2.1 < -1000000000)) (some false) (br (decide (a.2.1 > 1000000000)) (some false) (br (decide (a.2.2.1 < 0)) (some false) (br (decide (a.2.2.1 > 6)) (some false) (br (decide (a.2.2.1 > 0)) (br (!10 == 0) (br (Int.tmod a.2.1 10 == 0) (some false) (some (andB (eqI a.1 a.1) (andB (eqI 0 0) (andB (eqI 0 0) (andB (eqS a.2.2.2.1 []) true)))))) (none)) (some (andB (eqI a.1 a.1) (andB (eqI 0 0) (andB (eqI 0 0) (andB (eqS a.2.2.2.1 []) true)))))))))) (br (a.1 == 4) (br (decide ((List.length a.2.2.2.1 : Int) > 200)) (some false) (bnd (u51f k a.2.2.2.1) (fun y1=>br (!y1) (some false) (some (andB (eqI a.1 a.1) (andB (eqI a.2.1 0) (andB (eqI a.2.2.1 0) (andB (eqS [] []) true)))))))) (br (a.1 == 5) (br (decide (a.2.1 < 0)) (some false) (br (decide (a.2.1 > 3652058)) (some false) (some (andB (eqI a.1 a.1) (andB (eqI 0 0) (andB (eqI a.2.2.1 0) (andB (eqS a.2.2.2.1 []) true))))))) (some false)))))):=by kernel_rfl
def c_u52f : Con:=⟨[.val T52],[T4],fun k x=>u52f k x.1⟩
theorem del_u52f {w0 : World} (hS : Stops w0) : DelOk Try.prog w0 d_u52f:=.cons (ok_u51f hS) ent_u51f (.nil)
theorem ok_u52f {w0 : World} (hS : Stops w0) : Keeps Try.prog w0 61 c_u52f:=.con (y9q (A:=a_u52f) y28q (del_u52f hS) (draws (del_u52f hS)) Try.func61 (by kernel_rfl) (fun k x=>by kernel_rfl) (by kernel_rfl)) (by kernel_rfl)
theorem ent_u52f : Enters' Try.prog 61:=enters' Try.func61 (by kernel_rfl)
attribute [irreducible] u52f
def a_u53f : Ann:=⟨[(0,[.var 2 T37, .val 13 T31, .val 14 T3, .val 15 T3],⟨[],false⟩)],[]⟩
def d_u53f : List (Nat × Con):=[(61,c_u52f)]
def u53f (k : Nat) (a : T37.den) (b : T31.den) : Option (den1 [T4]):=evFn Γ d_u53f a_u53f Try.f30 [.val T37, .val T31] [T4] k (a,b,())
def u53f_l0 (k : Nat) (v2 : T37.den) (v13 : T31.den) (v14 : T3.den) (v15 : T3.den) : Option ((Items.den []) ⊕ (den1 [T4])):=loopR (ρ:=(den1 [T4])) 0 [.var 2 T37, .val 13 T31, .val 14 T3, .val 15 T3] [] (runOf Γ d_u53f a_u53f Try.f30 [.val T37, .val T31] [T4] 0) k (v2,v13,v14,v15)
theorem u53f_eq (k : Nat) (a : T37.den) (b : T31.den) : u53f k a b = br ((List.length b : Int) != (List.length a.2.2.2.1 : Int)) (some false) (bnd (u53f_l0 k a b ((List.length b : Int)) 0) (fun y1=>onSum y1 (fun y2=>some true) (fun y2=>some y2))):=by kernel_rfl
theorem u53f_l0_zero (v2 : T37.den) (v13 : T31.den) (v14 : T3.den) (v15 : T3.den) : u53f_l0 0 v2 v13 v14 v15 = none:=by kernel_rfl
theorem u53f_l0_succ (k : Nat) (v2 : T37.den) (v13 : T31.den) (v14 : T3.den) (v15 : T3.den) : u53f_l0 (k + 1) v2 v13 v14 v15 = br (decide (v15 < v14)) (br (decide (0 ≤ v15)) (br (decide (v15 < (List.length v13 : Int))) (bnd (u52f k (List.getD v13 (Int.toNat v15) T52.zero)) (fun y1=>br (!y1) (some (Sum.inr false)) (br ((List.getD v13 (Int.toNat v15) T52.zero).1 != 0) (br (decide (0 ≤ v15)) (br (decide (v15 < (List.length v2.2.2.2.1 : Int))) (br ((List.getD v13 (Int.toNat v15) T52.zero).1 != (List.getD v2.2.2.2.1 (Int.toNat v15) T59.zero).2.2.1) (some (Sum.inr false)) (br ((List.getD v13 (Int.toNat v15) T52.zero).1 == 0) (br (decide (0 ≤ v15)) (br (decide (v15 < (List.length v2.2.2.2.1 : Int))) (br ((List.getD v2.2.2.2.1 (Int.toNat v15) T59.zero).2.2.2.1) (some (Sum.inr false)) (u53f_l0 k v2 v13 v14 (IntKind.i64.wrap (v15 + 1)))) (none)) (none)) (u53f_l0 k v2 v13 v14 (IntKind.i64.wrap (v15 + 1))))) (none)) (none)) (br ((List.getD v13 (Int.toNat v15) T52.zero).1 == 0) (br (decide (0 ≤ v15)) (br (decide (v15 < (List.length v2.2.2.2.1 : Int))) (br ((List.getD v2.2.2.2.1 (Int.toNat v15) T59.zero).2.2.2.1) (some (Sum.inr false)) (u53f_l0 k v2 v13 v14 (IntKind.i64.wrap (v15 + 1)))) (none)) (none)) (u53f_l0 k v2 v13 v14 (IntKind.i64.wrap (v15 + 1))))))) (none)) (none)) (some (Sum.inl ())):=by kernel_rfl
def c_u53f : Con:=⟨[.val T37, .val T31],[T4],fun k x=>u53f k x.1 x.2.1⟩
theorem del_u53f {w0 : World} (hS : Stops w0) : DelOk Try.prog w0 d_u53f:=.cons (ok_u52f hS) ent_u52f (.nil)
theorem ok_u53f {w0 : World} (hS : Stops w0) : Keeps Try.prog w0 30 c_u53f:=.con (y9q (A:=a_u53f) y28q (del_u53f hS) (draws (del_u53f hS)) Try.func30 (by kernel_rfl) (fun k x=>by kernel_rfl) (by kernel_rfl)) (by kernel_rfl)
theorem ent_u53f : Enters' Try.prog 30:=enters' Try.func30 (by kernel_rfl)
attribute [irreducible] u53f u53f_l0
def a_slices_Equal_Value : Ann:=⟨[(0,[.val 0 T31, .val 1 T31, .val 12 T3, .val 13 T3],⟨[],false⟩)],[]⟩
def d_slices_Equal_Value : List (Nat × Con):=[]
def slices_Equal_Value (k : Nat) (a : T31.den) (b : T31.den) : Option (den1 [T4]):=evFn Γ d_slices_Equal_Value a_slices_Equal_Value Try.f31 [.val T31, .val T31] [T4] k (a,b,())
def slices_Equal_Value_l0 (k : Nat) (v0 : T31.den) (v1 : T31.den) (v12 : T3.den) (v13 : T3.den) : Option ((Items.den []) ⊕ (den1 [T4])):=loopR (ρ:=(den1 [T4])) 0 [.val 0 T31, .val 1 T31, .val 12 T3, .val 13 T3] [] (runOf Γ d_slices_Equal_Value a_slices_Equal_Value Try.f31 [.val T31, .val T31] [T4] 0) k (v0,v1,v12,v13)
theorem slices_Equal_Value_eq (k : Nat) (a : T31.den) (b : T31.den) : slices_Equal_Value k a b = br ((List.length a : Int) != (List.length b : Int)) (some false) (bnd (slices_Equal_Value_l0 k a b ((List.length a : Int)) 0) (fun y1=>onSum y1 (fun y2=>some true) (fun y2=>some y2))):=by kernel_rfl
theorem slices_Equal_Value_l0_zero (v0 : T31.den) (v1 : T31.den) (v12 : T3.den) (v13 : T3.den) : slices_Equal_Value_l0 0 v0 v1 v12 v13 = none:=by kernel_rfl
theorem y137q (k : Nat) (v0 : T31.den) (v1 : T31.den) (v12 : T3.den) (v13 : T3.den) : slices_Equal_Value_l0 (k + 1) v0 v1 v12 v13 = br (decide (v13 < v12)) (br (decide (0 ≤ v13)) (br (decide (v13 < (List.length v0 : Int))) (br (decide (0 ≤ v13)) (br (decide (v13 < (List.length v1 : Int))) (br (!andB (eqI (List.getD v0 (Int.toNat v13) T52.zero).1 (List.getD v1 (Int.toNat v13) T52.zero).1) (andB (eqI (List.getD v0 (Int.toNat v13) T52.zero).2.1 (List.getD v1 (Int.toNat v13) T52.zero).2.1) (andB (eqI (List.getD v0 (Int.toNat v13) T52.zero).2.2.1 (List.getD v1 (Int.toNat v13) T52.zero).2.2.1) (andB (eqS (List.getD v0 (Int.toNat v13) T52.zero).2.2.2.1 (List.getD v1 (Int.toNat v13) T52.zero).2.2.2.1) true)))) (some (Sum.inr false)) (slices_Equal_Value_l0 k v0 v1 v12 (IntKind.i64.wrap (v13 + 1)))) (none)) (none)) (none)) (none)) (some (Sum.inl ())):=by kernel_rfl
def c_slices_Equal_Value : Con:=⟨[.val T31, .val T31],[T4],fun k x=>slices_Equal_Value k x.1 x.2.1⟩
theorem y100q {w0 : World} (hS : Stops w0) : DelOk Try.prog w0 d_slices_Equal_Value:=.nil
theorem ok_slices_Equal_Value {w0 : World} (hS : Stops w0) : Keeps Try.prog w0 31 c_slices_Equal_Value:=.con (y9q (A:=a_slices_Equal_Value) y28q (y100q hS) (draws (y100q hS)) Try.func31 (by kernel_rfl) (fun k x=>by kernel_rfl) (by kernel_rfl)) (by kernel_rfl)
theorem ent_slices_Equal_Value : Enters' Try.prog 31:=enters' Try.func31 (by kernel_rfl)
attribute [irreducible] slices_Equal_Value slices_Equal_Value_l0
def a_u54f : Ann:=⟨[(0,[.val 1 T31, .var 3 T37, .val 7 O31, .val 10 T23, .val 11 T3, .val 12 T3],⟨[.val 7 O31],true⟩)],[]⟩
def d_u54f : List (Nat × Con):=[(29,c_u40f)]
def u54f (k : Nat) (a : T37.den) (b : T31.den) (c : T23.den) : Option (den1 [O31]):=evFn Γo d_u54f a_u54f Try.f32 [.val T37, .val T31, .val T23] [O31] k (a,b,c,())
def u54f_l0 (k : Nat) (v1 : T31.den) (v3 : T37.den) (v7 : O31.den) (v10 : T23.den) (v11 : T3.den) (v12 : T3.den) : Option (Items.den [.val 7 O31]):=loopQ (ρ:=(den1 [O31])) 0 [.val 1 T31, .var 3 T37, .val 7 O31, .val 10 T23, .val 11 T3, .val 12 T3] [.val 7 O31] (runOf Γo d_u54f a_u54f Try.f32 [.val T37, .val T31, .val T23] [O31] 0) k (v1,v3,v7,v10,v11,v12)
theorem u54f_eq (k : Nat) (a : T37.den) (b : T31.den) (c : T23.den) : u54f k a b c = bnd (u54f_l0 k b a [] c ((List.length c : Int)) 0) (fun y1=>some y1):=by kernel_rfl
theorem u54f_l0_zero (v1 : T31.den) (v3 : T37.den) (v7 : O31.den) (v10 : T23.den) (v11 : T3.den) (v12 : T3.den) : u54f_l0 0 v1 v3 v7 v10 v11 v12 = none:=by kernel_rfl
theorem u54f_l0_succ (k : Nat) (v1 : T31.den) (v3 : T37.den) (v7 : O31.den) (v10 : T23.den) (v11 : T3.den) (v12 : T3.den) : u54f_l0 (k + 1) v1 v3 v7 v10 v11 v12 = br (decide (v12 < v11)) (br (decide (0 ≤ v12)) (br (decide (v12 < (List.length v10 : Int))) (bnd (u40f k v3 (List.getD v10 (Int.toNat v12) T3.zero)) (fun y1=>br (decide (0 ≤ y1)) (br (decide (y1 < (List.length v1 : Int))) (br (decide (List.length v7 + [(List.getD v1 (Int.toNat y1) T52.zero)].length ≤ capN)) (u54f_l0 k v1 v3 (v7 ++ [(List.getD v1 (Int.toNat y1) T52.zero)]) v10 v11 (IntKind.i64.wrap (v12 + 1))) (none)) (none)) (none))) (none)) (none)) (some v7):=by kernel_rfl
def c_u54f : Con:=⟨[.val T37, .val T31, .val T23],[O31],fun k x=>u54f k x.1 x.2.1 x.2.2.1⟩
theorem del_u54f {w0 : World} (hS : Stops w0) : DelOk Try.prog w0 d_u54f:=.cons (ok_u40f hS) ent_u40f (.nil)
theorem ok_u54f {w0 : World} (hS : Stops w0) : Keeps Try.prog w0 32 c_u54f:=.gn (y53q (A:=a_u54f) y71q (del_u54f hS) (drawso (del_u54f hS)) Try.func32 (by kernel_rfl) (fun k x=>by kernel_rfl) (by kernel_rfl)) (by kernel_rfl)
theorem ent_u54f : Enters' Try.prog 32:=enters' Try.func32 (by kernel_rfl)
attribute [irreducible] u54f u54f_l0
def a_u55f : Ann:=⟨[(0,[.var 2 T37, .var 3 T39, .val 6 O31, .val 51 T23, .val 52 T3, .val 53 T3],⟨[.var 2 T37, .var 3 T39, .val 6 O31],false⟩),(2,[.var 2 T37, .val 6 O31, .val 10 O31, .val 11 O31, .val 12 T3],⟨[.var 2 T37, .val 6 O31, .val 11 O31],false⟩)],[(21,⟨[.var 2 T37, .val 6 O31, .val 10 O31, .val 11 O31, .val 12 T3],false⟩)]⟩
def d_u55f : List (Nat × Con):=[(26,c_u45f),(27,c_u49f),(28,c_u50f),(29,c_u40f),(30,c_u53f),(31,c_slices_Equal_Value),(32,c_u54f)]
def u55f (k : Nat) (a : T37.den) (b : T39.den) : Option (den1 [O31,T3]):=evFn Γo d_u55f a_u55f Try.f9 [.val T37, .val T39] [O31,T3] k (a,b,())
def u55f_l0 (k : Nat) (v2 : T37.den) (v3 : T39.den) (v6 : O31.den) (v51 : T23.den) (v52 : T3.den) (v53 : T3.den) : Option ((Items.den [.var 2 T37, .var 3 T39, .val 6 O31]) ⊕ (den1 [O31,T3])):=loopR (ρ:=(den1 [O31,T3])) 0 [.var 2 T37, .var 3 T39, .val 6 O31, .val 51 T23, .val 52 T3, .val 53 T3] [.var 2 T37, .var 3 T39, .val 6 O31] (runOf Γo d_u55f a_u55f Try.f9 [.val T37, .val T39] [O31,T3] 0) k (v2,v3,v6,v51,v52,v53)
def u55f_l2 (k : Nat) (v2 : T37.den) (v6 : O31.den) (v10 : O31.den) (v11 : O31.den) (v12 : T3.den) : Option ((Items.den [.var 2 T37, .val 6 O31, .val 11 O31]) ⊕ (den1 [O31,T3])):=loopR (ρ:=(den1 [O31,T3])) 2 [.var 2 T37, .val 6 O31, .val 10 O31, .val 11 O31, .val 12 T3] [.var 2 T37, .val 6 O31, .val 11 O31] (runOf Γo d_u55f a_u55f Try.f9 [.val T37, .val T39] [O31,T3] 2) k (v2,v6,v10,v11,v12)
theorem u55f_eq (k : Nat) (a : T37.den) (b : T39.den) : u55f k a b = bnd (u45f k a) (fun y1=>br (!y1) (some ([],1)) (bnd (u49f k b.1) (fun y2=>br (y2.2 != 0) (some ([],5)) (br ((List.length y2.1 : Int) != IntKind.i64.wrap (2 + (List.length a.2.2.2.2.1 : Int))) (some ([],5)) (br (decide (0 ≤ 0)) (br (decide (0 < (List.length y2.1 : Int))) (bnd (u50f k a.1) (fun y3=>br (!andB (eqI (List.getD y2.1 (Int.toNat 0) T52.zero).1 y3.1) (andB (eqI (List.getD y2.1 (Int.toNat 0) T52.zero).2.1 y3.2.1) (andB (eqI (List.getD y2.1 (Int.toNat 0) T52.zero).2.2.1 y3.2.2.1) (andB (eqS (List.getD y2.1 (Int.toNat 0) T52.zero).2.2.2.1 y3.2.2.2.1) true)))) (some ([],5)) (br (decide (0 ≤ 1)) (br (decide (1 < (List.length y2.1 : Int))) (bnd (u50f k 0) (fun y4=>br (!andB (eqI (List.getD y2.1 (Int.toNat 1) T52.zero).1 y4.1) (andB (eqI (List.getD y2.1 (Int.toNat 1) T52.zero).2.1 y4.2.1) (andB (eqI (List.getD y2.1 (Int.toNat 1) T52.zero).2.2.1 y4.2.2.1) (andB (eqS (List.getD y2.1 (Int.toNat 1) T52.zero).2.2.2.1 y4.2.2.2.1) true)))) (some ([],5)) (bnd (u55f_l0 k a b y2.1 a.2.2.2.2.1 ((List.length a.2.2.2.2.1 : Int)) 0) (fun y5=>onSum y5 (fun y6=>bnd (u49f k y6.2.1.2.1) (fun y7=>br (y7.2 != 0) (some ([],5)) (br (!2 == 0) (br ((List.length y7.1 : Int).tmod 2 != 0) (some ([],5)) (br ((List.length y6.1.2.2.2.1 : Int) == (List.length y6.1.2.2.2.1 : Int)) (br (decide (0 ≤ (List.length y6.1.2.2.2.1 : Int))) (br (decide ((List.length y6.1.2.2.2.1 : Int) ≤ (↑capN : Int))) (bnd (u55f_l2 k y6.1 y6.2.2 y7.1 (List.replicate (List.length y6.1.2.2.2.1 : Int).toNat (T3.pair (T3.pair (T3.pair (T9.pair Ty.unit)))).zero) 0) (fun y8=>onSum y8 (fun y9=>bnd (u53f k y9.1 y9.2.2) (fun y10=>br (!y10) (some ([],5)) (bnd (u54f k y9.1 y9.2.2 y9.1.2.2.2.2.1) (fun y11=>br (decide (0 ≤ 2)) (br (decide (2 ≤ (List.length y9.2.1 : Int))) (bnd (slices_Equal_Value k y11 (List.drop (0 + Int.toNat 2) (List.take (0 + List.length y9.2.1) y9.2.1))) (fun y12=>br (!y12) (some ([],5)) (some (y9.2.2,0)))) (none)) (none))))) (fun y9=>some y9))) (none)) (none)) (none))) (none)))) (fun y6=>some y6))))) (none)) (none)))) (none)) (none)))))):=by kernel_rfl
theorem u55f_l0_zero (v2 : T37.den) (v3 : T39.den) (v6 : O31.den) (v51 : T23.den) (v52 : T3.den) (v53 : T3.den) : u55f_l0 0 v2 v3 v6 v51 v52 v53 = none:=by kernel_rfl
theorem u55f_l0_succ (k : Nat) (v2 : T37.den) (v3 : T39.den) (v6 : O31.den) (v51 : T23.den) (v52 : T3.den) (v53 : T3.den) : u55f_l0 (k + 1) v2 v3 v6 v51 v52 v53 = br (decide (v53 < v52)) (br (decide (0 ≤ v53)) (br (decide (v53 < (List.length v51 : Int))) (br (decide (0 ≤ IntKind.i64.wrap (2 + v53))) (br (decide (IntKind.i64.wrap (2 + v53) < (List.length v6 : Int))) (bnd (u40f k v2 (List.getD v51 (Int.toNat v53) T3.zero)) (fun y1=>br (decide (0 ≤ y1)) (br (decide (y1 < (List.length v2.2.2.2.1 : Int))) (br ((List.getD v6 (IntKind.i64.wrap (2 + v53)).toNat T52.zero).1 != (List.getD v2.2.2.2.1 (Int.toNat y1) T59.zero).2.2.1) (some (Sum.inr ([],5))) (u55f_l0 k v2 v3 v6 v51 v52 (IntKind.i64.wrap (v53 + 1)))) (none)) (none))) (none)) (none)) (none)) (none)) (some (Sum.inl (v2,v3,v6))):=by kernel_rfl
theorem u55f_l2_zero (v2 : T37.den) (v6 : O31.den) (v10 : O31.den) (v11 : O31.den) (v12 : T3.den) : u55f_l2 0 v2 v6 v10 v11 v12 = none:=by kernel_rfl
theorem u55f_l2_succ (k : Nat) (v2 : T37.den) (v6 : O31.den) (v10 : O31.den) (v11 : O31.den) (v12 : T3.den) : u55f_l2 (k + 1) v2 v6 v10 v11 v12 = br (decide (v12 < (List.length v10 : Int))) (bnd (br (decide (0 ≤ v12)) (br (decide (v12 < (List.length v10 : Int))) (br ((List.getD v10 (Int.toNat v12) T52.zero).1 != 2) (some (Sum.inr ([],5))) (br (decide (0 ≤ IntKind.i64.wrap (v12 + 1))) (br (decide (IntKind.i64.wrap (v12 + 1) < (List.length v10 : Int))) (br ((List.getD v10 (IntKind.i64.wrap (v12 + 1)).toNat T52.zero).1 == 0) (some (Sum.inr ([],5))) (br (decide (v12 > 0)) (br (decide (0 ≤ IntKind.i64.wrap (v12 - 2))) (br (decide (IntKind.i64.wrap (v12 - 2) < (List.length v10 : Int))) (br (decide (0 ≤ v12)) (br (decide (v12 < (List.length v10 : Int))) (br (decide ((List.getD v10 (IntKind.i64.wrap (v12 - 2)).toNat T52.zero).2.1 ≥ (List.getD v10 (Int.toNat v12) T52.zero).2.1)) (some (Sum.inr ([],5))) (some (Sum.inl (v2,v6,v10,v11,v12)))) (none)) (none)) (none)) (none)) (some (Sum.inl (v2,v6,v10,v11,v12))))) (none)) (none))) (none)) (none)) (fun y1=>onSum y1 (fun y2=>br (decide (0 ≤ y2.2.2.2.2)) (br (decide (y2.2.2.2.2 < (List.length y2.2.2.1 : Int))) (bnd (u40f k y2.1 (List.getD y2.2.2.1 (Int.toNat y2.2.2.2.2) T52.zero).2.1) (fun y3=>br (decide (y3 ≥ 0)) (br (decide (0 ≤ IntKind.i64.wrap (y2.2.2.2.2 + 1))) (br (decide (IntKind.i64.wrap (y2.2.2.2.2 + 1) < (List.length y2.2.2.1 : Int))) (br (decide (0 ≤ y3)) (br (decide (y3 < (List.length y2.2.2.2.1 : Int))) (u55f_l2 k y2.1 y2.2.1 y2.2.2.1 (List.set y2.2.2.2.1 (Int.toNat y3) (List.getD y2.2.2.1 (IntKind.i64.wrap (y2.2.2.2.2 + 1)).toNat T52.zero)) (IntKind.i64.wrap (y2.2.2.2.2 + 2))) (none)) (none)) (none)) (none)) (u55f_l2 k y2.1 y2.2.1 y2.2.2.1 y2.2.2.2.1 (IntKind.i64.wrap (y2.2.2.2.2 + 2))))) (none)) (none)) (fun y2=>some (Sum.inr y2)))) (some (Sum.inl (v2,v6,v11))):=by kernel_rfl
def c_u55f : Con:=⟨[.val T37, .val T39],[O31,T3],fun k x=>u55f k x.1 x.2.1⟩
theorem del_u55f {w0 : World} (hS : Stops w0) : DelOk Try.prog w0 d_u55f:=.cons (ok_u45f hS) ent_u45f (.cons (ok_u49f hS) ent_u49f (.cons (ok_u50f hS) ent_u50f (.cons (ok_u40f hS) ent_u40f (.cons (ok_u53f hS) ent_u53f (.cons (ok_slices_Equal_Value hS) ent_slices_Equal_Value (.cons (ok_u54f hS) ent_u54f (.nil)))))))
theorem ok_u55f {w0 : World} (hS : Stops w0) : Keeps Try.prog w0 9 c_u55f:=.gn (y53q (A:=a_u55f) y71q (del_u55f hS) (drawso (del_u55f hS)) Try.func9 (by kernel_rfl) (fun k x=>by kernel_rfl) (by kernel_rfl)) (by kernel_rfl)
theorem ent_u55f : Enters' Try.prog 9:=enters' Try.func9 (by kernel_rfl)
attribute [irreducible] u55f u55f_l0 u55f_l2
def a_u56f : Ann:=⟨[],[]⟩
def d_u56f : List (Nat × Con):=[]
def u56f (k : Nat) (a : T52.den) (b : T52.den) : Option (den1 [T4]):=evFn Γ d_u56f a_u56f Try.f33 [.val T52, .val T52] [T4] k (a,b,())
theorem u56f_eq (k : Nat) (a : T52.den) (b : T52.den) : u56f k a b = br (a.1 != b.1) (some false) (br (a.2.1 != b.2.1) (some false) (br (a.2.2.1 != b.2.2.1) (some false) (br (!a.2.2.2.1 == b.2.2.2.1) (some false) (some true)))):=by kernel_rfl
def c_u56f : Con:=⟨[.val T52, .val T52],[T4],fun k x=>u56f k x.1 x.2.1⟩
theorem del_u56f {w0 : World} (hS : Stops w0) : DelOk Try.prog w0 d_u56f:=.nil
theorem ok_u56f {w0 : World} (hS : Stops w0) : Keeps Try.prog w0 33 c_u56f:=.con (y9q (A:=a_u56f) y28q (del_u56f hS) (draws (del_u56f hS)) Try.func33 (by kernel_rfl) (fun k x=>by kernel_rfl) (by kernel_rfl)) (by kernel_rfl)
theorem ent_u56f : Enters' Try.prog 33:=enters' Try.func33 (by kernel_rfl)
attribute [irreducible] u56f
def a_u57f : Ann:=⟨[(0,[.val 0 T31, .val 1 T31, .val 5 T3],⟨[],false⟩)],[]⟩
def d_u57f : List (Nat × Con):=[(33,c_u56f)]
def u57f (k : Nat) (a : T31.den) (b : T31.den) : Option (den1 [T4]):=evFn Γ d_u57f a_u57f Try.f10 [.val T31, .val T31] [T4] k (a,b,())
def u57f_l0 (k : Nat) (v0 : T31.den) (v1 : T31.den) (v5 : T3.den) : Option ((Items.den []) ⊕ (den1 [T4])):=loopR (ρ:=(den1 [T4])) 0 [.val 0 T31, .val 1 T31, .val 5 T3] [] (runOf Γ d_u57f a_u57f Try.f10 [.val T31, .val T31] [T4] 0) k (v0,v1,v5)
theorem u57f_eq (k : Nat) (a : T31.den) (b : T31.den) : u57f k a b = br ((List.length a : Int) != (List.length b : Int)) (some false) (bnd (u57f_l0 k a b 0) (fun y1=>onSum y1 (fun y2=>some true) (fun y2=>some y2))):=by kernel_rfl
theorem u57f_l0_zero (v0 : T31.den) (v1 : T31.den) (v5 : T3.den) : u57f_l0 0 v0 v1 v5 = none:=by kernel_rfl
theorem u57f_l0_succ (k : Nat) (v0 : T31.den) (v1 : T31.den) (v5 : T3.den) : u57f_l0 (k + 1) v0 v1 v5 = br (decide (v5 < (List.length v0 : Int))) (br (decide (0 ≤ v5)) (br (decide (v5 < (List.length v0 : Int))) (br (decide (0 ≤ v5)) (br (decide (v5 < (List.length v1 : Int))) (bnd (u56f k (List.getD v0 (Int.toNat v5) T52.zero) (List.getD v1 (Int.toNat v5) T52.zero)) (fun y1=>br (!y1) (some (Sum.inr false)) (u57f_l0 k v0 v1 (IntKind.i64.wrap (v5 + 1))))) (none)) (none)) (none)) (none)) (some (Sum.inl ())):=by kernel_rfl
def c_u57f : Con:=⟨[.val T31, .val T31],[T4],fun k x=>u57f k x.1 x.2.1⟩
theorem del_u57f {w0 : World} (hS : Stops w0) : DelOk Try.prog w0 d_u57f:=.cons (ok_u56f hS) ent_u56f (.nil)
theorem ok_u57f {w0 : World} (hS : Stops w0) : Keeps Try.prog w0 10 c_u57f:=.con (y9q (A:=a_u57f) y28q (del_u57f hS) (draws (del_u57f hS)) Try.func10 (by kernel_rfl) (fun k x=>by kernel_rfl) (by kernel_rfl)) (by kernel_rfl)
theorem ent_u57f : Enters' Try.prog 10:=enters' Try.func10 (by kernel_rfl)
attribute [irreducible] u57f u57f_l0
def a_u58f : Ann:=⟨[],[]⟩
def d_u58f : List (Nat × Con):=[]
def u58f (k : Nat) (a : T59.den) (b : T59.den) : Option (den1 [T4]):=evFn Γ d_u58f a_u58f Try.f62 [.val T59, .val T59] [T4] k (a,b,())
theorem u58f_eq (k : Nat) (a : T59.den) (b : T59.den) : u58f k a b = br (a.1 != b.1) (some false) (br (!a.2.1 == b.2.1) (some false) (br (a.2.2.1 != b.2.2.1) (some false) (br (!a.2.2.2.1 == b.2.2.2.1) (some false) (some true)))):=by kernel_rfl
def c_u58f : Con:=⟨[.val T59, .val T59],[T4],fun k x=>u58f k x.1 x.2.1⟩
theorem del_u58f {w0 : World} (hS : Stops w0) : DelOk Try.prog w0 d_u58f:=.nil
theorem ok_u58f {w0 : World} (hS : Stops w0) : Keeps Try.prog w0 62 c_u58f:=.con (y9q (A:=a_u58f) y28q (del_u58f hS) (draws (del_u58f hS)) Try.func62 (by kernel_rfl) (fun k x=>by kernel_rfl) (by kernel_rfl)) (by kernel_rfl)
theorem ent_u58f : Enters' Try.prog 62:=enters' Try.func62 (by kernel_rfl)
attribute [irreducible] u58f
def a_u59f : Ann:=⟨[(0,[.val 0 T34, .val 1 T34, .val 5 T3],⟨[],false⟩)],[]⟩
def d_u59f : List (Nat × Con):=[(62,c_u58f)]
def u59f (k : Nat) (a : T34.den) (b : T34.den) : Option (den1 [T4]):=evFn Γ d_u59f a_u59f Try.f34 [.val T34, .val T34] [T4] k (a,b,())
def u59f_l0 (k : Nat) (v0 : T34.den) (v1 : T34.den) (v5 : T3.den) : Option ((Items.den []) ⊕ (den1 [T4])):=loopR (ρ:=(den1 [T4])) 0 [.val 0 T34, .val 1 T34, .val 5 T3] [] (runOf Γ d_u59f a_u59f Try.f34 [.val T34, .val T34] [T4] 0) k (v0,v1,v5)
theorem u59f_eq (k : Nat) (a : T34.den) (b : T34.den) : u59f k a b = br ((List.length a : Int) != (List.length b : Int)) (some false) (bnd (u59f_l0 k a b 0) (fun y1=>onSum y1 (fun y2=>some true) (fun y2=>some y2))):=by kernel_rfl
theorem u59f_l0_zero (v0 : T34.den) (v1 : T34.den) (v5 : T3.den) : u59f_l0 0 v0 v1 v5 = none:=by kernel_rfl
theorem u59f_l0_succ (k : Nat) (v0 : T34.den) (v1 : T34.den) (v5 : T3.den) : u59f_l0 (k + 1) v0 v1 v5 = br (decide (v5 < (List.length v0 : Int))) (br (decide (0 ≤ v5)) (br (decide (v5 < (List.length v0 : Int))) (br (decide (0 ≤ v5)) (br (decide (v5 < (List.length v1 : Int))) (bnd (u58f k (List.getD v0 (Int.toNat v5) T59.zero) (List.getD v1 (Int.toNat v5) T59.zero)) (fun y1=>br (!y1) (some (Sum.inr false)) (u59f_l0 k v0 v1 (IntKind.i64.wrap (v5 + 1))))) (none)) (none)) (none)) (none)) (some (Sum.inl ())):=by kernel_rfl
def c_u59f : Con:=⟨[.val T34, .val T34],[T4],fun k x=>u59f k x.1 x.2.1⟩
theorem del_u59f {w0 : World} (hS : Stops w0) : DelOk Try.prog w0 d_u59f:=.cons (ok_u58f hS) ent_u58f (.nil)
theorem ok_u59f {w0 : World} (hS : Stops w0) : Keeps Try.prog w0 34 c_u59f:=.con (y9q (A:=a_u59f) y28q (del_u59f hS) (draws (del_u59f hS)) Try.func34 (by kernel_rfl) (fun k x=>by kernel_rfl) (by kernel_rfl)) (by kernel_rfl)
theorem ent_u59f : Enters' Try.prog 34:=enters' Try.func34 (by kernel_rfl)
attribute [irreducible] u59f u59f_l0
def a_u60f : Ann:=⟨[(0,[.val 0 T23, .val 1 T23, .val 5 T3],⟨[],false⟩)],[]⟩
def d_u60f : List (Nat × Con):=[]
def u60f (k : Nat) (a : T23.den) (b : T23.den) : Option (den1 [T4]):=evFn Γ d_u60f a_u60f Try.f35 [.val T23, .val T23] [T4] k (a,b,())
def u60f_l0 (k : Nat) (v0 : T23.den) (v1 : T23.den) (v5 : T3.den) : Option ((Items.den []) ⊕ (den1 [T4])):=loopR (ρ:=(den1 [T4])) 0 [.val 0 T23, .val 1 T23, .val 5 T3] [] (runOf Γ d_u60f a_u60f Try.f35 [.val T23, .val T23] [T4] 0) k (v0,v1,v5)
theorem u60f_eq (k : Nat) (a : T23.den) (b : T23.den) : u60f k a b = br ((List.length a : Int) != (List.length b : Int)) (some false) (bnd (u60f_l0 k a b 0) (fun y1=>onSum y1 (fun y2=>some true) (fun y2=>some y2))):=by kernel_rfl
theorem u60f_l0_zero (v0 : T23.den) (v1 : T23.den) (v5 : T3.den) : u60f_l0 0 v0 v1 v5 = none:=by kernel_rfl
theorem u60f_l0_succ (k : Nat) (v0 : T23.den) (v1 : T23.den) (v5 : T3.den) : u60f_l0 (k + 1) v0 v1 v5 = br (decide (v5 < (List.length v0 : Int))) (br (decide (0 ≤ v5)) (br (decide (v5 < (List.length v0 : Int))) (br (decide (0 ≤ v5)) (br (decide (v5 < (List.length v1 : Int))) (br (List.getD v0 (Int.toNat v5) T3.zero != List.getD v1 (Int.toNat v5) T3.zero) (some (Sum.inr false)) (u60f_l0 k v0 v1 (IntKind.i64.wrap (v5 + 1)))) (none)) (none)) (none)) (none)) (some (Sum.inl ())):=by kernel_rfl
def c_u60f : Con:=⟨[.val T23, .val T23],[T4],fun k x=>u60f k x.1 x.2.1⟩
theorem del_u60f {w0 : World} (hS : Stops w0) : DelOk Try.prog w0 d_u60f:=.nil
theorem ok_u60f {w0 : World} (hS : Stops w0) : Keeps Try.prog w0 35 c_u60f:=.con (y9q (A:=a_u60f) y28q (del_u60f hS) (draws (del_u60f hS)) Try.func35 (by kernel_rfl) (fun k x=>by kernel_rfl) (by kernel_rfl)) (by kernel_rfl)
theorem ent_u60f : Enters' Try.prog 35:=enters' Try.func35 (by kernel_rfl)
attribute [irreducible] u60f u60f_l0
def a_u61f : Ann:=⟨[],[]⟩
def d_u61f : List (Nat × Con):=[(35,c_u60f)]
def u61f (k : Nat) (a : T76.den) (b : T76.den) : Option (den1 [T4]):=evFn Γ d_u61f a_u61f Try.f63 [.val T76, .val T76] [T4] k (a,b,())
theorem u61f_eq (k : Nat) (a : T76.den) (b : T76.den) : u61f k a b = br (a.1 != b.1) (some false) (br (!a.2.1 == b.2.1) (some false) (bnd (u60f k a.2.2.1 b.2.2.1) (fun y1=>br (!y1) (some false) (br (!a.2.2.2.1 == b.2.2.2.1) (some false) (br (a.2.2.2.2.1 != b.2.2.2.2.1) (some false) (br (!a.2.2.2.2.2.1 == b.2.2.2.2.2.1) (some false) (some true))))))):=by kernel_rfl
def c_u61f : Con:=⟨[.val T76, .val T76],[T4],fun k x=>u61f k x.1 x.2.1⟩
theorem del_u61f {w0 : World} (hS : Stops w0) : DelOk Try.prog w0 d_u61f:=.cons (ok_u60f hS) ent_u60f (.nil)
theorem ok_u61f {w0 : World} (hS : Stops w0) : Keeps Try.prog w0 63 c_u61f:=.con (y9q (A:=a_u61f) y28q (del_u61f hS) (draws (del_u61f hS)) Try.func63 (by kernel_rfl) (fun k x=>by kernel_rfl) (by kernel_rfl)) (by kernel_rfl)
theorem ent_u61f : Enters' Try.prog 63:=enters' Try.func63 (by kernel_rfl)
attribute [irreducible] u61f
def a_u62f : Ann:=⟨[(0,[.val 0 T35, .val 1 T35, .val 5 T3],⟨[],false⟩)],[]⟩
def d_u62f : List (Nat × Con):=[(63,c_u61f)]
def u62f (k : Nat) (a : T35.den) (b : T35.den) : Option (den1 [T4]):=evFn Γ d_u62f a_u62f Try.f36 [.val T35, .val T35] [T4] k (a,b,())
def u62f_l0 (k : Nat) (v0 : T35.den) (v1 : T35.den) (v5 : T3.den) : Option ((Items.den []) ⊕ (den1 [T4])):=loopR (ρ:=(den1 [T4])) 0 [.val 0 T35, .val 1 T35, .val 5 T3] [] (runOf Γ d_u62f a_u62f Try.f36 [.val T35, .val T35] [T4] 0) k (v0,v1,v5)
theorem u62f_eq (k : Nat) (a : T35.den) (b : T35.den) : u62f k a b = br ((List.length a : Int) != (List.length b : Int)) (some false) (bnd (u62f_l0 k a b 0) (fun y1=>onSum y1 (fun y2=>some true) (fun y2=>some y2))):=by kernel_rfl
theorem u62f_l0_zero (v0 : T35.den) (v1 : T35.den) (v5 : T3.den) : u62f_l0 0 v0 v1 v5 = none:=by kernel_rfl
theorem u62f_l0_succ (k : Nat) (v0 : T35.den) (v1 : T35.den) (v5 : T3.den) : u62f_l0 (k + 1) v0 v1 v5 = br (decide (v5 < (List.length v0 : Int))) (br (decide (0 ≤ v5)) (br (decide (v5 < (List.length v0 : Int))) (br (decide (0 ≤ v5)) (br (decide (v5 < (List.length v1 : Int))) (bnd (u61f k (List.getD v0 (Int.toNat v5) T76.zero) (List.getD v1 (Int.toNat v5) T76.zero)) (fun y1=>br (!y1) (some (Sum.inr false)) (u62f_l0 k v0 v1 (IntKind.i64.wrap (v5 + 1))))) (none)) (none)) (none)) (none)) (some (Sum.inl ())):=by kernel_rfl
def c_u62f : Con:=⟨[.val T35, .val T35],[T4],fun k x=>u62f k x.1 x.2.1⟩
theorem del_u62f {w0 : World} (hS : Stops w0) : DelOk Try.prog w0 d_u62f:=.cons (ok_u61f hS) ent_u61f (.nil)
theorem ok_u62f {w0 : World} (hS : Stops w0) : Keeps Try.prog w0 36 c_u62f:=.con (y9q (A:=a_u62f) y28q (del_u62f hS) (draws (del_u62f hS)) Try.func36 (by kernel_rfl) (fun k x=>by kernel_rfl) (by kernel_rfl)) (by kernel_rfl)
theorem ent_u62f : Enters' Try.prog 36:=enters' Try.func36 (by kernel_rfl)
attribute [irreducible] u62f u62f_l0
def a_u63f : Ann:=⟨[],[]⟩
def d_u63f : List (Nat × Con):=[(34,c_u59f),(35,c_u60f),(36,c_u62f)]
def u63f (k : Nat) (a : T37.den) (b : T37.den) : Option (den1 [T4]):=evFn Γ d_u63f a_u63f Try.f11 [.val T37, .val T37] [T4] k (a,b,())
theorem u63f_eq (k : Nat) (a : T37.den) (b : T37.den) : u63f k a b = br (a.1 != b.1) (some false) (br (!a.2.1 == b.2.1) (some false) (br (a.2.2.1 != b.2.2.1) (some false) (bnd (u59f k a.2.2.2.1 b.2.2.2.1) (fun y1=>br (!y1) (some false) (bnd (u60f k a.2.2.2.2.1 b.2.2.2.2.1) (fun y2=>br (!y2) (some false) (bnd (u62f k a.2.2.2.2.2.1 b.2.2.2.2.2.1) (fun y3=>br (!y3) (some false) (some true))))))))):=by kernel_rfl
def c_u63f : Con:=⟨[.val T37, .val T37],[T4],fun k x=>u63f k x.1 x.2.1⟩
theorem del_u63f {w0 : World} (hS : Stops w0) : DelOk Try.prog w0 d_u63f:=.cons (ok_u59f hS) ent_u59f (.cons (ok_u60f hS) ent_u60f (.cons (ok_u62f hS) ent_u62f (.nil)))
theorem ok_u63f {w0 : World} (hS : Stops w0) : Keeps Try.prog w0 11 c_u63f:=.con (y9q (A:=a_u63f) y28q (del_u63f hS) (draws (del_u63f hS)) Try.func11 (by kernel_rfl) (fun k x=>by kernel_rfl) (by kernel_rfl)) (by kernel_rfl)
theorem ent_u63f : Enters' Try.prog 11:=enters' Try.func11 (by kernel_rfl)
attribute [irreducible] u63f
def a_u64f : Ann:=⟨[(0,[.val 0 T3, .val 3 T9],⟨[.val 3 T9],true⟩)],[]⟩
def d_u64f : List (Nat × Con):=[]
def u64f (k : Nat) (a : T3.den) : Option (den1 [T9]):=evFn Γ d_u64f a_u64f Try.f40 [.val T3] [T9] k (a,())
def u64f_l0 (k : Nat) (v0 : T3.den) (v3 : T9.den) : Option (Items.den [.val 3 T9]):=loopQ (ρ:=(den1 [T9])) 0 [.val 0 T3, .val 3 T9] [.val 3 T9] (runOf Γ d_u64f a_u64f Try.f40 [.val T3] [T9] 0) k (v0,v3)
theorem u64f_eq (k : Nat) (a : T3.den) : u64f k a = br (decide (a ≤ 0)) (some [109,48]) (bnd (u64f_l0 k a []) (fun y1=>br (decide ([109].length + List.length y1 ≤ capN)) (some ([109] ++ y1)) (none))):=by kernel_rfl
theorem u64f_l0_zero (v0 : T3.den) (v3 : T9.den) : u64f_l0 0 v0 v3 = none:=by kernel_rfl
theorem u64f_l0_succ (k : Nat) (v0 : T3.den) (v3 : T9.den) : u64f_l0 (k + 1) v0 v3 = br (decide (v0 > 0)) (br (!10 == 0) (br (decide ((List.map (fun n=>UInt8.ofNat n.toNat) [IntKind.u8.wrap (IntKind.i64.wrap (48 + Int.tmod v0 10))]).length + List.length v3 ≤ capN)) (br (!10 == 0) (u64f_l0 k (IntKind.i64.wrap (Int.tdiv v0 10)) (List.map (fun n=>UInt8.ofNat n.toNat) [IntKind.u8.wrap (IntKind.i64.wrap (48 + Int.tmod v0 10))] ++ v3)) (none)) (none)) (none)) (some v3):=by kernel_rfl
def c_u64f : Con:=⟨[.val T3],[T9],fun k x=>u64f k x.1⟩
theorem del_u64f {w0 : World} (hS : Stops w0) : DelOk Try.prog w0 d_u64f:=.nil
theorem ok_u64f {w0 : World} (hS : Stops w0) : Keeps Try.prog w0 40 c_u64f:=.con (y9q (A:=a_u64f) y28q (del_u64f hS) (draws (del_u64f hS)) Try.func40 (by kernel_rfl) (fun k x=>by kernel_rfl) (by kernel_rfl)) (by kernel_rfl)
theorem ent_u64f : Enters' Try.prog 40:=enters' Try.func40 (by kernel_rfl)
attribute [irreducible] u64f u64f_l0
def a_u65f : Ann:=⟨[(0,[.val 0 O34, .val 1 T3, .val 5 T3],⟨[.val 0 O34, .val 1 T3],true⟩)],[]⟩
def d_u65f : List (Nat × Con):=[(40,c_u64f)]
def u65f (k : Nat) (a : O34.den) (b : T3.den) : Option (den1 [T3,O34]):=evFn Γo d_u65f a_u65f Try.f37 [.io O34, .val T3] [T3,O34] k (a,b,())
def u65f_l0 (k : Nat) (v0 : O34.den) (v1 : T3.den) (v5 : T3.den) : Option (Items.den [.val 0 O34, .val 1 T3]):=loopQ (ρ:=(den1 [T3,O34])) 0 [.val 0 O34, .val 1 T3, .val 5 T3] [.val 0 O34, .val 1 T3] (runOf Γo d_u65f a_u65f Try.f37 [.io O34, .val T3] [T3,O34] 0) k (v0,v1,v5)
theorem u65f_eq (k : Nat) (a : O34.den) (b : T3.den) : u65f k a b = bnd (u65f_l0 k a b 0) (fun y1=>some (y1.2,y1.1)):=by kernel_rfl
theorem u65f_l0_zero (v0 : O34.den) (v1 : T3.den) (v5 : T3.den) : u65f_l0 0 v0 v1 v5 = none:=by kernel_rfl
theorem u65f_l0_succ (k : Nat) (v0 : O34.den) (v1 : T3.den) (v5 : T3.den) : u65f_l0 (k + 1) v0 v1 v5 = br (decide (v5 < (List.length v0 : Int))) (br (decide (0 ≤ v5)) (br (decide (v5 < (List.length v0 : Int))) (bnd (some (List.getD v0 (Int.toNat v5) T59.zero)) (fun y1=>bnd (some (List.set v0 (Int.toNat v5) (v1,y1.2.1,y1.2.2.1,y1.2.2.2.1,()))) (fun y2=>bnd (u64f k (IntKind.i64.wrap (v1 + 1))) (fun y3=>br (decide (0 ≤ v5)) (br (decide (v5 < (↑y2.length : Int))) (bnd (some (y2.getD (Int.toNat v5) T59.zero)) (fun y4=>bnd (some (y2.set (Int.toNat v5) (y4.1,y3,y4.2.2.1,y4.2.2.2.1,()))) (fun y5=>br (decide (0 ≤ v5)) (br (decide (v5 < (↑y5.length : Int))) (bnd (some (y5.getD (Int.toNat v5) T59.zero)) (fun y6=>bnd (some (y5.set (Int.toNat v5) (y6.1,y6.2.1,IntKind.i64.wrap (IntKind.i64.wrap (v1 + 1) + 1),y6.2.2.2.1,()))) (fun y7=>br (!3 == 0) (br (decide (0 ≤ v5)) (br (decide (v5 < (↑y7.length : Int))) (bnd (some (y7.getD (Int.toNat v5) T59.zero)) (fun y8=>bnd (some (y7.set (Int.toNat v5) (y8.1,y8.2.1,y8.2.2.1,(IntKind.i64.wrap (IntKind.i64.wrap (IntKind.i64.wrap (v1 + 1) + 1) + 1)).tmod 3 == 0,()))) (fun y9=>u65f_l0 k y9 (IntKind.i64.wrap (IntKind.i64.wrap (IntKind.i64.wrap (IntKind.i64.wrap (v1 + 1) + 1) + 1) + 1)) (IntKind.i64.wrap (v5 + 1))))) (none)) (none)) (none)))) (none)) (none)))) (none)) (none))))) (none)) (none)) (some (v0,v1)):=by kernel_rfl
def c_u65f : Con:=⟨[.io O34, .val T3],[T3,O34],fun k x=>u65f k x.1 x.2.1⟩
theorem del_u65f {w0 : World} (hS : Stops w0) : DelOk Try.prog w0 d_u65f:=.cons (ok_u64f hS) ent_u64f (.nil)
theorem ok_u65f {w0 : World} (hS : Stops w0) : Keeps Try.prog w0 37 c_u65f:=.gn (y53q (A:=a_u65f) y71q (del_u65f hS) (drawso (del_u65f hS)) Try.func37 (by kernel_rfl) (fun k x=>by kernel_rfl) (by kernel_rfl)) (by kernel_rfl)
theorem ent_u65f : Enters' Try.prog 37:=enters' Try.func37 (by kernel_rfl)
attribute [irreducible] u65f u65f_l0
def a_u66f : Ann:=⟨[(0,[.val 0 O23, .val 1 T3, .val 5 T3],⟨[.val 0 O23, .val 1 T3],true⟩)],[]⟩
def d_u66f : List (Nat × Con):=[]
def u66f (k : Nat) (a : O23.den) (b : T3.den) : Option (den1 [T3,O23]):=evFn Γo d_u66f a_u66f Try.f38 [.io O23, .val T3] [T3,O23] k (a,b,())
def u66f_l0 (k : Nat) (v0 : O23.den) (v1 : T3.den) (v5 : T3.den) : Option (Items.den [.val 0 O23, .val 1 T3]):=loopQ (ρ:=(den1 [T3,O23])) 0 [.val 0 O23, .val 1 T3, .val 5 T3] [.val 0 O23, .val 1 T3] (runOf Γo d_u66f a_u66f Try.f38 [.io O23, .val T3] [T3,O23] 0) k (v0,v1,v5)
theorem u66f_eq (k : Nat) (a : O23.den) (b : T3.den) : u66f k a b = bnd (u66f_l0 k a b 0) (fun y1=>some (y1.2,y1.1)):=by kernel_rfl
theorem u66f_l0_zero (v0 : O23.den) (v1 : T3.den) (v5 : T3.den) : u66f_l0 0 v0 v1 v5 = none:=by kernel_rfl
theorem u66f_l0_succ (k : Nat) (v0 : O23.den) (v1 : T3.den) (v5 : T3.den) : u66f_l0 (k + 1) v0 v1 v5 = br (decide (v5 < (List.length v0 : Int))) (br (decide (0 ≤ v5)) (br (decide (v5 < (List.length v0 : Int))) (u66f_l0 k (List.set v0 (Int.toNat v5) v1) (IntKind.i64.wrap (v1 + 1)) (IntKind.i64.wrap (v5 + 1))) (none)) (none)) (some (v0,v1)):=by kernel_rfl
def c_u66f : Con:=⟨[.io O23, .val T3],[T3,O23],fun k x=>u66f k x.1 x.2.1⟩
theorem del_u66f {w0 : World} (hS : Stops w0) : DelOk Try.prog w0 d_u66f:=.nil
theorem ok_u66f {w0 : World} (hS : Stops w0) : Keeps Try.prog w0 38 c_u66f:=.gn (y53q (A:=a_u66f) y71q (del_u66f hS) (drawso (del_u66f hS)) Try.func38 (by kernel_rfl) (fun k x=>by kernel_rfl) (by kernel_rfl)) (by kernel_rfl)
theorem ent_u66f : Enters' Try.prog 38:=enters' Try.func38 (by kernel_rfl)
attribute [irreducible] u66f u66f_l0
def a_u67f : Ann:=⟨[(0,[.val 0 O35, .val 1 T3, .val 5 T3],⟨[.val 0 O35, .val 1 T3],true⟩)],[]⟩
def d_u67f : List (Nat × Con):=[(38,c_u66f),(40,c_u64f)]
def u67f (k : Nat) (a : O35.den) (b : T3.den) : Option (den1 [T3,O35]):=evFn Γo d_u67f a_u67f Try.f39 [.io O35, .val T3] [T3,O35] k (a,b,())
def u67f_l0 (k : Nat) (v0 : O35.den) (v1 : T3.den) (v5 : T3.den) : Option (Items.den [.val 0 O35, .val 1 T3]):=loopQ (ρ:=(den1 [T3,O35])) 0 [.val 0 O35, .val 1 T3, .val 5 T3] [.val 0 O35, .val 1 T3] (runOf Γo d_u67f a_u67f Try.f39 [.io O35, .val T3] [T3,O35] 0) k (v0,v1,v5)
theorem u67f_eq (k : Nat) (a : O35.den) (b : T3.den) : u67f k a b = bnd (u67f_l0 k a b 0) (fun y1=>some (y1.2,y1.1)):=by kernel_rfl
theorem u67f_l0_zero (v0 : O35.den) (v1 : T3.den) (v5 : T3.den) : u67f_l0 0 v0 v1 v5 = none:=by kernel_rfl
theorem u67f_l0_succ (k : Nat) (v0 : O35.den) (v1 : T3.den) (v5 : T3.den) : u67f_l0 (k + 1) v0 v1 v5 = br (decide (v5 < (List.length v0 : Int))) (br (decide (0 ≤ v5)) (br (decide (v5 < (List.length v0 : Int))) (bnd (some (List.getD v0 (Int.toNat v5) O76.zero)) (fun y1=>bnd (some (List.set v0 (Int.toNat v5) (v1,y1.2))) (fun y2=>bnd (u64f k (IntKind.i64.wrap (v1 + 1))) (fun y3=>br (decide (0 ≤ v5)) (br (decide (v5 < (↑y2.length : Int))) (bnd (some (y2.getD (Int.toNat v5) O76.zero)) (fun y4=>bnd (some (y2.set (Int.toNat v5) (y4.1,y3,y4.2.2))) (fun y5=>br (decide (0 ≤ v5)) (br (decide (v5 < (↑y5.length : Int))) (bnd (u66f k (y5.getD (Int.toNat v5) O76.zero).2.2.1 (IntKind.i64.wrap (IntKind.i64.wrap (v1 + 1) + 1))) (fun y6=>br (!3 == 0) (br (decide (0 ≤ v5)) (br (decide (v5 < (↑(y5.set (Int.toNat v5) ((y5.getD (Int.toNat v5) O76.zero).1,(y5.getD (Int.toNat v5) O76.zero).2.1,y6.2,(y5.getD (Int.toNat v5) O76.zero).2.2.2)).length : Int))) (bnd (some ((y5.set (Int.toNat v5) ((y5.getD (Int.toNat v5) O76.zero).1,(y5.getD (Int.toNat v5) O76.zero).2.1,y6.2,(y5.getD (Int.toNat v5) O76.zero).2.2.2)).getD (Int.toNat v5) O76.zero)) (fun y7=>bnd (some ((y5.set (Int.toNat v5) ((y5.getD (Int.toNat v5) O76.zero).1,(y5.getD (Int.toNat v5) O76.zero).2.1,y6.2,(y5.getD (Int.toNat v5) O76.zero).2.2.2)).set (Int.toNat v5) (y7.1,y7.2.1,y7.2.2.1,Int.tmod y6.1 3 == 0,y7.2.2.2.2))) (fun y8=>br (decide (0 ≤ v5)) (br (decide (v5 < (↑y8.length : Int))) (bnd (some (y8.getD (Int.toNat v5) O76.zero)) (fun y9=>bnd (some (y8.set (Int.toNat v5) (y9.1,y9.2.1,y9.2.2.1,y9.2.2.2.1,IntKind.i64.wrap (y6.1 + 1),y9.2.2.2.2.2))) (fun y10=>br (!3 == 0) (br (decide (0 ≤ v5)) (br (decide (v5 < (↑y10.length : Int))) (bnd (some (y10.getD (Int.toNat v5) O76.zero)) (fun y11=>bnd (some (y10.set (Int.toNat v5) (y11.1,y11.2.1,y11.2.2.1,y11.2.2.2.1,y11.2.2.2.2.1,(IntKind.i64.wrap (IntKind.i64.wrap (y6.1 + 1) + 1)).tmod 3 == 0,y11.2.2.2.2.2.2))) (fun y12=>u67f_l0 k y12 (IntKind.i64.wrap (IntKind.i64.wrap (IntKind.i64.wrap (y6.1 + 1) + 1) + 1)) (IntKind.i64.wrap (v5 + 1))))) (none)) (none)) (none)))) (none)) (none)))) (none)) (none)) (none))) (none)) (none)))) (none)) (none))))) (none)) (none)) (some (v0,v1)):=by kernel_rfl
def c_u67f : Con:=⟨[.io O35, .val T3],[T3,O35],fun k x=>u67f k x.1 x.2.1⟩
theorem del_u67f {w0 : World} (hS : Stops w0) : DelOk Try.prog w0 d_u67f:=.cons (ok_u66f hS) ent_u66f (.cons (ok_u64f hS) ent_u64f (.nil))
theorem ok_u67f {w0 : World} (hS : Stops w0) : Keeps Try.prog w0 39 c_u67f:=.gn (y53q (A:=a_u67f) y71q (del_u67f hS) (drawso (del_u67f hS)) Try.func39 (by kernel_rfl) (fun k x=>by kernel_rfl) (by kernel_rfl)) (by kernel_rfl)
theorem ent_u67f : Enters' Try.prog 39:=enters' Try.func39 (by kernel_rfl)
attribute [irreducible] u67f u67f_l0
def a_u68f : Ann:=⟨[],[]⟩
def d_u68f : List (Nat × Con):=[(37,c_u65f),(38,c_u66f),(39,c_u67f)]
def u68f (k : Nat) (a : O37.den) (b : T3.den) : Option (den1 [T3,O37]):=evFn Γo d_u68f a_u68f Try.f12 [.io O37, .val T3] [T3,O37] k (a,b,())
theorem u68f_eq (k : Nat) (a : O37.den) (b : T3.den) : u68f k a b = bnd (u65f k a.2.2.2.1 b) (fun y1=>bnd (u66f k a.2.2.2.2.1 y1.1) (fun y2=>bnd (u67f k a.2.2.2.2.2.1 y2.1) (fun y3=>some (y3.1,a.1,a.2.1,a.2.2.1,y1.2,y2.2,y3.2,())))):=by kernel_rfl
def c_u68f : Con:=⟨[.io O37, .val T3],[T3,O37],fun k x=>u68f k x.1 x.2.1⟩
theorem del_u68f {w0 : World} (hS : Stops w0) : DelOk Try.prog w0 d_u68f:=.cons (ok_u65f hS) ent_u65f (.cons (ok_u66f hS) ent_u66f (.cons (ok_u67f hS) ent_u67f (.nil)))
theorem ok_u68f {w0 : World} (hS : Stops w0) : Keeps Try.prog w0 12 c_u68f:=.gn (y53q (A:=a_u68f) y71q (del_u68f hS) (drawso (del_u68f hS)) Try.func12 (by kernel_rfl) (fun k x=>by kernel_rfl) (by kernel_rfl)) (by kernel_rfl)
theorem ent_u68f : Enters' Try.prog 12:=enters' Try.func12 (by kernel_rfl)
attribute [irreducible] u68f
def a_u69f : Ann:=⟨[(0,[.val 0 O31, .val 1 T3, .val 5 T3],⟨[.val 0 O31, .val 1 T3],true⟩)],[]⟩
def d_u69f : List (Nat × Con):=[(40,c_u64f)]
def u69f (k : Nat) (a : O31.den) (b : T3.den) : Option (den1 [T3,O31]):=evFn Γo d_u69f a_u69f Try.f13 [.io O31, .val T3] [T3,O31] k (a,b,())
def u69f_l0 (k : Nat) (v0 : O31.den) (v1 : T3.den) (v5 : T3.den) : Option (Items.den [.val 0 O31, .val 1 T3]):=loopQ (ρ:=(den1 [T3,O31])) 0 [.val 0 O31, .val 1 T3, .val 5 T3] [.val 0 O31, .val 1 T3] (runOf Γo d_u69f a_u69f Try.f13 [.io O31, .val T3] [T3,O31] 0) k (v0,v1,v5)
theorem u69f_eq (k : Nat) (a : O31.den) (b : T3.den) : u69f k a b = bnd (u69f_l0 k a b 0) (fun y1=>some (y1.2,y1.1)):=by kernel_rfl
theorem u69f_l0_zero (v0 : O31.den) (v1 : T3.den) (v5 : T3.den) : u69f_l0 0 v0 v1 v5 = none:=by kernel_rfl
theorem u69f_l0_succ (k : Nat) (v0 : O31.den) (v1 : T3.den) (v5 : T3.den) : u69f_l0 (k + 1) v0 v1 v5 = br (decide (v5 < (List.length v0 : Int))) (br (decide (0 ≤ v5)) (br (decide (v5 < (List.length v0 : Int))) (bnd (some (List.getD v0 (Int.toNat v5) T52.zero)) (fun y1=>bnd (some (List.set v0 (Int.toNat v5) (v1,y1.2.1,y1.2.2.1,y1.2.2.2.1,()))) (fun y2=>br (decide (0 ≤ v5)) (br (decide (v5 < (↑y2.length : Int))) (bnd (some (y2.getD (Int.toNat v5) T52.zero)) (fun y3=>bnd (some (y2.set (Int.toNat v5) (y3.1,IntKind.i64.wrap (v1 + 1),y3.2.2.1,y3.2.2.2.1,()))) (fun y4=>br (decide (0 ≤ v5)) (br (decide (v5 < (↑y4.length : Int))) (bnd (some (y4.getD (Int.toNat v5) T52.zero)) (fun y5=>bnd (some (y4.set (Int.toNat v5) (y5.1,y5.2.1,IntKind.i64.wrap (IntKind.i64.wrap (v1 + 1) + 1),y5.2.2.2.1,()))) (fun y6=>bnd (u64f k (IntKind.i64.wrap (IntKind.i64.wrap (IntKind.i64.wrap (v1 + 1) + 1) + 1))) (fun y7=>br (decide (0 ≤ v5)) (br (decide (v5 < (↑y6.length : Int))) (bnd (some (y6.getD (Int.toNat v5) T52.zero)) (fun y8=>bnd (some (y6.set (Int.toNat v5) (y8.1,y8.2.1,y8.2.2.1,y7,()))) (fun y9=>u69f_l0 k y9 (IntKind.i64.wrap (IntKind.i64.wrap (IntKind.i64.wrap (IntKind.i64.wrap (v1 + 1) + 1) + 1) + 1)) (IntKind.i64.wrap (v5 + 1))))) (none)) (none))))) (none)) (none)))) (none)) (none)))) (none)) (none)) (some (v0,v1)):=by kernel_rfl
def c_u69f : Con:=⟨[.io O31, .val T3],[T3,O31],fun k x=>u69f k x.1 x.2.1⟩
theorem del_u69f {w0 : World} (hS : Stops w0) : DelOk Try.prog w0 d_u69f:=.cons (ok_u64f hS) ent_u64f (.nil)
theorem ok_u69f {w0 : World} (hS : Stops w0) : Keeps Try.prog w0 13 c_u69f:=.gn (y53q (A:=a_u69f) y71q (del_u69f hS) (drawso (del_u69f hS)) Try.func13 (by kernel_rfl) (fun k x=>by kernel_rfl) (by kernel_rfl)) (by kernel_rfl)
theorem ent_u69f : Enters' Try.prog 13:=enters' Try.func13 (by kernel_rfl)
attribute [irreducible] u69f u69f_l0
def a_u70f : Ann:=⟨[(0,[.val 0 T31, .val 1 T3, .val 5 T3],⟨[.val 1 T3],false⟩)],[]⟩
def d_u70f : List (Nat × Con):=[(40,c_u64f)]
def u70f (k : Nat) (a : T31.den) (b : T3.den) : Option (den1 [T3]):=evFn Γ d_u70f a_u70f Try.f14 [.val T31, .val T3] [T3] k (a,b,())
def u70f_l0 (k : Nat) (v0 : T31.den) (v1 : T3.den) (v5 : T3.den) : Option ((Items.den [.val 1 T3]) ⊕ (den1 [T3])):=loopR (ρ:=(den1 [T3])) 0 [.val 0 T31, .val 1 T3, .val 5 T3] [.val 1 T3] (runOf Γ d_u70f a_u70f Try.f14 [.val T31, .val T3] [T3] 0) k (v0,v1,v5)
theorem u70f_eq (k : Nat) (a : T31.den) (b : T3.den) : u70f k a b = bnd (u70f_l0 k a b 0) (fun y1=>onSum y1 (fun y2=>some y2) (fun y2=>some y2)):=by kernel_rfl
theorem u70f_l0_zero (v0 : T31.den) (v1 : T3.den) (v5 : T3.den) : u70f_l0 0 v0 v1 v5 = none:=by kernel_rfl
theorem u70f_l0_succ (k : Nat) (v0 : T31.den) (v1 : T3.den) (v5 : T3.den) : u70f_l0 (k + 1) v0 v1 v5 = br (decide (v5 < (List.length v0 : Int))) (br (decide (0 ≤ v5)) (br (decide (v5 < (List.length v0 : Int))) (br ((List.getD v0 (Int.toNat v5) T52.zero).1 != v1) (some (Sum.inr (-1))) (br (decide (0 ≤ v5)) (br (decide (v5 < (List.length v0 : Int))) (br ((List.getD v0 (Int.toNat v5) T52.zero).2.1 != IntKind.i64.wrap (v1 + 1)) (some (Sum.inr (-1))) (br (decide (0 ≤ v5)) (br (decide (v5 < (List.length v0 : Int))) (br ((List.getD v0 (Int.toNat v5) T52.zero).2.2.1 != IntKind.i64.wrap (IntKind.i64.wrap (v1 + 1) + 1)) (some (Sum.inr (-1))) (br (decide (0 ≤ v5)) (br (decide (v5 < (List.length v0 : Int))) (bnd (u64f k (IntKind.i64.wrap (IntKind.i64.wrap (IntKind.i64.wrap (v1 + 1) + 1) + 1))) (fun y1=>br (!(List.getD v0 (Int.toNat v5) T52.zero).2.2.2.1 == y1) (some (Sum.inr (-1))) (u70f_l0 k v0 (IntKind.i64.wrap (IntKind.i64.wrap (IntKind.i64.wrap (IntKind.i64.wrap (v1 + 1) + 1) + 1) + 1)) (IntKind.i64.wrap (v5 + 1))))) (none)) (none))) (none)) (none))) (none)) (none))) (none)) (none)) (some (Sum.inl v1)):=by kernel_rfl
def c_u70f : Con:=⟨[.val T31, .val T3],[T3],fun k x=>u70f k x.1 x.2.1⟩
theorem del_u70f {w0 : World} (hS : Stops w0) : DelOk Try.prog w0 d_u70f:=.cons (ok_u64f hS) ent_u64f (.nil)
theorem ok_u70f {w0 : World} (hS : Stops w0) : Keeps Try.prog w0 14 c_u70f:=.con (y9q (A:=a_u70f) y28q (del_u70f hS) (draws (del_u70f hS)) Try.func14 (by kernel_rfl) (fun k x=>by kernel_rfl) (by kernel_rfl)) (by kernel_rfl)
theorem ent_u70f : Enters' Try.prog 14:=enters' Try.func14 (by kernel_rfl)
attribute [irreducible] u70f u70f_l0
def a_u71f : Ann:=⟨[],[]⟩
def d_u71f : List (Nat × Con):=[(4,c_u6f),(5,c_u7f),(6,c_u31f),(7,c_u37f),(8,c_u38f),(9,c_u55f),(10,c_u57f),(11,c_u63f),(12,c_u68f),(13,c_u69f),(14,c_u70f)]
def u71f (k : Nat) (a : T26.den) (b : T28.den) : Option (den1 [T4]):=evFn Γo d_u71f a_u71f Try.f3 [.val T26, .val T28] [T4] k (a,b,())
theorem u71f_eq (k : Nat) (a : T26.den) (b : T28.den) : u71f k a b = bnd (u6f k a 1048576) (fun y1=>br (decide (y1 < 0)) (some true) (bnd (u7f k b y1) (fun y2=>br (decide (y2 < 0)) (some true) (bnd (u37f k a) (fun y3=>bnd (u38f k b) (fun y4=>bnd (u31f k y3 y4) (fun y5=>bnd (u37f k a) (fun y6=>bnd (u38f k b) (fun y7=>bnd (u55f k y6 y7) (fun y8=>bnd (u57f k y8.1 y5.1) (fun y9=>br (!y9) (some false) (br (y8.2 != y5.2) (some false) (bnd (u37f k a) (fun y10=>bnd (u63f k y6 y10) (fun y11=>br (!y11) (some false) (bnd (u68f k y6 1) (fun y12=>br (decide (y12.1 < 0)) (some false) (bnd (u57f k y8.1 y5.1) (fun y13=>br (!y13) (some false) (br (y8.2 != y5.2) (some false) (bnd (u69f k y8.1 1) (fun y14=>bnd (u70f k y14.2 1) (fun y15=>br (decide (y15 < 0)) (some false) (br (y15 != y14.1) (some false) (bnd (u37f k a) (fun y16=>bnd (u38f k b) (fun y17=>bnd (u55f k y16 y17) (fun y18=>bnd (u57f k y18.1 y5.1) (fun y19=>br (!y19) (some false) (br (y18.2 != y5.2) (some false) (bnd (u70f k y14.2 1) (fun y20=>br (decide (y20 < 0)) (some false) (br (y20 != y14.1) (some false) (some true)))))))))))))))))))))))))))))))))):=by kernel_rfl
def c_u71f : Con:=⟨[.val T26, .val T28],[T4],fun k x=>u71f k x.1 x.2.1⟩
theorem del_u71f {w0 : World} (hS : Stops w0) : DelOk Try.prog w0 d_u71f:=.cons (ok_u6f hS) ent_u6f (.cons (ok_u7f hS) ent_u7f (.cons (ok_u31f hS) ent_u31f (.cons (ok_u37f hS) ent_u37f (.cons (ok_u38f hS) ent_u38f (.cons (ok_u55f hS) ent_u55f (.cons (ok_u57f hS) ent_u57f (.cons (ok_u63f hS) ent_u63f (.cons (ok_u68f hS) ent_u68f (.cons (ok_u69f hS) ent_u69f (.cons (ok_u70f hS) ent_u70f (.nil)))))))))))
theorem ok_u71f {w0 : World} (hS : Stops w0) : Keeps Try.prog w0 3 c_u71f:=.con (y9q (A:=a_u71f) y71q (del_u71f hS) (drawso (del_u71f hS)) Try.func3 (by kernel_rfl) (fun k x=>by kernel_rfl) (by kernel_rfl)) (by kernel_rfl)
theorem ent_u71f : Enters' Try.prog 3:=enters' Try.func3 (by kernel_rfl)
attribute [irreducible] u71f
end
end Go.Ev.T1
