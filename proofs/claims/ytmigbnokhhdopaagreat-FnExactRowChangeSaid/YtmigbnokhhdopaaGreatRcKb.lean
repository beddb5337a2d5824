import Derived.Test.YtmigbnokhhdopaaGreatRcTab5
import Derived.Test.YtmigbnokhhdopaaGreatRcEvG
import Derived.Lib.IndexMore
set_option linter.unusedVariables false
namespace Go.Ev.T2
open Go.Ev.T1
open Go.Proofs Go
set_option maxRecDepth 100000
structure Stops (w0 : World) : Prop where
 t : True
theorem y25q : TabOk Tryz.prog Γ := tab_of (by kernel_rfl)
theorem y49q : TabOk Tryz.prog Γo := tab_of (by kernel_rfl)
theorem drawso {w0 : World} {Δ : List (Nat × Con)} (h : DelOk Tryz.prog w0 Δ) {w : World} (hb : Go.RowKit.Below w0.heap.size w0 w) : DrawSound Tryz.prog w Γo Δ := draws_of y49q h (by kernel_rfl) hb
theorem draws {w0 : World} {Δ : List (Nat × Con)} (h : DelOk Tryz.prog w0 Δ) {w : World} (hb : Go.RowKit.Below w0.heap.size w0 w) : DrawSound Tryz.prog w Γ Δ := draws_of y25q h (by kernel_rfl) hb
abbrev X117_v_0 : Ty := .osl 5 T5
def a_u70f : Ann := ⟨[(0, [.val 0 T9, .val 3 T3], ⟨[], false⟩)], []⟩
noncomputable def d_u70f : List (Nat × Con) := []
noncomputable def u70f (k : Nat) (a : T9.den) : Option (den1 [T4]) := evFn Γ d_u70f a_u70f Tryz.f108 [.val T9] [T4] k (a, ())
noncomputable def u70f_l0 (k : Nat) (v0 : T9.den) (v3 : T3.den) : Option ((Items.den []) ⊕ (den1 [T4])) := loopR (ρ := (den1 [T4])) 0 [.val 0 T9, .val 3 T3] [] (runOf Γ d_u70f a_u70f Tryz.f108 [.val T9] [T4] 0) k (v0, v3)
theorem u70f_eq (k : Nat) (a : T9.den) : u70f k a = bnd (u70f_l0 k a 0) (fun y1 => onSum y1 (fun y2 => some true) (fun y2 => some y2)) := by kernel_rfl
theorem u70f_l0_zero (v0 : T9.den) (v3 : T3.den) : u70f_l0 0 v0 v3 = none := by kernel_rfl
theorem u70f_l0_succ (k : Nat) (v0 : T9.den) (v3 : T3.den) : u70f_l0 (k + 1) v0 v3 = br (decide (v3 < (List.length v0 : Int))) (br (decide (0 ≤ v3)) (br (decide (v3 < (List.length v0 : Int))) (br (decide ((↑(List.getD v0 (Int.toNat v3) 0).toNat : Int) < 32)) (some (Sum.inr false)) (br (decide (0 ≤ v3)) (br (decide (v3 < (List.length v0 : Int))) (br (decide ((↑(List.getD v0 (Int.toNat v3) 0).toNat : Int) > 126)) (some (Sum.inr false)) (u70f_l0 k v0 (IntKind.i64.wrap (v3 + 1)))) (none)) (none))) (none)) (none)) (some (Sum.inl ())) := by kernel_rfl
noncomputable def c_u70f : Con := ⟨[.val T9], [T4], fun k x => u70f k x.1⟩
theorem del_u70f {w0 : World} (hS : Stops w0) : DelOk Tryz.prog w0 d_u70f := .nil
theorem ok_u70f {w0 : World} (hS : Stops w0) : Keeps Tryz.prog w0 108 c_u70f := .con (y9q (A := a_u70f) y25q (del_u70f hS) (draws (del_u70f hS)) Tryz.func108 (by kernel_rfl) (fun k x => by kernel_rfl) (by kernel_rfl)) (by kernel_rfl)
theorem ent_u70f : Enters' Tryz.prog 108 := enters' Tryz.func108 (by kernel_rfl)
attribute [irreducible] u70f u70f_l0
def a_u71f : Ann := ⟨[], []⟩
noncomputable def d_u71f : List (Nat × Con) := [(108, c_u70f)]
noncomputable def u71f (k : Nat) (a : T91.den) : Option (den1 [T4]) := evFn Γ d_u71f a_u71f Tryz.f87 [.val T91] [T4] k (a, ())
theorem u71f_eq (k : Nat) (a : T91.den) : u71f k a = br (a.1 == 0) (some (andB (eqI a.1 a.1) (andB (eqI a.2.1 0) (andB (eqI a.2.2.1 0) (andB (eqS a.2.2.2.1 []) true))))) (br (a.1 == 1) (br (decide (a.2.1 < 0)) (some false) (br (decide (a.2.1 > 1)) (some false) (some (andB (eqI a.1 a.1) (andB (eqI 0 0) (andB (eqI a.2.2.1 0) (andB (eqS a.2.2.2.1 []) true))))))) (br (a.1 == 2) (br (decide (a.2.1 < -1000000000000000)) (some false) (br (decide (a.2.1 > 1000000000000000)) (some false) (some (andB (eqI a.1 a.1) (andB (eqI 0 0) (andB (eqI a.2.2.1 0) (andB (eqS a.2.2.2.1 []) true))))))) (br (a.1 == 3) (br (decide (a.2.1 < -1000000000)) (some false) (br (decide (a.2.1 > 1000000000)) (some false) (br (decide (a.2.2.1 < 0)) (some false) (br (decide (a.2.2.1 > 6)) (some false) (br (decide (a.2.2.1 > 0)) (br (!10 == 0) (br (Int.tmod a.2.1 10 == 0) (some false) (some (andB (eqI a.1 a.1) (andB (eqI 0 0) (andB (eqI 0 0) (andB (eqS a.2.2.2.1 []) true)))))) (none)) (some (andB (eqI a.1 a.1) (andB (eqI 0 0) (andB (eqI 0 0) (andB (eqS a.2.2.2.1 []) true)))))))))) (br (a.1 == 4) (br (decide ((List.length a.2.2.2.1 : Int) > 200)) (some false) (bnd (u70f k a.2.2.2.1) (fun y1 => br (!y1) (some false) (some (andB (eqI a.1 a.1) (andB (eqI a.2.1 0) (andB (eqI a.2.2.1 0) (andB (eqS [] []) true)))))))) (br (a.1 == 5) (br (decide (a.2.1 < 0)) (some false) (br (decide (a.2.1 > 3652058)) (some false) (some (andB (eqI a.1 a.1) (andB (eqI 0 0) (andB (eqI a.2.2.1 0) (andB (eqS a.2.2.2.1 []) true))))))) (some false)))))) := by kernel_rfl
noncomputable def c_u71f : Con := ⟨[.val T91], [T4], fun k x => u71f k x.1⟩
theorem del_u71f {w0 : World} (hS : Stops w0) : DelOk Tryz.prog w0 d_u71f := .cons (ok_u70f hS) ent_u70f (.nil)
theorem ok_u71f {w0 : World} (hS : Stops w0) : Keeps Tryz.prog w0 87 c_u71f := .con (y9q (A := a_u71f) y25q (del_u71f hS) (draws (del_u71f hS)) Tryz.func87 (by kernel_rfl) (fun k x => by kernel_rfl) (by kernel_rfl)) (by kernel_rfl)
theorem ent_u71f : Enters' Tryz.prog 87 := enters' Tryz.func87 (by kernel_rfl)
attribute [irreducible] u71f
def a_u82f : Ann := ⟨[(0, [.val 0 T3, .val 3 T3], ⟨[.val 3 T3], true⟩)], []⟩
noncomputable def d_u82f : List (Nat × Con) := []
noncomputable def u82f (k : Nat) (a : T3.den) : Option (den1 [T3]) := evFn Γ d_u82f a_u82f Tryz.f104 [.val T3] [T3] k (a, ())
noncomputable def u82f_l0 (k : Nat) (v0 : T3.den) (v3 : T3.den) : Option (Items.den [.val 3 T3]) := loopQ (ρ := (den1 [T3])) 0 [.val 0 T3, .val 3 T3] [.val 3 T3] (runOf Γ d_u82f a_u82f Tryz.f104 [.val T3] [T3] 0) k (v0, v3)
theorem u82f_eq (k : Nat) (a : T3.den) : u82f k a = bnd (u82f_l0 k a 1) (fun y1 => some y1) := by kernel_rfl
theorem u82f_l0_zero (v0 : T3.den) (v3 : T3.den) : u82f_l0 0 v0 v3 = none := by kernel_rfl
theorem u82f_l0_succ (k : Nat) (v0 : T3.den) (v3 : T3.den) : u82f_l0 (k + 1) v0 v3 = br (decide (v0 > 0)) (u82f_l0 k (IntKind.i64.wrap (v0 - 1)) (IntKind.i64.wrap (v3 * 10))) (some v3) := by kernel_rfl
noncomputable def c_u82f : Con := ⟨[.val T3], [T3], fun k x => u82f k x.1⟩
theorem del_u82f {w0 : World} (hS : Stops w0) : DelOk Tryz.prog w0 d_u82f := .nil
theorem ok_u82f {w0 : World} (hS : Stops w0) : Keeps Tryz.prog w0 104 c_u82f := .con (y9q (A := a_u82f) y25q (del_u82f hS) (draws (del_u82f hS)) Tryz.func104 (by kernel_rfl) (fun k x => by kernel_rfl) (by kernel_rfl)) (by kernel_rfl)
theorem ent_u82f : Enters' Tryz.prog 104 := enters' Tryz.func104 (by kernel_rfl)
attribute [irreducible] u82f u82f_l0
def a_u83f : Ann := ⟨[(0, [.val 0 T3, .val 5 X117_v_0, .val 6 T3], ⟨[.val 5 X117_v_0], true⟩)], []⟩
noncomputable def d_u83f : List (Nat × Con) := []
noncomputable def u83f (k : Nat) (a : T3.den) (b : T3.den) : Option (den1 [T9]) := evFn Γ d_u83f a_u83f Tryz.f125 [.val T3, .val T3] [T9] k (a, b, ())
noncomputable def u83f_l0 (k : Nat) (v0 : T3.den) (v5 : X117_v_0.den) (v6 : T3.den) : Option (Items.den [.val 5 X117_v_0]) := loopQ (ρ := (den1 [T9])) 0 [.val 0 T3, .val 5 X117_v_0, .val 6 T3] [.val 5 X117_v_0] (runOf Γ d_u83f a_u83f Tryz.f125 [.val T3, .val T3] [T9] 0) k (v0, v5, v6)
theorem u83f_eq (k : Nat) (a : T3.den) (b : T3.den) : u83f k a b = br (b == b) (br (decide (0 ≤ b)) (br (decide (b ≤ (↑capN : Int))) (bnd (u83f_l0 k a (List.replicate (Int.toNat b) (Ty.int IntKind.u8).zero) (IntKind.i64.wrap (b - 1))) (fun y1 => some (List.map (fun n => UInt8.ofNat n.toNat) y1))) (none)) (none)) (none) := by kernel_rfl
theorem u83f_l0_zero (v0 : T3.den) (v5 : X117_v_0.den) (v6 : T3.den) : u83f_l0 0 v0 v5 v6 = none := by kernel_rfl
theorem u83f_l0_succ (k : Nat) (v0 : T3.den) (v5 : X117_v_0.den) (v6 : T3.den) : u83f_l0 (k + 1) v0 v5 v6 = br (decide (v6 ≥ 0)) (br (decide (0 ≤ v6)) (br (decide (v6 < (List.length v5 : Int))) (br (decide (0 ≤ 8)) (u83f_l0 k (Int.fdiv v0 (2 ^ min (Int.toNat 8) IntKind.i64.bits)) (List.set v5 (Int.toNat v6) (IntKind.u8.wrap v0)) (IntKind.i64.wrap (v6 - 1))) (none)) (none)) (none)) (some v5) := by kernel_rfl
noncomputable def c_u83f : Con := ⟨[.val T3, .val T3], [T9], fun k x => u83f k x.1 x.2.1⟩
theorem del_u83f {w0 : World} (hS : Stops w0) : DelOk Tryz.prog w0 d_u83f := .nil
theorem ok_u83f {w0 : World} (hS : Stops w0) : Keeps Tryz.prog w0 125 c_u83f := .con (y9q (A := a_u83f) y25q (del_u83f hS) (draws (del_u83f hS)) Tryz.func125 (by kernel_rfl) (fun k x => by kernel_rfl) (by kernel_rfl)) (by kernel_rfl)
theorem ent_u83f : Enters' Tryz.prog 125 := enters' Tryz.func125 (by kernel_rfl)
attribute [irreducible] u83f u83f_l0
end Go.Ev.T2
