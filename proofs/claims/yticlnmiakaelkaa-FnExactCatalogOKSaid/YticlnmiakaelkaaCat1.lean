import Derived.Test.YticlnmiakaelkaaTab1
import Derived.Test.YticlnmiakaelkaaEvJoin
import Derived.Lib.IndexMore
set_option linter.unusedVariables false
namespace Go.Ev.T1
open Go.Proofs Go
set_option maxRecDepth 100000
def strings_Contains (k : Nat) (a b : List UInt8) : Option Bool := chk (Nat.blt a.length 4294967281) (some (Go.Lib.contains a b))
noncomputable def c_strings_Contains : Con := ⟨[.val T9, .val T9], [T4], fun k x => strings_Contains k x.1 x.2.1⟩
structure Stops (w0 : World) : Prop where
  strings_Contains : ConOk Try.prog w0 197 c_strings_Contains ∧ Enters' Try.prog 197
theorem tab_ok : TabOk Try.prog Γ := tab_of (by kernel_rfl)
theorem draws {w0 : World} {Δ : List (Nat × Con)} (h : DelOk Try.prog w0 Δ) {w : World} (hb : Go.RowKit.Below w0.heap.size w0 w) : DrawSound Try.prog w Γ Δ := draws_of tab_ok h (by kernel_rfl) hb
/-! ### laws_szColumn: function 227 -/
def a_laws_szColumn : Ann := ⟨[], []⟩
noncomputable def d_laws_szColumn : List (Nat × Con) := []
noncomputable def laws_szColumn (k : Nat) (a : (Ty.den T269)) (b : (Ty.den T3)) : Option (den1 [T3]) := evFn Γ d_laws_szColumn a_laws_szColumn Try.f227 [.val T269, .val T3] [T3] k (a, b, ())
theorem laws_szColumn_eq (k : Nat) (a : (Ty.den T269)) (b : (Ty.den T3)) : laws_szColumn k a b = br (decide (IntKind.i64.wrap (b - (↑(List.length a.2.1) : Int)) < 0)) (some (-1)) (some (IntKind.i64.wrap (b - (↑(List.length a.2.1) : Int)))) := by kernel_rfl
noncomputable def c_laws_szColumn : Con := ⟨[.val T269, .val T3], [T3], fun k x => laws_szColumn k x.1 x.2.1⟩
theorem del_laws_szColumn {w0 : World} (hS : Stops w0) : DelOk Try.prog w0 d_laws_szColumn := .nil
theorem ok_laws_szColumn {w0 : World} (hS : Stops w0) : ConOk Try.prog w0 227 c_laws_szColumn := fn_sound (A := a_laws_szColumn) tab_ok (del_laws_szColumn hS) (draws (del_laws_szColumn hS)) Try.func227 (by kernel_rfl) fun _ _ => rfl
theorem ent_laws_szColumn : Enters' Try.prog 227 := enters' Try.func227 (by kernel_rfl)
attribute [irreducible] laws_szColumn

/-! ### laws_szColumnS: function 157 -/
def a_laws_szColumnS : Ann := ⟨[(0, [.val 0 T136, .val 1 T3, .val 5 T3], ⟨[.val 1 T3], false⟩)], []⟩
noncomputable def d_laws_szColumnS : List (Nat × Con) := [(227, c_laws_szColumn)]
noncomputable def laws_szColumnS (k : Nat) (a : (Ty.den T136)) (b : (Ty.den T3)) : Option (den1 [T3]) := evFn Γ d_laws_szColumnS a_laws_szColumnS Try.f157 [.val T136, .val T3] [T3] k (a, b, ())
noncomputable def laws_szColumnS_l0 (k : Nat) (v0 : (Ty.den T136)) (v1 : (Ty.den T3)) (v5 : (Ty.den T3)) : Option ((Items.den [.val 1 T3]) ⊕ (den1 [T3])) := loopR (ρ := (den1 [T3])) 0 [.val 0 T136, .val 1 T3, .val 5 T3] [.val 1 T3] (runOf Γ d_laws_szColumnS a_laws_szColumnS Try.f157 [T3] 0) k (v0, v1, v5)
theorem laws_szColumnS_eq (k : Nat) (a : (Ty.den T136)) (b : (Ty.den T3)) : laws_szColumnS k a b = br (decide (IntKind.i64.wrap (b - (↑(List.length a) : Int)) < 0)) (some (-1)) (bnd (laws_szColumnS_l0 k a (IntKind.i64.wrap (b - (↑(List.length a) : Int))) 0) (fun y1 => onSum y1 (fun y2 => some y2) (fun y2 => some y2))) := by kernel_rfl
theorem laws_szColumnS_l0_zero (v0 : (Ty.den T136)) (v1 : (Ty.den T3)) (v5 : (Ty.den T3)) : laws_szColumnS_l0 0 v0 v1 v5 = none := by kernel_rfl
theorem laws_szColumnS_l0_succ (k : Nat) (v0 : (Ty.den T136)) (v1 : (Ty.den T3)) (v5 : (Ty.den T3)) : laws_szColumnS_l0 (k + 1) v0 v1 v5 = br (decide (v5 < (↑(List.length v0) : Int))) (br (decide (0 ≤ v5)) (br (decide (v5 < (↑(List.length v0) : Int))) (bnd (laws_szColumn k (List.getD v0 (Int.toNat v5) T269.zero) v1) (fun y1 => br (decide (y1 < 0)) (some (Sum.inr (-1))) (laws_szColumnS_l0 k v0 y1 (IntKind.i64.wrap (v5 + 1))))) (none)) (none)) (some (Sum.inl v1)) := by kernel_rfl
noncomputable def c_laws_szColumnS : Con := ⟨[.val T136, .val T3], [T3], fun k x => laws_szColumnS k x.1 x.2.1⟩
theorem del_laws_szColumnS {w0 : World} (hS : Stops w0) : DelOk Try.prog w0 d_laws_szColumnS := .cons (ok_laws_szColumn hS) ent_laws_szColumn (.nil)
theorem ok_laws_szColumnS {w0 : World} (hS : Stops w0) : ConOk Try.prog w0 157 c_laws_szColumnS := fn_sound (A := a_laws_szColumnS) tab_ok (del_laws_szColumnS hS) (draws (del_laws_szColumnS hS)) Try.func157 (by kernel_rfl) fun _ _ => rfl
theorem ent_laws_szColumnS : Enters' Try.prog 157 := enters' Try.func157 (by kernel_rfl)
attribute [irreducible] laws_szColumnS laws_szColumnS_l0

/-! ### laws_szIntS: function 158 -/
def a_laws_szIntS : Ann := ⟨[], []⟩
noncomputable def d_laws_szIntS : List (Nat × Con) := []
noncomputable def laws_szIntS (k : Nat) (a : (Ty.den T118)) (b : (Ty.den T3)) : Option (den1 [T3]) := evFn Γ d_laws_szIntS a_laws_szIntS Try.f158 [.val T118, .val T3] [T3] k (a, b, ())
theorem laws_szIntS_eq (k : Nat) (a : (Ty.den T118)) (b : (Ty.den T3)) : laws_szIntS k a b = br (decide (IntKind.i64.wrap (b - (↑(List.length a) : Int)) < 0)) (some (-1)) (some (IntKind.i64.wrap (b - (↑(List.length a) : Int)))) := by kernel_rfl
noncomputable def c_laws_szIntS : Con := ⟨[.val T118, .val T3], [T3], fun k x => laws_szIntS k x.1 x.2.1⟩
theorem del_laws_szIntS {w0 : World} (hS : Stops w0) : DelOk Try.prog w0 d_laws_szIntS := .nil
theorem ok_laws_szIntS {w0 : World} (hS : Stops w0) : ConOk Try.prog w0 158 c_laws_szIntS := fn_sound (A := a_laws_szIntS) tab_ok (del_laws_szIntS hS) (draws (del_laws_szIntS hS)) Try.func158 (by kernel_rfl) fun _ _ => rfl
theorem ent_laws_szIntS : Enters' Try.prog 158 := enters' Try.func158 (by kernel_rfl)
attribute [irreducible] laws_szIntS

/-! ### laws_szIndex: function 228 -/
def a_laws_szIndex : Ann := ⟨[], []⟩
noncomputable def d_laws_szIndex : List (Nat × Con) := [(158, c_laws_szIntS)]
noncomputable def laws_szIndex (k : Nat) (a : (Ty.den T271)) (b : (Ty.den T3)) : Option (den1 [T3]) := evFn Γ d_laws_szIndex a_laws_szIndex Try.f228 [.val T271, .val T3] [T3] k (a, b, ())
theorem laws_szIndex_eq (k : Nat) (a : (Ty.den T271)) (b : (Ty.den T3)) : laws_szIndex k a b = br (decide (IntKind.i64.wrap (b - (↑(List.length a.2.1) : Int)) < 0)) (some (-1)) (bnd (laws_szIntS k a.2.2.1 (IntKind.i64.wrap (b - (↑(List.length a.2.1) : Int)))) (fun y1 => br (decide (y1 < 0)) (some (-1)) (some y1))) := by kernel_rfl
noncomputable def c_laws_szIndex : Con := ⟨[.val T271, .val T3], [T3], fun k x => laws_szIndex k x.1 x.2.1⟩
theorem del_laws_szIndex {w0 : World} (hS : Stops w0) : DelOk Try.prog w0 d_laws_szIndex := .cons (ok_laws_szIntS hS) ent_laws_szIntS (.nil)
theorem ok_laws_szIndex {w0 : World} (hS : Stops w0) : ConOk Try.prog w0 228 c_laws_szIndex := fn_sound (A := a_laws_szIndex) tab_ok (del_laws_szIndex hS) (draws (del_laws_szIndex hS)) Try.func228 (by kernel_rfl) fun _ _ => rfl
theorem ent_laws_szIndex : Enters' Try.prog 228 := enters' Try.func228 (by kernel_rfl)
attribute [irreducible] laws_szIndex

/-! ### laws_szIndexS: function 159 -/
def a_laws_szIndexS : Ann := ⟨[(0, [.val 0 T137, .val 1 T3, .val 5 T3], ⟨[.val 1 T3], false⟩)], []⟩
noncomputable def d_laws_szIndexS : List (Nat × Con) := [(228, c_laws_szIndex)]
noncomputable def laws_szIndexS (k : Nat) (a : (Ty.den T137)) (b : (Ty.den T3)) : Option (den1 [T3]) := evFn Γ d_laws_szIndexS a_laws_szIndexS Try.f159 [.val T137, .val T3] [T3] k (a, b, ())
noncomputable def laws_szIndexS_l0 (k : Nat) (v0 : (Ty.den T137)) (v1 : (Ty.den T3)) (v5 : (Ty.den T3)) : Option ((Items.den [.val 1 T3]) ⊕ (den1 [T3])) := loopR (ρ := (den1 [T3])) 0 [.val 0 T137, .val 1 T3, .val 5 T3] [.val 1 T3] (runOf Γ d_laws_szIndexS a_laws_szIndexS Try.f159 [T3] 0) k (v0, v1, v5)
theorem laws_szIndexS_eq (k : Nat) (a : (Ty.den T137)) (b : (Ty.den T3)) : laws_szIndexS k a b = br (decide (IntKind.i64.wrap (b - (↑(List.length a) : Int)) < 0)) (some (-1)) (bnd (laws_szIndexS_l0 k a (IntKind.i64.wrap (b - (↑(List.length a) : Int))) 0) (fun y1 => onSum y1 (fun y2 => some y2) (fun y2 => some y2))) := by kernel_rfl
theorem laws_szIndexS_l0_zero (v0 : (Ty.den T137)) (v1 : (Ty.den T3)) (v5 : (Ty.den T3)) : laws_szIndexS_l0 0 v0 v1 v5 = none := by kernel_rfl
theorem laws_szIndexS_l0_succ (k : Nat) (v0 : (Ty.den T137)) (v1 : (Ty.den T3)) (v5 : (Ty.den T3)) : laws_szIndexS_l0 (k + 1) v0 v1 v5 = br (decide (v5 < (↑(List.length v0) : Int))) (br (decide (0 ≤ v5)) (br (decide (v5 < (↑(List.length v0) : Int))) (bnd (laws_szIndex k (List.getD v0 (Int.toNat v5) T271.zero) v1) (fun y1 => br (decide (y1 < 0)) (some (Sum.inr (-1))) (laws_szIndexS_l0 k v0 y1 (IntKind.i64.wrap (v5 + 1))))) (none)) (none)) (some (Sum.inl v1)) := by kernel_rfl
noncomputable def c_laws_szIndexS : Con := ⟨[.val T137, .val T3], [T3], fun k x => laws_szIndexS k x.1 x.2.1⟩
theorem del_laws_szIndexS {w0 : World} (hS : Stops w0) : DelOk Try.prog w0 d_laws_szIndexS := .cons (ok_laws_szIndex hS) ent_laws_szIndex (.nil)
theorem ok_laws_szIndexS {w0 : World} (hS : Stops w0) : ConOk Try.prog w0 159 c_laws_szIndexS := fn_sound (A := a_laws_szIndexS) tab_ok (del_laws_szIndexS hS) (draws (del_laws_szIndexS hS)) Try.func159 (by kernel_rfl) fun _ _ => rfl
theorem ent_laws_szIndexS : Enters' Try.prog 159 := enters' Try.func159 (by kernel_rfl)
attribute [irreducible] laws_szIndexS laws_szIndexS_l0

/-! ### laws_szTable: function 90 -/
def a_laws_szTable : Ann := ⟨[], []⟩
noncomputable def d_laws_szTable : List (Nat × Con) := [(157, c_laws_szColumnS), (158, c_laws_szIntS), (159, c_laws_szIndexS)]
noncomputable def laws_szTable (k : Nat) (a : (Ty.den T139)) (b : (Ty.den T3)) : Option (den1 [T3]) := evFn Γ d_laws_szTable a_laws_szTable Try.f90 [.val T139, .val T3] [T3] k (a, b, ())
theorem laws_szTable_eq (k : Nat) (a : (Ty.den T139)) (b : (Ty.den T3)) : laws_szTable k a b = br (decide (IntKind.i64.wrap (b - (↑(List.length a.2.1) : Int)) < 0)) (some (-1)) (bnd (laws_szColumnS k a.2.2.2.1 (IntKind.i64.wrap (b - (↑(List.length a.2.1) : Int)))) (fun y1 => br (decide (y1 < 0)) (some (-1)) (bnd (laws_szIntS k a.2.2.2.2.1 y1) (fun y2 => br (decide (y2 < 0)) (some (-1)) (bnd (laws_szIndexS k a.2.2.2.2.2.1 y2) (fun y3 => br (decide (y3 < 0)) (some (-1)) (some y3))))))) := by kernel_rfl
noncomputable def c_laws_szTable : Con := ⟨[.val T139, .val T3], [T3], fun k x => laws_szTable k x.1 x.2.1⟩
theorem del_laws_szTable {w0 : World} (hS : Stops w0) : DelOk Try.prog w0 d_laws_szTable := .cons (ok_laws_szColumnS hS) ent_laws_szColumnS (.cons (ok_laws_szIntS hS) ent_laws_szIntS (.cons (ok_laws_szIndexS hS) ent_laws_szIndexS (.nil)))
theorem ok_laws_szTable {w0 : World} (hS : Stops w0) : ConOk Try.prog w0 90 c_laws_szTable := fn_sound (A := a_laws_szTable) tab_ok (del_laws_szTable hS) (draws (del_laws_szTable hS)) Try.func90 (by kernel_rfl) fun _ _ => rfl
theorem ent_laws_szTable : Enters' Try.prog 90 := enters' Try.func90 (by kernel_rfl)
attribute [irreducible] laws_szTable

/-! ### laws_szTableS: function 21 -/
def a_laws_szTableS : Ann := ⟨[(0, [.val 0 T43, .val 1 T3, .val 5 T3], ⟨[.val 1 T3], false⟩)], []⟩
noncomputable def d_laws_szTableS : List (Nat × Con) := [(90, c_laws_szTable)]
noncomputable def laws_szTableS (k : Nat) (a : (Ty.den T43)) (b : (Ty.den T3)) : Option (den1 [T3]) := evFn Γ d_laws_szTableS a_laws_szTableS Try.f21 [.val T43, .val T3] [T3] k (a, b, ())
noncomputable def laws_szTableS_l0 (k : Nat) (v0 : (Ty.den T43)) (v1 : (Ty.den T3)) (v5 : (Ty.den T3)) : Option ((Items.den [.val 1 T3]) ⊕ (den1 [T3])) := loopR (ρ := (den1 [T3])) 0 [.val 0 T43, .val 1 T3, .val 5 T3] [.val 1 T3] (runOf Γ d_laws_szTableS a_laws_szTableS Try.f21 [T3] 0) k (v0, v1, v5)
theorem laws_szTableS_eq (k : Nat) (a : (Ty.den T43)) (b : (Ty.den T3)) : laws_szTableS k a b = br (decide (IntKind.i64.wrap (b - (↑(List.length a) : Int)) < 0)) (some (-1)) (bnd (laws_szTableS_l0 k a (IntKind.i64.wrap (b - (↑(List.length a) : Int))) 0) (fun y1 => onSum y1 (fun y2 => some y2) (fun y2 => some y2))) := by kernel_rfl
theorem laws_szTableS_l0_zero (v0 : (Ty.den T43)) (v1 : (Ty.den T3)) (v5 : (Ty.den T3)) : laws_szTableS_l0 0 v0 v1 v5 = none := by kernel_rfl
theorem laws_szTableS_l0_succ (k : Nat) (v0 : (Ty.den T43)) (v1 : (Ty.den T3)) (v5 : (Ty.den T3)) : laws_szTableS_l0 (k + 1) v0 v1 v5 = br (decide (v5 < (↑(List.length v0) : Int))) (br (decide (0 ≤ v5)) (br (decide (v5 < (↑(List.length v0) : Int))) (bnd (laws_szTable k (List.getD v0 (Int.toNat v5) T139.zero) v1) (fun y1 => br (decide (y1 < 0)) (some (Sum.inr (-1))) (laws_szTableS_l0 k v0 y1 (IntKind.i64.wrap (v5 + 1))))) (none)) (none)) (some (Sum.inl v1)) := by kernel_rfl
noncomputable def c_laws_szTableS : Con := ⟨[.val T43, .val T3], [T3], fun k x => laws_szTableS k x.1 x.2.1⟩
theorem del_laws_szTableS {w0 : World} (hS : Stops w0) : DelOk Try.prog w0 d_laws_szTableS := .cons (ok_laws_szTable hS) ent_laws_szTable (.nil)
theorem ok_laws_szTableS {w0 : World} (hS : Stops w0) : ConOk Try.prog w0 21 c_laws_szTableS := fn_sound (A := a_laws_szTableS) tab_ok (del_laws_szTableS hS) (draws (del_laws_szTableS hS)) Try.func21 (by kernel_rfl) fun _ _ => rfl
theorem ent_laws_szTableS : Enters' Try.prog 21 := enters' Try.func21 (by kernel_rfl)
attribute [irreducible] laws_szTableS laws_szTableS_l0

/-! ### spec_l08Letter: function 247 -/
def a_spec_l08Letter : Ann := ⟨[], []⟩
noncomputable def d_spec_l08Letter : List (Nat × Con) := []
noncomputable def spec_l08Letter (k : Nat) (a : (Ty.den T5)) : Option (den1 [T4]) := evFn Γ d_spec_l08Letter a_spec_l08Letter Try.f247 [.val T5] [T4] k (a, ())
theorem spec_l08Letter_eq (k : Nat) (a : (Ty.den T5)) : spec_l08Letter k a = br (decide (a ≥ 97)) (br (decide (a ≤ 122)) (some true) (some (a == 95))) (some (a == 95)) := by kernel_rfl
noncomputable def c_spec_l08Letter : Con := ⟨[.val T5], [T4], fun k x => spec_l08Letter k x.1⟩
theorem del_spec_l08Letter {w0 : World} (hS : Stops w0) : DelOk Try.prog w0 d_spec_l08Letter := .nil
theorem ok_spec_l08Letter {w0 : World} (hS : Stops w0) : ConOk Try.prog w0 247 c_spec_l08Letter := fn_sound (A := a_spec_l08Letter) tab_ok (del_spec_l08Letter hS) (draws (del_spec_l08Letter hS)) Try.func247 (by kernel_rfl) fun _ _ => rfl
theorem ent_spec_l08Letter : Enters' Try.prog 247 := enters' Try.func247 (by kernel_rfl)
attribute [irreducible] spec_l08Letter

/-! ### spec_l01Digit: function 248 -/
def a_spec_l01Digit : Ann := ⟨[], []⟩
noncomputable def d_spec_l01Digit : List (Nat × Con) := []
noncomputable def spec_l01Digit (k : Nat) (a : (Ty.den T5)) : Option (den1 [T4]) := evFn Γ d_spec_l01Digit a_spec_l01Digit Try.f248 [.val T5] [T4] k (a, ())
theorem spec_l01Digit_eq (k : Nat) (a : (Ty.den T5)) : spec_l01Digit k a = br (decide (a ≥ 48)) (some (decide (a ≤ 57))) (some false) := by kernel_rfl
noncomputable def c_spec_l01Digit : Con := ⟨[.val T5], [T4], fun k x => spec_l01Digit k x.1⟩
theorem del_spec_l01Digit {w0 : World} (hS : Stops w0) : DelOk Try.prog w0 d_spec_l01Digit := .nil
theorem ok_spec_l01Digit {w0 : World} (hS : Stops w0) : ConOk Try.prog w0 248 c_spec_l01Digit := fn_sound (A := a_spec_l01Digit) tab_ok (del_spec_l01Digit hS) (draws (del_spec_l01Digit hS)) Try.func248 (by kernel_rfl) fun _ _ => rfl
theorem ent_spec_l01Digit : Enters' Try.prog 248 := enters' Try.func248 (by kernel_rfl)
attribute [irreducible] spec_l01Digit

/-! ### spec_l08Shape: function 229 -/
def a_spec_l08Shape : Ann := ⟨[(0, [.val 0 T9, .val 3 T3], ⟨[.val 0 T9], false⟩)], []⟩
noncomputable def d_spec_l08Shape : List (Nat × Con) := [(247, c_spec_l08Letter), (248, c_spec_l01Digit)]
noncomputable def spec_l08Shape (k : Nat) (a : (Ty.den T9)) : Option (den1 [T4]) := evFn Γ d_spec_l08Shape a_spec_l08Shape Try.f229 [.val T9] [T4] k (a, ())
noncomputable def spec_l08Shape_l0 (k : Nat) (v0 : (Ty.den T9)) (v3 : (Ty.den T3)) : Option ((Items.den [.val 0 T9]) ⊕ (den1 [T4])) := loopR (ρ := (den1 [T4])) 0 [.val 0 T9, .val 3 T3] [.val 0 T9] (runOf Γ d_spec_l08Shape a_spec_l08Shape Try.f229 [T4] 0) k (v0, v3)
theorem spec_l08Shape_eq (k : Nat) (a : (Ty.den T9)) : spec_l08Shape k a = bnd (spec_l08Shape_l0 k a 0) (fun y1 => onSum y1 (fun y2 => br (decide ((↑(List.length y2) : Int) > 0)) (some (decide ((↑(List.length y2) : Int) ≤ 30))) (some false)) (fun y2 => some y2)) := by kernel_rfl
theorem spec_l08Shape_l0_zero (v0 : (Ty.den T9)) (v3 : (Ty.den T3)) : spec_l08Shape_l0 0 v0 v3 = none := by kernel_rfl
theorem spec_l08Shape_l0_succ (k : Nat) (v0 : (Ty.den T9)) (v3 : (Ty.den T3)) : spec_l08Shape_l0 (k + 1) v0 v3 = br (decide (v3 < (↑(List.length v0) : Int))) (br (decide (0 ≤ v3)) (br (decide (v3 < (↑(List.length v0) : Int))) (bnd (spec_l08Letter k (↑(List.getD v0 (Int.toNat v3) 0).toNat : Int)) (fun y1 => br (!y1) (br (decide (v3 > 0)) (br (decide (0 ≤ v3)) (br (decide (v3 < (↑(List.length v0) : Int))) (bnd (spec_l01Digit k (↑(List.getD v0 (Int.toNat v3) 0).toNat : Int)) (fun y2 => br (!y2) (some (Sum.inr false)) (spec_l08Shape_l0 k v0 (IntKind.i64.wrap (v3 + 1))))) (none)) (none)) (br (!false) (some (Sum.inr false)) (spec_l08Shape_l0 k v0 (IntKind.i64.wrap (v3 + 1))))) (spec_l08Shape_l0 k v0 (IntKind.i64.wrap (v3 + 1))))) (none)) (none)) (some (Sum.inl v0)) := by kernel_rfl
noncomputable def c_spec_l08Shape : Con := ⟨[.val T9], [T4], fun k x => spec_l08Shape k x.1⟩
theorem del_spec_l08Shape {w0 : World} (hS : Stops w0) : DelOk Try.prog w0 d_spec_l08Shape := .cons (ok_spec_l08Letter hS) ent_spec_l08Letter (.cons (ok_spec_l01Digit hS) ent_spec_l01Digit (.nil))
theorem ok_spec_l08Shape {w0 : World} (hS : Stops w0) : ConOk Try.prog w0 229 c_spec_l08Shape := fn_sound (A := a_spec_l08Shape) tab_ok (del_spec_l08Shape hS) (draws (del_spec_l08Shape hS)) Try.func229 (by kernel_rfl) fun _ _ => rfl
theorem ent_spec_l08Shape : Enters' Try.prog 229 := enters' Try.func229 (by kernel_rfl)
attribute [irreducible] spec_l08Shape spec_l08Shape_l0

/-! ### spec_l08Reserved: function 230 -/
def a_spec_l08Reserved : Ann := ⟨[], []⟩
noncomputable def d_spec_l08Reserved : List (Nat × Con) := []
noncomputable def spec_l08Reserved (k : Nat) (a : (Ty.den T9)) : Option (den1 [T4]) := evFn Γ d_spec_l08Reserved a_spec_l08Reserved Try.f230 [.val T9] [T4] k (a, ())
theorem spec_l08Reserved_eq (k : Nat) (a : (Ty.den T9)) : spec_l08Reserved k a = br (a == [97, 108, 108]) (br (a == [97, 108, 108]) (some true) (some false)) (br (a == [97, 110, 100]) (br (a == [97, 110, 100]) (some true) (some false)) (br (a == [97, 115]) (br (a == [97, 115]) (some true) (some false)) (br (a == [97, 115, 99]) (br (a == [97, 115, 99]) (some true) (some false)) (br (a == [98, 101, 103, 105, 110]) (br (a == [98, 101, 103, 105, 110]) (some true) (some false)) (br (a == [98, 101, 116, 119, 101, 101, 110]) (br (a == [98, 101, 116, 119, 101, 101, 110]) (some true) (some false)) (br (a == [98, 121]) (br (a == [98, 121]) (some true) (some false)) (br (a == [99, 97, 115, 101]) (br (a == [99, 97, 115, 101]) (some true) (some false)) (br (a == [99, 97, 115, 116]) (br (a == [99, 97, 115, 116]) (some true) (some false)) (br (a == [99, 111, 109, 109, 105, 116]) (br (a == [99, 111, 109, 109, 105, 116]) (some true) (some false)) (br (a == [99, 114, 101, 97, 116, 101]) (br (a == [99, 114, 101, 97, 116, 101]) (some true) (some false)) (br (a == [99, 114, 111, 115, 115]) (br (a == [99, 114, 111, 115, 115]) (some true) (some false)) (br (a == [100, 97, 121]) (br (a == [100, 97, 121]) (some true) (some false)) (br (a == [100, 101, 108, 101, 116, 101]) (br (a == [100, 101, 108, 101, 116, 101]) (some true) (some false)) (br (a == [100, 101, 115, 99]) (br (a == [100, 101, 115, 99]) (some true) (some false)) (br (a == [100, 105, 115, 116, 105, 110, 99, 116]) (br (a == [100, 105, 115, 116, 105, 110, 99, 116]) (some true) (some false)) (br (a == [100, 114, 111, 112]) (br (a == [100, 114, 111, 112]) (some true) (some false)) (br (a == [101, 108, 115, 101]) (br (a == [101, 108, 115, 101]) (some true) (some false)) (br (a == [101, 110, 100]) (br (a == [101, 110, 100]) (some true) (some false)) (br (a == [101, 120, 99, 101, 112, 116]) (br (a == [101, 120, 99, 101, 112, 116]) (some true) (some false)) (br (a == [101, 120, 105, 115, 116, 115]) (br (a == [101, 120, 105, 115, 116, 115]) (some true) (some false)) (br (a == [101, 120, 112, 108, 97, 105, 110]) (br (a == [101, 120, 112, 108, 97, 105, 110]) (some true) (some false)) (br (a == [102, 97, 108, 115, 101]) (br (a == [102, 97, 108, 115, 101]) (some true) (some false)) (br (a == [102, 114, 111, 109]) (br (a == [102, 114, 111, 109]) (some true) (some false)) (br (a == [103, 114, 111, 117, 112]) (br (a == [103, 114, 111, 117, 112]) (some true) (some false)) (br (a == [104, 97, 118, 105, 110, 103]) (br (a == [104, 97, 118, 105, 110, 103]) (some true) (some false)) (br (a == [105, 110]) (br (a == [105, 110]) (some true) (some false)) (br (a == [105, 110, 100, 101, 120]) (br (a == [105, 110, 100, 101, 120]) (some true) (some false)) (br (a == [105, 110, 115, 101, 114, 116]) (br (a == [105, 110, 115, 101, 114, 116]) (some true) (some false)) (br (a == [105, 110, 116, 101, 114, 115, 101, 99, 116]) (br (a == [105, 110, 116, 101, 114, 115, 101, 99, 116]) (some true) (some false)) (br (a == [105, 110, 116, 111]) (br (a == [105, 110, 116, 111]) (some true) (some false)) (br (a == [105, 115]) (br (a == [105, 115]) (some true) (some false)) (br (a == [106, 111, 105, 110]) (br (a == [106, 111, 105, 110]) (some true) (some false)) (br (a == [107, 101, 121]) (br (a == [107, 101, 121]) (some true) (some false)) (br (a == [108, 101, 102, 116]) (br (a == [108, 101, 102, 116]) (some true) (some false)) (br (a == [108, 105, 109, 105, 116]) (br (a == [108, 105, 109, 105, 116]) (some true) (some false)) (br (a == [110, 111, 116]) (br (a == [110, 111, 116]) (some true) (some false)) (br (a == [110, 117, 108, 108]) (br (a == [110, 117, 108, 108]) (some true) (some false)) (br (a == [111, 110]) (br (a == [111, 110]) (some true) (some false)) (br (a == [111, 114]) (br (a == [111, 114]) (some true) (some false)) (br (a == [111, 114, 100, 101, 114]) (br (a == [111, 114, 100, 101, 114]) (some true) (some false)) (br (a == [111, 118, 101, 114]) (br (a == [111, 118, 101, 114]) (some true) (some false)) (br (a == [112, 97, 114, 116, 105, 116, 105, 111, 110]) (br (a == [112, 97, 114, 116, 105, 116, 105, 111, 110]) (some true) (some false)) (br (a == [112, 114, 105, 109, 97, 114, 121]) (br (a == [112, 114, 105, 109, 97, 114, 121]) (some true) (some false)) (br (a == [114, 101, 99, 117, 114, 115, 105, 118, 101]) (br (a == [114, 101, 99, 117, 114, 115, 105, 118, 101]) (some true) (some false)) (br (a == [114, 111, 108, 108, 98, 97, 99, 107]) (br (a == [114, 111, 108, 108, 98, 97, 99, 107]) (some true) (some false)) (br (a == [115, 101, 108, 101, 99, 116]) (br (a == [115, 101, 108, 101, 99, 116]) (some true) (some false)) (br (a == [115, 101, 116]) (br (a == [115, 101, 116]) (some true) (some false)) (br (a == [116, 97, 98, 108, 101]) (br (a == [116, 97, 98, 108, 101]) (some true) (some false)) (br (a == [116, 104, 101, 110]) (br (a == [116, 104, 101, 110]) (some true) (some false)) (br (a == [116, 114, 117, 101]) (br (a == [116, 114, 117, 101]) (some true) (some false)) (br (a == [117, 110, 105, 111, 110]) (br (a == [117, 110, 105, 111, 110]) (some true) (some false)) (br (a == [117, 110, 105, 113, 117, 101]) (br (a == [117, 110, 105, 113, 117, 101]) (some true) (some false)) (br (a == [117, 112, 100, 97, 116, 101]) (br (a == [117, 112, 100, 97, 116, 101]) (some true) (some false)) (br (a == [118, 97, 108, 117, 101, 115]) (br (a == [118, 97, 108, 117, 101, 115]) (some true) (some false)) (br (a == [118, 105, 101, 119]) (br (a == [118, 105, 101, 119]) (some true) (some false)) (br (a == [119, 104, 101, 110]) (br (a == [119, 104, 101, 110]) (some true) (some false)) (br (a == [119, 104, 101, 114, 101]) (br (a == [119, 104, 101, 114, 101]) (some true) (some false)) (br (a == [119, 105, 116, 104]) (br (a == [119, 105, 116, 104]) (some true) (some false)) (br (a == [97, 108, 116, 101, 114]) (br (a == [97, 108, 116, 101, 114]) (some true) (some false)) (br (a == [97, 100, 100]) (br (a == [97, 100, 100]) (some true) (some false)) (br (a == [99, 111, 108, 117, 109, 110]) (br (a == [99, 111, 108, 117, 109, 110]) (some true) (some false)) (br (a == [108, 101, 118, 101, 108]) (br (a == [108, 101, 118, 101, 108]) (some true) (some false)) (br (a == [115, 101, 114, 105, 97, 108]) (br (a == [115, 101, 114, 105, 97, 108]) (some true) (some false)) (br (a == [115, 110, 97, 112, 115, 104, 111, 116]) (br (a == [115, 110, 97, 112, 115, 104, 111, 116]) (some true) (some false)) (br (a == [108, 97, 116, 101, 115, 116]) (some true) (some false)))))))))))))))))))))))))))))))))))))))))))))))))))))))))))))))))) := by kernel_rfl
noncomputable def c_spec_l08Reserved : Con := ⟨[.val T9], [T4], fun k x => spec_l08Reserved k x.1⟩
theorem del_spec_l08Reserved {w0 : World} (hS : Stops w0) : DelOk Try.prog w0 d_spec_l08Reserved := .nil
theorem ok_spec_l08Reserved {w0 : World} (hS : Stops w0) : ConOk Try.prog w0 230 c_spec_l08Reserved := fn_sound (A := a_spec_l08Reserved) tab_ok (del_spec_l08Reserved hS) (draws (del_spec_l08Reserved hS)) Try.func230 (by kernel_rfl) fun _ _ => rfl
theorem ent_spec_l08Reserved : Enters' Try.prog 230 := enters' Try.func230 (by kernel_rfl)
attribute [irreducible] spec_l08Reserved

/-! ### spec_l08Name: function 160 -/
def a_spec_l08Name : Ann := ⟨[], []⟩
noncomputable def d_spec_l08Name : List (Nat × Con) := [(229, c_spec_l08Shape), (230, c_spec_l08Reserved)]
noncomputable def spec_l08Name (k : Nat) (a : (Ty.den T9)) : Option (den1 [T4]) := evFn Γ d_spec_l08Name a_spec_l08Name Try.f160 [.val T9] [T4] k (a, ())
theorem spec_l08Name_eq (k : Nat) (a : (Ty.den T9)) : spec_l08Name k a = bnd (spec_l08Shape k a) (fun y1 => br (y1) (bnd (spec_l08Reserved k a) (fun y2 => some (!y2))) (some false)) := by kernel_rfl
noncomputable def c_spec_l08Name : Con := ⟨[.val T9], [T4], fun k x => spec_l08Name k x.1⟩
theorem del_spec_l08Name {w0 : World} (hS : Stops w0) : DelOk Try.prog w0 d_spec_l08Name := .cons (ok_spec_l08Shape hS) ent_spec_l08Shape (.cons (ok_spec_l08Reserved hS) ent_spec_l08Reserved (.nil))
theorem ok_spec_l08Name {w0 : World} (hS : Stops w0) : ConOk Try.prog w0 160 c_spec_l08Name := fn_sound (A := a_spec_l08Name) tab_ok (del_spec_l08Name hS) (draws (del_spec_l08Name hS)) Try.func160 (by kernel_rfl) fun _ _ => rfl
theorem ent_spec_l08Name : Enters' Try.prog 160 := enters' Try.func160 (by kernel_rfl)
attribute [irreducible] spec_l08Name

/-! ### spec_l09Col: function 161 -/
def a_spec_l09Col : Ann := ⟨[(0, [.val 1 T3, .var 2 T144 [], .val 5 T3], ⟨[], false⟩)], []⟩
noncomputable def d_spec_l09Col : List (Nat × Con) := []
noncomputable def spec_l09Col (k : Nat) (a : (Ty.den T144)) (b : (Ty.den T3)) : Option (den1 [T3]) := evFn Γ d_spec_l09Col a_spec_l09Col Try.f161 [.val T144, .val T3] [T3] k (a, b, ())
noncomputable def spec_l09Col_l0 (k : Nat) (v1 : (Ty.den T3)) (v2 : (Ty.den T144)) (v5 : (Ty.den T3)) : Option ((Items.den []) ⊕ (den1 [T3])) := loopR (ρ := (den1 [T3])) 0 [.val 1 T3, .var 2 T144 [], .val 5 T3] [] (runOf Γ d_spec_l09Col a_spec_l09Col Try.f161 [T3] 0) k (v1, v2, v5)
theorem spec_l09Col_eq (k : Nat) (a : (Ty.den T144)) (b : (Ty.den T3)) : spec_l09Col k a b = bnd (spec_l09Col_l0 k b a 0) (fun y1 => onSum y1 (fun y2 => some (-1)) (fun y2 => some y2)) := by kernel_rfl
theorem spec_l09Col_l0_zero (v1 : (Ty.den T3)) (v2 : (Ty.den T144)) (v5 : (Ty.den T3)) : spec_l09Col_l0 0 v1 v2 v5 = none := by kernel_rfl
theorem spec_l09Col_l0_succ (k : Nat) (v1 : (Ty.den T3)) (v2 : (Ty.den T144)) (v5 : (Ty.den T3)) : spec_l09Col_l0 (k + 1) v1 v2 v5 = br (decide (v5 < (↑(List.length v2.2.2.2.1) : Int))) (br (decide (0 ≤ v5)) (br (decide (v5 < (↑(List.length v2.2.2.2.1) : Int))) (br ((List.getD v2.2.2.2.1 (Int.toNat v5) T225.zero).1 == v1) (some (Sum.inr v5)) (spec_l09Col_l0 k v1 v2 (IntKind.i64.wrap (v5 + 1)))) (none)) (none)) (some (Sum.inl ())) := by kernel_rfl
noncomputable def c_spec_l09Col : Con := ⟨[.val T144, .val T3], [T3], fun k x => spec_l09Col k x.1 x.2.1⟩
theorem del_spec_l09Col {w0 : World} (hS : Stops w0) : DelOk Try.prog w0 d_spec_l09Col := .nil
theorem ok_spec_l09Col {w0 : World} (hS : Stops w0) : ConOk Try.prog w0 161 c_spec_l09Col := fn_sound (A := a_spec_l09Col) tab_ok (del_spec_l09Col hS) (draws (del_spec_l09Col hS)) Try.func161 (by kernel_rfl) fun _ _ => rfl
theorem ent_spec_l09Col : Enters' Try.prog 161 := enters' Try.func161 (by kernel_rfl)
attribute [irreducible] spec_l09Col spec_l09Col_l0

/-! ### spec_l09Named: function 162 -/
def a_spec_l09Named : Ann := ⟨[(0, [.val 1 T9, .var 2 T144 [], .val 5 T3], ⟨[], false⟩)], []⟩
noncomputable def d_spec_l09Named : List (Nat × Con) := []
noncomputable def spec_l09Named (k : Nat) (a : (Ty.den T144)) (b : (Ty.den T9)) : Option (den1 [T3]) := evFn Γ d_spec_l09Named a_spec_l09Named Try.f162 [.val T144, .val T9] [T3] k (a, b, ())
noncomputable def spec_l09Named_l0 (k : Nat) (v1 : (Ty.den T9)) (v2 : (Ty.den T144)) (v5 : (Ty.den T3)) : Option ((Items.den []) ⊕ (den1 [T3])) := loopR (ρ := (den1 [T3])) 0 [.val 1 T9, .var 2 T144 [], .val 5 T3] [] (runOf Γ d_spec_l09Named a_spec_l09Named Try.f162 [T3] 0) k (v1, v2, v5)
theorem spec_l09Named_eq (k : Nat) (a : (Ty.den T144)) (b : (Ty.den T9)) : spec_l09Named k a b = bnd (spec_l09Named_l0 k b a 0) (fun y1 => onSum y1 (fun y2 => some (-1)) (fun y2 => some y2)) := by kernel_rfl
theorem spec_l09Named_l0_zero (v1 : (Ty.den T9)) (v2 : (Ty.den T144)) (v5 : (Ty.den T3)) : spec_l09Named_l0 0 v1 v2 v5 = none := by kernel_rfl
theorem spec_l09Named_l0_succ (k : Nat) (v1 : (Ty.den T9)) (v2 : (Ty.den T144)) (v5 : (Ty.den T3)) : spec_l09Named_l0 (k + 1) v1 v2 v5 = br (decide (v5 < (↑(List.length v2.2.2.2.1) : Int))) (br (decide (0 ≤ v5)) (br (decide (v5 < (↑(List.length v2.2.2.2.1) : Int))) (br ((List.getD v2.2.2.2.1 (Int.toNat v5) T225.zero).2.1 == v1) (some (Sum.inr v5)) (spec_l09Named_l0 k v1 v2 (IntKind.i64.wrap (v5 + 1)))) (none)) (none)) (some (Sum.inl ())) := by kernel_rfl
noncomputable def c_spec_l09Named : Con := ⟨[.val T144, .val T9], [T3], fun k x => spec_l09Named k x.1 x.2.1⟩
theorem del_spec_l09Named {w0 : World} (hS : Stops w0) : DelOk Try.prog w0 d_spec_l09Named := .nil
theorem ok_spec_l09Named {w0 : World} (hS : Stops w0) : ConOk Try.prog w0 162 c_spec_l09Named := fn_sound (A := a_spec_l09Named) tab_ok (del_spec_l09Named hS) (draws (del_spec_l09Named hS)) Try.func162 (by kernel_rfl) fun _ _ => rfl
theorem ent_spec_l09Named : Enters' Try.prog 162 := enters' Try.func162 (by kernel_rfl)
attribute [irreducible] spec_l09Named spec_l09Named_l0

/-! ### spec_l09Has: function 249 -/
def a_spec_l09Has : Ann := ⟨[(0, [.val 0 T118, .val 1 T3, .val 5 T3], ⟨[], false⟩)], []⟩
noncomputable def d_spec_l09Has : List (Nat × Con) := []
noncomputable def spec_l09Has (k : Nat) (a : (Ty.den T118)) (b : (Ty.den T3)) : Option (den1 [T4]) := evFn Γ d_spec_l09Has a_spec_l09Has Try.f249 [.val T118, .val T3] [T4] k (a, b, ())
noncomputable def spec_l09Has_l0 (k : Nat) (v0 : (Ty.den T118)) (v1 : (Ty.den T3)) (v5 : (Ty.den T3)) : Option ((Items.den []) ⊕ (den1 [T4])) := loopR (ρ := (den1 [T4])) 0 [.val 0 T118, .val 1 T3, .val 5 T3] [] (runOf Γ d_spec_l09Has a_spec_l09Has Try.f249 [T4] 0) k (v0, v1, v5)
theorem spec_l09Has_eq (k : Nat) (a : (Ty.den T118)) (b : (Ty.den T3)) : spec_l09Has k a b = bnd (spec_l09Has_l0 k a b 0) (fun y1 => onSum y1 (fun y2 => some false) (fun y2 => some y2)) := by kernel_rfl
theorem spec_l09Has_l0_zero (v0 : (Ty.den T118)) (v1 : (Ty.den T3)) (v5 : (Ty.den T3)) : spec_l09Has_l0 0 v0 v1 v5 = none := by kernel_rfl
theorem spec_l09Has_l0_succ (k : Nat) (v0 : (Ty.den T118)) (v1 : (Ty.den T3)) (v5 : (Ty.den T3)) : spec_l09Has_l0 (k + 1) v0 v1 v5 = br (decide (v5 < (↑(List.length v0) : Int))) (br (decide (0 ≤ v5)) (br (decide (v5 < (↑(List.length v0) : Int))) (br (List.getD v0 (Int.toNat v5) T3.zero == v1) (some (Sum.inr true)) (spec_l09Has_l0 k v0 v1 (IntKind.i64.wrap (v5 + 1)))) (none)) (none)) (some (Sum.inl ())) := by kernel_rfl
noncomputable def c_spec_l09Has : Con := ⟨[.val T118, .val T3], [T4], fun k x => spec_l09Has k x.1 x.2.1⟩
theorem del_spec_l09Has {w0 : World} (hS : Stops w0) : DelOk Try.prog w0 d_spec_l09Has := .nil
theorem ok_spec_l09Has {w0 : World} (hS : Stops w0) : ConOk Try.prog w0 249 c_spec_l09Has := fn_sound (A := a_spec_l09Has) tab_ok (del_spec_l09Has hS) (draws (del_spec_l09Has hS)) Try.func249 (by kernel_rfl) fun _ _ => rfl
theorem ent_spec_l09Has : Enters' Try.prog 249 := enters' Try.func249 (by kernel_rfl)
attribute [irreducible] spec_l09Has spec_l09Has_l0

/-! ### spec_l09Once: function 231 -/
def a_spec_l09Once : Ann := ⟨[(0, [.val 0 T118, .val 3 T3], ⟨[], false⟩)], []⟩
noncomputable def d_spec_l09Once : List (Nat × Con) := [(249, c_spec_l09Has)]
noncomputable def spec_l09Once (k : Nat) (a : (Ty.den T118)) : Option (den1 [T4]) := evFn Γ d_spec_l09Once a_spec_l09Once Try.f231 [.val T118] [T4] k (a, ())
noncomputable def spec_l09Once_l0 (k : Nat) (v0 : (Ty.den T118)) (v3 : (Ty.den T3)) : Option ((Items.den []) ⊕ (den1 [T4])) := loopR (ρ := (den1 [T4])) 0 [.val 0 T118, .val 3 T3] [] (runOf Γ d_spec_l09Once a_spec_l09Once Try.f231 [T4] 0) k (v0, v3)
theorem spec_l09Once_eq (k : Nat) (a : (Ty.den T118)) : spec_l09Once k a = bnd (spec_l09Once_l0 k a 0) (fun y1 => onSum y1 (fun y2 => some true) (fun y2 => some y2)) := by kernel_rfl
theorem spec_l09Once_l0_zero (v0 : (Ty.den T118)) (v3 : (Ty.den T3)) : spec_l09Once_l0 0 v0 v3 = none := by kernel_rfl
theorem spec_l09Once_l0_succ (k : Nat) (v0 : (Ty.den T118)) (v3 : (Ty.den T3)) : spec_l09Once_l0 (k + 1) v0 v3 = br (decide (v3 < (↑(List.length v0) : Int))) (br (decide (0 ≤ v3)) (br (decide (v3 ≤ (↑(List.length v0) : Int))) (br (decide (0 ≤ v3)) (br (decide (v3 < (↑(List.length v0) : Int))) (bnd (spec_l09Has k (List.take (Int.toNat v3) v0) (List.getD v0 (Int.toNat v3) T3.zero)) (fun y1 => br (y1) (some (Sum.inr false)) (spec_l09Once_l0 k v0 (IntKind.i64.wrap (v3 + 1))))) (none)) (none)) (none)) (none)) (some (Sum.inl ())) := by kernel_rfl
noncomputable def c_spec_l09Once : Con := ⟨[.val T118], [T4], fun k x => spec_l09Once k x.1⟩
theorem del_spec_l09Once {w0 : World} (hS : Stops w0) : DelOk Try.prog w0 d_spec_l09Once := .cons (ok_spec_l09Has hS) ent_spec_l09Has (.nil)
theorem ok_spec_l09Once {w0 : World} (hS : Stops w0) : ConOk Try.prog w0 231 c_spec_l09Once := fn_sound (A := a_spec_l09Once) tab_ok (del_spec_l09Once hS) (draws (del_spec_l09Once hS)) Try.func231 (by kernel_rfl) fun _ _ => rfl
theorem ent_spec_l09Once : Enters' Try.prog 231 := enters' Try.func231 (by kernel_rfl)
attribute [irreducible] spec_l09Once spec_l09Once_l0

/-! ### spec_l09ColsOK: function 163 -/
def a_spec_l09ColsOK : Ann := ⟨[(0, [.val 1 T118, .val 2 T4, .var 3 T144 [], .val 7 T3], ⟨[], false⟩)], []⟩
noncomputable def d_spec_l09ColsOK : List (Nat × Con) := [(161, c_spec_l09Col), (231, c_spec_l09Once)]
noncomputable def spec_l09ColsOK (k : Nat) (a : (Ty.den T144)) (b : (Ty.den T118)) (c : (Ty.den T4)) : Option (den1 [T4]) := evFn Γ d_spec_l09ColsOK a_spec_l09ColsOK Try.f163 [.val T144, .val T118, .val T4] [T4] k (a, b, c, ())
noncomputable def spec_l09ColsOK_l0 (k : Nat) (v1 : (Ty.den T118)) (v2 : (Ty.den T4)) (v3 : (Ty.den T144)) (v7 : (Ty.den T3)) : Option ((Items.den []) ⊕ (den1 [T4])) := loopR (ρ := (den1 [T4])) 0 [.val 1 T118, .val 2 T4, .var 3 T144 [], .val 7 T3] [] (runOf Γ d_spec_l09ColsOK a_spec_l09ColsOK Try.f163 [T4] 0) k (v1, v2, v3, v7)
theorem spec_l09ColsOK_eq (k : Nat) (a : (Ty.den T144)) (b : (Ty.den T118)) (c : (Ty.den T4)) : spec_l09ColsOK k a b c = br ((↑(List.length b) : Int) == 0) (some false) (br (decide ((↑(List.length b) : Int) > 16)) (some false) (bnd (spec_l09Once k b) (fun y1 => br (!y1) (some false) (bnd (spec_l09ColsOK_l0 k b c a 0) (fun y2 => onSum y2 (fun y3 => some true) (fun y3 => some y3)))))) := by kernel_rfl
theorem spec_l09ColsOK_l0_zero (v1 : (Ty.den T118)) (v2 : (Ty.den T4)) (v3 : (Ty.den T144)) (v7 : (Ty.den T3)) : spec_l09ColsOK_l0 0 v1 v2 v3 v7 = none := by kernel_rfl
theorem spec_l09ColsOK_l0_succ (k : Nat) (v1 : (Ty.den T118)) (v2 : (Ty.den T4)) (v3 : (Ty.den T144)) (v7 : (Ty.den T3)) : spec_l09ColsOK_l0 (k + 1) v1 v2 v3 v7 = br (decide (v7 < (↑(List.length v1) : Int))) (br (decide (0 ≤ v7)) (br (decide (v7 < (↑(List.length v1) : Int))) (bnd (spec_l09Col k v3 (List.getD v1 (Int.toNat v7) T3.zero)) (fun y1 => br (decide (y1 < 0)) (some (Sum.inr false)) (br (v2) (br (decide (0 ≤ y1)) (br (decide (y1 < (↑(List.length v3.2.2.2.1) : Int))) (br (!(List.getD v3.2.2.2.1 (Int.toNat y1) T225.zero).2.2.2.1) (some (Sum.inr false)) (spec_l09ColsOK_l0 k v1 v2 v3 (IntKind.i64.wrap (v7 + 1)))) (none)) (none)) (spec_l09ColsOK_l0 k v1 v2 v3 (IntKind.i64.wrap (v7 + 1)))))) (none)) (none)) (some (Sum.inl ())) := by kernel_rfl
noncomputable def c_spec_l09ColsOK : Con := ⟨[.val T144, .val T118, .val T4], [T4], fun k x => spec_l09ColsOK k x.1 x.2.1 x.2.2.1⟩
theorem del_spec_l09ColsOK {w0 : World} (hS : Stops w0) : DelOk Try.prog w0 d_spec_l09ColsOK := .cons (ok_spec_l09Col hS) ent_spec_l09Col (.cons (ok_spec_l09Once hS) ent_spec_l09Once (.nil))
theorem ok_spec_l09ColsOK {w0 : World} (hS : Stops w0) : ConOk Try.prog w0 163 c_spec_l09ColsOK := fn_sound (A := a_spec_l09ColsOK) tab_ok (del_spec_l09ColsOK hS) (draws (del_spec_l09ColsOK hS)) Try.func163 (by kernel_rfl) fun _ _ => rfl
theorem ent_spec_l09ColsOK : Enters' Try.prog 163 := enters' Try.func163 (by kernel_rfl)
attribute [irreducible] spec_l09ColsOK spec_l09ColsOK_l0

/-! ### spec_TableOK: function 91 -/
def a_spec_TableOK : Ann := ⟨[(0, [.var 1 T144 [], .val 3 T3], ⟨[.var 1 T144 []], false⟩), (2, [.var 1 T144 [], .val 5 T3], ⟨[], false⟩), (4, [.var 1 T144 [], .val 5 T3, .var 6 T149 [], .val 7 T3], ⟨[.var 1 T144 [], .val 5 T3], false⟩)], []⟩
noncomputable def d_spec_TableOK : List (Nat × Con) := [(160, c_spec_l08Name), (161, c_spec_l09Col), (162, c_spec_l09Named), (163, c_spec_l09ColsOK)]
noncomputable def spec_TableOK (k : Nat) (a : (Ty.den T144)) : Option (den1 [T4]) := evFn Γ d_spec_TableOK a_spec_TableOK Try.f91 [.val T144] [T4] k (a, ())
noncomputable def spec_TableOK_l0 (k : Nat) (v1 : (Ty.den T144)) (v3 : (Ty.den T3)) : Option ((Items.den [.var 1 T144 []]) ⊕ (den1 [T4])) := loopR (ρ := (den1 [T4])) 0 [.var 1 T144 [], .val 3 T3] [.var 1 T144 []] (runOf Γ d_spec_TableOK a_spec_TableOK Try.f91 [T4] 0) k (v1, v3)
noncomputable def spec_TableOK_l2 (k : Nat) (v1 : (Ty.den T144)) (v5 : (Ty.den T3)) : Option ((Items.den []) ⊕ (den1 [T4])) := loopR (ρ := (den1 [T4])) 2 [.var 1 T144 [], .val 5 T3] [] (runOf Γ d_spec_TableOK a_spec_TableOK Try.f91 [T4] 2) k (v1, v5)
noncomputable def spec_TableOK_l4 (k : Nat) (v1 : (Ty.den T144)) (v5 : (Ty.den T3)) (v6 : (Ty.den T149)) (v7 : (Ty.den T3)) : Option ((Items.den [.var 1 T144 [], .val 5 T3]) ⊕ (den1 [T4])) := loopR (ρ := (den1 [T4])) 4 [.var 1 T144 [], .val 5 T3, .var 6 T149 [], .val 7 T3] [.var 1 T144 [], .val 5 T3] (runOf Γ d_spec_TableOK a_spec_TableOK Try.f91 [T4] 4) k (v1, v5, v6, v7)
theorem spec_TableOK_eq (k : Nat) (a : (Ty.den T144)) : spec_TableOK k a = br (decide (a.1 < 1)) (some false) (br (decide (a.1 > 40)) (some false) (bnd (spec_l08Name k a.2.1) (fun y1 => br (!y1) (some false) (br (decide (a.2.2.1 < 1)) (some false) (br (decide (a.2.2.1 > 1000000)) (some false) (br (decide ((↑(List.length a.2.2.2.1) : Int) < 1)) (some false) (br (decide ((↑(List.length a.2.2.2.1) : Int) > 14)) (some false) (br (decide ((↑(List.length a.2.2.2.2.2.1) : Int) > 8)) (some false) (bnd (spec_TableOK_l0 k a 0) (fun y2 => onSum y2 (fun y3 => bnd (spec_l09ColsOK k y3 y3.2.2.2.2.1 true) (fun y4 => br (!y4) (some false) (bnd (spec_TableOK_l2 k y3 0) (fun y5 => onSum y5 (fun y6 => some true) (fun y6 => some y6))))) (fun y3 => some y3))))))))))) := by kernel_rfl
theorem spec_TableOK_l0_zero (v1 : (Ty.den T144)) (v3 : (Ty.den T3)) : spec_TableOK_l0 0 v1 v3 = none := by kernel_rfl
theorem spec_TableOK_l0_succ (k : Nat) (v1 : (Ty.den T144)) (v3 : (Ty.den T3)) : spec_TableOK_l0 (k + 1) v1 v3 = br (decide (v3 < (↑(List.length v1.2.2.2.1) : Int))) (br (decide (0 ≤ v3)) (br (decide (v3 < (↑(List.length v1.2.2.2.1) : Int))) (br (decide ((List.getD v1.2.2.2.1 (Int.toNat v3) T225.zero).1 < 1)) (some (Sum.inr false)) (br (decide ((List.getD v1.2.2.2.1 (Int.toNat v3) T225.zero).1 > 1000)) (some (Sum.inr false)) (bnd (spec_l08Name k (List.getD v1.2.2.2.1 (Int.toNat v3) T225.zero).2.1) (fun y1 => br (!y1) (some (Sum.inr false)) (br (decide ((List.getD v1.2.2.2.1 (Int.toNat v3) T225.zero).2.2.1 < 1)) (some (Sum.inr false)) (br (decide ((List.getD v1.2.2.2.1 (Int.toNat v3) T225.zero).2.2.1 > 5)) (some (Sum.inr false)) (bnd (spec_l09Col k v1 (List.getD v1.2.2.2.1 (Int.toNat v3) T225.zero).1) (fun y2 => br (y2 != v3) (some (Sum.inr false)) (bnd (spec_l09Named k v1 (List.getD v1.2.2.2.1 (Int.toNat v3) T225.zero).2.1) (fun y3 => br (y3 != v3) (some (Sum.inr false)) (spec_TableOK_l0 k v1 (IntKind.i64.wrap (v3 + 1))))))))))))) (none)) (none)) (some (Sum.inl v1)) := by kernel_rfl
theorem spec_TableOK_l2_zero (v1 : (Ty.den T144)) (v5 : (Ty.den T3)) : spec_TableOK_l2 0 v1 v5 = none := by kernel_rfl
theorem spec_TableOK_l2_succ (k : Nat) (v1 : (Ty.den T144)) (v5 : (Ty.den T3)) : spec_TableOK_l2 (k + 1) v1 v5 = br (decide (v5 < (↑(List.length v1.2.2.2.2.2.1) : Int))) (br (decide (0 ≤ v5)) (br (decide (v5 < (↑(List.length v1.2.2.2.2.2.1) : Int))) (br (decide ((List.getD v1.2.2.2.2.2.1 (Int.toNat v5) T149.zero).1 < 1)) (some (Sum.inr false)) (br (decide ((List.getD v1.2.2.2.2.2.1 (Int.toNat v5) T149.zero).1 > 1000)) (some (Sum.inr false)) (bnd (spec_l08Name k (List.getD v1.2.2.2.2.2.1 (Int.toNat v5) T149.zero).2.1) (fun y1 => br (!y1) (some (Sum.inr false)) (br (decide ((List.getD v1.2.2.2.2.2.1 (Int.toNat v5) T149.zero).2.2.2.2.1 < 1)) (some (Sum.inr false)) (br (decide ((List.getD v1.2.2.2.2.2.1 (Int.toNat v5) T149.zero).2.2.2.2.1 > 3)) (some (Sum.inr false)) (bnd (spec_l09ColsOK k v1 (List.getD v1.2.2.2.2.2.1 (Int.toNat v5) T149.zero).2.2.1 false) (fun y2 => br (!y2) (some (Sum.inr false)) (br (decide (IntKind.i64.wrap ((↑(List.length (List.getD v1.2.2.2.2.2.1 (Int.toNat v5) T149.zero).2.2.1) : Int) + (↑(List.length v1.2.2.2.2.1) : Int)) > 14)) (some (Sum.inr false)) (bnd (spec_TableOK_l4 k v1 v5 (List.getD v1.2.2.2.2.2.1 (Int.toNat v5) T149.zero) 0) (fun y3 => onSum y3 (fun y4 => spec_TableOK_l2 k y4.1 (IntKind.i64.wrap (y4.2 + 1))) (fun y4 => some (Sum.inr y4))))))))))))) (none)) (none)) (some (Sum.inl ())) := by kernel_rfl
theorem spec_TableOK_l4_zero (v1 : (Ty.den T144)) (v5 : (Ty.den T3)) (v6 : (Ty.den T149)) (v7 : (Ty.den T3)) : spec_TableOK_l4 0 v1 v5 v6 v7 = none := by kernel_rfl
theorem spec_TableOK_l4_succ (k : Nat) (v1 : (Ty.den T144)) (v5 : (Ty.den T3)) (v6 : (Ty.den T149)) (v7 : (Ty.den T3)) : spec_TableOK_l4 (k + 1) v1 v5 v6 v7 = br (decide (v7 < v5)) (br (decide (0 ≤ v7)) (br (decide (v7 < (↑(List.length v1.2.2.2.2.2.1) : Int))) (br ((List.getD v1.2.2.2.2.2.1 (Int.toNat v7) T149.zero).1 == v6.1) (some (Sum.inr false)) (br (decide (0 ≤ v7)) (br (decide (v7 < (↑(List.length v1.2.2.2.2.2.1) : Int))) (br ((List.getD v1.2.2.2.2.2.1 (Int.toNat v7) T149.zero).2.1 == v6.2.1) (some (Sum.inr false)) (spec_TableOK_l4 k v1 v5 v6 (IntKind.i64.wrap (v7 + 1)))) (none)) (none))) (none)) (none)) (some (Sum.inl (v1, v5))) := by kernel_rfl
noncomputable def c_spec_TableOK : Con := ⟨[.val T144], [T4], fun k x => spec_TableOK k x.1⟩
theorem del_spec_TableOK {w0 : World} (hS : Stops w0) : DelOk Try.prog w0 d_spec_TableOK := .cons (ok_spec_l08Name hS) ent_spec_l08Name (.cons (ok_spec_l09Col hS) ent_spec_l09Col (.cons (ok_spec_l09Named hS) ent_spec_l09Named (.cons (ok_spec_l09ColsOK hS) ent_spec_l09ColsOK (.nil))))
theorem ok_spec_TableOK {w0 : World} (hS : Stops w0) : ConOk Try.prog w0 91 c_spec_TableOK := fn_sound (A := a_spec_TableOK) tab_ok (del_spec_TableOK hS) (draws (del_spec_TableOK hS)) Try.func91 (by kernel_rfl) fun _ _ => rfl
theorem ent_spec_TableOK : Enters' Try.prog 91 := enters' Try.func91 (by kernel_rfl)
attribute [irreducible] spec_TableOK spec_TableOK_l0 spec_TableOK_l2 spec_TableOK_l4

/-! ### spec_l09Table: function 92 -/
def a_spec_l09Table : Ann := ⟨[(0, [.val 0 T46, .val 1 T9, .val 5 T3], ⟨[], false⟩)], []⟩
noncomputable def d_spec_l09Table : List (Nat × Con) := []
noncomputable def spec_l09Table (k : Nat) (a : (Ty.den T46)) (b : (Ty.den T9)) : Option (den1 [T3]) := evFn Γ d_spec_l09Table a_spec_l09Table Try.f92 [.val T46, .val T9] [T3] k (a, b, ())
noncomputable def spec_l09Table_l0 (k : Nat) (v0 : (Ty.den T46)) (v1 : (Ty.den T9)) (v5 : (Ty.den T3)) : Option ((Items.den []) ⊕ (den1 [T3])) := loopR (ρ := (den1 [T3])) 0 [.val 0 T46, .val 1 T9, .val 5 T3] [] (runOf Γ d_spec_l09Table a_spec_l09Table Try.f92 [T3] 0) k (v0, v1, v5)
theorem spec_l09Table_eq (k : Nat) (a : (Ty.den T46)) (b : (Ty.den T9)) : spec_l09Table k a b = bnd (spec_l09Table_l0 k a b 0) (fun y1 => onSum y1 (fun y2 => some (-1)) (fun y2 => some y2)) := by kernel_rfl
theorem spec_l09Table_l0_zero (v0 : (Ty.den T46)) (v1 : (Ty.den T9)) (v5 : (Ty.den T3)) : spec_l09Table_l0 0 v0 v1 v5 = none := by kernel_rfl
theorem spec_l09Table_l0_succ (k : Nat) (v0 : (Ty.den T46)) (v1 : (Ty.den T9)) (v5 : (Ty.den T3)) : spec_l09Table_l0 (k + 1) v0 v1 v5 = br (decide (v5 < (↑(List.length v0) : Int))) (br (decide (0 ≤ v5)) (br (decide (v5 < (↑(List.length v0) : Int))) (br ((List.getD v0 (Int.toNat v5) T144.zero).2.1 == v1) (some (Sum.inr v5)) (spec_l09Table_l0 k v0 v1 (IntKind.i64.wrap (v5 + 1)))) (none)) (none)) (some (Sum.inl ())) := by kernel_rfl
noncomputable def c_spec_l09Table : Con := ⟨[.val T46, .val T9], [T3], fun k x => spec_l09Table k x.1 x.2.1⟩
theorem del_spec_l09Table {w0 : World} (hS : Stops w0) : DelOk Try.prog w0 d_spec_l09Table := .nil
theorem ok_spec_l09Table {w0 : World} (hS : Stops w0) : ConOk Try.prog w0 92 c_spec_l09Table := fn_sound (A := a_spec_l09Table) tab_ok (del_spec_l09Table hS) (draws (del_spec_l09Table hS)) Try.func92 (by kernel_rfl) fun _ _ => rfl
theorem ent_spec_l09Table : Enters' Try.prog 92 := enters' Try.func92 (by kernel_rfl)
attribute [irreducible] spec_l09Table spec_l09Table_l0

/-! ### spec_l09Index: function 164 -/
def a_spec_l09Index : Ann := ⟨[(0, [.val 1 T9, .var 2 T144 [], .val 5 T3], ⟨[], false⟩)], []⟩
noncomputable def d_spec_l09Index : List (Nat × Con) := []
noncomputable def spec_l09Index (k : Nat) (a : (Ty.den T144)) (b : (Ty.den T9)) : Option (den1 [T3]) := evFn Γ d_spec_l09Index a_spec_l09Index Try.f164 [.val T144, .val T9] [T3] k (a, b, ())
noncomputable def spec_l09Index_l0 (k : Nat) (v1 : (Ty.den T9)) (v2 : (Ty.den T144)) (v5 : (Ty.den T3)) : Option ((Items.den []) ⊕ (den1 [T3])) := loopR (ρ := (den1 [T3])) 0 [.val 1 T9, .var 2 T144 [], .val 5 T3] [] (runOf Γ d_spec_l09Index a_spec_l09Index Try.f164 [T3] 0) k (v1, v2, v5)
theorem spec_l09Index_eq (k : Nat) (a : (Ty.den T144)) (b : (Ty.den T9)) : spec_l09Index k a b = bnd (spec_l09Index_l0 k b a 0) (fun y1 => onSum y1 (fun y2 => some (-1)) (fun y2 => some y2)) := by kernel_rfl
theorem spec_l09Index_l0_zero (v1 : (Ty.den T9)) (v2 : (Ty.den T144)) (v5 : (Ty.den T3)) : spec_l09Index_l0 0 v1 v2 v5 = none := by kernel_rfl
theorem spec_l09Index_l0_succ (k : Nat) (v1 : (Ty.den T9)) (v2 : (Ty.den T144)) (v5 : (Ty.den T3)) : spec_l09Index_l0 (k + 1) v1 v2 v5 = br (decide (v5 < (↑(List.length v2.2.2.2.2.2.1) : Int))) (br (decide (0 ≤ v5)) (br (decide (v5 < (↑(List.length v2.2.2.2.2.2.1) : Int))) (br ((List.getD v2.2.2.2.2.2.1 (Int.toNat v5) T149.zero).2.1 == v1) (some (Sum.inr v5)) (spec_l09Index_l0 k v1 v2 (IntKind.i64.wrap (v5 + 1)))) (none)) (none)) (some (Sum.inl ())) := by kernel_rfl
noncomputable def c_spec_l09Index : Con := ⟨[.val T144, .val T9], [T3], fun k x => spec_l09Index k x.1 x.2.1⟩
theorem del_spec_l09Index {w0 : World} (hS : Stops w0) : DelOk Try.prog w0 d_spec_l09Index := .nil
theorem ok_spec_l09Index {w0 : World} (hS : Stops w0) : ConOk Try.prog w0 164 c_spec_l09Index := fn_sound (A := a_spec_l09Index) tab_ok (del_spec_l09Index hS) (draws (del_spec_l09Index hS)) Try.func164 (by kernel_rfl) fun _ _ => rfl
theorem ent_spec_l09Index : Enters' Try.prog 164 := enters' Try.func164 (by kernel_rfl)
attribute [irreducible] spec_l09Index spec_l09Index_l0

/-! ### spec_l09Where: function 93 -/
def a_spec_l09Where : Ann := ⟨[(0, [.val 0 T46, .val 1 T9, .val 6 T3], ⟨[], false⟩)], []⟩
noncomputable def d_spec_l09Where : List (Nat × Con) := [(164, c_spec_l09Index)]
noncomputable def spec_l09Where (k : Nat) (a : (Ty.den T46)) (b : (Ty.den T9)) : Option (den1 [T3, T3]) := evFn Γ d_spec_l09Where a_spec_l09Where Try.f93 [.val T46, .val T9] [T3, T3] k (a, b, ())
noncomputable def spec_l09Where_l0 (k : Nat) (v0 : (Ty.den T46)) (v1 : (Ty.den T9)) (v6 : (Ty.den T3)) : Option ((Items.den []) ⊕ (den1 [T3, T3])) := loopR (ρ := (den1 [T3, T3])) 0 [.val 0 T46, .val 1 T9, .val 6 T3] [] (runOf Γ d_spec_l09Where a_spec_l09Where Try.f93 [T3, T3] 0) k (v0, v1, v6)
theorem spec_l09Where_eq (k : Nat) (a : (Ty.den T46)) (b : (Ty.den T9)) : spec_l09Where k a b = bnd (spec_l09Where_l0 k a b 0) (fun y1 => onSum y1 (fun y2 => some (-1, -1)) (fun y2 => some y2)) := by kernel_rfl
theorem spec_l09Where_l0_zero (v0 : (Ty.den T46)) (v1 : (Ty.den T9)) (v6 : (Ty.den T3)) : spec_l09Where_l0 0 v0 v1 v6 = none := by kernel_rfl
theorem spec_l09Where_l0_succ (k : Nat) (v0 : (Ty.den T46)) (v1 : (Ty.den T9)) (v6 : (Ty.den T3)) : spec_l09Where_l0 (k + 1) v0 v1 v6 = br (decide (v6 < (↑(List.length v0) : Int))) (br (decide (0 ≤ v6)) (br (decide (v6 < (↑(List.length v0) : Int))) (bnd (spec_l09Index k (List.getD v0 (Int.toNat v6) T144.zero) v1) (fun y1 => br (decide (y1 ≥ 0)) (some (Sum.inr (v6, y1))) (spec_l09Where_l0 k v0 v1 (IntKind.i64.wrap (v6 + 1))))) (none)) (none)) (some (Sum.inl ())) := by kernel_rfl
noncomputable def c_spec_l09Where : Con := ⟨[.val T46, .val T9], [T3, T3], fun k x => spec_l09Where k x.1 x.2.1⟩
theorem del_spec_l09Where {w0 : World} (hS : Stops w0) : DelOk Try.prog w0 d_spec_l09Where := .cons (ok_spec_l09Index hS) ent_spec_l09Index (.nil)
theorem ok_spec_l09Where {w0 : World} (hS : Stops w0) : ConOk Try.prog w0 93 c_spec_l09Where := fn_sound (A := a_spec_l09Where) tab_ok (del_spec_l09Where hS) (draws (del_spec_l09Where hS)) Try.func93 (by kernel_rfl) fun _ _ => rfl
theorem ent_spec_l09Where : Enters' Try.prog 93 := enters' Try.func93 (by kernel_rfl)
attribute [irreducible] spec_l09Where spec_l09Where_l0

/-! ### spec_CatalogOK: function 22 -/
def a_spec_CatalogOK : Ann := ⟨[(0, [.val 0 T46, .val 3 T3], ⟨[], false⟩), (2, [.val 0 T46, .val 3 T3, .val 4 T3], ⟨[.val 0 T46, .val 3 T3], false⟩)], [(8, ⟨[.val 0 T46, .val 3 T3], false⟩)]⟩
noncomputable def d_spec_CatalogOK : List (Nat × Con) := [(91, c_spec_TableOK), (92, c_spec_l09Table), (93, c_spec_l09Where)]
noncomputable def spec_CatalogOK (k : Nat) (a : (Ty.den T46)) : Option (den1 [T4]) := evFn Γ d_spec_CatalogOK a_spec_CatalogOK Try.f22 [.val T46] [T4] k (a, ())
noncomputable def spec_CatalogOK_l0 (k : Nat) (v0 : (Ty.den T46)) (v3 : (Ty.den T3)) : Option ((Items.den []) ⊕ (den1 [T4])) := loopR (ρ := (den1 [T4])) 0 [.val 0 T46, .val 3 T3] [] (runOf Γ d_spec_CatalogOK a_spec_CatalogOK Try.f22 [T4] 0) k (v0, v3)
noncomputable def spec_CatalogOK_l2 (k : Nat) (v0 : (Ty.den T46)) (v3 : (Ty.den T3)) (v4 : (Ty.den T3)) : Option ((Items.den [.val 0 T46, .val 3 T3]) ⊕ (den1 [T4])) := loopR (ρ := (den1 [T4])) 2 [.val 0 T46, .val 3 T3, .val 4 T3] [.val 0 T46, .val 3 T3] (runOf Γ d_spec_CatalogOK a_spec_CatalogOK Try.f22 [T4] 2) k (v0, v3, v4)
theorem spec_CatalogOK_eq (k : Nat) (a : (Ty.den T46)) : spec_CatalogOK k a = br (decide ((↑(List.length a) : Int) > 40)) (some false) (bnd (spec_CatalogOK_l0 k a 0) (fun y1 => onSum y1 (fun y2 => some true) (fun y2 => some y2))) := by kernel_rfl
theorem spec_CatalogOK_l0_zero (v0 : (Ty.den T46)) (v3 : (Ty.den T3)) : spec_CatalogOK_l0 0 v0 v3 = none := by kernel_rfl
theorem spec_CatalogOK_l0_succ (k : Nat) (v0 : (Ty.den T46)) (v3 : (Ty.den T3)) : spec_CatalogOK_l0 (k + 1) v0 v3 = br (decide (v3 < (↑(List.length v0) : Int))) (bnd (br (decide (0 ≤ v3)) (br (decide (v3 < (↑(List.length v0) : Int))) (bnd (spec_TableOK k (List.getD v0 (Int.toNat v3) T144.zero)) (fun y1 => br (!y1) (some (Sum.inr false)) (br (decide (v3 > 0)) (br (decide (0 ≤ v3)) (br (decide (v3 < (↑(List.length v0) : Int))) (br (decide (0 ≤ IntKind.i64.wrap (v3 - 1))) (br (decide (IntKind.i64.wrap (v3 - 1) < (↑(List.length v0) : Int))) (br (decide ((List.getD v0 (Int.toNat v3) T144.zero).1 ≤ (List.getD v0 (IntKind.i64.wrap (v3 - 1)).toNat T144.zero).1)) (some (Sum.inr false)) (br (decide (0 ≤ v3)) (br (decide (v3 < (↑(List.length v0) : Int))) (bnd (spec_l09Table k v0 (List.getD v0 (Int.toNat v3) T144.zero).2.1) (fun y2 => br (y2 != v3) (some (Sum.inr false)) (some (Sum.inl (v0, v3))))) (none)) (none))) (none)) (none)) (none)) (none)) (br (decide (0 ≤ v3)) (br (decide (v3 < (↑(List.length v0) : Int))) (bnd (spec_l09Table k v0 (List.getD v0 (Int.toNat v3) T144.zero).2.1) (fun y2 => br (y2 != v3) (some (Sum.inr false)) (some (Sum.inl (v0, v3))))) (none)) (none))))) (none)) (none)) (fun y1 => onSum y1 (fun y2 => bnd (spec_CatalogOK_l2 k y2.1 y2.2 0) (fun y3 => onSum y3 (fun y4 => spec_CatalogOK_l0 k y4.1 (IntKind.i64.wrap (y4.2 + 1))) (fun y4 => some (Sum.inr y4)))) (fun y2 => some (Sum.inr y2)))) (some (Sum.inl ())) := by kernel_rfl
theorem spec_CatalogOK_l2_zero (v0 : (Ty.den T46)) (v3 : (Ty.den T3)) (v4 : (Ty.den T3)) : spec_CatalogOK_l2 0 v0 v3 v4 = none := by kernel_rfl
theorem spec_CatalogOK_l2_succ (k : Nat) (v0 : (Ty.den T46)) (v3 : (Ty.den T3)) (v4 : (Ty.den T3)) : spec_CatalogOK_l2 (k + 1) v0 v3 v4 = br (decide (0 ≤ v3)) (br (decide (v3 < (↑(List.length v0) : Int))) (br (decide (v4 < (↑(List.length (List.getD v0 (Int.toNat v3) T144.zero).2.2.2.2.2.1) : Int))) (br (decide (0 ≤ v3)) (br (decide (v3 < (↑(List.length v0) : Int))) (br (decide (0 ≤ v4)) (br (decide (v4 < (↑(List.length (List.getD v0 (Int.toNat v3) T144.zero).2.2.2.2.2.1) : Int))) (bnd (spec_l09Where k v0 (List.getD (List.getD v0 (Int.toNat v3) T144.zero).2.2.2.2.2.1 (Int.toNat v4) T149.zero).2.1) (fun y1 => br (y1.1 != v3) (some (Sum.inr false)) (spec_CatalogOK_l2 k v0 v3 (IntKind.i64.wrap (v4 + 1))))) (none)) (none)) (none)) (none)) (some (Sum.inl (v0, v3)))) (none)) (none) := by kernel_rfl
noncomputable def c_spec_CatalogOK : Con := ⟨[.val T46], [T4], fun k x => spec_CatalogOK k x.1⟩
theorem del_spec_CatalogOK {w0 : World} (hS : Stops w0) : DelOk Try.prog w0 d_spec_CatalogOK := .cons (ok_spec_TableOK hS) ent_spec_TableOK (.cons (ok_spec_l09Table hS) ent_spec_l09Table (.cons (ok_spec_l09Where hS) ent_spec_l09Where (.nil)))
theorem ok_spec_CatalogOK {w0 : World} (hS : Stops w0) : ConOk Try.prog w0 22 c_spec_CatalogOK := fn_sound (A := a_spec_CatalogOK) tab_ok (del_spec_CatalogOK hS) (draws (del_spec_CatalogOK hS)) Try.func22 (by kernel_rfl) fun _ _ => rfl
theorem ent_spec_CatalogOK : Enters' Try.prog 22 := enters' Try.func22 (by kernel_rfl)
attribute [irreducible] spec_CatalogOK spec_CatalogOK_l0 spec_CatalogOK_l2

/-! ### laws_toColumn: function 232 -/
def a_laws_toColumn : Ann := ⟨[], []⟩
noncomputable def d_laws_toColumn : List (Nat × Con) := []
noncomputable def laws_toColumn (k : Nat) (a : (Ty.den T269)) : Option (den1 [T225]) := evFn Γ d_laws_toColumn a_laws_toColumn Try.f232 [.val T269] [T225] k (a, ())
theorem laws_toColumn_eq (k : Nat) (a : (Ty.den T269)) : laws_toColumn k a = some a := by kernel_rfl
noncomputable def c_laws_toColumn : Con := ⟨[.val T269], [T225], fun k x => laws_toColumn k x.1⟩
theorem del_laws_toColumn {w0 : World} (hS : Stops w0) : DelOk Try.prog w0 d_laws_toColumn := .nil
theorem ok_laws_toColumn {w0 : World} (hS : Stops w0) : ConOk Try.prog w0 232 c_laws_toColumn := fn_sound (A := a_laws_toColumn) tab_ok (del_laws_toColumn hS) (draws (del_laws_toColumn hS)) Try.func232 (by kernel_rfl) fun _ _ => rfl
theorem ent_laws_toColumn : Enters' Try.prog 232 := enters' Try.func232 (by kernel_rfl)
attribute [irreducible] laws_toColumn

/-! ### laws_toColumnS: function 165 -/
def a_laws_toColumnS : Ann := ⟨[(0, [.val 0 T136, .row 3 225 T225, .val 4 T3], ⟨[.row 3 225 T225], true⟩)], []⟩
noncomputable def d_laws_toColumnS : List (Nat × Con) := [(232, c_laws_toColumn)]
noncomputable def laws_toColumnS (k : Nat) (a : (Ty.den T136)) : Option (den1 [T141]) := evFn Γ d_laws_toColumnS a_laws_toColumnS Try.f165 [.val T136] [T141] k (a, ())
noncomputable def laws_toColumnS_l0 (k : Nat) (v0 : (Ty.den T136)) (v3 : (Ty.den (.sl T225))) (v4 : (Ty.den T3)) : Option (Items.den [.row 3 225 T225]) := loopQ (ρ := (den1 [T141])) 0 [.val 0 T136, .row 3 225 T225, .val 4 T3] [.row 3 225 T225] (runOf Γ d_laws_toColumnS a_laws_toColumnS Try.f165 [T141] 0) k (v0, v3, v4)
theorem laws_toColumnS_eq (k : Nat) (a : (Ty.den T136)) : laws_toColumnS k a = br ((↑(List.length a) : Int) == (↑(List.length a) : Int)) (br (decide (0 ≤ (↑(List.length a) : Int))) (br (decide ((↑(List.length a) : Int) ≤ (↑capN : Int))) (bnd (laws_toColumnS_l0 k a (List.replicate (↑(List.length a) : Int).toNat (T3.pair (T9.pair (T3.pair (T4.pair Ty.unit)))).zero) 0) (fun y1 => some y1)) (none)) (none)) (none) := by kernel_rfl
theorem laws_toColumnS_l0_zero (v0 : (Ty.den T136)) (v3 : (Ty.den (.sl T225))) (v4 : (Ty.den T3)) : laws_toColumnS_l0 0 v0 v3 v4 = none := by kernel_rfl
theorem laws_toColumnS_l0_succ (k : Nat) (v0 : (Ty.den T136)) (v3 : (Ty.den (.sl T225))) (v4 : (Ty.den T3)) : laws_toColumnS_l0 (k + 1) v0 v3 v4 = br (decide (v4 < (↑(List.length v0) : Int))) (br (decide (0 ≤ v4)) (br (decide (v4 < (↑(List.length v0) : Int))) (bnd (laws_toColumn k (List.getD v0 (Int.toNat v4) T269.zero)) (fun y1 => br (decide (0 ≤ v4)) (br (decide (v4 < (↑(List.length v3) : Int))) (laws_toColumnS_l0 k v0 (List.set v3 (Int.toNat v4) y1) (IntKind.i64.wrap (v4 + 1))) (none)) (none))) (none)) (none)) (some v3) := by kernel_rfl
noncomputable def c_laws_toColumnS : Con := ⟨[.val T136], [T141], fun k x => laws_toColumnS k x.1⟩
theorem del_laws_toColumnS {w0 : World} (hS : Stops w0) : DelOk Try.prog w0 d_laws_toColumnS := .cons (ok_laws_toColumn hS) ent_laws_toColumn (.nil)
theorem ok_laws_toColumnS {w0 : World} (hS : Stops w0) : ConOk Try.prog w0 165 c_laws_toColumnS := fn_sound (A := a_laws_toColumnS) tab_ok (del_laws_toColumnS hS) (draws (del_laws_toColumnS hS)) Try.func165 (by kernel_rfl) fun _ _ => rfl
theorem ent_laws_toColumnS : Enters' Try.prog 165 := enters' Try.func165 (by kernel_rfl)
attribute [irreducible] laws_toColumnS laws_toColumnS_l0

/-! ### laws_toIntS: function 166 -/
def a_laws_toIntS : Ann := ⟨[(0, [.val 0 T118, .row 3 3 T3, .val 4 T3], ⟨[.row 3 3 T3], true⟩)], []⟩
noncomputable def d_laws_toIntS : List (Nat × Con) := []
noncomputable def laws_toIntS (k : Nat) (a : (Ty.den T118)) : Option (den1 [T118]) := evFn Γ d_laws_toIntS a_laws_toIntS Try.f166 [.val T118] [T118] k (a, ())
noncomputable def laws_toIntS_l0 (k : Nat) (v0 : (Ty.den T118)) (v3 : (Ty.den (.sl T3))) (v4 : (Ty.den T3)) : Option (Items.den [.row 3 3 T3]) := loopQ (ρ := (den1 [T118])) 0 [.val 0 T118, .row 3 3 T3, .val 4 T3] [.row 3 3 T3] (runOf Γ d_laws_toIntS a_laws_toIntS Try.f166 [T118] 0) k (v0, v3, v4)
theorem laws_toIntS_eq (k : Nat) (a : (Ty.den T118)) : laws_toIntS k a = br ((↑(List.length a) : Int) == (↑(List.length a) : Int)) (br (decide (0 ≤ (↑(List.length a) : Int))) (br (decide ((↑(List.length a) : Int) ≤ (↑capN : Int))) (bnd (laws_toIntS_l0 k a (List.replicate (↑(List.length a) : Int).toNat (Ty.int IntKind.i64).zero) 0) (fun y1 => some y1)) (none)) (none)) (none) := by kernel_rfl
theorem laws_toIntS_l0_zero (v0 : (Ty.den T118)) (v3 : (Ty.den (.sl T3))) (v4 : (Ty.den T3)) : laws_toIntS_l0 0 v0 v3 v4 = none := by kernel_rfl
theorem laws_toIntS_l0_succ (k : Nat) (v0 : (Ty.den T118)) (v3 : (Ty.den (.sl T3))) (v4 : (Ty.den T3)) : laws_toIntS_l0 (k + 1) v0 v3 v4 = br (decide (v4 < (↑(List.length v0) : Int))) (br (decide (0 ≤ v4)) (br (decide (v4 < (↑(List.length v0) : Int))) (br (decide (0 ≤ v4)) (br (decide (v4 < (↑(List.length v3) : Int))) (laws_toIntS_l0 k v0 (List.set v3 (Int.toNat v4) (List.getD v0 (Int.toNat v4) T3.zero)) (IntKind.i64.wrap (v4 + 1))) (none)) (none)) (none)) (none)) (some v3) := by kernel_rfl
noncomputable def c_laws_toIntS : Con := ⟨[.val T118], [T118], fun k x => laws_toIntS k x.1⟩
theorem del_laws_toIntS {w0 : World} (hS : Stops w0) : DelOk Try.prog w0 d_laws_toIntS := .nil
theorem ok_laws_toIntS {w0 : World} (hS : Stops w0) : ConOk Try.prog w0 166 c_laws_toIntS := fn_sound (A := a_laws_toIntS) tab_ok (del_laws_toIntS hS) (draws (del_laws_toIntS hS)) Try.func166 (by kernel_rfl) fun _ _ => rfl
theorem ent_laws_toIntS : Enters' Try.prog 166 := enters' Try.func166 (by kernel_rfl)
attribute [irreducible] laws_toIntS laws_toIntS_l0

/-! ### laws_toIndex: function 233 -/
def a_laws_toIndex : Ann := ⟨[], []⟩
noncomputable def d_laws_toIndex : List (Nat × Con) := [(166, c_laws_toIntS)]
noncomputable def laws_toIndex (k : Nat) (a : (Ty.den T271)) : Option (den1 [T149]) := evFn Γ d_laws_toIndex a_laws_toIndex Try.f233 [.val T271] [T149] k (a, ())
theorem laws_toIndex_eq (k : Nat) (a : (Ty.den T271)) : laws_toIndex k a = bnd (laws_toIntS k a.2.2.1) (fun y1 => some (a.1, a.2.1, y1, a.2.2.2.1, a.2.2.2.2.1, a.2.2.2.2.2.1, ())) := by kernel_rfl
noncomputable def c_laws_toIndex : Con := ⟨[.val T271], [T149], fun k x => laws_toIndex k x.1⟩
theorem del_laws_toIndex {w0 : World} (hS : Stops w0) : DelOk Try.prog w0 d_laws_toIndex := .cons (ok_laws_toIntS hS) ent_laws_toIntS (.nil)
theorem ok_laws_toIndex {w0 : World} (hS : Stops w0) : ConOk Try.prog w0 233 c_laws_toIndex := fn_sound (A := a_laws_toIndex) tab_ok (del_laws_toIndex hS) (draws (del_laws_toIndex hS)) Try.func233 (by kernel_rfl) fun _ _ => rfl
theorem ent_laws_toIndex : Enters' Try.prog 233 := enters' Try.func233 (by kernel_rfl)
attribute [irreducible] laws_toIndex

/-! ### laws_toIndexS: function 167 -/
def a_laws_toIndexS : Ann := ⟨[(0, [.val 0 T137, .row 3 149 T149, .val 4 T3], ⟨[.row 3 149 T149], true⟩)], []⟩
noncomputable def d_laws_toIndexS : List (Nat × Con) := [(233, c_laws_toIndex)]
noncomputable def laws_toIndexS (k : Nat) (a : (Ty.den T137)) : Option (den1 [T142]) := evFn Γ d_laws_toIndexS a_laws_toIndexS Try.f167 [.val T137] [T142] k (a, ())
noncomputable def laws_toIndexS_l0 (k : Nat) (v0 : (Ty.den T137)) (v3 : (Ty.den (.sl T149))) (v4 : (Ty.den T3)) : Option (Items.den [.row 3 149 T149]) := loopQ (ρ := (den1 [T142])) 0 [.val 0 T137, .row 3 149 T149, .val 4 T3] [.row 3 149 T149] (runOf Γ d_laws_toIndexS a_laws_toIndexS Try.f167 [T142] 0) k (v0, v3, v4)
theorem laws_toIndexS_eq (k : Nat) (a : (Ty.den T137)) : laws_toIndexS k a = br ((↑(List.length a) : Int) == (↑(List.length a) : Int)) (br (decide (0 ≤ (↑(List.length a) : Int))) (br (decide ((↑(List.length a) : Int) ≤ (↑capN : Int))) (bnd (laws_toIndexS_l0 k a (List.replicate (↑(List.length a) : Int).toNat (T3.pair (T9.pair (T118.pair (T4.pair (T3.pair (T4.pair Ty.unit)))))).zero) 0) (fun y1 => some y1)) (none)) (none)) (none) := by kernel_rfl
theorem laws_toIndexS_l0_zero (v0 : (Ty.den T137)) (v3 : (Ty.den (.sl T149))) (v4 : (Ty.den T3)) : laws_toIndexS_l0 0 v0 v3 v4 = none := by kernel_rfl
theorem laws_toIndexS_l0_succ (k : Nat) (v0 : (Ty.den T137)) (v3 : (Ty.den (.sl T149))) (v4 : (Ty.den T3)) : laws_toIndexS_l0 (k + 1) v0 v3 v4 = br (decide (v4 < (↑(List.length v0) : Int))) (br (decide (0 ≤ v4)) (br (decide (v4 < (↑(List.length v0) : Int))) (bnd (laws_toIndex k (List.getD v0 (Int.toNat v4) T271.zero)) (fun y1 => br (decide (0 ≤ v4)) (br (decide (v4 < (↑(List.length v3) : Int))) (laws_toIndexS_l0 k v0 (List.set v3 (Int.toNat v4) y1) (IntKind.i64.wrap (v4 + 1))) (none)) (none))) (none)) (none)) (some v3) := by kernel_rfl
noncomputable def c_laws_toIndexS : Con := ⟨[.val T137], [T142], fun k x => laws_toIndexS k x.1⟩
theorem del_laws_toIndexS {w0 : World} (hS : Stops w0) : DelOk Try.prog w0 d_laws_toIndexS := .cons (ok_laws_toIndex hS) ent_laws_toIndex (.nil)
theorem ok_laws_toIndexS {w0 : World} (hS : Stops w0) : ConOk Try.prog w0 167 c_laws_toIndexS := fn_sound (A := a_laws_toIndexS) tab_ok (del_laws_toIndexS hS) (draws (del_laws_toIndexS hS)) Try.func167 (by kernel_rfl) fun _ _ => rfl
theorem ent_laws_toIndexS : Enters' Try.prog 167 := enters' Try.func167 (by kernel_rfl)
attribute [irreducible] laws_toIndexS laws_toIndexS_l0

/-! ### laws_toTable: function 94 -/
def a_laws_toTable : Ann := ⟨[], []⟩
noncomputable def d_laws_toTable : List (Nat × Con) := [(165, c_laws_toColumnS), (166, c_laws_toIntS), (167, c_laws_toIndexS)]
noncomputable def laws_toTable (k : Nat) (a : (Ty.den T139)) : Option (den1 [T144]) := evFn Γ d_laws_toTable a_laws_toTable Try.f94 [.val T139] [T144] k (a, ())
theorem laws_toTable_eq (k : Nat) (a : (Ty.den T139)) : laws_toTable k a = bnd (laws_toColumnS k a.2.2.2.1) (fun y1 => bnd (laws_toIntS k a.2.2.2.2.1) (fun y2 => bnd (laws_toIndexS k a.2.2.2.2.2.1) (fun y3 => some (a.1, a.2.1, a.2.2.1, y1, y2, y3, ())))) := by kernel_rfl
noncomputable def c_laws_toTable : Con := ⟨[.val T139], [T144], fun k x => laws_toTable k x.1⟩
theorem del_laws_toTable {w0 : World} (hS : Stops w0) : DelOk Try.prog w0 d_laws_toTable := .cons (ok_laws_toColumnS hS) ent_laws_toColumnS (.cons (ok_laws_toIntS hS) ent_laws_toIntS (.cons (ok_laws_toIndexS hS) ent_laws_toIndexS (.nil)))
theorem ok_laws_toTable {w0 : World} (hS : Stops w0) : ConOk Try.prog w0 94 c_laws_toTable := fn_sound (A := a_laws_toTable) tab_ok (del_laws_toTable hS) (draws (del_laws_toTable hS)) Try.func94 (by kernel_rfl) fun _ _ => rfl
theorem ent_laws_toTable : Enters' Try.prog 94 := enters' Try.func94 (by kernel_rfl)
attribute [irreducible] laws_toTable

/-! ### laws_toTableS: function 23 -/
def a_laws_toTableS : Ann := ⟨[(0, [.val 0 T43, .row 3 144 T144, .val 4 T3], ⟨[.row 3 144 T144], true⟩)], []⟩
noncomputable def d_laws_toTableS : List (Nat × Con) := [(94, c_laws_toTable)]
noncomputable def laws_toTableS (k : Nat) (a : (Ty.den T43)) : Option (den1 [T46]) := evFn Γ d_laws_toTableS a_laws_toTableS Try.f23 [.val T43] [T46] k (a, ())
noncomputable def laws_toTableS_l0 (k : Nat) (v0 : (Ty.den T43)) (v3 : (Ty.den (.sl T144))) (v4 : (Ty.den T3)) : Option (Items.den [.row 3 144 T144]) := loopQ (ρ := (den1 [T46])) 0 [.val 0 T43, .row 3 144 T144, .val 4 T3] [.row 3 144 T144] (runOf Γ d_laws_toTableS a_laws_toTableS Try.f23 [T46] 0) k (v0, v3, v4)
theorem laws_toTableS_eq (k : Nat) (a : (Ty.den T43)) : laws_toTableS k a = br ((↑(List.length a) : Int) == (↑(List.length a) : Int)) (br (decide (0 ≤ (↑(List.length a) : Int))) (br (decide ((↑(List.length a) : Int) ≤ (↑capN : Int))) (bnd (laws_toTableS_l0 k a (List.replicate (↑(List.length a) : Int).toNat (T3.pair (T9.pair (T3.pair (T141.pair (T118.pair (T142.pair Ty.unit)))))).zero) 0) (fun y1 => some y1)) (none)) (none)) (none) := by kernel_rfl
theorem laws_toTableS_l0_zero (v0 : (Ty.den T43)) (v3 : (Ty.den (.sl T144))) (v4 : (Ty.den T3)) : laws_toTableS_l0 0 v0 v3 v4 = none := by kernel_rfl
theorem laws_toTableS_l0_succ (k : Nat) (v0 : (Ty.den T43)) (v3 : (Ty.den (.sl T144))) (v4 : (Ty.den T3)) : laws_toTableS_l0 (k + 1) v0 v3 v4 = br (decide (v4 < (↑(List.length v0) : Int))) (br (decide (0 ≤ v4)) (br (decide (v4 < (↑(List.length v0) : Int))) (bnd (laws_toTable k (List.getD v0 (Int.toNat v4) T139.zero)) (fun y1 => br (decide (0 ≤ v4)) (br (decide (v4 < (↑(List.length v3) : Int))) (laws_toTableS_l0 k v0 (List.set v3 (Int.toNat v4) y1) (IntKind.i64.wrap (v4 + 1))) (none)) (none))) (none)) (none)) (some v3) := by kernel_rfl
noncomputable def c_laws_toTableS : Con := ⟨[.val T43], [T46], fun k x => laws_toTableS k x.1⟩
theorem del_laws_toTableS {w0 : World} (hS : Stops w0) : DelOk Try.prog w0 d_laws_toTableS := .cons (ok_laws_toTable hS) ent_laws_toTable (.nil)
theorem ok_laws_toTableS {w0 : World} (hS : Stops w0) : ConOk Try.prog w0 23 c_laws_toTableS := fn_sound (A := a_laws_toTableS) tab_ok (del_laws_toTableS hS) (draws (del_laws_toTableS hS)) Try.func23 (by kernel_rfl) fun _ _ => rfl
theorem ent_laws_toTableS : Enters' Try.prog 23 := enters' Try.func23 (by kernel_rfl)
attribute [irreducible] laws_toTableS laws_toTableS_l0

/-! ### slices_Index_string_string: function 237 -/
def a_slices_Index_string_string : Ann := ⟨[(0, [.val 0 T38, .val 1 T9, .val 7 T3, .val 8 T3], ⟨[], false⟩)], []⟩
noncomputable def d_slices_Index_string_string : List (Nat × Con) := []
noncomputable def slices_Index_string_string (k : Nat) (a : (Ty.den T38)) (b : (Ty.den T9)) : Option (den1 [T3]) := evFn Γ d_slices_Index_string_string a_slices_Index_string_string Try.f237 [.val T38, .val T9] [T3] k (a, b, ())
noncomputable def slices_Index_string_string_l0 (k : Nat) (v0 : (Ty.den T38)) (v1 : (Ty.den T9)) (v7 : (Ty.den T3)) (v8 : (Ty.den T3)) : Option ((Items.den []) ⊕ (den1 [T3])) := loopR (ρ := (den1 [T3])) 0 [.val 0 T38, .val 1 T9, .val 7 T3, .val 8 T3] [] (runOf Γ d_slices_Index_string_string a_slices_Index_string_string Try.f237 [T3] 0) k (v0, v1, v7, v8)
theorem slices_Index_string_string_eq (k : Nat) (a : (Ty.den T38)) (b : (Ty.den T9)) : slices_Index_string_string k a b = bnd (slices_Index_string_string_l0 k a b ((↑(List.length a) : Int)) 0) (fun y1 => onSum y1 (fun y2 => some (-1)) (fun y2 => some y2)) := by kernel_rfl
theorem slices_Index_string_string_l0_zero (v0 : (Ty.den T38)) (v1 : (Ty.den T9)) (v7 : (Ty.den T3)) (v8 : (Ty.den T3)) : slices_Index_string_string_l0 0 v0 v1 v7 v8 = none := by kernel_rfl
theorem slices_Index_string_string_l0_succ (k : Nat) (v0 : (Ty.den T38)) (v1 : (Ty.den T9)) (v7 : (Ty.den T3)) (v8 : (Ty.den T3)) : slices_Index_string_string_l0 (k + 1) v0 v1 v7 v8 = br (decide (v8 < v7)) (br (decide (0 ≤ v8)) (br (decide (v8 < (↑(List.length v0) : Int))) (br (v1 == List.getD v0 (Int.toNat v8) T9.zero) (some (Sum.inr v8)) (slices_Index_string_string_l0 k v0 v1 v7 (IntKind.i64.wrap (v8 + 1)))) (none)) (none)) (some (Sum.inl ())) := by kernel_rfl
noncomputable def c_slices_Index_string_string : Con := ⟨[.val T38, .val T9], [T3], fun k x => slices_Index_string_string k x.1 x.2.1⟩
theorem del_slices_Index_string_string {w0 : World} (hS : Stops w0) : DelOk Try.prog w0 d_slices_Index_string_string := .nil
theorem ok_slices_Index_string_string {w0 : World} (hS : Stops w0) : ConOk Try.prog w0 237 c_slices_Index_string_string := fn_sound (A := a_slices_Index_string_string) tab_ok (del_slices_Index_string_string hS) (draws (del_slices_Index_string_string hS)) Try.func237 (by kernel_rfl) fun _ _ => rfl
theorem ent_slices_Index_string_string : Enters' Try.prog 237 := enters' Try.func237 (by kernel_rfl)
attribute [irreducible] slices_Index_string_string slices_Index_string_string_l0

/-! ### slices_Contains_string_string: function 171 -/
def a_slices_Contains_string_string : Ann := ⟨[], []⟩
noncomputable def d_slices_Contains_string_string : List (Nat × Con) := [(237, c_slices_Index_string_string)]
noncomputable def slices_Contains_string_string (k : Nat) (a : (Ty.den T38)) (b : (Ty.den T9)) : Option (den1 [T4]) := evFn Γ d_slices_Contains_string_string a_slices_Contains_string_string Try.f171 [.val T38, .val T9] [T4] k (a, b, ())
theorem slices_Contains_string_string_eq (k : Nat) (a : (Ty.den T38)) (b : (Ty.den T9)) : slices_Contains_string_string k a b = bnd (slices_Index_string_string k a b) (fun y1 => some (decide (y1 ≥ 0))) := by kernel_rfl
noncomputable def c_slices_Contains_string_string : Con := ⟨[.val T38, .val T9], [T4], fun k x => slices_Contains_string_string k x.1 x.2.1⟩
theorem del_slices_Contains_string_string {w0 : World} (hS : Stops w0) : DelOk Try.prog w0 d_slices_Contains_string_string := .cons (ok_slices_Index_string_string hS) ent_slices_Index_string_string (.nil)
theorem ok_slices_Contains_string_string {w0 : World} (hS : Stops w0) : ConOk Try.prog w0 171 c_slices_Contains_string_string := fn_sound (A := a_slices_Contains_string_string) tab_ok (del_slices_Contains_string_string hS) (draws (del_slices_Contains_string_string hS)) Try.func171 (by kernel_rfl) fun _ _ => rfl
theorem ent_slices_Contains_string_string : Enters' Try.prog 171 := enters' Try.func171 (by kernel_rfl)
attribute [irreducible] slices_Contains_string_string

/-! ### impl_kTwice_string: function 96 -/
def a_impl_kTwice_string : Ann := ⟨[(0, [.val 0 T38, .val 5 T3, .val 6 T3], ⟨[], false⟩)], []⟩
noncomputable def d_impl_kTwice_string : List (Nat × Con) := [(171, c_slices_Contains_string_string)]
noncomputable def impl_kTwice_string (k : Nat) (a : (Ty.den T38)) : Option (den1 [T4]) := evFn Γ d_impl_kTwice_string a_impl_kTwice_string Try.f96 [.val T38] [T4] k (a, ())
noncomputable def impl_kTwice_string_l0 (k : Nat) (v0 : (Ty.den T38)) (v5 : (Ty.den T3)) (v6 : (Ty.den T3)) : Option ((Items.den []) ⊕ (den1 [T4])) := loopR (ρ := (den1 [T4])) 0 [.val 0 T38, .val 5 T3, .val 6 T3] [] (runOf Γ d_impl_kTwice_string a_impl_kTwice_string Try.f96 [T4] 0) k (v0, v5, v6)
theorem impl_kTwice_string_eq (k : Nat) (a : (Ty.den T38)) : impl_kTwice_string k a = bnd (impl_kTwice_string_l0 k a ((↑(List.length a) : Int)) 0) (fun y1 => onSum y1 (fun y2 => some false) (fun y2 => some y2)) := by kernel_rfl
theorem impl_kTwice_string_l0_zero (v0 : (Ty.den T38)) (v5 : (Ty.den T3)) (v6 : (Ty.den T3)) : impl_kTwice_string_l0 0 v0 v5 v6 = none := by kernel_rfl
theorem impl_kTwice_string_l0_succ (k : Nat) (v0 : (Ty.den T38)) (v5 : (Ty.den T3)) (v6 : (Ty.den T3)) : impl_kTwice_string_l0 (k + 1) v0 v5 v6 = br (decide (v6 < v5)) (br (decide (0 ≤ v6)) (br (decide (v6 ≤ (↑(List.length v0) : Int))) (br (decide (0 ≤ v6)) (br (decide (v6 < (↑(List.length v0) : Int))) (bnd (slices_Contains_string_string k (List.take (Int.toNat v6) v0) (List.getD v0 (Int.toNat v6) T9.zero)) (fun y1 => br (y1) (some (Sum.inr true)) (impl_kTwice_string_l0 k v0 v5 (IntKind.i64.wrap (v6 + 1))))) (none)) (none)) (none)) (none)) (some (Sum.inl ())) := by kernel_rfl
noncomputable def c_impl_kTwice_string : Con := ⟨[.val T38], [T4], fun k x => impl_kTwice_string k x.1⟩
theorem del_impl_kTwice_string {w0 : World} (hS : Stops w0) : DelOk Try.prog w0 d_impl_kTwice_string := .cons (ok_slices_Contains_string_string hS) ent_slices_Contains_string_string (.nil)
theorem ok_impl_kTwice_string {w0 : World} (hS : Stops w0) : ConOk Try.prog w0 96 c_impl_kTwice_string := fn_sound (A := a_impl_kTwice_string) tab_ok (del_impl_kTwice_string hS) (draws (del_impl_kTwice_string hS)) Try.func96 (by kernel_rfl) fun _ _ => rfl
theorem ent_impl_kTwice_string : Enters' Try.prog 96 := enters' Try.func96 (by kernel_rfl)
attribute [irreducible] impl_kTwice_string impl_kTwice_string_l0

/-! ### impl_kWithin: function 156 -/
def a_impl_kWithin : Ann := ⟨[], []⟩
noncomputable def d_impl_kWithin : List (Nat × Con) := []
noncomputable def impl_kWithin (k : Nat) (a : (Ty.den T3)) (b : (Ty.den T3)) (c : (Ty.den T3)) : Option (den1 [T4]) := evFn Γ d_impl_kWithin a_impl_kWithin Try.f156 [.val T3, .val T3, .val T3] [T4] k (a, b, c, ())
theorem impl_kWithin_eq (k : Nat) (a : (Ty.den T3)) (b : (Ty.den T3)) (c : (Ty.den T3)) : impl_kWithin k a b c = br (decide (a ≥ b)) (some (decide (a ≤ c))) (some false) := by kernel_rfl
noncomputable def c_impl_kWithin : Con := ⟨[.val T3, .val T3, .val T3], [T4], fun k x => impl_kWithin k x.1 x.2.1 x.2.2.1⟩
theorem del_impl_kWithin {w0 : World} (hS : Stops w0) : DelOk Try.prog w0 d_impl_kWithin := .nil
theorem ok_impl_kWithin {w0 : World} (hS : Stops w0) : ConOk Try.prog w0 156 c_impl_kWithin := fn_sound (A := a_impl_kWithin) tab_ok (del_impl_kWithin hS) (draws (del_impl_kWithin hS)) Try.func156 (by kernel_rfl) fun _ _ => rfl
theorem ent_impl_kWithin : Enters' Try.prog 156 := enters' Try.func156 (by kernel_rfl)
attribute [irreducible] impl_kWithin

/-! ### impl_kIsName: function 168 -/
def a_impl_kIsName : Ann := ⟨[(0, [.val 0 T9, .val 19 T3, .val 20 T3], ⟨[], false⟩)], []⟩
noncomputable def d_impl_kIsName : List (Nat × Con) := [(197, c_strings_Contains)]
noncomputable def impl_kIsName (k : Nat) (a : (Ty.den T9)) : Option (den1 [T4]) := evFn Γ d_impl_kIsName a_impl_kIsName Try.f168 [.val T9] [T4] k (a, ())
noncomputable def impl_kIsName_l0 (k : Nat) (v0 : (Ty.den T9)) (v19 : (Ty.den T3)) (v20 : (Ty.den T3)) : Option ((Items.den []) ⊕ (den1 [T4])) := loopR (ρ := (den1 [T4])) 0 [.val 0 T9, .val 19 T3, .val 20 T3] [] (runOf Γ d_impl_kIsName a_impl_kIsName Try.f168 [T4] 0) k (v0, v19, v20)
theorem impl_kIsName_eq (k : Nat) (a : (Ty.den T9)) : impl_kIsName k a = br (a == []) (some false) (br (decide ((↑(List.length a) : Int) > 30)) (some false) (br (decide ([32].length + List.length a ≤ capN)) (br (decide (([32] ++ a).length + [32].length ≤ capN)) (bnd (strings_Contains k [32, 97, 108, 108, 32, 97, 110, 100, 32, 97, 115, 32, 97, 115, 99, 32, 98, 101, 103, 105, 110, 32, 98, 101, 116, 119, 101, 101, 110, 32, 98, 121, 32, 99, 97, 115, 101, 32, 99, 97, 115, 116, 32, 99, 111, 109, 109, 105, 116, 32, 99, 114, 101, 97, 116, 101, 32, 99, 114, 111, 115, 115, 32, 100, 97, 121, 32, 100, 101, 108, 101, 116, 101, 32, 100, 101, 115, 99, 32, 100, 105, 115, 116, 105, 110, 99, 116, 32, 100, 114, 111, 112, 32, 101, 108, 115, 101, 32, 101, 110, 100, 32, 101, 120, 99, 101, 112, 116, 32, 101, 120, 105, 115, 116, 115, 32, 101, 120, 112, 108, 97, 105, 110, 32, 102, 97, 108, 115, 101, 32, 102, 114, 111, 109, 32, 103, 114, 111, 117, 112, 32, 104, 97, 118, 105, 110, 103, 32, 105, 110, 32, 105, 110, 100, 101, 120, 32, 105, 110, 115, 101, 114, 116, 32, 105, 110, 116, 101, 114, 115, 101, 99, 116, 32, 105, 110, 116, 111, 32, 105, 115, 32, 106, 111, 105, 110, 32, 107, 101, 121, 32, 108, 101, 102, 116, 32, 108, 105, 109, 105, 116, 32, 110, 111, 116, 32, 110, 117, 108, 108, 32, 111, 110, 32, 111, 114, 32, 111, 114, 100, 101, 114, 32, 111, 118, 101, 114, 32, 112, 97, 114, 116, 105, 116, 105, 111, 110, 32, 112, 114, 105, 109, 97, 114, 121, 32, 114, 101, 99, 117, 114, 115, 105, 118, 101, 32, 114, 111, 108, 108, 98, 97, 99, 107, 32, 115, 101, 108, 101, 99, 116, 32, 115, 101, 116, 32, 116, 97, 98, 108, 101, 32, 116, 104, 101, 110, 32, 116, 114, 117, 101, 32, 117, 110, 105, 111, 110, 32, 117, 110, 105, 113, 117, 101, 32, 117, 112, 100, 97, 116, 101, 32, 118, 97, 108, 117, 101, 115, 32, 118, 105, 101, 119, 32, 119, 104, 101, 110, 32, 119, 104, 101, 114, 101, 32, 119, 105, 116, 104, 32, 97, 108, 116, 101, 114, 32, 97, 100, 100, 32, 99, 111, 108, 117, 109, 110, 32, 108, 101, 118, 101, 108, 32, 115, 101, 114, 105, 97, 108, 32, 115, 110, 97, 112, 115, 104, 111, 116, 32, 108, 97, 116, 101, 115, 116, 32] ([32] ++ a ++ [32])) (fun y1 => br (y1) (some false) (bnd (impl_kIsName_l0 k a ((↑(List.length a) : Int)) 0) (fun y2 => onSum y2 (fun y3 => some true) (fun y3 => some y3))))) (none)) (none))) := by kernel_rfl
theorem impl_kIsName_l0_zero (v0 : (Ty.den T9)) (v19 : (Ty.den T3)) (v20 : (Ty.den T3)) : impl_kIsName_l0 0 v0 v19 v20 = none := by kernel_rfl
theorem impl_kIsName_l0_succ (k : Nat) (v0 : (Ty.den T9)) (v19 : (Ty.den T3)) (v20 : (Ty.den T3)) : impl_kIsName_l0 (k + 1) v0 v19 v20 = br (decide (v20 < v19)) (br (decide (0 ≤ v20)) (br (decide (v20 < (↑(List.length v0) : Int))) (br (decide ((↑(List.getD v0 (Int.toNat v20) 0).toNat : Int) ≥ 97)) (br (decide ((↑(List.getD v0 (Int.toNat v20) 0).toNat : Int) ≤ 122)) (br (!true) (some (Sum.inr false)) (impl_kIsName_l0 k v0 v19 (IntKind.i64.wrap (v20 + 1)))) (br ((↑(List.getD v0 (Int.toNat v20) 0).toNat : Int) == 95) (br (!true) (some (Sum.inr false)) (impl_kIsName_l0 k v0 v19 (IntKind.i64.wrap (v20 + 1)))) (br (decide (v20 > 0)) (br (decide ((↑(List.getD v0 (Int.toNat v20) 0).toNat : Int) ≥ 48)) (br (!decide ((↑(List.getD v0 (Int.toNat v20) 0).toNat : Int) ≤ 57)) (some (Sum.inr false)) (impl_kIsName_l0 k v0 v19 (IntKind.i64.wrap (v20 + 1)))) (br (!false) (some (Sum.inr false)) (impl_kIsName_l0 k v0 v19 (IntKind.i64.wrap (v20 + 1))))) (br (!false) (some (Sum.inr false)) (impl_kIsName_l0 k v0 v19 (IntKind.i64.wrap (v20 + 1))))))) (br ((↑(List.getD v0 (Int.toNat v20) 0).toNat : Int) == 95) (br (!true) (some (Sum.inr false)) (impl_kIsName_l0 k v0 v19 (IntKind.i64.wrap (v20 + 1)))) (br (decide (v20 > 0)) (br (decide ((↑(List.getD v0 (Int.toNat v20) 0).toNat : Int) ≥ 48)) (br (!decide ((↑(List.getD v0 (Int.toNat v20) 0).toNat : Int) ≤ 57)) (some (Sum.inr false)) (impl_kIsName_l0 k v0 v19 (IntKind.i64.wrap (v20 + 1)))) (br (!false) (some (Sum.inr false)) (impl_kIsName_l0 k v0 v19 (IntKind.i64.wrap (v20 + 1))))) (br (!false) (some (Sum.inr false)) (impl_kIsName_l0 k v0 v19 (IntKind.i64.wrap (v20 + 1))))))) (none)) (none)) (some (Sum.inl ())) := by kernel_rfl
noncomputable def c_impl_kIsName : Con := ⟨[.val T9], [T4], fun k x => impl_kIsName k x.1⟩
theorem del_impl_kIsName {w0 : World} (hS : Stops w0) : DelOk Try.prog w0 d_impl_kIsName := .cons (hS.strings_Contains.1) hS.strings_Contains.2 (.nil)
theorem ok_impl_kIsName {w0 : World} (hS : Stops w0) : ConOk Try.prog w0 168 c_impl_kIsName := fn_sound (A := a_impl_kIsName) tab_ok (del_impl_kIsName hS) (draws (del_impl_kIsName hS)) Try.func168 (by kernel_rfl) fun _ _ => rfl
theorem ent_impl_kIsName : Enters' Try.prog 168 := enters' Try.func168 (by kernel_rfl)
attribute [irreducible] impl_kIsName impl_kIsName_l0

/-! ### slices_Index_int_int: function 250 -/
def a_slices_Index_int_int : Ann := ⟨[(0, [.val 0 T118, .val 1 T3, .val 7 T3, .val 8 T3], ⟨[], false⟩)], []⟩
noncomputable def d_slices_Index_int_int : List (Nat × Con) := []
noncomputable def slices_Index_int_int (k : Nat) (a : (Ty.den T118)) (b : (Ty.den T3)) : Option (den1 [T3]) := evFn Γ d_slices_Index_int_int a_slices_Index_int_int Try.f250 [.val T118, .val T3] [T3] k (a, b, ())
noncomputable def slices_Index_int_int_l0 (k : Nat) (v0 : (Ty.den T118)) (v1 : (Ty.den T3)) (v7 : (Ty.den T3)) (v8 : (Ty.den T3)) : Option ((Items.den []) ⊕ (den1 [T3])) := loopR (ρ := (den1 [T3])) 0 [.val 0 T118, .val 1 T3, .val 7 T3, .val 8 T3] [] (runOf Γ d_slices_Index_int_int a_slices_Index_int_int Try.f250 [T3] 0) k (v0, v1, v7, v8)
theorem slices_Index_int_int_eq (k : Nat) (a : (Ty.den T118)) (b : (Ty.den T3)) : slices_Index_int_int k a b = bnd (slices_Index_int_int_l0 k a b ((↑(List.length a) : Int)) 0) (fun y1 => onSum y1 (fun y2 => some (-1)) (fun y2 => some y2)) := by kernel_rfl
theorem slices_Index_int_int_l0_zero (v0 : (Ty.den T118)) (v1 : (Ty.den T3)) (v7 : (Ty.den T3)) (v8 : (Ty.den T3)) : slices_Index_int_int_l0 0 v0 v1 v7 v8 = none := by kernel_rfl
theorem slices_Index_int_int_l0_succ (k : Nat) (v0 : (Ty.den T118)) (v1 : (Ty.den T3)) (v7 : (Ty.den T3)) (v8 : (Ty.den T3)) : slices_Index_int_int_l0 (k + 1) v0 v1 v7 v8 = br (decide (v8 < v7)) (br (decide (0 ≤ v8)) (br (decide (v8 < (↑(List.length v0) : Int))) (br (v1 == List.getD v0 (Int.toNat v8) T3.zero) (some (Sum.inr v8)) (slices_Index_int_int_l0 k v0 v1 v7 (IntKind.i64.wrap (v8 + 1)))) (none)) (none)) (some (Sum.inl ())) := by kernel_rfl
noncomputable def c_slices_Index_int_int : Con := ⟨[.val T118, .val T3], [T3], fun k x => slices_Index_int_int k x.1 x.2.1⟩
theorem del_slices_Index_int_int {w0 : World} (hS : Stops w0) : DelOk Try.prog w0 d_slices_Index_int_int := .nil
theorem ok_slices_Index_int_int {w0 : World} (hS : Stops w0) : ConOk Try.prog w0 250 c_slices_Index_int_int := fn_sound (A := a_slices_Index_int_int) tab_ok (del_slices_Index_int_int hS) (draws (del_slices_Index_int_int hS)) Try.func250 (by kernel_rfl) fun _ _ => rfl
theorem ent_slices_Index_int_int : Enters' Try.prog 250 := enters' Try.func250 (by kernel_rfl)
attribute [irreducible] slices_Index_int_int slices_Index_int_int_l0

/-! ### slices_Contains_int_int: function 234 -/
def a_slices_Contains_int_int : Ann := ⟨[], []⟩
noncomputable def d_slices_Contains_int_int : List (Nat × Con) := [(250, c_slices_Index_int_int)]
noncomputable def slices_Contains_int_int (k : Nat) (a : (Ty.den T118)) (b : (Ty.den T3)) : Option (den1 [T4]) := evFn Γ d_slices_Contains_int_int a_slices_Contains_int_int Try.f234 [.val T118, .val T3] [T4] k (a, b, ())
theorem slices_Contains_int_int_eq (k : Nat) (a : (Ty.den T118)) (b : (Ty.den T3)) : slices_Contains_int_int k a b = bnd (slices_Index_int_int k a b) (fun y1 => some (decide (y1 ≥ 0))) := by kernel_rfl
noncomputable def c_slices_Contains_int_int : Con := ⟨[.val T118, .val T3], [T4], fun k x => slices_Contains_int_int k x.1 x.2.1⟩
theorem del_slices_Contains_int_int {w0 : World} (hS : Stops w0) : DelOk Try.prog w0 d_slices_Contains_int_int := .cons (ok_slices_Index_int_int hS) ent_slices_Index_int_int (.nil)
theorem ok_slices_Contains_int_int {w0 : World} (hS : Stops w0) : ConOk Try.prog w0 234 c_slices_Contains_int_int := fn_sound (A := a_slices_Contains_int_int) tab_ok (del_slices_Contains_int_int hS) (draws (del_slices_Contains_int_int hS)) Try.func234 (by kernel_rfl) fun _ _ => rfl
theorem ent_slices_Contains_int_int : Enters' Try.prog 234 := enters' Try.func234 (by kernel_rfl)
attribute [irreducible] slices_Contains_int_int

/-! ### impl_kTwice_int: function 169 -/
def a_impl_kTwice_int : Ann := ⟨[(0, [.val 0 T118, .val 5 T3, .val 6 T3], ⟨[], false⟩)], []⟩
noncomputable def d_impl_kTwice_int : List (Nat × Con) := [(234, c_slices_Contains_int_int)]
noncomputable def impl_kTwice_int (k : Nat) (a : (Ty.den T118)) : Option (den1 [T4]) := evFn Γ d_impl_kTwice_int a_impl_kTwice_int Try.f169 [.val T118] [T4] k (a, ())
noncomputable def impl_kTwice_int_l0 (k : Nat) (v0 : (Ty.den T118)) (v5 : (Ty.den T3)) (v6 : (Ty.den T3)) : Option ((Items.den []) ⊕ (den1 [T4])) := loopR (ρ := (den1 [T4])) 0 [.val 0 T118, .val 5 T3, .val 6 T3] [] (runOf Γ d_impl_kTwice_int a_impl_kTwice_int Try.f169 [T4] 0) k (v0, v5, v6)
theorem impl_kTwice_int_eq (k : Nat) (a : (Ty.den T118)) : impl_kTwice_int k a = bnd (impl_kTwice_int_l0 k a ((↑(List.length a) : Int)) 0) (fun y1 => onSum y1 (fun y2 => some false) (fun y2 => some y2)) := by kernel_rfl
theorem impl_kTwice_int_l0_zero (v0 : (Ty.den T118)) (v5 : (Ty.den T3)) (v6 : (Ty.den T3)) : impl_kTwice_int_l0 0 v0 v5 v6 = none := by kernel_rfl
theorem impl_kTwice_int_l0_succ (k : Nat) (v0 : (Ty.den T118)) (v5 : (Ty.den T3)) (v6 : (Ty.den T3)) : impl_kTwice_int_l0 (k + 1) v0 v5 v6 = br (decide (v6 < v5)) (br (decide (0 ≤ v6)) (br (decide (v6 ≤ (↑(List.length v0) : Int))) (br (decide (0 ≤ v6)) (br (decide (v6 < (↑(List.length v0) : Int))) (bnd (slices_Contains_int_int k (List.take (Int.toNat v6) v0) (List.getD v0 (Int.toNat v6) T3.zero)) (fun y1 => br (y1) (some (Sum.inr true)) (impl_kTwice_int_l0 k v0 v5 (IntKind.i64.wrap (v6 + 1))))) (none)) (none)) (none)) (none)) (some (Sum.inl ())) := by kernel_rfl
noncomputable def c_impl_kTwice_int : Con := ⟨[.val T118], [T4], fun k x => impl_kTwice_int k x.1⟩
theorem del_impl_kTwice_int {w0 : World} (hS : Stops w0) : DelOk Try.prog w0 d_impl_kTwice_int := .cons (ok_slices_Contains_int_int hS) ent_slices_Contains_int_int (.nil)
theorem ok_impl_kTwice_int {w0 : World} (hS : Stops w0) : ConOk Try.prog w0 169 c_impl_kTwice_int := fn_sound (A := a_impl_kTwice_int) tab_ok (del_impl_kTwice_int hS) (draws (del_impl_kTwice_int hS)) Try.func169 (by kernel_rfl) fun _ _ => rfl
theorem ent_impl_kTwice_int : Enters' Try.prog 169 := enters' Try.func169 (by kernel_rfl)
attribute [irreducible] impl_kTwice_int impl_kTwice_int_l0

/-! ### impl_kCol_1: function 236 -/
def a_impl_kCol_1 : Ann := ⟨[], []⟩
noncomputable def d_impl_kCol_1 : List (Nat × Con) := []
noncomputable def impl_kCol_1 (k : Nat) (a : (Ty.den T225)) (b : (Ty.den T3)) : Option (den1 [T4]) := evFn Γ d_impl_kCol_1 a_impl_kCol_1 Try.f236 [.val T225, .ptr T3] [T4] k (a, b, ())
theorem impl_kCol_1_eq (k : Nat) (a : (Ty.den T225)) (b : (Ty.den T3)) : impl_kCol_1 k a b = some (a.1 == b) := by kernel_rfl
noncomputable def c_impl_kCol_1 : Con := ⟨[.val T225, .ptr T3], [T4], fun k x => impl_kCol_1 k x.1 x.2.1⟩
theorem del_impl_kCol_1 {w0 : World} (hS : Stops w0) : DelOk Try.prog w0 d_impl_kCol_1 := .nil
theorem ok_impl_kCol_1 {w0 : World} (hS : Stops w0) : ConOk Try.prog w0 236 c_impl_kCol_1 := fn_sound (A := a_impl_kCol_1) tab_ok (del_impl_kCol_1 hS) (draws (del_impl_kCol_1 hS)) Try.func236 (by kernel_rfl) fun _ _ => rfl
theorem ent_impl_kCol_1 : Enters' Try.prog 236 := enters' Try.func236 (by kernel_rfl)
attribute [irreducible] impl_kCol_1

/-! ### slices_IndexFunc_Column: function 235 -/
def a_slices_IndexFunc_Column : Ann := ⟨[(0, [.val 0 T141, .clo 1 236 [T3], .val 7 T3, .val 8 T3], ⟨[], false⟩)], []⟩
noncomputable def d_slices_IndexFunc_Column : List (Nat × Con) := [(236, c_impl_kCol_1)]
noncomputable def slices_IndexFunc_Column (k : Nat) (a : (Ty.den T141)) (b : (dens [T3])) : Option (den1 [T3]) := evFn Γ d_slices_IndexFunc_Column a_slices_IndexFunc_Column Try.f235 [.val T141, .clo 236 [T3]] [T3] k (a, b, ())
noncomputable def slices_IndexFunc_Column_l0 (k : Nat) (v0 : (Ty.den T141)) (v1 : (dens [T3])) (v7 : (Ty.den T3)) (v8 : (Ty.den T3)) : Option ((Items.den []) ⊕ (den1 [T3])) := loopR (ρ := (den1 [T3])) 0 [.val 0 T141, .clo 1 236 [T3], .val 7 T3, .val 8 T3] [] (runOf Γ d_slices_IndexFunc_Column a_slices_IndexFunc_Column Try.f235 [T3] 0) k (v0, v1, v7, v8)
theorem slices_IndexFunc_Column_eq (k : Nat) (a : (Ty.den T141)) (b : (dens [T3])) : slices_IndexFunc_Column k a b = bnd (slices_IndexFunc_Column_l0 k a b ((↑(List.length a) : Int)) 0) (fun y1 => onSum y1 (fun y2 => some (-1)) (fun y2 => some y2)) := by kernel_rfl
theorem slices_IndexFunc_Column_l0_zero (v0 : (Ty.den T141)) (v1 : (dens [T3])) (v7 : (Ty.den T3)) (v8 : (Ty.den T3)) : slices_IndexFunc_Column_l0 0 v0 v1 v7 v8 = none := by kernel_rfl
theorem slices_IndexFunc_Column_l0_succ (k : Nat) (v0 : (Ty.den T141)) (v1 : (dens [T3])) (v7 : (Ty.den T3)) (v8 : (Ty.den T3)) : slices_IndexFunc_Column_l0 (k + 1) v0 v1 v7 v8 = br (decide (v8 < v7)) (br (decide (0 ≤ v8)) (br (decide (v8 < (↑(List.length v0) : Int))) (bnd (impl_kCol_1 k (List.getD v0 (Int.toNat v8) T225.zero) v1.1) (fun y1 => br (y1) (some (Sum.inr v8)) (slices_IndexFunc_Column_l0 k v0 v1 v7 (IntKind.i64.wrap (v8 + 1))))) (none)) (none)) (some (Sum.inl ())) := by kernel_rfl
noncomputable def c_slices_IndexFunc_Column : Con := ⟨[.val T141, .clo 236 [T3]], [T3], fun k x => slices_IndexFunc_Column k x.1 x.2.1⟩
theorem del_slices_IndexFunc_Column {w0 : World} (hS : Stops w0) : DelOk Try.prog w0 d_slices_IndexFunc_Column := .cons (ok_impl_kCol_1 hS) ent_impl_kCol_1 (.nil)
theorem ok_slices_IndexFunc_Column {w0 : World} (hS : Stops w0) : ConOk Try.prog w0 235 c_slices_IndexFunc_Column := fn_sound (A := a_slices_IndexFunc_Column) tab_ok (del_slices_IndexFunc_Column hS) (draws (del_slices_IndexFunc_Column hS)) Try.func235 (by kernel_rfl) fun _ _ => rfl
theorem ent_slices_IndexFunc_Column : Enters' Try.prog 235 := enters' Try.func235 (by kernel_rfl)
attribute [irreducible] slices_IndexFunc_Column slices_IndexFunc_Column_l0

/-! ### impl_kCol: function 170 -/
def a_impl_kCol : Ann := ⟨[], []⟩
noncomputable def d_impl_kCol : List (Nat × Con) := [(235, c_slices_IndexFunc_Column), (236, c_impl_kCol_1)]
noncomputable def impl_kCol (k : Nat) (a : (Ty.den T144)) (b : (Ty.den T3)) : Option (den1 [T3]) := evFn Γ d_impl_kCol a_impl_kCol Try.f170 [.val T144, .val T3] [T3] k (a, b, ())
theorem impl_kCol_eq (k : Nat) (a : (Ty.den T144)) (b : (Ty.den T3)) : impl_kCol k a b = bnd (slices_IndexFunc_Column k a.2.2.2.1 (b, ())) (fun y1 => some y1) := by kernel_rfl
noncomputable def c_impl_kCol : Con := ⟨[.val T144, .val T3], [T3], fun k x => impl_kCol k x.1 x.2.1⟩
theorem del_impl_kCol {w0 : World} (hS : Stops w0) : DelOk Try.prog w0 d_impl_kCol := .cons (ok_slices_IndexFunc_Column hS) ent_slices_IndexFunc_Column (.cons (ok_impl_kCol_1 hS) ent_impl_kCol_1 (.nil))
theorem ok_impl_kCol {w0 : World} (hS : Stops w0) : ConOk Try.prog w0 170 c_impl_kCol := fn_sound (A := a_impl_kCol) tab_ok (del_impl_kCol hS) (draws (del_impl_kCol hS)) Try.func170 (by kernel_rfl) fun _ _ => rfl
theorem ent_impl_kCol : Enters' Try.prog 170 := enters' Try.func170 (by kernel_rfl)
attribute [irreducible] impl_kCol

/-! ### impl_TableOK: function 95 -/
def a_impl_TableOK : Ann := ⟨[(0, [.var 1 T144 [], .row 3 3 T3, .row 4 9 T9, .val 55 T141, .val 56 T3, .val 57 T3], ⟨[.var 1 T144 [], .row 3 3 T3, .row 4 9 T9], false⟩), (2, [.var 1 T144 [], .val 95 T118, .val 96 T3, .val 97 T3], ⟨[.var 1 T144 []], false⟩), (4, [.var 1 T144 [], .row 3 3 T3, .row 4 9 T9, .val 117 T142, .val 118 T3, .val 119 T3], ⟨[.row 3 3 T3, .row 4 9 T9], false⟩), (6, [.var 1 T144 [], .row 3 3 T3, .row 4 9 T9, .var 11 T149 [], .val 117 T142, .val 118 T3, .val 119 T3, .val 161 T118, .val 162 T3, .val 163 T3], ⟨[.var 1 T144 [], .row 3 3 T3, .row 4 9 T9, .var 11 T149 [], .val 117 T142, .val 118 T3, .val 119 T3], false⟩)], []⟩
noncomputable def d_impl_TableOK : List (Nat × Con) := [(96, c_impl_kTwice_string), (156, c_impl_kWithin), (168, c_impl_kIsName), (169, c_impl_kTwice_int), (170, c_impl_kCol)]
noncomputable def impl_TableOK (k : Nat) (a : (Ty.den T144)) : Option (den1 [T4]) := evFn Γ d_impl_TableOK a_impl_TableOK Try.f95 [.val T144] [T4] k (a, ())
noncomputable def impl_TableOK_l0 (k : Nat) (v1 : (Ty.den T144)) (v3 : (Ty.den (.sl T3))) (v4 : (Ty.den (.sl T9))) (v55 : (Ty.den T141)) (v56 : (Ty.den T3)) (v57 : (Ty.den T3)) : Option ((Items.den [.var 1 T144 [], .row 3 3 T3, .row 4 9 T9]) ⊕ (den1 [T4])) := loopR (ρ := (den1 [T4])) 0 [.var 1 T144 [], .row 3 3 T3, .row 4 9 T9, .val 55 T141, .val 56 T3, .val 57 T3] [.var 1 T144 [], .row 3 3 T3, .row 4 9 T9] (runOf Γ d_impl_TableOK a_impl_TableOK Try.f95 [T4] 0) k (v1, v3, v4, v55, v56, v57)
noncomputable def impl_TableOK_l2 (k : Nat) (v1 : (Ty.den T144)) (v95 : (Ty.den T118)) (v96 : (Ty.den T3)) (v97 : (Ty.den T3)) : Option ((Items.den [.var 1 T144 []]) ⊕ (den1 [T4])) := loopR (ρ := (den1 [T4])) 2 [.var 1 T144 [], .val 95 T118, .val 96 T3, .val 97 T3] [.var 1 T144 []] (runOf Γ d_impl_TableOK a_impl_TableOK Try.f95 [T4] 2) k (v1, v95, v96, v97)
noncomputable def impl_TableOK_l4 (k : Nat) (v1 : (Ty.den T144)) (v3 : (Ty.den (.sl T3))) (v4 : (Ty.den (.sl T9))) (v117 : (Ty.den T142)) (v118 : (Ty.den T3)) (v119 : (Ty.den T3)) : Option ((Items.den [.row 3 3 T3, .row 4 9 T9]) ⊕ (den1 [T4])) := loopR (ρ := (den1 [T4])) 4 [.var 1 T144 [], .row 3 3 T3, .row 4 9 T9, .val 117 T142, .val 118 T3, .val 119 T3] [.row 3 3 T3, .row 4 9 T9] (runOf Γ d_impl_TableOK a_impl_TableOK Try.f95 [T4] 4) k (v1, v3, v4, v117, v118, v119)
noncomputable def impl_TableOK_l6 (k : Nat) (v1 : (Ty.den T144)) (v3 : (Ty.den (.sl T3))) (v4 : (Ty.den (.sl T9))) (v11 : (Ty.den T149)) (v117 : (Ty.den T142)) (v118 : (Ty.den T3)) (v119 : (Ty.den T3)) (v161 : (Ty.den T118)) (v162 : (Ty.den T3)) (v163 : (Ty.den T3)) : Option ((Items.den [.var 1 T144 [], .row 3 3 T3, .row 4 9 T9, .var 11 T149 [], .val 117 T142, .val 118 T3, .val 119 T3]) ⊕ (den1 [T4])) := loopR (ρ := (den1 [T4])) 6 [.var 1 T144 [], .row 3 3 T3, .row 4 9 T9, .var 11 T149 [], .val 117 T142, .val 118 T3, .val 119 T3, .val 161 T118, .val 162 T3, .val 163 T3] [.var 1 T144 [], .row 3 3 T3, .row 4 9 T9, .var 11 T149 [], .val 117 T142, .val 118 T3, .val 119 T3] (runOf Γ d_impl_TableOK a_impl_TableOK Try.f95 [T4] 6) k (v1, v3, v4, v11, v117, v118, v119, v161, v162, v163)
theorem impl_TableOK_eq (k : Nat) (a : (Ty.den T144)) : impl_TableOK k a = bnd (impl_kWithin k a.1 1 40) (fun y1 => br (!y1) (some false) (bnd (impl_kWithin k a.2.2.1 1 1000000) (fun y2 => br (!y2) (some false) (bnd (impl_kIsName k a.2.1) (fun y3 => br (!y3) (some false) (bnd (impl_kWithin k (↑(List.length a.2.2.2.1) : Int) 1 14) (fun y4 => br (!y4) (some false) (br ((↑(List.length a.2.2.2.2.1) : Int) == 0) (some false) (bnd (impl_kTwice_int k a.2.2.2.2.1) (fun y5 => br (y5) (some false) (br (decide ((↑(List.length a.2.2.2.2.2.1) : Int) > 8)) (some false) (bnd (impl_TableOK_l0 k a [] [] a.2.2.2.1 ((↑(List.length a.2.2.2.1) : Int)) 0) (fun y6 => onSum y6 (fun y7 => bnd (impl_kTwice_int k y7.2.1) (fun y8 => br (y8) (some false) (bnd (impl_kTwice_string k y7.2.2) (fun y9 => br (y9) (some false) (bnd (impl_TableOK_l2 k y7.1 y7.1.2.2.2.2.1 ((↑(List.length y7.1.2.2.2.2.1) : Int)) 0) (fun y10 => onSum y10 (fun y11 => bnd (impl_TableOK_l4 k y11 [] [] y11.2.2.2.2.2.1 ((↑(List.length y11.2.2.2.2.2.1) : Int)) 0) (fun y12 => onSum y12 (fun y13 => bnd (impl_kTwice_int k y13.1) (fun y14 => br (!y14) (bnd (impl_kTwice_string k y13.2) (fun y15 => some (!y15))) (some false))) (fun y13 => some y13))) (fun y11 => some y11))))))) (fun y7 => some y7)))))))))))))) := by kernel_rfl
theorem impl_TableOK_l0_zero (v1 : (Ty.den T144)) (v3 : (Ty.den (.sl T3))) (v4 : (Ty.den (.sl T9))) (v55 : (Ty.den T141)) (v56 : (Ty.den T3)) (v57 : (Ty.den T3)) : impl_TableOK_l0 0 v1 v3 v4 v55 v56 v57 = none := by kernel_rfl
theorem impl_TableOK_l0_succ (k : Nat) (v1 : (Ty.den T144)) (v3 : (Ty.den (.sl T3))) (v4 : (Ty.den (.sl T9))) (v55 : (Ty.den T141)) (v56 : (Ty.den T3)) (v57 : (Ty.den T3)) : impl_TableOK_l0 (k + 1) v1 v3 v4 v55 v56 v57 = br (decide (v57 < v56)) (br (decide (0 ≤ v57)) (br (decide (v57 < (↑(List.length v55) : Int))) (bnd (impl_kWithin k (List.getD v55 (Int.toNat v57) T225.zero).1 1 1000) (fun y1 => br (!y1) (some (Sum.inr false)) (bnd (impl_kIsName k (List.getD v55 (Int.toNat v57) T225.zero).2.1) (fun y2 => br (!y2) (some (Sum.inr false)) (bnd (impl_kWithin k (List.getD v55 (Int.toNat v57) T225.zero).2.2.1 1 5) (fun y3 => br (!y3) (some (Sum.inr false)) (br (decide (List.length v3 + [(List.getD v55 (Int.toNat v57) T225.zero).1].length ≤ capN)) (br (decide (List.length v4 + [(List.getD v55 (Int.toNat v57) T225.zero).2.1].length ≤ capN)) (impl_TableOK_l0 k v1 (v3 ++ [(List.getD v55 (Int.toNat v57) T225.zero).1]) (v4 ++ [(List.getD v55 (Int.toNat v57) T225.zero).2.1]) v55 v56 (IntKind.i64.wrap (v57 + 1))) (none)) (none)))))))) (none)) (none)) (some (Sum.inl (v1, v3, v4))) := by kernel_rfl
theorem impl_TableOK_l2_zero (v1 : (Ty.den T144)) (v95 : (Ty.den T118)) (v96 : (Ty.den T3)) (v97 : (Ty.den T3)) : impl_TableOK_l2 0 v1 v95 v96 v97 = none := by kernel_rfl
theorem impl_TableOK_l2_succ (k : Nat) (v1 : (Ty.den T144)) (v95 : (Ty.den T118)) (v96 : (Ty.den T3)) (v97 : (Ty.den T3)) : impl_TableOK_l2 (k + 1) v1 v95 v96 v97 = br (decide (v97 < v96)) (br (decide (0 ≤ v97)) (br (decide (v97 < (↑(List.length v95) : Int))) (bnd (impl_kCol k v1 (List.getD v95 (Int.toNat v97) T3.zero)) (fun y1 => br (decide (y1 < 0)) (some (Sum.inr false)) (br (decide (0 ≤ y1)) (br (decide (y1 < (↑(List.length v1.2.2.2.1) : Int))) (br (!(List.getD v1.2.2.2.1 (Int.toNat y1) T225.zero).2.2.2.1) (some (Sum.inr false)) (impl_TableOK_l2 k v1 v95 v96 (IntKind.i64.wrap (v97 + 1)))) (none)) (none)))) (none)) (none)) (some (Sum.inl v1)) := by kernel_rfl
theorem impl_TableOK_l4_zero (v1 : (Ty.den T144)) (v3 : (Ty.den (.sl T3))) (v4 : (Ty.den (.sl T9))) (v117 : (Ty.den T142)) (v118 : (Ty.den T3)) (v119 : (Ty.den T3)) : impl_TableOK_l4 0 v1 v3 v4 v117 v118 v119 = none := by kernel_rfl
theorem impl_TableOK_l4_succ (k : Nat) (v1 : (Ty.den T144)) (v3 : (Ty.den (.sl T3))) (v4 : (Ty.den (.sl T9))) (v117 : (Ty.den T142)) (v118 : (Ty.den T3)) (v119 : (Ty.den T3)) : impl_TableOK_l4 (k + 1) v1 v3 v4 v117 v118 v119 = br (decide (v119 < v118)) (br (decide (0 ≤ v119)) (br (decide (v119 < (↑(List.length v117) : Int))) (bnd (impl_kWithin k (List.getD v117 (Int.toNat v119) T149.zero).1 1 1000) (fun y1 => br (!y1) (some (Sum.inr false)) (bnd (impl_kIsName k (List.getD v117 (Int.toNat v119) T149.zero).2.1) (fun y2 => br (!y2) (some (Sum.inr false)) (br ((↑(List.length (List.getD v117 (Int.toNat v119) T149.zero).2.2.1) : Int) == 0) (some (Sum.inr false)) (bnd (impl_kTwice_int k (List.getD v117 (Int.toNat v119) T149.zero).2.2.1) (fun y3 => br (y3) (some (Sum.inr false)) (bnd (impl_kWithin k (List.getD v117 (Int.toNat v119) T149.zero).2.2.2.2.1 1 3) (fun y4 => br (!y4) (some (Sum.inr false)) (br (decide (IntKind.i64.wrap ((↑(List.length (List.getD v117 (Int.toNat v119) T149.zero).2.2.1) : Int) + (↑(List.length v1.2.2.2.2.1) : Int)) > 14)) (some (Sum.inr false)) (bnd (impl_TableOK_l6 k v1 v3 v4 (List.getD v117 (Int.toNat v119) T149.zero) v117 v118 v119 ((List.getD v117 (Int.toNat v119) T149.zero).2.2.1) ((↑(List.length (List.getD v117 (Int.toNat v119) T149.zero).2.2.1) : Int)) 0) (fun y5 => onSum y5 (fun y6 => br (decide (List.length y6.2.1 + [y6.2.2.2.1.1].length ≤ capN)) (br (decide (List.length y6.2.2.1 + [y6.2.2.2.1.2.1].length ≤ capN)) (impl_TableOK_l4 k y6.1 (y6.2.1 ++ [y6.2.2.2.1.1]) (y6.2.2.1 ++ [y6.2.2.2.1.2.1]) y6.2.2.2.2.1 y6.2.2.2.2.2.1 (IntKind.i64.wrap (y6.2.2.2.2.2.2 + 1))) (none)) (none)) (fun y6 => some (Sum.inr y6)))))))))))))) (none)) (none)) (some (Sum.inl (v3, v4))) := by kernel_rfl
theorem impl_TableOK_l6_zero (v1 : (Ty.den T144)) (v3 : (Ty.den (.sl T3))) (v4 : (Ty.den (.sl T9))) (v11 : (Ty.den T149)) (v117 : (Ty.den T142)) (v118 : (Ty.den T3)) (v119 : (Ty.den T3)) (v161 : (Ty.den T118)) (v162 : (Ty.den T3)) (v163 : (Ty.den T3)) : impl_TableOK_l6 0 v1 v3 v4 v11 v117 v118 v119 v161 v162 v163 = none := by kernel_rfl
theorem impl_TableOK_l6_succ (k : Nat) (v1 : (Ty.den T144)) (v3 : (Ty.den (.sl T3))) (v4 : (Ty.den (.sl T9))) (v11 : (Ty.den T149)) (v117 : (Ty.den T142)) (v118 : (Ty.den T3)) (v119 : (Ty.den T3)) (v161 : (Ty.den T118)) (v162 : (Ty.den T3)) (v163 : (Ty.den T3)) : impl_TableOK_l6 (k + 1) v1 v3 v4 v11 v117 v118 v119 v161 v162 v163 = br (decide (v163 < v162)) (br (decide (0 ≤ v163)) (br (decide (v163 < (↑(List.length v161) : Int))) (bnd (impl_kCol k v1 (List.getD v161 (Int.toNat v163) T3.zero)) (fun y1 => br (decide (y1 < 0)) (some (Sum.inr false)) (impl_TableOK_l6 k v1 v3 v4 v11 v117 v118 v119 v161 v162 (IntKind.i64.wrap (v163 + 1))))) (none)) (none)) (some (Sum.inl (v1, v3, v4, v11, v117, v118, v119))) := by kernel_rfl
noncomputable def c_impl_TableOK : Con := ⟨[.val T144], [T4], fun k x => impl_TableOK k x.1⟩
theorem del_impl_TableOK {w0 : World} (hS : Stops w0) : DelOk Try.prog w0 d_impl_TableOK := .cons (ok_impl_kTwice_string hS) ent_impl_kTwice_string (.cons (ok_impl_kWithin hS) ent_impl_kWithin (.cons (ok_impl_kIsName hS) ent_impl_kIsName (.cons (ok_impl_kTwice_int hS) ent_impl_kTwice_int (.cons (ok_impl_kCol hS) ent_impl_kCol (.nil)))))
theorem ok_impl_TableOK {w0 : World} (hS : Stops w0) : ConOk Try.prog w0 95 c_impl_TableOK := fn_sound (A := a_impl_TableOK) tab_ok (del_impl_TableOK hS) (draws (del_impl_TableOK hS)) Try.func95 (by kernel_rfl) fun _ _ => rfl
theorem ent_impl_TableOK : Enters' Try.prog 95 := enters' Try.func95 (by kernel_rfl)
attribute [irreducible] impl_TableOK impl_TableOK_l0 impl_TableOK_l2 impl_TableOK_l4 impl_TableOK_l6

/-! ### impl_CatalogOK: function 24 -/
def a_impl_CatalogOK : Ann := ⟨[(0, [.val 0 T46, .row 3 9 T9, .row 4 9 T9, .val 12 T46, .val 13 T3, .val 14 T3], ⟨[.row 3 9 T9, .row 4 9 T9], false⟩), (2, [.val 0 T46, .row 3 9 T9, .row 4 9 T9, .val 12 T46, .val 13 T3, .val 14 T3, .val 43 T142, .val 44 T3, .val 45 T3], ⟨[.val 0 T46, .row 3 9 T9, .row 4 9 T9, .val 12 T46, .val 13 T3, .val 14 T3], true⟩)], [(9, ⟨[.val 0 T46, .row 3 9 T9, .row 4 9 T9, .var 6 T144 [], .val 12 T46, .val 13 T3, .val 14 T3], false⟩)]⟩
noncomputable def d_impl_CatalogOK : List (Nat × Con) := [(95, c_impl_TableOK), (96, c_impl_kTwice_string)]
noncomputable def impl_CatalogOK (k : Nat) (a : (Ty.den T46)) : Option (den1 [T4]) := evFn Γ d_impl_CatalogOK a_impl_CatalogOK Try.f24 [.val T46] [T4] k (a, ())
noncomputable def impl_CatalogOK_l0 (k : Nat) (v0 : (Ty.den T46)) (v3 : (Ty.den (.sl T9))) (v4 : (Ty.den (.sl T9))) (v12 : (Ty.den T46)) (v13 : (Ty.den T3)) (v14 : (Ty.den T3)) : Option ((Items.den [.row 3 9 T9, .row 4 9 T9]) ⊕ (den1 [T4])) := loopR (ρ := (den1 [T4])) 0 [.val 0 T46, .row 3 9 T9, .row 4 9 T9, .val 12 T46, .val 13 T3, .val 14 T3] [.row 3 9 T9, .row 4 9 T9] (runOf Γ d_impl_CatalogOK a_impl_CatalogOK Try.f24 [T4] 0) k (v0, v3, v4, v12, v13, v14)
noncomputable def impl_CatalogOK_l2 (k : Nat) (v0 : (Ty.den T46)) (v3 : (Ty.den (.sl T9))) (v4 : (Ty.den (.sl T9))) (v12 : (Ty.den T46)) (v13 : (Ty.den T3)) (v14 : (Ty.den T3)) (v43 : (Ty.den T142)) (v44 : (Ty.den T3)) (v45 : (Ty.den T3)) : Option (Items.den [.val 0 T46, .row 3 9 T9, .row 4 9 T9, .val 12 T46, .val 13 T3, .val 14 T3]) := loopQ (ρ := (den1 [T4])) 2 [.val 0 T46, .row 3 9 T9, .row 4 9 T9, .val 12 T46, .val 13 T3, .val 14 T3, .val 43 T142, .val 44 T3, .val 45 T3] [.val 0 T46, .row 3 9 T9, .row 4 9 T9, .val 12 T46, .val 13 T3, .val 14 T3] (runOf Γ d_impl_CatalogOK a_impl_CatalogOK Try.f24 [T4] 2) k (v0, v3, v4, v12, v13, v14, v43, v44, v45)
theorem impl_CatalogOK_eq (k : Nat) (a : (Ty.den T46)) : impl_CatalogOK k a = br (decide ((↑(List.length a) : Int) > 40)) (some false) (bnd (impl_CatalogOK_l0 k a [] [] a ((↑(List.length a) : Int)) 0) (fun y1 => onSum y1 (fun y2 => bnd (impl_kTwice_string k y2.1) (fun y3 => br (!y3) (bnd (impl_kTwice_string k y2.2) (fun y4 => some (!y4))) (some false))) (fun y2 => some y2))) := by kernel_rfl
theorem impl_CatalogOK_l0_zero (v0 : (Ty.den T46)) (v3 : (Ty.den (.sl T9))) (v4 : (Ty.den (.sl T9))) (v12 : (Ty.den T46)) (v13 : (Ty.den T3)) (v14 : (Ty.den T3)) : impl_CatalogOK_l0 0 v0 v3 v4 v12 v13 v14 = none := by kernel_rfl
theorem impl_CatalogOK_l0_succ (k : Nat) (v0 : (Ty.den T46)) (v3 : (Ty.den (.sl T9))) (v4 : (Ty.den (.sl T9))) (v12 : (Ty.den T46)) (v13 : (Ty.den T3)) (v14 : (Ty.den T3)) : impl_CatalogOK_l0 (k + 1) v0 v3 v4 v12 v13 v14 = br (decide (v14 < v13)) (br (decide (0 ≤ v14)) (br (decide (v14 < (↑(List.length v12) : Int))) (bnd (bnd (impl_TableOK k (List.getD v12 (Int.toNat v14) T144.zero)) (fun y1 => br (!y1) (some (Sum.inr false)) (br (decide (v14 > 0)) (br (decide (0 ≤ IntKind.i64.wrap (v14 - 1))) (br (decide (IntKind.i64.wrap (v14 - 1) < (↑(List.length v0) : Int))) (br (decide ((List.getD v0 (IntKind.i64.wrap (v14 - 1)).toNat T144.zero).1 ≥ (List.getD v12 (Int.toNat v14) T144.zero).1)) (some (Sum.inr false)) (some (Sum.inl (v0, v3, v4, (List.getD v12 (Int.toNat v14) T144.zero), v12, v13, v14)))) (none)) (none)) (some (Sum.inl (v0, v3, v4, (List.getD v12 (Int.toNat v14) T144.zero), v12, v13, v14)))))) (fun y1 => onSum y1 (fun y2 => br (decide (List.length y2.2.1 + [y2.2.2.2.1.2.1].length ≤ capN)) (bnd (impl_CatalogOK_l2 k y2.1 (y2.2.1 ++ [y2.2.2.2.1.2.1]) y2.2.2.1 y2.2.2.2.2.1 y2.2.2.2.2.2.1 y2.2.2.2.2.2.2 y2.2.2.2.1.2.2.2.2.2.1 ((↑(List.length y2.2.2.2.1.2.2.2.2.2.1) : Int)) 0) (fun y3 => impl_CatalogOK_l0 k y3.1 y3.2.1 y3.2.2.1 y3.2.2.2.1 y3.2.2.2.2.1 (IntKind.i64.wrap (y3.2.2.2.2.2 + 1)))) (none)) (fun y2 => some (Sum.inr y2)))) (none)) (none)) (some (Sum.inl (v3, v4))) := by kernel_rfl
theorem impl_CatalogOK_l2_zero (v0 : (Ty.den T46)) (v3 : (Ty.den (.sl T9))) (v4 : (Ty.den (.sl T9))) (v12 : (Ty.den T46)) (v13 : (Ty.den T3)) (v14 : (Ty.den T3)) (v43 : (Ty.den T142)) (v44 : (Ty.den T3)) (v45 : (Ty.den T3)) : impl_CatalogOK_l2 0 v0 v3 v4 v12 v13 v14 v43 v44 v45 = none := by kernel_rfl
theorem impl_CatalogOK_l2_succ (k : Nat) (v0 : (Ty.den T46)) (v3 : (Ty.den (.sl T9))) (v4 : (Ty.den (.sl T9))) (v12 : (Ty.den T46)) (v13 : (Ty.den T3)) (v14 : (Ty.den T3)) (v43 : (Ty.den T142)) (v44 : (Ty.den T3)) (v45 : (Ty.den T3)) : impl_CatalogOK_l2 (k + 1) v0 v3 v4 v12 v13 v14 v43 v44 v45 = br (decide (v45 < v44)) (br (decide (0 ≤ v45)) (br (decide (v45 < (↑(List.length v43) : Int))) (br (decide (List.length v4 + [(List.getD v43 (Int.toNat v45) T149.zero).2.1].length ≤ capN)) (impl_CatalogOK_l2 k v0 v3 (v4 ++ [(List.getD v43 (Int.toNat v45) T149.zero).2.1]) v12 v13 v14 v43 v44 (IntKind.i64.wrap (v45 + 1))) (none)) (none)) (none)) (some (v0, v3, v4, v12, v13, v14)) := by kernel_rfl
noncomputable def c_impl_CatalogOK : Con := ⟨[.val T46], [T4], fun k x => impl_CatalogOK k x.1⟩
theorem del_impl_CatalogOK {w0 : World} (hS : Stops w0) : DelOk Try.prog w0 d_impl_CatalogOK := .cons (ok_impl_TableOK hS) ent_impl_TableOK (.cons (ok_impl_kTwice_string hS) ent_impl_kTwice_string (.nil))
theorem ok_impl_CatalogOK {w0 : World} (hS : Stops w0) : ConOk Try.prog w0 24 c_impl_CatalogOK := fn_sound (A := a_impl_CatalogOK) tab_ok (del_impl_CatalogOK hS) (draws (del_impl_CatalogOK hS)) Try.func24 (by kernel_rfl) fun _ _ => rfl
theorem ent_impl_CatalogOK : Enters' Try.prog 24 := enters' Try.func24 (by kernel_rfl)
attribute [irreducible] impl_CatalogOK impl_CatalogOK_l0 impl_CatalogOK_l2

/-! ### laws_eqColumn: function 238 -/
def a_laws_eqColumn : Ann := ⟨[], []⟩
noncomputable def d_laws_eqColumn : List (Nat × Con) := []
noncomputable def laws_eqColumn (k : Nat) (a : (Ty.den T225)) (b : (Ty.den T225)) : Option (den1 [T4]) := evFn Γ d_laws_eqColumn a_laws_eqColumn Try.f238 [.val T225, .val T225] [T4] k (a, b, ())
theorem laws_eqColumn_eq (k : Nat) (a : (Ty.den T225)) (b : (Ty.den T225)) : laws_eqColumn k a b = br (a.1 != b.1) (some false) (br (!a.2.1 == b.2.1) (some false) (br (a.2.2.1 != b.2.2.1) (some false) (br (!a.2.2.2.1 == b.2.2.2.1) (some false) (some true)))) := by kernel_rfl
noncomputable def c_laws_eqColumn : Con := ⟨[.val T225, .val T225], [T4], fun k x => laws_eqColumn k x.1 x.2.1⟩
theorem del_laws_eqColumn {w0 : World} (hS : Stops w0) : DelOk Try.prog w0 d_laws_eqColumn := .nil
theorem ok_laws_eqColumn {w0 : World} (hS : Stops w0) : ConOk Try.prog w0 238 c_laws_eqColumn := fn_sound (A := a_laws_eqColumn) tab_ok (del_laws_eqColumn hS) (draws (del_laws_eqColumn hS)) Try.func238 (by kernel_rfl) fun _ _ => rfl
theorem ent_laws_eqColumn : Enters' Try.prog 238 := enters' Try.func238 (by kernel_rfl)
attribute [irreducible] laws_eqColumn

/-! ### laws_eqColumnS: function 172 -/
def a_laws_eqColumnS : Ann := ⟨[(0, [.val 0 T141, .val 1 T141, .val 5 T3], ⟨[], false⟩)], []⟩
noncomputable def d_laws_eqColumnS : List (Nat × Con) := [(238, c_laws_eqColumn)]
noncomputable def laws_eqColumnS (k : Nat) (a : (Ty.den T141)) (b : (Ty.den T141)) : Option (den1 [T4]) := evFn Γ d_laws_eqColumnS a_laws_eqColumnS Try.f172 [.val T141, .val T141] [T4] k (a, b, ())
noncomputable def laws_eqColumnS_l0 (k : Nat) (v0 : (Ty.den T141)) (v1 : (Ty.den T141)) (v5 : (Ty.den T3)) : Option ((Items.den []) ⊕ (den1 [T4])) := loopR (ρ := (den1 [T4])) 0 [.val 0 T141, .val 1 T141, .val 5 T3] [] (runOf Γ d_laws_eqColumnS a_laws_eqColumnS Try.f172 [T4] 0) k (v0, v1, v5)
theorem laws_eqColumnS_eq (k : Nat) (a : (Ty.den T141)) (b : (Ty.den T141)) : laws_eqColumnS k a b = br ((↑(List.length a) : Int) != (↑(List.length b) : Int)) (some false) (bnd (laws_eqColumnS_l0 k a b 0) (fun y1 => onSum y1 (fun y2 => some true) (fun y2 => some y2))) := by kernel_rfl
theorem laws_eqColumnS_l0_zero (v0 : (Ty.den T141)) (v1 : (Ty.den T141)) (v5 : (Ty.den T3)) : laws_eqColumnS_l0 0 v0 v1 v5 = none := by kernel_rfl
theorem laws_eqColumnS_l0_succ (k : Nat) (v0 : (Ty.den T141)) (v1 : (Ty.den T141)) (v5 : (Ty.den T3)) : laws_eqColumnS_l0 (k + 1) v0 v1 v5 = br (decide (v5 < (↑(List.length v0) : Int))) (br (decide (0 ≤ v5)) (br (decide (v5 < (↑(List.length v0) : Int))) (br (decide (0 ≤ v5)) (br (decide (v5 < (↑(List.length v1) : Int))) (bnd (laws_eqColumn k (List.getD v0 (Int.toNat v5) T225.zero) (List.getD v1 (Int.toNat v5) T225.zero)) (fun y1 => br (!y1) (some (Sum.inr false)) (laws_eqColumnS_l0 k v0 v1 (IntKind.i64.wrap (v5 + 1))))) (none)) (none)) (none)) (none)) (some (Sum.inl ())) := by kernel_rfl
noncomputable def c_laws_eqColumnS : Con := ⟨[.val T141, .val T141], [T4], fun k x => laws_eqColumnS k x.1 x.2.1⟩
theorem del_laws_eqColumnS {w0 : World} (hS : Stops w0) : DelOk Try.prog w0 d_laws_eqColumnS := .cons (ok_laws_eqColumn hS) ent_laws_eqColumn (.nil)
theorem ok_laws_eqColumnS {w0 : World} (hS : Stops w0) : ConOk Try.prog w0 172 c_laws_eqColumnS := fn_sound (A := a_laws_eqColumnS) tab_ok (del_laws_eqColumnS hS) (draws (del_laws_eqColumnS hS)) Try.func172 (by kernel_rfl) fun _ _ => rfl
theorem ent_laws_eqColumnS : Enters' Try.prog 172 := enters' Try.func172 (by kernel_rfl)
attribute [irreducible] laws_eqColumnS laws_eqColumnS_l0

/-! ### laws_eqIntS: function 173 -/
def a_laws_eqIntS : Ann := ⟨[(0, [.val 0 T118, .val 1 T118, .val 5 T3], ⟨[], false⟩)], []⟩
noncomputable def d_laws_eqIntS : List (Nat × Con) := []
noncomputable def laws_eqIntS (k : Nat) (a : (Ty.den T118)) (b : (Ty.den T118)) : Option (den1 [T4]) := evFn Γ d_laws_eqIntS a_laws_eqIntS Try.f173 [.val T118, .val T118] [T4] k (a, b, ())
noncomputable def laws_eqIntS_l0 (k : Nat) (v0 : (Ty.den T118)) (v1 : (Ty.den T118)) (v5 : (Ty.den T3)) : Option ((Items.den []) ⊕ (den1 [T4])) := loopR (ρ := (den1 [T4])) 0 [.val 0 T118, .val 1 T118, .val 5 T3] [] (runOf Γ d_laws_eqIntS a_laws_eqIntS Try.f173 [T4] 0) k (v0, v1, v5)
theorem laws_eqIntS_eq (k : Nat) (a : (Ty.den T118)) (b : (Ty.den T118)) : laws_eqIntS k a b = br ((↑(List.length a) : Int) != (↑(List.length b) : Int)) (some false) (bnd (laws_eqIntS_l0 k a b 0) (fun y1 => onSum y1 (fun y2 => some true) (fun y2 => some y2))) := by kernel_rfl
theorem laws_eqIntS_l0_zero (v0 : (Ty.den T118)) (v1 : (Ty.den T118)) (v5 : (Ty.den T3)) : laws_eqIntS_l0 0 v0 v1 v5 = none := by kernel_rfl
theorem laws_eqIntS_l0_succ (k : Nat) (v0 : (Ty.den T118)) (v1 : (Ty.den T118)) (v5 : (Ty.den T3)) : laws_eqIntS_l0 (k + 1) v0 v1 v5 = br (decide (v5 < (↑(List.length v0) : Int))) (br (decide (0 ≤ v5)) (br (decide (v5 < (↑(List.length v0) : Int))) (br (decide (0 ≤ v5)) (br (decide (v5 < (↑(List.length v1) : Int))) (br (List.getD v0 (Int.toNat v5) T3.zero != List.getD v1 (Int.toNat v5) T3.zero) (some (Sum.inr false)) (laws_eqIntS_l0 k v0 v1 (IntKind.i64.wrap (v5 + 1)))) (none)) (none)) (none)) (none)) (some (Sum.inl ())) := by kernel_rfl
noncomputable def c_laws_eqIntS : Con := ⟨[.val T118, .val T118], [T4], fun k x => laws_eqIntS k x.1 x.2.1⟩
theorem del_laws_eqIntS {w0 : World} (hS : Stops w0) : DelOk Try.prog w0 d_laws_eqIntS := .nil
theorem ok_laws_eqIntS {w0 : World} (hS : Stops w0) : ConOk Try.prog w0 173 c_laws_eqIntS := fn_sound (A := a_laws_eqIntS) tab_ok (del_laws_eqIntS hS) (draws (del_laws_eqIntS hS)) Try.func173 (by kernel_rfl) fun _ _ => rfl
theorem ent_laws_eqIntS : Enters' Try.prog 173 := enters' Try.func173 (by kernel_rfl)
attribute [irreducible] laws_eqIntS laws_eqIntS_l0

/-! ### laws_eqIndex: function 239 -/
def a_laws_eqIndex : Ann := ⟨[], []⟩
noncomputable def d_laws_eqIndex : List (Nat × Con) := [(173, c_laws_eqIntS)]
noncomputable def laws_eqIndex (k : Nat) (a : (Ty.den T149)) (b : (Ty.den T149)) : Option (den1 [T4]) := evFn Γ d_laws_eqIndex a_laws_eqIndex Try.f239 [.val T149, .val T149] [T4] k (a, b, ())
theorem laws_eqIndex_eq (k : Nat) (a : (Ty.den T149)) (b : (Ty.den T149)) : laws_eqIndex k a b = br (a.1 != b.1) (some false) (br (!a.2.1 == b.2.1) (some false) (bnd (laws_eqIntS k a.2.2.1 b.2.2.1) (fun y1 => br (!y1) (some false) (br (!a.2.2.2.1 == b.2.2.2.1) (some false) (br (a.2.2.2.2.1 != b.2.2.2.2.1) (some false) (br (!a.2.2.2.2.2.1 == b.2.2.2.2.2.1) (some false) (some true))))))) := by kernel_rfl
noncomputable def c_laws_eqIndex : Con := ⟨[.val T149, .val T149], [T4], fun k x => laws_eqIndex k x.1 x.2.1⟩
theorem del_laws_eqIndex {w0 : World} (hS : Stops w0) : DelOk Try.prog w0 d_laws_eqIndex := .cons (ok_laws_eqIntS hS) ent_laws_eqIntS (.nil)
theorem ok_laws_eqIndex {w0 : World} (hS : Stops w0) : ConOk Try.prog w0 239 c_laws_eqIndex := fn_sound (A := a_laws_eqIndex) tab_ok (del_laws_eqIndex hS) (draws (del_laws_eqIndex hS)) Try.func239 (by kernel_rfl) fun _ _ => rfl
theorem ent_laws_eqIndex : Enters' Try.prog 239 := enters' Try.func239 (by kernel_rfl)
attribute [irreducible] laws_eqIndex

/-! ### laws_eqIndexS: function 174 -/
def a_laws_eqIndexS : Ann := ⟨[(0, [.val 0 T142, .val 1 T142, .val 5 T3], ⟨[], false⟩)], []⟩
noncomputable def d_laws_eqIndexS : List (Nat × Con) := [(239, c_laws_eqIndex)]
noncomputable def laws_eqIndexS (k : Nat) (a : (Ty.den T142)) (b : (Ty.den T142)) : Option (den1 [T4]) := evFn Γ d_laws_eqIndexS a_laws_eqIndexS Try.f174 [.val T142, .val T142] [T4] k (a, b, ())
noncomputable def laws_eqIndexS_l0 (k : Nat) (v0 : (Ty.den T142)) (v1 : (Ty.den T142)) (v5 : (Ty.den T3)) : Option ((Items.den []) ⊕ (den1 [T4])) := loopR (ρ := (den1 [T4])) 0 [.val 0 T142, .val 1 T142, .val 5 T3] [] (runOf Γ d_laws_eqIndexS a_laws_eqIndexS Try.f174 [T4] 0) k (v0, v1, v5)
theorem laws_eqIndexS_eq (k : Nat) (a : (Ty.den T142)) (b : (Ty.den T142)) : laws_eqIndexS k a b = br ((↑(List.length a) : Int) != (↑(List.length b) : Int)) (some false) (bnd (laws_eqIndexS_l0 k a b 0) (fun y1 => onSum y1 (fun y2 => some true) (fun y2 => some y2))) := by kernel_rfl
theorem laws_eqIndexS_l0_zero (v0 : (Ty.den T142)) (v1 : (Ty.den T142)) (v5 : (Ty.den T3)) : laws_eqIndexS_l0 0 v0 v1 v5 = none := by kernel_rfl
theorem laws_eqIndexS_l0_succ (k : Nat) (v0 : (Ty.den T142)) (v1 : (Ty.den T142)) (v5 : (Ty.den T3)) : laws_eqIndexS_l0 (k + 1) v0 v1 v5 = br (decide (v5 < (↑(List.length v0) : Int))) (br (decide (0 ≤ v5)) (br (decide (v5 < (↑(List.length v0) : Int))) (br (decide (0 ≤ v5)) (br (decide (v5 < (↑(List.length v1) : Int))) (bnd (laws_eqIndex k (List.getD v0 (Int.toNat v5) T149.zero) (List.getD v1 (Int.toNat v5) T149.zero)) (fun y1 => br (!y1) (some (Sum.inr false)) (laws_eqIndexS_l0 k v0 v1 (IntKind.i64.wrap (v5 + 1))))) (none)) (none)) (none)) (none)) (some (Sum.inl ())) := by kernel_rfl
noncomputable def c_laws_eqIndexS : Con := ⟨[.val T142, .val T142], [T4], fun k x => laws_eqIndexS k x.1 x.2.1⟩
theorem del_laws_eqIndexS {w0 : World} (hS : Stops w0) : DelOk Try.prog w0 d_laws_eqIndexS := .cons (ok_laws_eqIndex hS) ent_laws_eqIndex (.nil)
theorem ok_laws_eqIndexS {w0 : World} (hS : Stops w0) : ConOk Try.prog w0 174 c_laws_eqIndexS := fn_sound (A := a_laws_eqIndexS) tab_ok (del_laws_eqIndexS hS) (draws (del_laws_eqIndexS hS)) Try.func174 (by kernel_rfl) fun _ _ => rfl
theorem ent_laws_eqIndexS : Enters' Try.prog 174 := enters' Try.func174 (by kernel_rfl)
attribute [irreducible] laws_eqIndexS laws_eqIndexS_l0

/-! ### laws_eqTable: function 97 -/
def a_laws_eqTable : Ann := ⟨[], []⟩
noncomputable def d_laws_eqTable : List (Nat × Con) := [(172, c_laws_eqColumnS), (173, c_laws_eqIntS), (174, c_laws_eqIndexS)]
noncomputable def laws_eqTable (k : Nat) (a : (Ty.den T144)) (b : (Ty.den T144)) : Option (den1 [T4]) := evFn Γ d_laws_eqTable a_laws_eqTable Try.f97 [.val T144, .val T144] [T4] k (a, b, ())
theorem laws_eqTable_eq (k : Nat) (a : (Ty.den T144)) (b : (Ty.den T144)) : laws_eqTable k a b = br (a.1 != b.1) (some false) (br (!a.2.1 == b.2.1) (some false) (br (a.2.2.1 != b.2.2.1) (some false) (bnd (laws_eqColumnS k a.2.2.2.1 b.2.2.2.1) (fun y1 => br (!y1) (some false) (bnd (laws_eqIntS k a.2.2.2.2.1 b.2.2.2.2.1) (fun y2 => br (!y2) (some false) (bnd (laws_eqIndexS k a.2.2.2.2.2.1 b.2.2.2.2.2.1) (fun y3 => br (!y3) (some false) (some true))))))))) := by kernel_rfl
noncomputable def c_laws_eqTable : Con := ⟨[.val T144, .val T144], [T4], fun k x => laws_eqTable k x.1 x.2.1⟩
theorem del_laws_eqTable {w0 : World} (hS : Stops w0) : DelOk Try.prog w0 d_laws_eqTable := .cons (ok_laws_eqColumnS hS) ent_laws_eqColumnS (.cons (ok_laws_eqIntS hS) ent_laws_eqIntS (.cons (ok_laws_eqIndexS hS) ent_laws_eqIndexS (.nil)))
theorem ok_laws_eqTable {w0 : World} (hS : Stops w0) : ConOk Try.prog w0 97 c_laws_eqTable := fn_sound (A := a_laws_eqTable) tab_ok (del_laws_eqTable hS) (draws (del_laws_eqTable hS)) Try.func97 (by kernel_rfl) fun _ _ => rfl
theorem ent_laws_eqTable : Enters' Try.prog 97 := enters' Try.func97 (by kernel_rfl)
attribute [irreducible] laws_eqTable

/-! ### laws_eqTableS: function 25 -/
def a_laws_eqTableS : Ann := ⟨[(0, [.val 0 T46, .val 1 T46, .val 5 T3], ⟨[], false⟩)], []⟩
noncomputable def d_laws_eqTableS : List (Nat × Con) := [(97, c_laws_eqTable)]
noncomputable def laws_eqTableS (k : Nat) (a : (Ty.den T46)) (b : (Ty.den T46)) : Option (den1 [T4]) := evFn Γ d_laws_eqTableS a_laws_eqTableS Try.f25 [.val T46, .val T46] [T4] k (a, b, ())
noncomputable def laws_eqTableS_l0 (k : Nat) (v0 : (Ty.den T46)) (v1 : (Ty.den T46)) (v5 : (Ty.den T3)) : Option ((Items.den []) ⊕ (den1 [T4])) := loopR (ρ := (den1 [T4])) 0 [.val 0 T46, .val 1 T46, .val 5 T3] [] (runOf Γ d_laws_eqTableS a_laws_eqTableS Try.f25 [T4] 0) k (v0, v1, v5)
theorem laws_eqTableS_eq (k : Nat) (a : (Ty.den T46)) (b : (Ty.den T46)) : laws_eqTableS k a b = br ((↑(List.length a) : Int) != (↑(List.length b) : Int)) (some false) (bnd (laws_eqTableS_l0 k a b 0) (fun y1 => onSum y1 (fun y2 => some true) (fun y2 => some y2))) := by kernel_rfl
theorem laws_eqTableS_l0_zero (v0 : (Ty.den T46)) (v1 : (Ty.den T46)) (v5 : (Ty.den T3)) : laws_eqTableS_l0 0 v0 v1 v5 = none := by kernel_rfl
theorem laws_eqTableS_l0_succ (k : Nat) (v0 : (Ty.den T46)) (v1 : (Ty.den T46)) (v5 : (Ty.den T3)) : laws_eqTableS_l0 (k + 1) v0 v1 v5 = br (decide (v5 < (↑(List.length v0) : Int))) (br (decide (0 ≤ v5)) (br (decide (v5 < (↑(List.length v0) : Int))) (br (decide (0 ≤ v5)) (br (decide (v5 < (↑(List.length v1) : Int))) (bnd (laws_eqTable k (List.getD v0 (Int.toNat v5) T144.zero) (List.getD v1 (Int.toNat v5) T144.zero)) (fun y1 => br (!y1) (some (Sum.inr false)) (laws_eqTableS_l0 k v0 v1 (IntKind.i64.wrap (v5 + 1))))) (none)) (none)) (none)) (none)) (some (Sum.inl ())) := by kernel_rfl
noncomputable def c_laws_eqTableS : Con := ⟨[.val T46, .val T46], [T4], fun k x => laws_eqTableS k x.1 x.2.1⟩
theorem del_laws_eqTableS {w0 : World} (hS : Stops w0) : DelOk Try.prog w0 d_laws_eqTableS := .cons (ok_laws_eqTable hS) ent_laws_eqTable (.nil)
theorem ok_laws_eqTableS {w0 : World} (hS : Stops w0) : ConOk Try.prog w0 25 c_laws_eqTableS := fn_sound (A := a_laws_eqTableS) tab_ok (del_laws_eqTableS hS) (draws (del_laws_eqTableS hS)) Try.func25 (by kernel_rfl) fun _ _ => rfl
theorem ent_laws_eqTableS : Enters' Try.prog 25 := enters' Try.func25 (by kernel_rfl)
attribute [irreducible] laws_eqTableS laws_eqTableS_l0

/-! ### laws_FnExactCatalogOK: function 4 -/
def a_laws_FnExactCatalogOK : Ann := ⟨[], []⟩
noncomputable def d_laws_FnExactCatalogOK : List (Nat × Con) := [(21, c_laws_szTableS), (22, c_spec_CatalogOK), (23, c_laws_toTableS), (24, c_impl_CatalogOK), (25, c_laws_eqTableS)]
noncomputable def laws_FnExactCatalogOK (k : Nat) (a : (Ty.den T43)) : Option (den1 [T4]) := evFn Γ d_laws_FnExactCatalogOK a_laws_FnExactCatalogOK Try.f4 [.val T43] [T4] k (a, ())
theorem laws_FnExactCatalogOK_eq (k : Nat) (a : (Ty.den T43)) : laws_FnExactCatalogOK k a = bnd (laws_szTableS k a 1048576) (fun y1 => br (decide (y1 < 0)) (some true) (bnd (laws_toTableS k a) (fun y2 => bnd (spec_CatalogOK k y2) (fun y3 => bnd (laws_toTableS k a) (fun y4 => bnd (impl_CatalogOK k y4) (fun y5 => br (!y5 == y3) (some false) (bnd (laws_toTableS k a) (fun y6 => bnd (laws_eqTableS k y4 y6) (fun y7 => br (!y7) (some false) (some true)))))))))) := by kernel_rfl
noncomputable def c_laws_FnExactCatalogOK : Con := ⟨[.val T43], [T4], fun k x => laws_FnExactCatalogOK k x.1⟩
theorem del_laws_FnExactCatalogOK {w0 : World} (hS : Stops w0) : DelOk Try.prog w0 d_laws_FnExactCatalogOK := .cons (ok_laws_szTableS hS) ent_laws_szTableS (.cons (ok_spec_CatalogOK hS) ent_spec_CatalogOK (.cons (ok_laws_toTableS hS) ent_laws_toTableS (.cons (ok_impl_CatalogOK hS) ent_impl_CatalogOK (.cons (ok_laws_eqTableS hS) ent_laws_eqTableS (.nil)))))
theorem ok_laws_FnExactCatalogOK {w0 : World} (hS : Stops w0) : ConOk Try.prog w0 4 c_laws_FnExactCatalogOK := fn_sound (A := a_laws_FnExactCatalogOK) tab_ok (del_laws_FnExactCatalogOK hS) (draws (del_laws_FnExactCatalogOK hS)) Try.func4 (by kernel_rfl) fun _ _ => rfl
theorem ent_laws_FnExactCatalogOK : Enters' Try.prog 4 := enters' Try.func4 (by kernel_rfl)
attribute [irreducible] laws_FnExactCatalogOK

end Go.Ev.T1
