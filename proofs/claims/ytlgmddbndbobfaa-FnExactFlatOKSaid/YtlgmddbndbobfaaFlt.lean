import Derived.Test.YtlgmddbndbobfaaTab2
import Derived.Test.YtlgmddbndbobfaaEvC
import Derived.Lib.IndexMore
set_option linter.unusedVariables false
namespace Go.Ev.T1
open Go.Proofs Go
set_option maxRecDepth 100000
def strings_Contains (k : Nat) (a b : List UInt8) : Option Bool := chk (Nat.blt a.length 4294967281) (some (Go.Lib.contains a b))
noncomputable def c_strings_Contains : Con := ⟨[.val T9, .val T9], [T4], fun k x => strings_Contains k x.1 x.2.1⟩
structure Stops (w0 : World) : Prop where
  strings_Contains : ConOk Try.prog w0 249 c_strings_Contains ∧ Enters' Try.prog 249
theorem tab_ok : TabOk Try.prog Γ := tab_of (by kernel_rfl)
theorem draws {w0 : World} {Δ : List (Nat × Con)} (h : DelOk Try.prog w0 Δ) {w : World} (hb : Go.RowKit.Below w0.heap.size w0 w) : DrawSound Try.prog w Γ Δ := draws_of tab_ok h (by kernel_rfl) hb
/-! ### laws_szIntS: function 92 -/
def a_laws_szIntS : Ann := ⟨[], []⟩
noncomputable def d_laws_szIntS : List (Nat × Con) := []
noncomputable def laws_szIntS (k : Nat) (a : (Ty.den T25)) (b : (Ty.den T3)) : Option (den1 [T3]) := evFn Γ d_laws_szIntS a_laws_szIntS Try.f92 [.val T25, .val T3] [T3] k (a, b, ())
theorem laws_szIntS_eq (k : Nat) (a : (Ty.den T25)) (b : (Ty.den T3)) : laws_szIntS k a b = br (decide (IntKind.i64.wrap (b - (↑(List.length a) : Int)) < 0)) (some (-1)) (some (IntKind.i64.wrap (b - (↑(List.length a) : Int)))) := by kernel_rfl
noncomputable def c_laws_szIntS : Con := ⟨[.val T25, .val T3], [T3], fun k x => laws_szIntS k x.1 x.2.1⟩
theorem del_laws_szIntS {w0 : World} (hS : Stops w0) : DelOk Try.prog w0 d_laws_szIntS := .nil
theorem ok_laws_szIntS {w0 : World} (hS : Stops w0) : ConOk Try.prog w0 92 c_laws_szIntS := fn_sound (A := a_laws_szIntS) tab_ok (del_laws_szIntS hS) (draws (del_laws_szIntS hS)) Try.func92 (by kernel_rfl) fun _ _ => rfl
theorem ent_laws_szIntS : Enters' Try.prog 92 := enters' Try.func92 (by kernel_rfl)
attribute [irreducible] laws_szIntS

/-! ### laws_szColumn: function 189 -/
def a_laws_szColumn : Ann := ⟨[], []⟩
noncomputable def d_laws_szColumn : List (Nat × Con) := []
noncomputable def laws_szColumn (k : Nat) (a : (Ty.den T256)) (b : (Ty.den T3)) : Option (den1 [T3]) := evFn Γ d_laws_szColumn a_laws_szColumn Try.f189 [.val T256, .val T3] [T3] k (a, b, ())
theorem laws_szColumn_eq (k : Nat) (a : (Ty.den T256)) (b : (Ty.den T3)) : laws_szColumn k a b = br (decide (IntKind.i64.wrap (b - (↑(List.length a.2.1) : Int)) < 0)) (some (-1)) (some (IntKind.i64.wrap (b - (↑(List.length a.2.1) : Int)))) := by kernel_rfl
noncomputable def c_laws_szColumn : Con := ⟨[.val T256, .val T3], [T3], fun k x => laws_szColumn k x.1 x.2.1⟩
theorem del_laws_szColumn {w0 : World} (hS : Stops w0) : DelOk Try.prog w0 d_laws_szColumn := .nil
theorem ok_laws_szColumn {w0 : World} (hS : Stops w0) : ConOk Try.prog w0 189 c_laws_szColumn := fn_sound (A := a_laws_szColumn) tab_ok (del_laws_szColumn hS) (draws (del_laws_szColumn hS)) Try.func189 (by kernel_rfl) fun _ _ => rfl
theorem ent_laws_szColumn : Enters' Try.prog 189 := enters' Try.func189 (by kernel_rfl)
attribute [irreducible] laws_szColumn

/-! ### laws_szColumnS: function 113 -/
def a_laws_szColumnS : Ann := ⟨[(0, [.val 0 T78, .val 1 T3, .val 5 T3], ⟨[.val 1 T3], false⟩)], []⟩
noncomputable def d_laws_szColumnS : List (Nat × Con) := [(189, c_laws_szColumn)]
noncomputable def laws_szColumnS (k : Nat) (a : (Ty.den T78)) (b : (Ty.den T3)) : Option (den1 [T3]) := evFn Γ d_laws_szColumnS a_laws_szColumnS Try.f113 [.val T78, .val T3] [T3] k (a, b, ())
noncomputable def laws_szColumnS_l0 (k : Nat) (v0 : (Ty.den T78)) (v1 : (Ty.den T3)) (v5 : (Ty.den T3)) : Option ((Items.den [.val 1 T3]) ⊕ (den1 [T3])) := loopR (ρ := (den1 [T3])) 0 [.val 0 T78, .val 1 T3, .val 5 T3] [.val 1 T3] (runOf Γ d_laws_szColumnS a_laws_szColumnS Try.f113 [T3] 0) k (v0, v1, v5)
theorem laws_szColumnS_eq (k : Nat) (a : (Ty.den T78)) (b : (Ty.den T3)) : laws_szColumnS k a b = br (decide (IntKind.i64.wrap (b - (↑(List.length a) : Int)) < 0)) (some (-1)) (bnd (laws_szColumnS_l0 k a (IntKind.i64.wrap (b - (↑(List.length a) : Int))) 0) (fun y1 => onSum y1 (fun y2 => some y2) (fun y2 => some y2))) := by kernel_rfl
theorem laws_szColumnS_l0_zero (v0 : (Ty.den T78)) (v1 : (Ty.den T3)) (v5 : (Ty.den T3)) : laws_szColumnS_l0 0 v0 v1 v5 = none := by kernel_rfl
theorem laws_szColumnS_l0_succ (k : Nat) (v0 : (Ty.den T78)) (v1 : (Ty.den T3)) (v5 : (Ty.den T3)) : laws_szColumnS_l0 (k + 1) v0 v1 v5 = br (decide (v5 < (↑(List.length v0) : Int))) (br (decide (0 ≤ v5)) (br (decide (v5 < (↑(List.length v0) : Int))) (bnd (laws_szColumn k (List.getD v0 (Int.toNat v5) T256.zero) v1) (fun y1 => br (decide (y1 < 0)) (some (Sum.inr (-1))) (laws_szColumnS_l0 k v0 y1 (IntKind.i64.wrap (v5 + 1))))) (none)) (none)) (some (Sum.inl v1)) := by kernel_rfl
noncomputable def c_laws_szColumnS : Con := ⟨[.val T78, .val T3], [T3], fun k x => laws_szColumnS k x.1 x.2.1⟩
theorem del_laws_szColumnS {w0 : World} (hS : Stops w0) : DelOk Try.prog w0 d_laws_szColumnS := .cons (ok_laws_szColumn hS) ent_laws_szColumn (.nil)
theorem ok_laws_szColumnS {w0 : World} (hS : Stops w0) : ConOk Try.prog w0 113 c_laws_szColumnS := fn_sound (A := a_laws_szColumnS) tab_ok (del_laws_szColumnS hS) (draws (del_laws_szColumnS hS)) Try.func113 (by kernel_rfl) fun _ _ => rfl
theorem ent_laws_szColumnS : Enters' Try.prog 113 := enters' Try.func113 (by kernel_rfl)
attribute [irreducible] laws_szColumnS laws_szColumnS_l0

/-! ### laws_szIndex: function 190 -/
def a_laws_szIndex : Ann := ⟨[], []⟩
noncomputable def d_laws_szIndex : List (Nat × Con) := [(92, c_laws_szIntS)]
noncomputable def laws_szIndex (k : Nat) (a : (Ty.den T258)) (b : (Ty.den T3)) : Option (den1 [T3]) := evFn Γ d_laws_szIndex a_laws_szIndex Try.f190 [.val T258, .val T3] [T3] k (a, b, ())
theorem laws_szIndex_eq (k : Nat) (a : (Ty.den T258)) (b : (Ty.den T3)) : laws_szIndex k a b = br (decide (IntKind.i64.wrap (b - (↑(List.length a.2.1) : Int)) < 0)) (some (-1)) (bnd (laws_szIntS k a.2.2.1 (IntKind.i64.wrap (b - (↑(List.length a.2.1) : Int)))) (fun y1 => br (decide (y1 < 0)) (some (-1)) (some y1))) := by kernel_rfl
noncomputable def c_laws_szIndex : Con := ⟨[.val T258, .val T3], [T3], fun k x => laws_szIndex k x.1 x.2.1⟩
theorem del_laws_szIndex {w0 : World} (hS : Stops w0) : DelOk Try.prog w0 d_laws_szIndex := .cons (ok_laws_szIntS hS) ent_laws_szIntS (.nil)
theorem ok_laws_szIndex {w0 : World} (hS : Stops w0) : ConOk Try.prog w0 190 c_laws_szIndex := fn_sound (A := a_laws_szIndex) tab_ok (del_laws_szIndex hS) (draws (del_laws_szIndex hS)) Try.func190 (by kernel_rfl) fun _ _ => rfl
theorem ent_laws_szIndex : Enters' Try.prog 190 := enters' Try.func190 (by kernel_rfl)
attribute [irreducible] laws_szIndex

/-! ### laws_szIndexS: function 114 -/
def a_laws_szIndexS : Ann := ⟨[(0, [.val 0 T79, .val 1 T3, .val 5 T3], ⟨[.val 1 T3], false⟩)], []⟩
noncomputable def d_laws_szIndexS : List (Nat × Con) := [(190, c_laws_szIndex)]
noncomputable def laws_szIndexS (k : Nat) (a : (Ty.den T79)) (b : (Ty.den T3)) : Option (den1 [T3]) := evFn Γ d_laws_szIndexS a_laws_szIndexS Try.f114 [.val T79, .val T3] [T3] k (a, b, ())
noncomputable def laws_szIndexS_l0 (k : Nat) (v0 : (Ty.den T79)) (v1 : (Ty.den T3)) (v5 : (Ty.den T3)) : Option ((Items.den [.val 1 T3]) ⊕ (den1 [T3])) := loopR (ρ := (den1 [T3])) 0 [.val 0 T79, .val 1 T3, .val 5 T3] [.val 1 T3] (runOf Γ d_laws_szIndexS a_laws_szIndexS Try.f114 [T3] 0) k (v0, v1, v5)
theorem laws_szIndexS_eq (k : Nat) (a : (Ty.den T79)) (b : (Ty.den T3)) : laws_szIndexS k a b = br (decide (IntKind.i64.wrap (b - (↑(List.length a) : Int)) < 0)) (some (-1)) (bnd (laws_szIndexS_l0 k a (IntKind.i64.wrap (b - (↑(List.length a) : Int))) 0) (fun y1 => onSum y1 (fun y2 => some y2) (fun y2 => some y2))) := by kernel_rfl
theorem laws_szIndexS_l0_zero (v0 : (Ty.den T79)) (v1 : (Ty.den T3)) (v5 : (Ty.den T3)) : laws_szIndexS_l0 0 v0 v1 v5 = none := by kernel_rfl
theorem laws_szIndexS_l0_succ (k : Nat) (v0 : (Ty.den T79)) (v1 : (Ty.den T3)) (v5 : (Ty.den T3)) : laws_szIndexS_l0 (k + 1) v0 v1 v5 = br (decide (v5 < (↑(List.length v0) : Int))) (br (decide (0 ≤ v5)) (br (decide (v5 < (↑(List.length v0) : Int))) (bnd (laws_szIndex k (List.getD v0 (Int.toNat v5) T258.zero) v1) (fun y1 => br (decide (y1 < 0)) (some (Sum.inr (-1))) (laws_szIndexS_l0 k v0 y1 (IntKind.i64.wrap (v5 + 1))))) (none)) (none)) (some (Sum.inl v1)) := by kernel_rfl
noncomputable def c_laws_szIndexS : Con := ⟨[.val T79, .val T3], [T3], fun k x => laws_szIndexS k x.1 x.2.1⟩
theorem del_laws_szIndexS {w0 : World} (hS : Stops w0) : DelOk Try.prog w0 d_laws_szIndexS := .cons (ok_laws_szIndex hS) ent_laws_szIndex (.nil)
theorem ok_laws_szIndexS {w0 : World} (hS : Stops w0) : ConOk Try.prog w0 114 c_laws_szIndexS := fn_sound (A := a_laws_szIndexS) tab_ok (del_laws_szIndexS hS) (draws (del_laws_szIndexS hS)) Try.func114 (by kernel_rfl) fun _ _ => rfl
theorem ent_laws_szIndexS : Enters' Try.prog 114 := enters' Try.func114 (by kernel_rfl)
attribute [irreducible] laws_szIndexS laws_szIndexS_l0

/-! ### laws_szTable: function 35 -/
def a_laws_szTable : Ann := ⟨[], []⟩
noncomputable def d_laws_szTable : List (Nat × Con) := [(92, c_laws_szIntS), (113, c_laws_szColumnS), (114, c_laws_szIndexS)]
noncomputable def laws_szTable (k : Nat) (a : (Ty.den T81)) (b : (Ty.den T3)) : Option (den1 [T3]) := evFn Γ d_laws_szTable a_laws_szTable Try.f35 [.val T81, .val T3] [T3] k (a, b, ())
theorem laws_szTable_eq (k : Nat) (a : (Ty.den T81)) (b : (Ty.den T3)) : laws_szTable k a b = br (decide (IntKind.i64.wrap (b - (↑(List.length a.2.1) : Int)) < 0)) (some (-1)) (bnd (laws_szColumnS k a.2.2.2.1 (IntKind.i64.wrap (b - (↑(List.length a.2.1) : Int)))) (fun y1 => br (decide (y1 < 0)) (some (-1)) (bnd (laws_szIntS k a.2.2.2.2.1 y1) (fun y2 => br (decide (y2 < 0)) (some (-1)) (bnd (laws_szIndexS k a.2.2.2.2.2.1 y2) (fun y3 => br (decide (y3 < 0)) (some (-1)) (some y3))))))) := by kernel_rfl
noncomputable def c_laws_szTable : Con := ⟨[.val T81, .val T3], [T3], fun k x => laws_szTable k x.1 x.2.1⟩
theorem del_laws_szTable {w0 : World} (hS : Stops w0) : DelOk Try.prog w0 d_laws_szTable := .cons (ok_laws_szIntS hS) ent_laws_szIntS (.cons (ok_laws_szColumnS hS) ent_laws_szColumnS (.cons (ok_laws_szIndexS hS) ent_laws_szIndexS (.nil)))
theorem ok_laws_szTable {w0 : World} (hS : Stops w0) : ConOk Try.prog w0 35 c_laws_szTable := fn_sound (A := a_laws_szTable) tab_ok (del_laws_szTable hS) (draws (del_laws_szTable hS)) Try.func35 (by kernel_rfl) fun _ _ => rfl
theorem ent_laws_szTable : Enters' Try.prog 35 := enters' Try.func35 (by kernel_rfl)
attribute [irreducible] laws_szTable

/-! ### laws_szTableS: function 23 -/
def a_laws_szTableS : Ann := ⟨[(0, [.val 0 T55, .val 1 T3, .val 5 T3], ⟨[.val 1 T3], false⟩)], []⟩
noncomputable def d_laws_szTableS : List (Nat × Con) := [(35, c_laws_szTable)]
noncomputable def laws_szTableS (k : Nat) (a : (Ty.den T55)) (b : (Ty.den T3)) : Option (den1 [T3]) := evFn Γ d_laws_szTableS a_laws_szTableS Try.f23 [.val T55, .val T3] [T3] k (a, b, ())
noncomputable def laws_szTableS_l0 (k : Nat) (v0 : (Ty.den T55)) (v1 : (Ty.den T3)) (v5 : (Ty.den T3)) : Option ((Items.den [.val 1 T3]) ⊕ (den1 [T3])) := loopR (ρ := (den1 [T3])) 0 [.val 0 T55, .val 1 T3, .val 5 T3] [.val 1 T3] (runOf Γ d_laws_szTableS a_laws_szTableS Try.f23 [T3] 0) k (v0, v1, v5)
theorem laws_szTableS_eq (k : Nat) (a : (Ty.den T55)) (b : (Ty.den T3)) : laws_szTableS k a b = br (decide (IntKind.i64.wrap (b - (↑(List.length a) : Int)) < 0)) (some (-1)) (bnd (laws_szTableS_l0 k a (IntKind.i64.wrap (b - (↑(List.length a) : Int))) 0) (fun y1 => onSum y1 (fun y2 => some y2) (fun y2 => some y2))) := by kernel_rfl
theorem laws_szTableS_l0_zero (v0 : (Ty.den T55)) (v1 : (Ty.den T3)) (v5 : (Ty.den T3)) : laws_szTableS_l0 0 v0 v1 v5 = none := by kernel_rfl
theorem laws_szTableS_l0_succ (k : Nat) (v0 : (Ty.den T55)) (v1 : (Ty.den T3)) (v5 : (Ty.den T3)) : laws_szTableS_l0 (k + 1) v0 v1 v5 = br (decide (v5 < (↑(List.length v0) : Int))) (br (decide (0 ≤ v5)) (br (decide (v5 < (↑(List.length v0) : Int))) (bnd (laws_szTable k (List.getD v0 (Int.toNat v5) T81.zero) v1) (fun y1 => br (decide (y1 < 0)) (some (Sum.inr (-1))) (laws_szTableS_l0 k v0 y1 (IntKind.i64.wrap (v5 + 1))))) (none)) (none)) (some (Sum.inl v1)) := by kernel_rfl
noncomputable def c_laws_szTableS : Con := ⟨[.val T55, .val T3], [T3], fun k x => laws_szTableS k x.1 x.2.1⟩
theorem del_laws_szTableS {w0 : World} (hS : Stops w0) : DelOk Try.prog w0 d_laws_szTableS := .cons (ok_laws_szTable hS) ent_laws_szTable (.nil)
theorem ok_laws_szTableS {w0 : World} (hS : Stops w0) : ConOk Try.prog w0 23 c_laws_szTableS := fn_sound (A := a_laws_szTableS) tab_ok (del_laws_szTableS hS) (draws (del_laws_szTableS hS)) Try.func23 (by kernel_rfl) fun _ _ => rfl
theorem ent_laws_szTableS : Enters' Try.prog 23 := enters' Try.func23 (by kernel_rfl)
attribute [irreducible] laws_szTableS laws_szTableS_l0

/-! ### laws_toIntS: function 101 -/
def a_laws_toIntS : Ann := ⟨[(0, [.val 0 T25, .row 3 3 T3, .val 4 T3], ⟨[.row 3 3 T3], true⟩)], []⟩
noncomputable def d_laws_toIntS : List (Nat × Con) := []
noncomputable def laws_toIntS (k : Nat) (a : (Ty.den T25)) : Option (den1 [T25]) := evFn Γ d_laws_toIntS a_laws_toIntS Try.f101 [.val T25] [T25] k (a, ())
noncomputable def laws_toIntS_l0 (k : Nat) (v0 : (Ty.den T25)) (v3 : (Ty.den (.sl T3))) (v4 : (Ty.den T3)) : Option (Items.den [.row 3 3 T3]) := loopQ (ρ := (den1 [T25])) 0 [.val 0 T25, .row 3 3 T3, .val 4 T3] [.row 3 3 T3] (runOf Γ d_laws_toIntS a_laws_toIntS Try.f101 [T25] 0) k (v0, v3, v4)
theorem laws_toIntS_eq (k : Nat) (a : (Ty.den T25)) : laws_toIntS k a = br ((↑(List.length a) : Int) == (↑(List.length a) : Int)) (br (decide (0 ≤ (↑(List.length a) : Int))) (br (decide ((↑(List.length a) : Int) ≤ (↑capN : Int))) (bnd (laws_toIntS_l0 k a (List.replicate (↑(List.length a) : Int).toNat (Ty.int IntKind.i64).zero) 0) (fun y1 => some y1)) (none)) (none)) (none) := by kernel_rfl
theorem laws_toIntS_l0_zero (v0 : (Ty.den T25)) (v3 : (Ty.den (.sl T3))) (v4 : (Ty.den T3)) : laws_toIntS_l0 0 v0 v3 v4 = none := by kernel_rfl
theorem laws_toIntS_l0_succ (k : Nat) (v0 : (Ty.den T25)) (v3 : (Ty.den (.sl T3))) (v4 : (Ty.den T3)) : laws_toIntS_l0 (k + 1) v0 v3 v4 = br (decide (v4 < (↑(List.length v0) : Int))) (br (decide (0 ≤ v4)) (br (decide (v4 < (↑(List.length v0) : Int))) (br (decide (0 ≤ v4)) (br (decide (v4 < (↑(List.length v3) : Int))) (laws_toIntS_l0 k v0 (List.set v3 (Int.toNat v4) (List.getD v0 (Int.toNat v4) T3.zero)) (IntKind.i64.wrap (v4 + 1))) (none)) (none)) (none)) (none)) (some v3) := by kernel_rfl
noncomputable def c_laws_toIntS : Con := ⟨[.val T25], [T25], fun k x => laws_toIntS k x.1⟩
theorem del_laws_toIntS {w0 : World} (hS : Stops w0) : DelOk Try.prog w0 d_laws_toIntS := .nil
theorem ok_laws_toIntS {w0 : World} (hS : Stops w0) : ConOk Try.prog w0 101 c_laws_toIntS := fn_sound (A := a_laws_toIntS) tab_ok (del_laws_toIntS hS) (draws (del_laws_toIntS hS)) Try.func101 (by kernel_rfl) fun _ _ => rfl
theorem ent_laws_toIntS : Enters' Try.prog 101 := enters' Try.func101 (by kernel_rfl)
attribute [irreducible] laws_toIntS laws_toIntS_l0

/-! ### laws_toColumn: function 195 -/
def a_laws_toColumn : Ann := ⟨[], []⟩
noncomputable def d_laws_toColumn : List (Nat × Con) := []
noncomputable def laws_toColumn (k : Nat) (a : (Ty.den T256)) : Option (den1 [T167]) := evFn Γ d_laws_toColumn a_laws_toColumn Try.f195 [.val T256] [T167] k (a, ())
theorem laws_toColumn_eq (k : Nat) (a : (Ty.den T256)) : laws_toColumn k a = some a := by kernel_rfl
noncomputable def c_laws_toColumn : Con := ⟨[.val T256], [T167], fun k x => laws_toColumn k x.1⟩
theorem del_laws_toColumn {w0 : World} (hS : Stops w0) : DelOk Try.prog w0 d_laws_toColumn := .nil
theorem ok_laws_toColumn {w0 : World} (hS : Stops w0) : ConOk Try.prog w0 195 c_laws_toColumn := fn_sound (A := a_laws_toColumn) tab_ok (del_laws_toColumn hS) (draws (del_laws_toColumn hS)) Try.func195 (by kernel_rfl) fun _ _ => rfl
theorem ent_laws_toColumn : Enters' Try.prog 195 := enters' Try.func195 (by kernel_rfl)
attribute [irreducible] laws_toColumn

/-! ### laws_toColumnS: function 120 -/
def a_laws_toColumnS : Ann := ⟨[(0, [.val 0 T78, .row 3 167 T167, .val 4 T3], ⟨[.row 3 167 T167], true⟩)], []⟩
noncomputable def d_laws_toColumnS : List (Nat × Con) := [(195, c_laws_toColumn)]
noncomputable def laws_toColumnS (k : Nat) (a : (Ty.den T78)) : Option (den1 [T88]) := evFn Γ d_laws_toColumnS a_laws_toColumnS Try.f120 [.val T78] [T88] k (a, ())
noncomputable def laws_toColumnS_l0 (k : Nat) (v0 : (Ty.den T78)) (v3 : (Ty.den (.sl T167))) (v4 : (Ty.den T3)) : Option (Items.den [.row 3 167 T167]) := loopQ (ρ := (den1 [T88])) 0 [.val 0 T78, .row 3 167 T167, .val 4 T3] [.row 3 167 T167] (runOf Γ d_laws_toColumnS a_laws_toColumnS Try.f120 [T88] 0) k (v0, v3, v4)
theorem laws_toColumnS_eq (k : Nat) (a : (Ty.den T78)) : laws_toColumnS k a = br ((↑(List.length a) : Int) == (↑(List.length a) : Int)) (br (decide (0 ≤ (↑(List.length a) : Int))) (br (decide ((↑(List.length a) : Int) ≤ (↑capN : Int))) (bnd (laws_toColumnS_l0 k a (List.replicate (↑(List.length a) : Int).toNat (T3.pair (T9.pair (T3.pair (T4.pair Ty.unit)))).zero) 0) (fun y1 => some y1)) (none)) (none)) (none) := by kernel_rfl
theorem laws_toColumnS_l0_zero (v0 : (Ty.den T78)) (v3 : (Ty.den (.sl T167))) (v4 : (Ty.den T3)) : laws_toColumnS_l0 0 v0 v3 v4 = none := by kernel_rfl
theorem laws_toColumnS_l0_succ (k : Nat) (v0 : (Ty.den T78)) (v3 : (Ty.den (.sl T167))) (v4 : (Ty.den T3)) : laws_toColumnS_l0 (k + 1) v0 v3 v4 = br (decide (v4 < (↑(List.length v0) : Int))) (br (decide (0 ≤ v4)) (br (decide (v4 < (↑(List.length v0) : Int))) (bnd (laws_toColumn k (List.getD v0 (Int.toNat v4) T256.zero)) (fun y1 => br (decide (0 ≤ v4)) (br (decide (v4 < (↑(List.length v3) : Int))) (laws_toColumnS_l0 k v0 (List.set v3 (Int.toNat v4) y1) (IntKind.i64.wrap (v4 + 1))) (none)) (none))) (none)) (none)) (some v3) := by kernel_rfl
noncomputable def c_laws_toColumnS : Con := ⟨[.val T78], [T88], fun k x => laws_toColumnS k x.1⟩
theorem del_laws_toColumnS {w0 : World} (hS : Stops w0) : DelOk Try.prog w0 d_laws_toColumnS := .cons (ok_laws_toColumn hS) ent_laws_toColumn (.nil)
theorem ok_laws_toColumnS {w0 : World} (hS : Stops w0) : ConOk Try.prog w0 120 c_laws_toColumnS := fn_sound (A := a_laws_toColumnS) tab_ok (del_laws_toColumnS hS) (draws (del_laws_toColumnS hS)) Try.func120 (by kernel_rfl) fun _ _ => rfl
theorem ent_laws_toColumnS : Enters' Try.prog 120 := enters' Try.func120 (by kernel_rfl)
attribute [irreducible] laws_toColumnS laws_toColumnS_l0

/-! ### laws_toIndex: function 196 -/
def a_laws_toIndex : Ann := ⟨[], []⟩
noncomputable def d_laws_toIndex : List (Nat × Con) := [(101, c_laws_toIntS)]
noncomputable def laws_toIndex (k : Nat) (a : (Ty.den T258)) : Option (den1 [T146]) := evFn Γ d_laws_toIndex a_laws_toIndex Try.f196 [.val T258] [T146] k (a, ())
theorem laws_toIndex_eq (k : Nat) (a : (Ty.den T258)) : laws_toIndex k a = bnd (laws_toIntS k a.2.2.1) (fun y1 => some (a.1, a.2.1, y1, a.2.2.2.1, a.2.2.2.2.1, a.2.2.2.2.2.1, ())) := by kernel_rfl
noncomputable def c_laws_toIndex : Con := ⟨[.val T258], [T146], fun k x => laws_toIndex k x.1⟩
theorem del_laws_toIndex {w0 : World} (hS : Stops w0) : DelOk Try.prog w0 d_laws_toIndex := .cons (ok_laws_toIntS hS) ent_laws_toIntS (.nil)
theorem ok_laws_toIndex {w0 : World} (hS : Stops w0) : ConOk Try.prog w0 196 c_laws_toIndex := fn_sound (A := a_laws_toIndex) tab_ok (del_laws_toIndex hS) (draws (del_laws_toIndex hS)) Try.func196 (by kernel_rfl) fun _ _ => rfl
theorem ent_laws_toIndex : Enters' Try.prog 196 := enters' Try.func196 (by kernel_rfl)
attribute [irreducible] laws_toIndex

/-! ### laws_toIndexS: function 121 -/
def a_laws_toIndexS : Ann := ⟨[(0, [.val 0 T79, .row 3 146 T146, .val 4 T3], ⟨[.row 3 146 T146], true⟩)], []⟩
noncomputable def d_laws_toIndexS : List (Nat × Con) := [(196, c_laws_toIndex)]
noncomputable def laws_toIndexS (k : Nat) (a : (Ty.den T79)) : Option (den1 [T89]) := evFn Γ d_laws_toIndexS a_laws_toIndexS Try.f121 [.val T79] [T89] k (a, ())
noncomputable def laws_toIndexS_l0 (k : Nat) (v0 : (Ty.den T79)) (v3 : (Ty.den (.sl T146))) (v4 : (Ty.den T3)) : Option (Items.den [.row 3 146 T146]) := loopQ (ρ := (den1 [T89])) 0 [.val 0 T79, .row 3 146 T146, .val 4 T3] [.row 3 146 T146] (runOf Γ d_laws_toIndexS a_laws_toIndexS Try.f121 [T89] 0) k (v0, v3, v4)
theorem laws_toIndexS_eq (k : Nat) (a : (Ty.den T79)) : laws_toIndexS k a = br ((↑(List.length a) : Int) == (↑(List.length a) : Int)) (br (decide (0 ≤ (↑(List.length a) : Int))) (br (decide ((↑(List.length a) : Int) ≤ (↑capN : Int))) (bnd (laws_toIndexS_l0 k a (List.replicate (↑(List.length a) : Int).toNat (T3.pair (T9.pair (T25.pair (T4.pair (T3.pair (T4.pair Ty.unit)))))).zero) 0) (fun y1 => some y1)) (none)) (none)) (none) := by kernel_rfl
theorem laws_toIndexS_l0_zero (v0 : (Ty.den T79)) (v3 : (Ty.den (.sl T146))) (v4 : (Ty.den T3)) : laws_toIndexS_l0 0 v0 v3 v4 = none := by kernel_rfl
theorem laws_toIndexS_l0_succ (k : Nat) (v0 : (Ty.den T79)) (v3 : (Ty.den (.sl T146))) (v4 : (Ty.den T3)) : laws_toIndexS_l0 (k + 1) v0 v3 v4 = br (decide (v4 < (↑(List.length v0) : Int))) (br (decide (0 ≤ v4)) (br (decide (v4 < (↑(List.length v0) : Int))) (bnd (laws_toIndex k (List.getD v0 (Int.toNat v4) T258.zero)) (fun y1 => br (decide (0 ≤ v4)) (br (decide (v4 < (↑(List.length v3) : Int))) (laws_toIndexS_l0 k v0 (List.set v3 (Int.toNat v4) y1) (IntKind.i64.wrap (v4 + 1))) (none)) (none))) (none)) (none)) (some v3) := by kernel_rfl
noncomputable def c_laws_toIndexS : Con := ⟨[.val T79], [T89], fun k x => laws_toIndexS k x.1⟩
theorem del_laws_toIndexS {w0 : World} (hS : Stops w0) : DelOk Try.prog w0 d_laws_toIndexS := .cons (ok_laws_toIndex hS) ent_laws_toIndex (.nil)
theorem ok_laws_toIndexS {w0 : World} (hS : Stops w0) : ConOk Try.prog w0 121 c_laws_toIndexS := fn_sound (A := a_laws_toIndexS) tab_ok (del_laws_toIndexS hS) (draws (del_laws_toIndexS hS)) Try.func121 (by kernel_rfl) fun _ _ => rfl
theorem ent_laws_toIndexS : Enters' Try.prog 121 := enters' Try.func121 (by kernel_rfl)
attribute [irreducible] laws_toIndexS laws_toIndexS_l0

/-! ### laws_toTable: function 38 -/
def a_laws_toTable : Ann := ⟨[], []⟩
noncomputable def d_laws_toTable : List (Nat × Con) := [(101, c_laws_toIntS), (120, c_laws_toColumnS), (121, c_laws_toIndexS)]
noncomputable def laws_toTable (k : Nat) (a : (Ty.den T81)) : Option (den1 [T91]) := evFn Γ d_laws_toTable a_laws_toTable Try.f38 [.val T81] [T91] k (a, ())
theorem laws_toTable_eq (k : Nat) (a : (Ty.den T81)) : laws_toTable k a = bnd (laws_toColumnS k a.2.2.2.1) (fun y1 => bnd (laws_toIntS k a.2.2.2.2.1) (fun y2 => bnd (laws_toIndexS k a.2.2.2.2.2.1) (fun y3 => some (a.1, a.2.1, a.2.2.1, y1, y2, y3, ())))) := by kernel_rfl
noncomputable def c_laws_toTable : Con := ⟨[.val T81], [T91], fun k x => laws_toTable k x.1⟩
theorem del_laws_toTable {w0 : World} (hS : Stops w0) : DelOk Try.prog w0 d_laws_toTable := .cons (ok_laws_toIntS hS) ent_laws_toIntS (.cons (ok_laws_toColumnS hS) ent_laws_toColumnS (.cons (ok_laws_toIndexS hS) ent_laws_toIndexS (.nil)))
theorem ok_laws_toTable {w0 : World} (hS : Stops w0) : ConOk Try.prog w0 38 c_laws_toTable := fn_sound (A := a_laws_toTable) tab_ok (del_laws_toTable hS) (draws (del_laws_toTable hS)) Try.func38 (by kernel_rfl) fun _ _ => rfl
theorem ent_laws_toTable : Enters' Try.prog 38 := enters' Try.func38 (by kernel_rfl)
attribute [irreducible] laws_toTable

/-! ### laws_toTableS: function 25 -/
def a_laws_toTableS : Ann := ⟨[(0, [.val 0 T55, .row 3 91 T91, .val 4 T3], ⟨[.row 3 91 T91], true⟩)], []⟩
noncomputable def d_laws_toTableS : List (Nat × Con) := [(38, c_laws_toTable)]
noncomputable def laws_toTableS (k : Nat) (a : (Ty.den T55)) : Option (den1 [T57]) := evFn Γ d_laws_toTableS a_laws_toTableS Try.f25 [.val T55] [T57] k (a, ())
noncomputable def laws_toTableS_l0 (k : Nat) (v0 : (Ty.den T55)) (v3 : (Ty.den (.sl T91))) (v4 : (Ty.den T3)) : Option (Items.den [.row 3 91 T91]) := loopQ (ρ := (den1 [T57])) 0 [.val 0 T55, .row 3 91 T91, .val 4 T3] [.row 3 91 T91] (runOf Γ d_laws_toTableS a_laws_toTableS Try.f25 [T57] 0) k (v0, v3, v4)
theorem laws_toTableS_eq (k : Nat) (a : (Ty.den T55)) : laws_toTableS k a = br ((↑(List.length a) : Int) == (↑(List.length a) : Int)) (br (decide (0 ≤ (↑(List.length a) : Int))) (br (decide ((↑(List.length a) : Int) ≤ (↑capN : Int))) (bnd (laws_toTableS_l0 k a (List.replicate (↑(List.length a) : Int).toNat (T3.pair (T9.pair (T3.pair (T88.pair (T25.pair (T89.pair Ty.unit)))))).zero) 0) (fun y1 => some y1)) (none)) (none)) (none) := by kernel_rfl
theorem laws_toTableS_l0_zero (v0 : (Ty.den T55)) (v3 : (Ty.den (.sl T91))) (v4 : (Ty.den T3)) : laws_toTableS_l0 0 v0 v3 v4 = none := by kernel_rfl
theorem laws_toTableS_l0_succ (k : Nat) (v0 : (Ty.den T55)) (v3 : (Ty.den (.sl T91))) (v4 : (Ty.den T3)) : laws_toTableS_l0 (k + 1) v0 v3 v4 = br (decide (v4 < (↑(List.length v0) : Int))) (br (decide (0 ≤ v4)) (br (decide (v4 < (↑(List.length v0) : Int))) (bnd (laws_toTable k (List.getD v0 (Int.toNat v4) T81.zero)) (fun y1 => br (decide (0 ≤ v4)) (br (decide (v4 < (↑(List.length v3) : Int))) (laws_toTableS_l0 k v0 (List.set v3 (Int.toNat v4) y1) (IntKind.i64.wrap (v4 + 1))) (none)) (none))) (none)) (none)) (some v3) := by kernel_rfl
noncomputable def c_laws_toTableS : Con := ⟨[.val T55], [T57], fun k x => laws_toTableS k x.1⟩
theorem del_laws_toTableS {w0 : World} (hS : Stops w0) : DelOk Try.prog w0 d_laws_toTableS := .cons (ok_laws_toTable hS) ent_laws_toTable (.nil)
theorem ok_laws_toTableS {w0 : World} (hS : Stops w0) : ConOk Try.prog w0 25 c_laws_toTableS := fn_sound (A := a_laws_toTableS) tab_ok (del_laws_toTableS hS) (draws (del_laws_toTableS hS)) Try.func25 (by kernel_rfl) fun _ _ => rfl
theorem ent_laws_toTableS : Enters' Try.prog 25 := enters' Try.func25 (by kernel_rfl)
attribute [irreducible] laws_toTableS laws_toTableS_l0

/-! ### laws_eqIntS: function 58 -/
def a_laws_eqIntS : Ann := ⟨[(0, [.val 0 T25, .val 1 T25, .val 5 T3], ⟨[], false⟩)], []⟩
noncomputable def d_laws_eqIntS : List (Nat × Con) := []
noncomputable def laws_eqIntS (k : Nat) (a : (Ty.den T25)) (b : (Ty.den T25)) : Option (den1 [T4]) := evFn Γ d_laws_eqIntS a_laws_eqIntS Try.f58 [.val T25, .val T25] [T4] k (a, b, ())
noncomputable def laws_eqIntS_l0 (k : Nat) (v0 : (Ty.den T25)) (v1 : (Ty.den T25)) (v5 : (Ty.den T3)) : Option ((Items.den []) ⊕ (den1 [T4])) := loopR (ρ := (den1 [T4])) 0 [.val 0 T25, .val 1 T25, .val 5 T3] [] (runOf Γ d_laws_eqIntS a_laws_eqIntS Try.f58 [T4] 0) k (v0, v1, v5)
theorem laws_eqIntS_eq (k : Nat) (a : (Ty.den T25)) (b : (Ty.den T25)) : laws_eqIntS k a b = br ((↑(List.length a) : Int) != (↑(List.length b) : Int)) (some false) (bnd (laws_eqIntS_l0 k a b 0) (fun y1 => onSum y1 (fun y2 => some true) (fun y2 => some y2))) := by kernel_rfl
theorem laws_eqIntS_l0_zero (v0 : (Ty.den T25)) (v1 : (Ty.den T25)) (v5 : (Ty.den T3)) : laws_eqIntS_l0 0 v0 v1 v5 = none := by kernel_rfl
theorem laws_eqIntS_l0_succ (k : Nat) (v0 : (Ty.den T25)) (v1 : (Ty.den T25)) (v5 : (Ty.den T3)) : laws_eqIntS_l0 (k + 1) v0 v1 v5 = br (decide (v5 < (↑(List.length v0) : Int))) (br (decide (0 ≤ v5)) (br (decide (v5 < (↑(List.length v0) : Int))) (br (decide (0 ≤ v5)) (br (decide (v5 < (↑(List.length v1) : Int))) (br (List.getD v0 (Int.toNat v5) T3.zero != List.getD v1 (Int.toNat v5) T3.zero) (some (Sum.inr false)) (laws_eqIntS_l0 k v0 v1 (IntKind.i64.wrap (v5 + 1)))) (none)) (none)) (none)) (none)) (some (Sum.inl ())) := by kernel_rfl
noncomputable def c_laws_eqIntS : Con := ⟨[.val T25, .val T25], [T4], fun k x => laws_eqIntS k x.1 x.2.1⟩
theorem del_laws_eqIntS {w0 : World} (hS : Stops w0) : DelOk Try.prog w0 d_laws_eqIntS := .nil
theorem ok_laws_eqIntS {w0 : World} (hS : Stops w0) : ConOk Try.prog w0 58 c_laws_eqIntS := fn_sound (A := a_laws_eqIntS) tab_ok (del_laws_eqIntS hS) (draws (del_laws_eqIntS hS)) Try.func58 (by kernel_rfl) fun _ _ => rfl
theorem ent_laws_eqIntS : Enters' Try.prog 58 := enters' Try.func58 (by kernel_rfl)
attribute [irreducible] laws_eqIntS laws_eqIntS_l0

/-! ### laws_eqColumn: function 205 -/
def a_laws_eqColumn : Ann := ⟨[], []⟩
noncomputable def d_laws_eqColumn : List (Nat × Con) := []
noncomputable def laws_eqColumn (k : Nat) (a : (Ty.den T167)) (b : (Ty.den T167)) : Option (den1 [T4]) := evFn Γ d_laws_eqColumn a_laws_eqColumn Try.f205 [.val T167, .val T167] [T4] k (a, b, ())
theorem laws_eqColumn_eq (k : Nat) (a : (Ty.den T167)) (b : (Ty.den T167)) : laws_eqColumn k a b = br (a.1 != b.1) (some false) (br (!a.2.1 == b.2.1) (some false) (br (a.2.2.1 != b.2.2.1) (some false) (br (!a.2.2.2.1 == b.2.2.2.1) (some false) (some true)))) := by kernel_rfl
noncomputable def c_laws_eqColumn : Con := ⟨[.val T167, .val T167], [T4], fun k x => laws_eqColumn k x.1 x.2.1⟩
theorem del_laws_eqColumn {w0 : World} (hS : Stops w0) : DelOk Try.prog w0 d_laws_eqColumn := .nil
theorem ok_laws_eqColumn {w0 : World} (hS : Stops w0) : ConOk Try.prog w0 205 c_laws_eqColumn := fn_sound (A := a_laws_eqColumn) tab_ok (del_laws_eqColumn hS) (draws (del_laws_eqColumn hS)) Try.func205 (by kernel_rfl) fun _ _ => rfl
theorem ent_laws_eqColumn : Enters' Try.prog 205 := enters' Try.func205 (by kernel_rfl)
attribute [irreducible] laws_eqColumn

/-! ### laws_eqColumnS: function 130 -/
def a_laws_eqColumnS : Ann := ⟨[(0, [.val 0 T88, .val 1 T88, .val 5 T3], ⟨[], false⟩)], []⟩
noncomputable def d_laws_eqColumnS : List (Nat × Con) := [(205, c_laws_eqColumn)]
noncomputable def laws_eqColumnS (k : Nat) (a : (Ty.den T88)) (b : (Ty.den T88)) : Option (den1 [T4]) := evFn Γ d_laws_eqColumnS a_laws_eqColumnS Try.f130 [.val T88, .val T88] [T4] k (a, b, ())
noncomputable def laws_eqColumnS_l0 (k : Nat) (v0 : (Ty.den T88)) (v1 : (Ty.den T88)) (v5 : (Ty.den T3)) : Option ((Items.den []) ⊕ (den1 [T4])) := loopR (ρ := (den1 [T4])) 0 [.val 0 T88, .val 1 T88, .val 5 T3] [] (runOf Γ d_laws_eqColumnS a_laws_eqColumnS Try.f130 [T4] 0) k (v0, v1, v5)
theorem laws_eqColumnS_eq (k : Nat) (a : (Ty.den T88)) (b : (Ty.den T88)) : laws_eqColumnS k a b = br ((↑(List.length a) : Int) != (↑(List.length b) : Int)) (some false) (bnd (laws_eqColumnS_l0 k a b 0) (fun y1 => onSum y1 (fun y2 => some true) (fun y2 => some y2))) := by kernel_rfl
theorem laws_eqColumnS_l0_zero (v0 : (Ty.den T88)) (v1 : (Ty.den T88)) (v5 : (Ty.den T3)) : laws_eqColumnS_l0 0 v0 v1 v5 = none := by kernel_rfl
theorem laws_eqColumnS_l0_succ (k : Nat) (v0 : (Ty.den T88)) (v1 : (Ty.den T88)) (v5 : (Ty.den T3)) : laws_eqColumnS_l0 (k + 1) v0 v1 v5 = br (decide (v5 < (↑(List.length v0) : Int))) (br (decide (0 ≤ v5)) (br (decide (v5 < (↑(List.length v0) : Int))) (br (decide (0 ≤ v5)) (br (decide (v5 < (↑(List.length v1) : Int))) (bnd (laws_eqColumn k (List.getD v0 (Int.toNat v5) T167.zero) (List.getD v1 (Int.toNat v5) T167.zero)) (fun y1 => br (!y1) (some (Sum.inr false)) (laws_eqColumnS_l0 k v0 v1 (IntKind.i64.wrap (v5 + 1))))) (none)) (none)) (none)) (none)) (some (Sum.inl ())) := by kernel_rfl
noncomputable def c_laws_eqColumnS : Con := ⟨[.val T88, .val T88], [T4], fun k x => laws_eqColumnS k x.1 x.2.1⟩
theorem del_laws_eqColumnS {w0 : World} (hS : Stops w0) : DelOk Try.prog w0 d_laws_eqColumnS := .cons (ok_laws_eqColumn hS) ent_laws_eqColumn (.nil)
theorem ok_laws_eqColumnS {w0 : World} (hS : Stops w0) : ConOk Try.prog w0 130 c_laws_eqColumnS := fn_sound (A := a_laws_eqColumnS) tab_ok (del_laws_eqColumnS hS) (draws (del_laws_eqColumnS hS)) Try.func130 (by kernel_rfl) fun _ _ => rfl
theorem ent_laws_eqColumnS : Enters' Try.prog 130 := enters' Try.func130 (by kernel_rfl)
attribute [irreducible] laws_eqColumnS laws_eqColumnS_l0

/-! ### laws_eqIndex: function 206 -/
def a_laws_eqIndex : Ann := ⟨[], []⟩
noncomputable def d_laws_eqIndex : List (Nat × Con) := [(58, c_laws_eqIntS)]
noncomputable def laws_eqIndex (k : Nat) (a : (Ty.den T146)) (b : (Ty.den T146)) : Option (den1 [T4]) := evFn Γ d_laws_eqIndex a_laws_eqIndex Try.f206 [.val T146, .val T146] [T4] k (a, b, ())
theorem laws_eqIndex_eq (k : Nat) (a : (Ty.den T146)) (b : (Ty.den T146)) : laws_eqIndex k a b = br (a.1 != b.1) (some false) (br (!a.2.1 == b.2.1) (some false) (bnd (laws_eqIntS k a.2.2.1 b.2.2.1) (fun y1 => br (!y1) (some false) (br (!a.2.2.2.1 == b.2.2.2.1) (some false) (br (a.2.2.2.2.1 != b.2.2.2.2.1) (some false) (br (!a.2.2.2.2.2.1 == b.2.2.2.2.2.1) (some false) (some true))))))) := by kernel_rfl
noncomputable def c_laws_eqIndex : Con := ⟨[.val T146, .val T146], [T4], fun k x => laws_eqIndex k x.1 x.2.1⟩
theorem del_laws_eqIndex {w0 : World} (hS : Stops w0) : DelOk Try.prog w0 d_laws_eqIndex := .cons (ok_laws_eqIntS hS) ent_laws_eqIntS (.nil)
theorem ok_laws_eqIndex {w0 : World} (hS : Stops w0) : ConOk Try.prog w0 206 c_laws_eqIndex := fn_sound (A := a_laws_eqIndex) tab_ok (del_laws_eqIndex hS) (draws (del_laws_eqIndex hS)) Try.func206 (by kernel_rfl) fun _ _ => rfl
theorem ent_laws_eqIndex : Enters' Try.prog 206 := enters' Try.func206 (by kernel_rfl)
attribute [irreducible] laws_eqIndex

/-! ### laws_eqIndexS: function 131 -/
def a_laws_eqIndexS : Ann := ⟨[(0, [.val 0 T89, .val 1 T89, .val 5 T3], ⟨[], false⟩)], []⟩
noncomputable def d_laws_eqIndexS : List (Nat × Con) := [(206, c_laws_eqIndex)]
noncomputable def laws_eqIndexS (k : Nat) (a : (Ty.den T89)) (b : (Ty.den T89)) : Option (den1 [T4]) := evFn Γ d_laws_eqIndexS a_laws_eqIndexS Try.f131 [.val T89, .val T89] [T4] k (a, b, ())
noncomputable def laws_eqIndexS_l0 (k : Nat) (v0 : (Ty.den T89)) (v1 : (Ty.den T89)) (v5 : (Ty.den T3)) : Option ((Items.den []) ⊕ (den1 [T4])) := loopR (ρ := (den1 [T4])) 0 [.val 0 T89, .val 1 T89, .val 5 T3] [] (runOf Γ d_laws_eqIndexS a_laws_eqIndexS Try.f131 [T4] 0) k (v0, v1, v5)
theorem laws_eqIndexS_eq (k : Nat) (a : (Ty.den T89)) (b : (Ty.den T89)) : laws_eqIndexS k a b = br ((↑(List.length a) : Int) != (↑(List.length b) : Int)) (some false) (bnd (laws_eqIndexS_l0 k a b 0) (fun y1 => onSum y1 (fun y2 => some true) (fun y2 => some y2))) := by kernel_rfl
theorem laws_eqIndexS_l0_zero (v0 : (Ty.den T89)) (v1 : (Ty.den T89)) (v5 : (Ty.den T3)) : laws_eqIndexS_l0 0 v0 v1 v5 = none := by kernel_rfl
theorem laws_eqIndexS_l0_succ (k : Nat) (v0 : (Ty.den T89)) (v1 : (Ty.den T89)) (v5 : (Ty.den T3)) : laws_eqIndexS_l0 (k + 1) v0 v1 v5 = br (decide (v5 < (↑(List.length v0) : Int))) (br (decide (0 ≤ v5)) (br (decide (v5 < (↑(List.length v0) : Int))) (br (decide (0 ≤ v5)) (br (decide (v5 < (↑(List.length v1) : Int))) (bnd (laws_eqIndex k (List.getD v0 (Int.toNat v5) T146.zero) (List.getD v1 (Int.toNat v5) T146.zero)) (fun y1 => br (!y1) (some (Sum.inr false)) (laws_eqIndexS_l0 k v0 v1 (IntKind.i64.wrap (v5 + 1))))) (none)) (none)) (none)) (none)) (some (Sum.inl ())) := by kernel_rfl
noncomputable def c_laws_eqIndexS : Con := ⟨[.val T89, .val T89], [T4], fun k x => laws_eqIndexS k x.1 x.2.1⟩
theorem del_laws_eqIndexS {w0 : World} (hS : Stops w0) : DelOk Try.prog w0 d_laws_eqIndexS := .cons (ok_laws_eqIndex hS) ent_laws_eqIndex (.nil)
theorem ok_laws_eqIndexS {w0 : World} (hS : Stops w0) : ConOk Try.prog w0 131 c_laws_eqIndexS := fn_sound (A := a_laws_eqIndexS) tab_ok (del_laws_eqIndexS hS) (draws (del_laws_eqIndexS hS)) Try.func131 (by kernel_rfl) fun _ _ => rfl
theorem ent_laws_eqIndexS : Enters' Try.prog 131 := enters' Try.func131 (by kernel_rfl)
attribute [irreducible] laws_eqIndexS laws_eqIndexS_l0

/-! ### laws_eqTable: function 42 -/
def a_laws_eqTable : Ann := ⟨[], []⟩
noncomputable def d_laws_eqTable : List (Nat × Con) := [(58, c_laws_eqIntS), (130, c_laws_eqColumnS), (131, c_laws_eqIndexS)]
noncomputable def laws_eqTable (k : Nat) (a : (Ty.den T91)) (b : (Ty.den T91)) : Option (den1 [T4]) := evFn Γ d_laws_eqTable a_laws_eqTable Try.f42 [.val T91, .val T91] [T4] k (a, b, ())
theorem laws_eqTable_eq (k : Nat) (a : (Ty.den T91)) (b : (Ty.den T91)) : laws_eqTable k a b = br (a.1 != b.1) (some false) (br (!a.2.1 == b.2.1) (some false) (br (a.2.2.1 != b.2.2.1) (some false) (bnd (laws_eqColumnS k a.2.2.2.1 b.2.2.2.1) (fun y1 => br (!y1) (some false) (bnd (laws_eqIntS k a.2.2.2.2.1 b.2.2.2.2.1) (fun y2 => br (!y2) (some false) (bnd (laws_eqIndexS k a.2.2.2.2.2.1 b.2.2.2.2.2.1) (fun y3 => br (!y3) (some false) (some true))))))))) := by kernel_rfl
noncomputable def c_laws_eqTable : Con := ⟨[.val T91, .val T91], [T4], fun k x => laws_eqTable k x.1 x.2.1⟩
theorem del_laws_eqTable {w0 : World} (hS : Stops w0) : DelOk Try.prog w0 d_laws_eqTable := .cons (ok_laws_eqIntS hS) ent_laws_eqIntS (.cons (ok_laws_eqColumnS hS) ent_laws_eqColumnS (.cons (ok_laws_eqIndexS hS) ent_laws_eqIndexS (.nil)))
theorem ok_laws_eqTable {w0 : World} (hS : Stops w0) : ConOk Try.prog w0 42 c_laws_eqTable := fn_sound (A := a_laws_eqTable) tab_ok (del_laws_eqTable hS) (draws (del_laws_eqTable hS)) Try.func42 (by kernel_rfl) fun _ _ => rfl
theorem ent_laws_eqTable : Enters' Try.prog 42 := enters' Try.func42 (by kernel_rfl)
attribute [irreducible] laws_eqTable

/-! ### laws_eqTableS: function 27 -/
def a_laws_eqTableS : Ann := ⟨[(0, [.val 0 T57, .val 1 T57, .val 5 T3], ⟨[], false⟩)], []⟩
noncomputable def d_laws_eqTableS : List (Nat × Con) := [(42, c_laws_eqTable)]
noncomputable def laws_eqTableS (k : Nat) (a : (Ty.den T57)) (b : (Ty.den T57)) : Option (den1 [T4]) := evFn Γ d_laws_eqTableS a_laws_eqTableS Try.f27 [.val T57, .val T57] [T4] k (a, b, ())
noncomputable def laws_eqTableS_l0 (k : Nat) (v0 : (Ty.den T57)) (v1 : (Ty.den T57)) (v5 : (Ty.den T3)) : Option ((Items.den []) ⊕ (den1 [T4])) := loopR (ρ := (den1 [T4])) 0 [.val 0 T57, .val 1 T57, .val 5 T3] [] (runOf Γ d_laws_eqTableS a_laws_eqTableS Try.f27 [T4] 0) k (v0, v1, v5)
theorem laws_eqTableS_eq (k : Nat) (a : (Ty.den T57)) (b : (Ty.den T57)) : laws_eqTableS k a b = br ((↑(List.length a) : Int) != (↑(List.length b) : Int)) (some false) (bnd (laws_eqTableS_l0 k a b 0) (fun y1 => onSum y1 (fun y2 => some true) (fun y2 => some y2))) := by kernel_rfl
theorem laws_eqTableS_l0_zero (v0 : (Ty.den T57)) (v1 : (Ty.den T57)) (v5 : (Ty.den T3)) : laws_eqTableS_l0 0 v0 v1 v5 = none := by kernel_rfl
theorem laws_eqTableS_l0_succ (k : Nat) (v0 : (Ty.den T57)) (v1 : (Ty.den T57)) (v5 : (Ty.den T3)) : laws_eqTableS_l0 (k + 1) v0 v1 v5 = br (decide (v5 < (↑(List.length v0) : Int))) (br (decide (0 ≤ v5)) (br (decide (v5 < (↑(List.length v0) : Int))) (br (decide (0 ≤ v5)) (br (decide (v5 < (↑(List.length v1) : Int))) (bnd (laws_eqTable k (List.getD v0 (Int.toNat v5) T91.zero) (List.getD v1 (Int.toNat v5) T91.zero)) (fun y1 => br (!y1) (some (Sum.inr false)) (laws_eqTableS_l0 k v0 v1 (IntKind.i64.wrap (v5 + 1))))) (none)) (none)) (none)) (none)) (some (Sum.inl ())) := by kernel_rfl
noncomputable def c_laws_eqTableS : Con := ⟨[.val T57, .val T57], [T4], fun k x => laws_eqTableS k x.1 x.2.1⟩
theorem del_laws_eqTableS {w0 : World} (hS : Stops w0) : DelOk Try.prog w0 d_laws_eqTableS := .cons (ok_laws_eqTable hS) ent_laws_eqTable (.nil)
theorem ok_laws_eqTableS {w0 : World} (hS : Stops w0) : ConOk Try.prog w0 27 c_laws_eqTableS := fn_sound (A := a_laws_eqTableS) tab_ok (del_laws_eqTableS hS) (draws (del_laws_eqTableS hS)) Try.func27 (by kernel_rfl) fun _ _ => rfl
theorem ent_laws_eqTableS : Enters' Try.prog 27 := enters' Try.func27 (by kernel_rfl)
attribute [irreducible] laws_eqTableS laws_eqTableS_l0

/-! ### laws_szStringS: function 90 -/
def a_laws_szStringS : Ann := ⟨[(0, [.val 0 T64, .val 1 T3, .val 5 T3], ⟨[.val 1 T3], false⟩)], []⟩
noncomputable def d_laws_szStringS : List (Nat × Con) := []
noncomputable def laws_szStringS (k : Nat) (a : (Ty.den T64)) (b : (Ty.den T3)) : Option (den1 [T3]) := evFn Γ d_laws_szStringS a_laws_szStringS Try.f90 [.val T64, .val T3] [T3] k (a, b, ())
noncomputable def laws_szStringS_l0 (k : Nat) (v0 : (Ty.den T64)) (v1 : (Ty.den T3)) (v5 : (Ty.den T3)) : Option ((Items.den [.val 1 T3]) ⊕ (den1 [T3])) := loopR (ρ := (den1 [T3])) 0 [.val 0 T64, .val 1 T3, .val 5 T3] [.val 1 T3] (runOf Γ d_laws_szStringS a_laws_szStringS Try.f90 [T3] 0) k (v0, v1, v5)
theorem laws_szStringS_eq (k : Nat) (a : (Ty.den T64)) (b : (Ty.den T3)) : laws_szStringS k a b = br (decide (IntKind.i64.wrap (b - (↑(List.length a) : Int)) < 0)) (some (-1)) (bnd (laws_szStringS_l0 k a (IntKind.i64.wrap (b - (↑(List.length a) : Int))) 0) (fun y1 => onSum y1 (fun y2 => some y2) (fun y2 => some y2))) := by kernel_rfl
theorem laws_szStringS_l0_zero (v0 : (Ty.den T64)) (v1 : (Ty.den T3)) (v5 : (Ty.den T3)) : laws_szStringS_l0 0 v0 v1 v5 = none := by kernel_rfl
theorem laws_szStringS_l0_succ (k : Nat) (v0 : (Ty.den T64)) (v1 : (Ty.den T3)) (v5 : (Ty.den T3)) : laws_szStringS_l0 (k + 1) v0 v1 v5 = br (decide (v5 < (↑(List.length v0) : Int))) (br (decide (0 ≤ v5)) (br (decide (v5 < (↑(List.length v0) : Int))) (br (decide (IntKind.i64.wrap (v1 - (↑(List.length (List.getD v0 (Int.toNat v5) T9.zero)) : Int)) < 0)) (some (Sum.inr (-1))) (laws_szStringS_l0 k v0 (IntKind.i64.wrap (v1 - (↑(List.length (List.getD v0 (Int.toNat v5) T9.zero)) : Int))) (IntKind.i64.wrap (v5 + 1)))) (none)) (none)) (some (Sum.inl v1)) := by kernel_rfl
noncomputable def c_laws_szStringS : Con := ⟨[.val T64, .val T3], [T3], fun k x => laws_szStringS k x.1 x.2.1⟩
theorem del_laws_szStringS {w0 : World} (hS : Stops w0) : DelOk Try.prog w0 d_laws_szStringS := .nil
theorem ok_laws_szStringS {w0 : World} (hS : Stops w0) : ConOk Try.prog w0 90 c_laws_szStringS := fn_sound (A := a_laws_szStringS) tab_ok (del_laws_szStringS hS) (draws (del_laws_szStringS hS)) Try.func90 (by kernel_rfl) fun _ _ => rfl
theorem ent_laws_szStringS : Enters' Try.prog 90 := enters' Try.func90 (by kernel_rfl)
attribute [irreducible] laws_szStringS laws_szStringS_l0

/-! ### laws_szValue: function 207 -/
def a_laws_szValue : Ann := ⟨[], []⟩
noncomputable def d_laws_szValue : List (Nat × Con) := []
noncomputable def laws_szValue (k : Nat) (a : (Ty.den T245)) (b : (Ty.den T3)) : Option (den1 [T3]) := evFn Γ d_laws_szValue a_laws_szValue Try.f207 [.val T245, .val T3] [T3] k (a, b, ())
theorem laws_szValue_eq (k : Nat) (a : (Ty.den T245)) (b : (Ty.den T3)) : laws_szValue k a b = br (decide (IntKind.i64.wrap (b - (↑(List.length a.2.2.2.1) : Int)) < 0)) (some (-1)) (some (IntKind.i64.wrap (b - (↑(List.length a.2.2.2.1) : Int)))) := by kernel_rfl
noncomputable def c_laws_szValue : Con := ⟨[.val T245, .val T3], [T3], fun k x => laws_szValue k x.1 x.2.1⟩
theorem del_laws_szValue {w0 : World} (hS : Stops w0) : DelOk Try.prog w0 d_laws_szValue := .nil
theorem ok_laws_szValue {w0 : World} (hS : Stops w0) : ConOk Try.prog w0 207 c_laws_szValue := fn_sound (A := a_laws_szValue) tab_ok (del_laws_szValue hS) (draws (del_laws_szValue hS)) Try.func207 (by kernel_rfl) fun _ _ => rfl
theorem ent_laws_szValue : Enters' Try.prog 207 := enters' Try.func207 (by kernel_rfl)
attribute [irreducible] laws_szValue

/-! ### laws_szPred: function 178 -/
def a_laws_szPred : Ann := ⟨[], []⟩
noncomputable def d_laws_szPred : List (Nat × Con) := [(207, c_laws_szValue)]
noncomputable def laws_szPred (k : Nat) (a : (Ty.den T247)) (b : (Ty.den T3)) : Option (den1 [T3]) := evFn Γ d_laws_szPred a_laws_szPred Try.f178 [.val T247, .val T3] [T3] k (a, b, ())
theorem laws_szPred_eq (k : Nat) (a : (Ty.den T247)) (b : (Ty.den T3)) : laws_szPred k a b = br (decide (IntKind.i64.wrap (b - (↑(List.length a.1) : Int)) < 0)) (some (-1)) (bnd (laws_szValue k a.2.2.2.1 (IntKind.i64.wrap (b - (↑(List.length a.1) : Int)))) (fun y1 => br (decide (y1 < 0)) (some (-1)) (some y1))) := by kernel_rfl
noncomputable def c_laws_szPred : Con := ⟨[.val T247, .val T3], [T3], fun k x => laws_szPred k x.1 x.2.1⟩
theorem del_laws_szPred {w0 : World} (hS : Stops w0) : DelOk Try.prog w0 d_laws_szPred := .cons (ok_laws_szValue hS) ent_laws_szValue (.nil)
theorem ok_laws_szPred {w0 : World} (hS : Stops w0) : ConOk Try.prog w0 178 c_laws_szPred := fn_sound (A := a_laws_szPred) tab_ok (del_laws_szPred hS) (draws (del_laws_szPred hS)) Try.func178 (by kernel_rfl) fun _ _ => rfl
theorem ent_laws_szPred : Enters' Try.prog 178 := enters' Try.func178 (by kernel_rfl)
attribute [irreducible] laws_szPred

/-! ### laws_szPredS: function 91 -/
def a_laws_szPredS : Ann := ⟨[(0, [.val 0 T65, .val 1 T3, .val 5 T3], ⟨[.val 1 T3], false⟩)], []⟩
noncomputable def d_laws_szPredS : List (Nat × Con) := [(178, c_laws_szPred)]
noncomputable def laws_szPredS (k : Nat) (a : (Ty.den T65)) (b : (Ty.den T3)) : Option (den1 [T3]) := evFn Γ d_laws_szPredS a_laws_szPredS Try.f91 [.val T65, .val T3] [T3] k (a, b, ())
noncomputable def laws_szPredS_l0 (k : Nat) (v0 : (Ty.den T65)) (v1 : (Ty.den T3)) (v5 : (Ty.den T3)) : Option ((Items.den [.val 1 T3]) ⊕ (den1 [T3])) := loopR (ρ := (den1 [T3])) 0 [.val 0 T65, .val 1 T3, .val 5 T3] [.val 1 T3] (runOf Γ d_laws_szPredS a_laws_szPredS Try.f91 [T3] 0) k (v0, v1, v5)
theorem laws_szPredS_eq (k : Nat) (a : (Ty.den T65)) (b : (Ty.den T3)) : laws_szPredS k a b = br (decide (IntKind.i64.wrap (b - (↑(List.length a) : Int)) < 0)) (some (-1)) (bnd (laws_szPredS_l0 k a (IntKind.i64.wrap (b - (↑(List.length a) : Int))) 0) (fun y1 => onSum y1 (fun y2 => some y2) (fun y2 => some y2))) := by kernel_rfl
theorem laws_szPredS_l0_zero (v0 : (Ty.den T65)) (v1 : (Ty.den T3)) (v5 : (Ty.den T3)) : laws_szPredS_l0 0 v0 v1 v5 = none := by kernel_rfl
theorem laws_szPredS_l0_succ (k : Nat) (v0 : (Ty.den T65)) (v1 : (Ty.den T3)) (v5 : (Ty.den T3)) : laws_szPredS_l0 (k + 1) v0 v1 v5 = br (decide (v5 < (↑(List.length v0) : Int))) (br (decide (0 ≤ v5)) (br (decide (v5 < (↑(List.length v0) : Int))) (bnd (laws_szPred k (List.getD v0 (Int.toNat v5) T247.zero) v1) (fun y1 => br (decide (y1 < 0)) (some (Sum.inr (-1))) (laws_szPredS_l0 k v0 y1 (IntKind.i64.wrap (v5 + 1))))) (none)) (none)) (some (Sum.inl v1)) := by kernel_rfl
noncomputable def c_laws_szPredS : Con := ⟨[.val T65, .val T3], [T3], fun k x => laws_szPredS k x.1 x.2.1⟩
theorem del_laws_szPredS {w0 : World} (hS : Stops w0) : DelOk Try.prog w0 d_laws_szPredS := .cons (ok_laws_szPred hS) ent_laws_szPred (.nil)
theorem ok_laws_szPredS {w0 : World} (hS : Stops w0) : ConOk Try.prog w0 91 c_laws_szPredS := fn_sound (A := a_laws_szPredS) tab_ok (del_laws_szPredS hS) (draws (del_laws_szPredS hS)) Try.func91 (by kernel_rfl) fun _ _ => rfl
theorem ent_laws_szPredS : Enters' Try.prog 91 := enters' Try.func91 (by kernel_rfl)
attribute [irreducible] laws_szPredS laws_szPredS_l0

/-! ### laws_szOut: function 179 -/
def a_laws_szOut : Ann := ⟨[], []⟩
noncomputable def d_laws_szOut : List (Nat × Con) := []
noncomputable def laws_szOut (k : Nat) (a : (Ty.den T249)) (b : (Ty.den T3)) : Option (den1 [T3]) := evFn Γ d_laws_szOut a_laws_szOut Try.f179 [.val T249, .val T3] [T3] k (a, b, ())
theorem laws_szOut_eq (k : Nat) (a : (Ty.den T249)) (b : (Ty.den T3)) : laws_szOut k a b = br (decide (IntKind.i64.wrap (b - (↑(List.length a.1) : Int)) < 0)) (some (-1)) (some (IntKind.i64.wrap (b - (↑(List.length a.1) : Int)))) := by kernel_rfl
noncomputable def c_laws_szOut : Con := ⟨[.val T249, .val T3], [T3], fun k x => laws_szOut k x.1 x.2.1⟩
theorem del_laws_szOut {w0 : World} (hS : Stops w0) : DelOk Try.prog w0 d_laws_szOut := .nil
theorem ok_laws_szOut {w0 : World} (hS : Stops w0) : ConOk Try.prog w0 179 c_laws_szOut := fn_sound (A := a_laws_szOut) tab_ok (del_laws_szOut hS) (draws (del_laws_szOut hS)) Try.func179 (by kernel_rfl) fun _ _ => rfl
theorem ent_laws_szOut : Enters' Try.prog 179 := enters' Try.func179 (by kernel_rfl)
attribute [irreducible] laws_szOut

/-! ### laws_szOutS: function 93 -/
def a_laws_szOutS : Ann := ⟨[(0, [.val 0 T66, .val 1 T3, .val 5 T3], ⟨[.val 1 T3], false⟩)], []⟩
noncomputable def d_laws_szOutS : List (Nat × Con) := [(179, c_laws_szOut)]
noncomputable def laws_szOutS (k : Nat) (a : (Ty.den T66)) (b : (Ty.den T3)) : Option (den1 [T3]) := evFn Γ d_laws_szOutS a_laws_szOutS Try.f93 [.val T66, .val T3] [T3] k (a, b, ())
noncomputable def laws_szOutS_l0 (k : Nat) (v0 : (Ty.den T66)) (v1 : (Ty.den T3)) (v5 : (Ty.den T3)) : Option ((Items.den [.val 1 T3]) ⊕ (den1 [T3])) := loopR (ρ := (den1 [T3])) 0 [.val 0 T66, .val 1 T3, .val 5 T3] [.val 1 T3] (runOf Γ d_laws_szOutS a_laws_szOutS Try.f93 [T3] 0) k (v0, v1, v5)
theorem laws_szOutS_eq (k : Nat) (a : (Ty.den T66)) (b : (Ty.den T3)) : laws_szOutS k a b = br (decide (IntKind.i64.wrap (b - (↑(List.length a) : Int)) < 0)) (some (-1)) (bnd (laws_szOutS_l0 k a (IntKind.i64.wrap (b - (↑(List.length a) : Int))) 0) (fun y1 => onSum y1 (fun y2 => some y2) (fun y2 => some y2))) := by kernel_rfl
theorem laws_szOutS_l0_zero (v0 : (Ty.den T66)) (v1 : (Ty.den T3)) (v5 : (Ty.den T3)) : laws_szOutS_l0 0 v0 v1 v5 = none := by kernel_rfl
theorem laws_szOutS_l0_succ (k : Nat) (v0 : (Ty.den T66)) (v1 : (Ty.den T3)) (v5 : (Ty.den T3)) : laws_szOutS_l0 (k + 1) v0 v1 v5 = br (decide (v5 < (↑(List.length v0) : Int))) (br (decide (0 ≤ v5)) (br (decide (v5 < (↑(List.length v0) : Int))) (bnd (laws_szOut k (List.getD v0 (Int.toNat v5) T249.zero) v1) (fun y1 => br (decide (y1 < 0)) (some (Sum.inr (-1))) (laws_szOutS_l0 k v0 y1 (IntKind.i64.wrap (v5 + 1))))) (none)) (none)) (some (Sum.inl v1)) := by kernel_rfl
noncomputable def c_laws_szOutS : Con := ⟨[.val T66, .val T3], [T3], fun k x => laws_szOutS k x.1 x.2.1⟩
theorem del_laws_szOutS {w0 : World} (hS : Stops w0) : DelOk Try.prog w0 d_laws_szOutS := .cons (ok_laws_szOut hS) ent_laws_szOut (.nil)
theorem ok_laws_szOutS {w0 : World} (hS : Stops w0) : ConOk Try.prog w0 93 c_laws_szOutS := fn_sound (A := a_laws_szOutS) tab_ok (del_laws_szOutS hS) (draws (del_laws_szOutS hS)) Try.func93 (by kernel_rfl) fun _ _ => rfl
theorem ent_laws_szOutS : Enters' Try.prog 93 := enters' Try.func93 (by kernel_rfl)
attribute [irreducible] laws_szOutS laws_szOutS_l0

/-! ### laws_szFlat: function 30 -/
def a_laws_szFlat : Ann := ⟨[], []⟩
noncomputable def d_laws_szFlat : List (Nat × Con) := [(90, c_laws_szStringS), (91, c_laws_szPredS), (92, c_laws_szIntS), (93, c_laws_szOutS)]
noncomputable def laws_szFlat (k : Nat) (a : (Ty.den T68)) (b : (Ty.den T3)) : Option (den1 [T3]) := evFn Γ d_laws_szFlat a_laws_szFlat Try.f30 [.val T68, .val T3] [T3] k (a, b, ())
theorem laws_szFlat_eq (k : Nat) (a : (Ty.den T68)) (b : (Ty.den T3)) : laws_szFlat k a b = bnd (laws_szStringS k a.1 b) (fun y1 => br (decide (y1 < 0)) (some (-1)) (bnd (laws_szPredS k a.2.1 y1) (fun y2 => br (decide (y2 < 0)) (some (-1)) (bnd (laws_szIntS k a.2.2.1 y2) (fun y3 => br (decide (y3 < 0)) (some (-1)) (bnd (laws_szOutS k a.2.2.2.1 y3) (fun y4 => br (decide (y4 < 0)) (some (-1)) (some y4)))))))) := by kernel_rfl
noncomputable def c_laws_szFlat : Con := ⟨[.val T68, .val T3], [T3], fun k x => laws_szFlat k x.1 x.2.1⟩
theorem del_laws_szFlat {w0 : World} (hS : Stops w0) : DelOk Try.prog w0 d_laws_szFlat := .cons (ok_laws_szStringS hS) ent_laws_szStringS (.cons (ok_laws_szPredS hS) ent_laws_szPredS (.cons (ok_laws_szIntS hS) ent_laws_szIntS (.cons (ok_laws_szOutS hS) ent_laws_szOutS (.nil))))
theorem ok_laws_szFlat {w0 : World} (hS : Stops w0) : ConOk Try.prog w0 30 c_laws_szFlat := fn_sound (A := a_laws_szFlat) tab_ok (del_laws_szFlat hS) (draws (del_laws_szFlat hS)) Try.func30 (by kernel_rfl) fun _ _ => rfl
theorem ent_laws_szFlat : Enters' Try.prog 30 := enters' Try.func30 (by kernel_rfl)
attribute [irreducible] laws_szFlat

/-! ### spec_l09Index: function 174 -/
def a_spec_l09Index : Ann := ⟨[(0, [.val 1 T9, .var 2 T91 [], .val 5 T3], ⟨[], false⟩)], []⟩
noncomputable def d_spec_l09Index : List (Nat × Con) := []
noncomputable def spec_l09Index (k : Nat) (a : (Ty.den T91)) (b : (Ty.den T9)) : Option (den1 [T3]) := evFn Γ d_spec_l09Index a_spec_l09Index Try.f174 [.val T91, .val T9] [T3] k (a, b, ())
noncomputable def spec_l09Index_l0 (k : Nat) (v1 : (Ty.den T9)) (v2 : (Ty.den T91)) (v5 : (Ty.den T3)) : Option ((Items.den []) ⊕ (den1 [T3])) := loopR (ρ := (den1 [T3])) 0 [.val 1 T9, .var 2 T91 [], .val 5 T3] [] (runOf Γ d_spec_l09Index a_spec_l09Index Try.f174 [T3] 0) k (v1, v2, v5)
theorem spec_l09Index_eq (k : Nat) (a : (Ty.den T91)) (b : (Ty.den T9)) : spec_l09Index k a b = bnd (spec_l09Index_l0 k b a 0) (fun y1 => onSum y1 (fun y2 => some (-1)) (fun y2 => some y2)) := by kernel_rfl
theorem spec_l09Index_l0_zero (v1 : (Ty.den T9)) (v2 : (Ty.den T91)) (v5 : (Ty.den T3)) : spec_l09Index_l0 0 v1 v2 v5 = none := by kernel_rfl
theorem spec_l09Index_l0_succ (k : Nat) (v1 : (Ty.den T9)) (v2 : (Ty.den T91)) (v5 : (Ty.den T3)) : spec_l09Index_l0 (k + 1) v1 v2 v5 = br (decide (v5 < (↑(List.length v2.2.2.2.2.2.1) : Int))) (br (decide (0 ≤ v5)) (br (decide (v5 < (↑(List.length v2.2.2.2.2.2.1) : Int))) (br ((List.getD v2.2.2.2.2.2.1 (Int.toNat v5) T146.zero).2.1 == v1) (some (Sum.inr v5)) (spec_l09Index_l0 k v1 v2 (IntKind.i64.wrap (v5 + 1)))) (none)) (none)) (some (Sum.inl ())) := by kernel_rfl
noncomputable def c_spec_l09Index : Con := ⟨[.val T91, .val T9], [T3], fun k x => spec_l09Index k x.1 x.2.1⟩
theorem del_spec_l09Index {w0 : World} (hS : Stops w0) : DelOk Try.prog w0 d_spec_l09Index := .nil
theorem ok_spec_l09Index {w0 : World} (hS : Stops w0) : ConOk Try.prog w0 174 c_spec_l09Index := fn_sound (A := a_spec_l09Index) tab_ok (del_spec_l09Index hS) (draws (del_spec_l09Index hS)) Try.func174 (by kernel_rfl) fun _ _ => rfl
theorem ent_spec_l09Index : Enters' Try.prog 174 := enters' Try.func174 (by kernel_rfl)
attribute [irreducible] spec_l09Index spec_l09Index_l0

/-! ### spec_l09Where: function 78 -/
def a_spec_l09Where : Ann := ⟨[(0, [.val 0 T57, .val 1 T9, .val 6 T3], ⟨[], false⟩)], []⟩
noncomputable def d_spec_l09Where : List (Nat × Con) := [(174, c_spec_l09Index)]
noncomputable def spec_l09Where (k : Nat) (a : (Ty.den T57)) (b : (Ty.den T9)) : Option (den1 [T3, T3]) := evFn Γ d_spec_l09Where a_spec_l09Where Try.f78 [.val T57, .val T9] [T3, T3] k (a, b, ())
noncomputable def spec_l09Where_l0 (k : Nat) (v0 : (Ty.den T57)) (v1 : (Ty.den T9)) (v6 : (Ty.den T3)) : Option ((Items.den []) ⊕ (den1 [T3, T3])) := loopR (ρ := (den1 [T3, T3])) 0 [.val 0 T57, .val 1 T9, .val 6 T3] [] (runOf Γ d_spec_l09Where a_spec_l09Where Try.f78 [T3, T3] 0) k (v0, v1, v6)
theorem spec_l09Where_eq (k : Nat) (a : (Ty.den T57)) (b : (Ty.den T9)) : spec_l09Where k a b = bnd (spec_l09Where_l0 k a b 0) (fun y1 => onSum y1 (fun y2 => some (-1, -1)) (fun y2 => some y2)) := by kernel_rfl
theorem spec_l09Where_l0_zero (v0 : (Ty.den T57)) (v1 : (Ty.den T9)) (v6 : (Ty.den T3)) : spec_l09Where_l0 0 v0 v1 v6 = none := by kernel_rfl
theorem spec_l09Where_l0_succ (k : Nat) (v0 : (Ty.den T57)) (v1 : (Ty.den T9)) (v6 : (Ty.den T3)) : spec_l09Where_l0 (k + 1) v0 v1 v6 = br (decide (v6 < (↑(List.length v0) : Int))) (br (decide (0 ≤ v6)) (br (decide (v6 < (↑(List.length v0) : Int))) (bnd (spec_l09Index k (List.getD v0 (Int.toNat v6) T91.zero) v1) (fun y1 => br (decide (y1 ≥ 0)) (some (Sum.inr (v6, y1))) (spec_l09Where_l0 k v0 v1 (IntKind.i64.wrap (v6 + 1))))) (none)) (none)) (some (Sum.inl ())) := by kernel_rfl
noncomputable def c_spec_l09Where : Con := ⟨[.val T57, .val T9], [T3, T3], fun k x => spec_l09Where k x.1 x.2.1⟩
theorem del_spec_l09Where {w0 : World} (hS : Stops w0) : DelOk Try.prog w0 d_spec_l09Where := .cons (ok_spec_l09Index hS) ent_spec_l09Index (.nil)
theorem ok_spec_l09Where {w0 : World} (hS : Stops w0) : ConOk Try.prog w0 78 c_spec_l09Where := fn_sound (A := a_spec_l09Where) tab_ok (del_spec_l09Where hS) (draws (del_spec_l09Where hS)) Try.func78 (by kernel_rfl) fun _ _ => rfl
theorem ent_spec_l09Where : Enters' Try.prog 78 := enters' Try.func78 (by kernel_rfl)
attribute [irreducible] spec_l09Where spec_l09Where_l0

/-! ### spec_l09Table: function 95 -/
def a_spec_l09Table : Ann := ⟨[(0, [.val 0 T57, .val 1 T9, .val 5 T3], ⟨[], false⟩)], []⟩
noncomputable def d_spec_l09Table : List (Nat × Con) := []
noncomputable def spec_l09Table (k : Nat) (a : (Ty.den T57)) (b : (Ty.den T9)) : Option (den1 [T3]) := evFn Γ d_spec_l09Table a_spec_l09Table Try.f95 [.val T57, .val T9] [T3] k (a, b, ())
noncomputable def spec_l09Table_l0 (k : Nat) (v0 : (Ty.den T57)) (v1 : (Ty.den T9)) (v5 : (Ty.den T3)) : Option ((Items.den []) ⊕ (den1 [T3])) := loopR (ρ := (den1 [T3])) 0 [.val 0 T57, .val 1 T9, .val 5 T3] [] (runOf Γ d_spec_l09Table a_spec_l09Table Try.f95 [T3] 0) k (v0, v1, v5)
theorem spec_l09Table_eq (k : Nat) (a : (Ty.den T57)) (b : (Ty.den T9)) : spec_l09Table k a b = bnd (spec_l09Table_l0 k a b 0) (fun y1 => onSum y1 (fun y2 => some (-1)) (fun y2 => some y2)) := by kernel_rfl
theorem spec_l09Table_l0_zero (v0 : (Ty.den T57)) (v1 : (Ty.den T9)) (v5 : (Ty.den T3)) : spec_l09Table_l0 0 v0 v1 v5 = none := by kernel_rfl
theorem spec_l09Table_l0_succ (k : Nat) (v0 : (Ty.den T57)) (v1 : (Ty.den T9)) (v5 : (Ty.den T3)) : spec_l09Table_l0 (k + 1) v0 v1 v5 = br (decide (v5 < (↑(List.length v0) : Int))) (br (decide (0 ≤ v5)) (br (decide (v5 < (↑(List.length v0) : Int))) (br ((List.getD v0 (Int.toNat v5) T91.zero).2.1 == v1) (some (Sum.inr v5)) (spec_l09Table_l0 k v0 v1 (IntKind.i64.wrap (v5 + 1)))) (none)) (none)) (some (Sum.inl ())) := by kernel_rfl
noncomputable def c_spec_l09Table : Con := ⟨[.val T57, .val T9], [T3], fun k x => spec_l09Table k x.1 x.2.1⟩
theorem del_spec_l09Table {w0 : World} (hS : Stops w0) : DelOk Try.prog w0 d_spec_l09Table := .nil
theorem ok_spec_l09Table {w0 : World} (hS : Stops w0) : ConOk Try.prog w0 95 c_spec_l09Table := fn_sound (A := a_spec_l09Table) tab_ok (del_spec_l09Table hS) (draws (del_spec_l09Table hS)) Try.func95 (by kernel_rfl) fun _ _ => rfl
theorem ent_spec_l09Table : Enters' Try.prog 95 := enters' Try.func95 (by kernel_rfl)
attribute [irreducible] spec_l09Table spec_l09Table_l0

/-! ### spec_l09Col: function 118 -/
def a_spec_l09Col : Ann := ⟨[(0, [.val 1 T3, .var 2 T91 [], .val 5 T3], ⟨[], false⟩)], []⟩
noncomputable def d_spec_l09Col : List (Nat × Con) := []
noncomputable def spec_l09Col (k : Nat) (a : (Ty.den T91)) (b : (Ty.den T3)) : Option (den1 [T3]) := evFn Γ d_spec_l09Col a_spec_l09Col Try.f118 [.val T91, .val T3] [T3] k (a, b, ())
noncomputable def spec_l09Col_l0 (k : Nat) (v1 : (Ty.den T3)) (v2 : (Ty.den T91)) (v5 : (Ty.den T3)) : Option ((Items.den []) ⊕ (den1 [T3])) := loopR (ρ := (den1 [T3])) 0 [.val 1 T3, .var 2 T91 [], .val 5 T3] [] (runOf Γ d_spec_l09Col a_spec_l09Col Try.f118 [T3] 0) k (v1, v2, v5)
theorem spec_l09Col_eq (k : Nat) (a : (Ty.den T91)) (b : (Ty.den T3)) : spec_l09Col k a b = bnd (spec_l09Col_l0 k b a 0) (fun y1 => onSum y1 (fun y2 => some (-1)) (fun y2 => some y2)) := by kernel_rfl
theorem spec_l09Col_l0_zero (v1 : (Ty.den T3)) (v2 : (Ty.den T91)) (v5 : (Ty.den T3)) : spec_l09Col_l0 0 v1 v2 v5 = none := by kernel_rfl
theorem spec_l09Col_l0_succ (k : Nat) (v1 : (Ty.den T3)) (v2 : (Ty.den T91)) (v5 : (Ty.den T3)) : spec_l09Col_l0 (k + 1) v1 v2 v5 = br (decide (v5 < (↑(List.length v2.2.2.2.1) : Int))) (br (decide (0 ≤ v5)) (br (decide (v5 < (↑(List.length v2.2.2.2.1) : Int))) (br ((List.getD v2.2.2.2.1 (Int.toNat v5) T167.zero).1 == v1) (some (Sum.inr v5)) (spec_l09Col_l0 k v1 v2 (IntKind.i64.wrap (v5 + 1)))) (none)) (none)) (some (Sum.inl ())) := by kernel_rfl
noncomputable def c_spec_l09Col : Con := ⟨[.val T91, .val T3], [T3], fun k x => spec_l09Col k x.1 x.2.1⟩
theorem del_spec_l09Col {w0 : World} (hS : Stops w0) : DelOk Try.prog w0 d_spec_l09Col := .nil
theorem ok_spec_l09Col {w0 : World} (hS : Stops w0) : ConOk Try.prog w0 118 c_spec_l09Col := fn_sound (A := a_spec_l09Col) tab_ok (del_spec_l09Col hS) (draws (del_spec_l09Col hS)) Try.func118 (by kernel_rfl) fun _ _ => rfl
theorem ent_spec_l09Col : Enters' Try.prog 118 := enters' Try.func118 (by kernel_rfl)
attribute [irreducible] spec_l09Col spec_l09Col_l0

/-! ### spec_l08Letter: function 264 -/
def a_spec_l08Letter : Ann := ⟨[], []⟩
noncomputable def d_spec_l08Letter : List (Nat × Con) := []
noncomputable def spec_l08Letter (k : Nat) (a : (Ty.den T5)) : Option (den1 [T4]) := evFn Γ d_spec_l08Letter a_spec_l08Letter Try.f264 [.val T5] [T4] k (a, ())
theorem spec_l08Letter_eq (k : Nat) (a : (Ty.den T5)) : spec_l08Letter k a = br (decide (a ≥ 97)) (br (decide (a ≤ 122)) (some true) (some (a == 95))) (some (a == 95)) := by kernel_rfl
noncomputable def c_spec_l08Letter : Con := ⟨[.val T5], [T4], fun k x => spec_l08Letter k x.1⟩
theorem del_spec_l08Letter {w0 : World} (hS : Stops w0) : DelOk Try.prog w0 d_spec_l08Letter := .nil
theorem ok_spec_l08Letter {w0 : World} (hS : Stops w0) : ConOk Try.prog w0 264 c_spec_l08Letter := fn_sound (A := a_spec_l08Letter) tab_ok (del_spec_l08Letter hS) (draws (del_spec_l08Letter hS)) Try.func264 (by kernel_rfl) fun _ _ => rfl
theorem ent_spec_l08Letter : Enters' Try.prog 264 := enters' Try.func264 (by kernel_rfl)
attribute [irreducible] spec_l08Letter

/-! ### spec_l01Digit: function 265 -/
def a_spec_l01Digit : Ann := ⟨[], []⟩
noncomputable def d_spec_l01Digit : List (Nat × Con) := []
noncomputable def spec_l01Digit (k : Nat) (a : (Ty.den T5)) : Option (den1 [T4]) := evFn Γ d_spec_l01Digit a_spec_l01Digit Try.f265 [.val T5] [T4] k (a, ())
theorem spec_l01Digit_eq (k : Nat) (a : (Ty.den T5)) : spec_l01Digit k a = br (decide (a ≥ 48)) (some (decide (a ≤ 57))) (some false) := by kernel_rfl
noncomputable def c_spec_l01Digit : Con := ⟨[.val T5], [T4], fun k x => spec_l01Digit k x.1⟩
theorem del_spec_l01Digit {w0 : World} (hS : Stops w0) : DelOk Try.prog w0 d_spec_l01Digit := .nil
theorem ok_spec_l01Digit {w0 : World} (hS : Stops w0) : ConOk Try.prog w0 265 c_spec_l01Digit := fn_sound (A := a_spec_l01Digit) tab_ok (del_spec_l01Digit hS) (draws (del_spec_l01Digit hS)) Try.func265 (by kernel_rfl) fun _ _ => rfl
theorem ent_spec_l01Digit : Enters' Try.prog 265 := enters' Try.func265 (by kernel_rfl)
attribute [irreducible] spec_l01Digit

/-! ### spec_l08Shape: function 243 -/
def a_spec_l08Shape : Ann := ⟨[(0, [.val 0 T9, .val 3 T3], ⟨[.val 0 T9], false⟩)], []⟩
noncomputable def d_spec_l08Shape : List (Nat × Con) := [(264, c_spec_l08Letter), (265, c_spec_l01Digit)]
noncomputable def spec_l08Shape (k : Nat) (a : (Ty.den T9)) : Option (den1 [T4]) := evFn Γ d_spec_l08Shape a_spec_l08Shape Try.f243 [.val T9] [T4] k (a, ())
noncomputable def spec_l08Shape_l0 (k : Nat) (v0 : (Ty.den T9)) (v3 : (Ty.den T3)) : Option ((Items.den [.val 0 T9]) ⊕ (den1 [T4])) := loopR (ρ := (den1 [T4])) 0 [.val 0 T9, .val 3 T3] [.val 0 T9] (runOf Γ d_spec_l08Shape a_spec_l08Shape Try.f243 [T4] 0) k (v0, v3)
theorem spec_l08Shape_eq (k : Nat) (a : (Ty.den T9)) : spec_l08Shape k a = bnd (spec_l08Shape_l0 k a 0) (fun y1 => onSum y1 (fun y2 => br (decide ((↑(List.length y2) : Int) > 0)) (some (decide ((↑(List.length y2) : Int) ≤ 30))) (some false)) (fun y2 => some y2)) := by kernel_rfl
theorem spec_l08Shape_l0_zero (v0 : (Ty.den T9)) (v3 : (Ty.den T3)) : spec_l08Shape_l0 0 v0 v3 = none := by kernel_rfl
theorem spec_l08Shape_l0_succ (k : Nat) (v0 : (Ty.den T9)) (v3 : (Ty.den T3)) : spec_l08Shape_l0 (k + 1) v0 v3 = br (decide (v3 < (↑(List.length v0) : Int))) (br (decide (0 ≤ v3)) (br (decide (v3 < (↑(List.length v0) : Int))) (bnd (spec_l08Letter k (↑(List.getD v0 (Int.toNat v3) 0).toNat : Int)) (fun y1 => br (!y1) (br (decide (v3 > 0)) (br (decide (0 ≤ v3)) (br (decide (v3 < (↑(List.length v0) : Int))) (bnd (spec_l01Digit k (↑(List.getD v0 (Int.toNat v3) 0).toNat : Int)) (fun y2 => br (!y2) (some (Sum.inr false)) (spec_l08Shape_l0 k v0 (IntKind.i64.wrap (v3 + 1))))) (none)) (none)) (br (!false) (some (Sum.inr false)) (spec_l08Shape_l0 k v0 (IntKind.i64.wrap (v3 + 1))))) (spec_l08Shape_l0 k v0 (IntKind.i64.wrap (v3 + 1))))) (none)) (none)) (some (Sum.inl v0)) := by kernel_rfl
noncomputable def c_spec_l08Shape : Con := ⟨[.val T9], [T4], fun k x => spec_l08Shape k x.1⟩
theorem del_spec_l08Shape {w0 : World} (hS : Stops w0) : DelOk Try.prog w0 d_spec_l08Shape := .cons (ok_spec_l08Letter hS) ent_spec_l08Letter (.cons (ok_spec_l01Digit hS) ent_spec_l01Digit (.nil))
theorem ok_spec_l08Shape {w0 : World} (hS : Stops w0) : ConOk Try.prog w0 243 c_spec_l08Shape := fn_sound (A := a_spec_l08Shape) tab_ok (del_spec_l08Shape hS) (draws (del_spec_l08Shape hS)) Try.func243 (by kernel_rfl) fun _ _ => rfl
theorem ent_spec_l08Shape : Enters' Try.prog 243 := enters' Try.func243 (by kernel_rfl)
attribute [irreducible] spec_l08Shape spec_l08Shape_l0

/-! ### spec_l08Reserved: function 244 -/
def a_spec_l08Reserved : Ann := ⟨[], []⟩
noncomputable def d_spec_l08Reserved : List (Nat × Con) := []
noncomputable def spec_l08Reserved (k : Nat) (a : (Ty.den T9)) : Option (den1 [T4]) := evFn Γ d_spec_l08Reserved a_spec_l08Reserved Try.f244 [.val T9] [T4] k (a, ())
theorem spec_l08Reserved_eq (k : Nat) (a : (Ty.den T9)) : spec_l08Reserved k a = br (a == [97, 108, 108]) (br (a == [97, 108, 108]) (some true) (some false)) (br (a == [97, 110, 100]) (br (a == [97, 110, 100]) (some true) (some false)) (br (a == [97, 115]) (br (a == [97, 115]) (some true) (some false)) (br (a == [97, 115, 99]) (br (a == [97, 115, 99]) (some true) (some false)) (br (a == [98, 101, 103, 105, 110]) (br (a == [98, 101, 103, 105, 110]) (some true) (some false)) (br (a == [98, 101, 116, 119, 101, 101, 110]) (br (a == [98, 101, 116, 119, 101, 101, 110]) (some true) (some false)) (br (a == [98, 121]) (br (a == [98, 121]) (some true) (some false)) (br (a == [99, 97, 115, 101]) (br (a == [99, 97, 115, 101]) (some true) (some false)) (br (a == [99, 97, 115, 116]) (br (a == [99, 97, 115, 116]) (some true) (some false)) (br (a == [99, 111, 109, 109, 105, 116]) (br (a == [99, 111, 109, 109, 105, 116]) (some true) (some false)) (br (a == [99, 114, 101, 97, 116, 101]) (br (a == [99, 114, 101, 97, 116, 101]) (some true) (some false)) (br (a == [99, 114, 111, 115, 115]) (br (a == [99, 114, 111, 115, 115]) (some true) (some false)) (br (a == [100, 97, 121]) (br (a == [100, 97, 121]) (some true) (some false)) (br (a == [100, 101, 108, 101, 116, 101]) (br (a == [100, 101, 108, 101, 116, 101]) (some true) (some false)) (br (a == [100, 101, 115, 99]) (br (a == [100, 101, 115, 99]) (some true) (some false)) (br (a == [100, 105, 115, 116, 105, 110, 99, 116]) (br (a == [100, 105, 115, 116, 105, 110, 99, 116]) (some true) (some false)) (br (a == [100, 114, 111, 112]) (br (a == [100, 114, 111, 112]) (some true) (some false)) (br (a == [101, 108, 115, 101]) (br (a == [101, 108, 115, 101]) (some true) (some false)) (br (a == [101, 110, 100]) (br (a == [101, 110, 100]) (some true) (some false)) (br (a == [101, 120, 99, 101, 112, 116]) (br (a == [101, 120, 99, 101, 112, 116]) (some true) (some false)) (br (a == [101, 120, 105, 115, 116, 115]) (br (a == [101, 120, 105, 115, 116, 115]) (some true) (some false)) (br (a == [101, 120, 112, 108, 97, 105, 110]) (br (a == [101, 120, 112, 108, 97, 105, 110]) (some true) (some false)) (br (a == [102, 97, 108, 115, 101]) (br (a == [102, 97, 108, 115, 101]) (some true) (some false)) (br (a == [102, 114, 111, 109]) (br (a == [102, 114, 111, 109]) (some true) (some false)) (br (a == [103, 114, 111, 117, 112]) (br (a == [103, 114, 111, 117, 112]) (some true) (some false)) (br (a == [104, 97, 118, 105, 110, 103]) (br (a == [104, 97, 118, 105, 110, 103]) (some true) (some false)) (br (a == [105, 110]) (br (a == [105, 110]) (some true) (some false)) (br (a == [105, 110, 100, 101, 120]) (br (a == [105, 110, 100, 101, 120]) (some true) (some false)) (br (a == [105, 110, 115, 101, 114, 116]) (br (a == [105, 110, 115, 101, 114, 116]) (some true) (some false)) (br (a == [105, 110, 116, 101, 114, 115, 101, 99, 116]) (br (a == [105, 110, 116, 101, 114, 115, 101, 99, 116]) (some true) (some false)) (br (a == [105, 110, 116, 111]) (br (a == [105, 110, 116, 111]) (some true) (some false)) (br (a == [105, 115]) (br (a == [105, 115]) (some true) (some false)) (br (a == [106, 111, 105, 110]) (br (a == [106, 111, 105, 110]) (some true) (some false)) (br (a == [107, 101, 121]) (br (a == [107, 101, 121]) (some true) (some false)) (br (a == [108, 101, 102, 116]) (br (a == [108, 101, 102, 116]) (some true) (some false)) (br (a == [108, 105, 109, 105, 116]) (br (a == [108, 105, 109, 105, 116]) (some true) (some false)) (br (a == [110, 111, 116]) (br (a == [110, 111, 116]) (some true) (some false)) (br (a == [110, 117, 108, 108]) (br (a == [110, 117, 108, 108]) (some true) (some false)) (br (a == [111, 110]) (br (a == [111, 110]) (some true) (some false)) (br (a == [111, 114]) (br (a == [111, 114]) (some true) (some false)) (br (a == [111, 114, 100, 101, 114]) (br (a == [111, 114, 100, 101, 114]) (some true) (some false)) (br (a == [111, 118, 101, 114]) (br (a == [111, 118, 101, 114]) (some true) (some false)) (br (a == [112, 97, 114, 116, 105, 116, 105, 111, 110]) (br (a == [112, 97, 114, 116, 105, 116, 105, 111, 110]) (some true) (some false)) (br (a == [112, 114, 105, 109, 97, 114, 121]) (br (a == [112, 114, 105, 109, 97, 114, 121]) (some true) (some false)) (br (a == [114, 101, 99, 117, 114, 115, 105, 118, 101]) (br (a == [114, 101, 99, 117, 114, 115, 105, 118, 101]) (some true) (some false)) (br (a == [114, 111, 108, 108, 98, 97, 99, 107]) (br (a == [114, 111, 108, 108, 98, 97, 99, 107]) (some true) (some false)) (br (a == [115, 101, 108, 101, 99, 116]) (br (a == [115, 101, 108, 101, 99, 116]) (some true) (some false)) (br (a == [115, 101, 116]) (br (a == [115, 101, 116]) (some true) (some false)) (br (a == [116, 97, 98, 108, 101]) (br (a == [116, 97, 98, 108, 101]) (some true) (some false)) (br (a == [116, 104, 101, 110]) (br (a == [116, 104, 101, 110]) (some true) (some false)) (br (a == [116, 114, 117, 101]) (br (a == [116, 114, 117, 101]) (some true) (some false)) (br (a == [117, 110, 105, 111, 110]) (br (a == [117, 110, 105, 111, 110]) (some true) (some false)) (br (a == [117, 110, 105, 113, 117, 101]) (br (a == [117, 110, 105, 113, 117, 101]) (some true) (some false)) (br (a == [117, 112, 100, 97, 116, 101]) (br (a == [117, 112, 100, 97, 116, 101]) (some true) (some false)) (br (a == [118, 97, 108, 117, 101, 115]) (br (a == [118, 97, 108, 117, 101, 115]) (some true) (some false)) (br (a == [118, 105, 101, 119]) (br (a == [118, 105, 101, 119]) (some true) (some false)) (br (a == [119, 104, 101, 110]) (br (a == [119, 104, 101, 110]) (some true) (some false)) (br (a == [119, 104, 101, 114, 101]) (br (a == [119, 104, 101, 114, 101]) (some true) (some false)) (br (a == [119, 105, 116, 104]) (br (a == [119, 105, 116, 104]) (some true) (some false)) (br (a == [97, 108, 116, 101, 114]) (br (a == [97, 108, 116, 101, 114]) (some true) (some false)) (br (a == [97, 100, 100]) (br (a == [97, 100, 100]) (some true) (some false)) (br (a == [99, 111, 108, 117, 109, 110]) (br (a == [99, 111, 108, 117, 109, 110]) (some true) (some false)) (br (a == [108, 101, 118, 101, 108]) (br (a == [108, 101, 118, 101, 108]) (some true) (some false)) (br (a == [115, 101, 114, 105, 97, 108]) (br (a == [115, 101, 114, 105, 97, 108]) (some true) (some false)) (br (a == [115, 110, 97, 112, 115, 104, 111, 116]) (br (a == [115, 110, 97, 112, 115, 104, 111, 116]) (some true) (some false)) (br (a == [108, 97, 116, 101, 115, 116]) (some true) (some false)))))))))))))))))))))))))))))))))))))))))))))))))))))))))))))))))) := by kernel_rfl
noncomputable def c_spec_l08Reserved : Con := ⟨[.val T9], [T4], fun k x => spec_l08Reserved k x.1⟩
theorem del_spec_l08Reserved {w0 : World} (hS : Stops w0) : DelOk Try.prog w0 d_spec_l08Reserved := .nil
theorem ok_spec_l08Reserved {w0 : World} (hS : Stops w0) : ConOk Try.prog w0 244 c_spec_l08Reserved := fn_sound (A := a_spec_l08Reserved) tab_ok (del_spec_l08Reserved hS) (draws (del_spec_l08Reserved hS)) Try.func244 (by kernel_rfl) fun _ _ => rfl
theorem ent_spec_l08Reserved : Enters' Try.prog 244 := enters' Try.func244 (by kernel_rfl)
attribute [irreducible] spec_l08Reserved

/-! ### spec_l08Name: function 191 -/
def a_spec_l08Name : Ann := ⟨[], []⟩
noncomputable def d_spec_l08Name : List (Nat × Con) := [(243, c_spec_l08Shape), (244, c_spec_l08Reserved)]
noncomputable def spec_l08Name (k : Nat) (a : (Ty.den T9)) : Option (den1 [T4]) := evFn Γ d_spec_l08Name a_spec_l08Name Try.f191 [.val T9] [T4] k (a, ())
theorem spec_l08Name_eq (k : Nat) (a : (Ty.den T9)) : spec_l08Name k a = bnd (spec_l08Shape k a) (fun y1 => br (y1) (bnd (spec_l08Reserved k a) (fun y2 => some (!y2))) (some false)) := by kernel_rfl
noncomputable def c_spec_l08Name : Con := ⟨[.val T9], [T4], fun k x => spec_l08Name k x.1⟩
theorem del_spec_l08Name {w0 : World} (hS : Stops w0) : DelOk Try.prog w0 d_spec_l08Name := .cons (ok_spec_l08Shape hS) ent_spec_l08Shape (.cons (ok_spec_l08Reserved hS) ent_spec_l08Reserved (.nil))
theorem ok_spec_l08Name {w0 : World} (hS : Stops w0) : ConOk Try.prog w0 191 c_spec_l08Name := fn_sound (A := a_spec_l08Name) tab_ok (del_spec_l08Name hS) (draws (del_spec_l08Name hS)) Try.func191 (by kernel_rfl) fun _ _ => rfl
theorem ent_spec_l08Name : Enters' Try.prog 191 := enters' Try.func191 (by kernel_rfl)
attribute [irreducible] spec_l08Name

/-! ### spec_l09Named: function 192 -/
def a_spec_l09Named : Ann := ⟨[(0, [.val 1 T9, .var 2 T91 [], .val 5 T3], ⟨[], false⟩)], []⟩
noncomputable def d_spec_l09Named : List (Nat × Con) := []
noncomputable def spec_l09Named (k : Nat) (a : (Ty.den T91)) (b : (Ty.den T9)) : Option (den1 [T3]) := evFn Γ d_spec_l09Named a_spec_l09Named Try.f192 [.val T91, .val T9] [T3] k (a, b, ())
noncomputable def spec_l09Named_l0 (k : Nat) (v1 : (Ty.den T9)) (v2 : (Ty.den T91)) (v5 : (Ty.den T3)) : Option ((Items.den []) ⊕ (den1 [T3])) := loopR (ρ := (den1 [T3])) 0 [.val 1 T9, .var 2 T91 [], .val 5 T3] [] (runOf Γ d_spec_l09Named a_spec_l09Named Try.f192 [T3] 0) k (v1, v2, v5)
theorem spec_l09Named_eq (k : Nat) (a : (Ty.den T91)) (b : (Ty.den T9)) : spec_l09Named k a b = bnd (spec_l09Named_l0 k b a 0) (fun y1 => onSum y1 (fun y2 => some (-1)) (fun y2 => some y2)) := by kernel_rfl
theorem spec_l09Named_l0_zero (v1 : (Ty.den T9)) (v2 : (Ty.den T91)) (v5 : (Ty.den T3)) : spec_l09Named_l0 0 v1 v2 v5 = none := by kernel_rfl
theorem spec_l09Named_l0_succ (k : Nat) (v1 : (Ty.den T9)) (v2 : (Ty.den T91)) (v5 : (Ty.den T3)) : spec_l09Named_l0 (k + 1) v1 v2 v5 = br (decide (v5 < (↑(List.length v2.2.2.2.1) : Int))) (br (decide (0 ≤ v5)) (br (decide (v5 < (↑(List.length v2.2.2.2.1) : Int))) (br ((List.getD v2.2.2.2.1 (Int.toNat v5) T167.zero).2.1 == v1) (some (Sum.inr v5)) (spec_l09Named_l0 k v1 v2 (IntKind.i64.wrap (v5 + 1)))) (none)) (none)) (some (Sum.inl ())) := by kernel_rfl
noncomputable def c_spec_l09Named : Con := ⟨[.val T91, .val T9], [T3], fun k x => spec_l09Named k x.1 x.2.1⟩
theorem del_spec_l09Named {w0 : World} (hS : Stops w0) : DelOk Try.prog w0 d_spec_l09Named := .nil
theorem ok_spec_l09Named {w0 : World} (hS : Stops w0) : ConOk Try.prog w0 192 c_spec_l09Named := fn_sound (A := a_spec_l09Named) tab_ok (del_spec_l09Named hS) (draws (del_spec_l09Named hS)) Try.func192 (by kernel_rfl) fun _ _ => rfl
theorem ent_spec_l09Named : Enters' Try.prog 192 := enters' Try.func192 (by kernel_rfl)
attribute [irreducible] spec_l09Named spec_l09Named_l0

/-! ### spec_l09Has: function 98 -/
def a_spec_l09Has : Ann := ⟨[(0, [.val 0 T25, .val 1 T3, .val 5 T3], ⟨[], false⟩)], []⟩
noncomputable def d_spec_l09Has : List (Nat × Con) := []
noncomputable def spec_l09Has (k : Nat) (a : (Ty.den T25)) (b : (Ty.den T3)) : Option (den1 [T4]) := evFn Γ d_spec_l09Has a_spec_l09Has Try.f98 [.val T25, .val T3] [T4] k (a, b, ())
noncomputable def spec_l09Has_l0 (k : Nat) (v0 : (Ty.den T25)) (v1 : (Ty.den T3)) (v5 : (Ty.den T3)) : Option ((Items.den []) ⊕ (den1 [T4])) := loopR (ρ := (den1 [T4])) 0 [.val 0 T25, .val 1 T3, .val 5 T3] [] (runOf Γ d_spec_l09Has a_spec_l09Has Try.f98 [T4] 0) k (v0, v1, v5)
theorem spec_l09Has_eq (k : Nat) (a : (Ty.den T25)) (b : (Ty.den T3)) : spec_l09Has k a b = bnd (spec_l09Has_l0 k a b 0) (fun y1 => onSum y1 (fun y2 => some false) (fun y2 => some y2)) := by kernel_rfl
theorem spec_l09Has_l0_zero (v0 : (Ty.den T25)) (v1 : (Ty.den T3)) (v5 : (Ty.den T3)) : spec_l09Has_l0 0 v0 v1 v5 = none := by kernel_rfl
theorem spec_l09Has_l0_succ (k : Nat) (v0 : (Ty.den T25)) (v1 : (Ty.den T3)) (v5 : (Ty.den T3)) : spec_l09Has_l0 (k + 1) v0 v1 v5 = br (decide (v5 < (↑(List.length v0) : Int))) (br (decide (0 ≤ v5)) (br (decide (v5 < (↑(List.length v0) : Int))) (br (List.getD v0 (Int.toNat v5) T3.zero == v1) (some (Sum.inr true)) (spec_l09Has_l0 k v0 v1 (IntKind.i64.wrap (v5 + 1)))) (none)) (none)) (some (Sum.inl ())) := by kernel_rfl
noncomputable def c_spec_l09Has : Con := ⟨[.val T25, .val T3], [T4], fun k x => spec_l09Has k x.1 x.2.1⟩
theorem del_spec_l09Has {w0 : World} (hS : Stops w0) : DelOk Try.prog w0 d_spec_l09Has := .nil
theorem ok_spec_l09Has {w0 : World} (hS : Stops w0) : ConOk Try.prog w0 98 c_spec_l09Has := fn_sound (A := a_spec_l09Has) tab_ok (del_spec_l09Has hS) (draws (del_spec_l09Has hS)) Try.func98 (by kernel_rfl) fun _ _ => rfl
theorem ent_spec_l09Has : Enters' Try.prog 98 := enters' Try.func98 (by kernel_rfl)
attribute [irreducible] spec_l09Has spec_l09Has_l0

/-! ### spec_l09Once: function 94 -/
def a_spec_l09Once : Ann := ⟨[(0, [.val 0 T25, .val 3 T3], ⟨[], false⟩)], []⟩
noncomputable def d_spec_l09Once : List (Nat × Con) := [(98, c_spec_l09Has)]
noncomputable def spec_l09Once (k : Nat) (a : (Ty.den T25)) : Option (den1 [T4]) := evFn Γ d_spec_l09Once a_spec_l09Once Try.f94 [.val T25] [T4] k (a, ())
noncomputable def spec_l09Once_l0 (k : Nat) (v0 : (Ty.den T25)) (v3 : (Ty.den T3)) : Option ((Items.den []) ⊕ (den1 [T4])) := loopR (ρ := (den1 [T4])) 0 [.val 0 T25, .val 3 T3] [] (runOf Γ d_spec_l09Once a_spec_l09Once Try.f94 [T4] 0) k (v0, v3)
theorem spec_l09Once_eq (k : Nat) (a : (Ty.den T25)) : spec_l09Once k a = bnd (spec_l09Once_l0 k a 0) (fun y1 => onSum y1 (fun y2 => some true) (fun y2 => some y2)) := by kernel_rfl
theorem spec_l09Once_l0_zero (v0 : (Ty.den T25)) (v3 : (Ty.den T3)) : spec_l09Once_l0 0 v0 v3 = none := by kernel_rfl
theorem spec_l09Once_l0_succ (k : Nat) (v0 : (Ty.den T25)) (v3 : (Ty.den T3)) : spec_l09Once_l0 (k + 1) v0 v3 = br (decide (v3 < (↑(List.length v0) : Int))) (br (decide (0 ≤ v3)) (br (decide (v3 ≤ (↑(List.length v0) : Int))) (br (decide (0 ≤ v3)) (br (decide (v3 < (↑(List.length v0) : Int))) (bnd (spec_l09Has k (List.take (Int.toNat v3) v0) (List.getD v0 (Int.toNat v3) T3.zero)) (fun y1 => br (y1) (some (Sum.inr false)) (spec_l09Once_l0 k v0 (IntKind.i64.wrap (v3 + 1))))) (none)) (none)) (none)) (none)) (some (Sum.inl ())) := by kernel_rfl
noncomputable def c_spec_l09Once : Con := ⟨[.val T25], [T4], fun k x => spec_l09Once k x.1⟩
theorem del_spec_l09Once {w0 : World} (hS : Stops w0) : DelOk Try.prog w0 d_spec_l09Once := .cons (ok_spec_l09Has hS) ent_spec_l09Has (.nil)
theorem ok_spec_l09Once {w0 : World} (hS : Stops w0) : ConOk Try.prog w0 94 c_spec_l09Once := fn_sound (A := a_spec_l09Once) tab_ok (del_spec_l09Once hS) (draws (del_spec_l09Once hS)) Try.func94 (by kernel_rfl) fun _ _ => rfl
theorem ent_spec_l09Once : Enters' Try.prog 94 := enters' Try.func94 (by kernel_rfl)
attribute [irreducible] spec_l09Once spec_l09Once_l0

/-! ### spec_l09ColsOK: function 193 -/
def a_spec_l09ColsOK : Ann := ⟨[(0, [.val 1 T25, .val 2 T4, .var 3 T91 [], .val 7 T3], ⟨[], false⟩)], []⟩
noncomputable def d_spec_l09ColsOK : List (Nat × Con) := [(94, c_spec_l09Once), (118, c_spec_l09Col)]
noncomputable def spec_l09ColsOK (k : Nat) (a : (Ty.den T91)) (b : (Ty.den T25)) (c : (Ty.den T4)) : Option (den1 [T4]) := evFn Γ d_spec_l09ColsOK a_spec_l09ColsOK Try.f193 [.val T91, .val T25, .val T4] [T4] k (a, b, c, ())
noncomputable def spec_l09ColsOK_l0 (k : Nat) (v1 : (Ty.den T25)) (v2 : (Ty.den T4)) (v3 : (Ty.den T91)) (v7 : (Ty.den T3)) : Option ((Items.den []) ⊕ (den1 [T4])) := loopR (ρ := (den1 [T4])) 0 [.val 1 T25, .val 2 T4, .var 3 T91 [], .val 7 T3] [] (runOf Γ d_spec_l09ColsOK a_spec_l09ColsOK Try.f193 [T4] 0) k (v1, v2, v3, v7)
theorem spec_l09ColsOK_eq (k : Nat) (a : (Ty.den T91)) (b : (Ty.den T25)) (c : (Ty.den T4)) : spec_l09ColsOK k a b c = br ((↑(List.length b) : Int) == 0) (some false) (br (decide ((↑(List.length b) : Int) > 16)) (some false) (bnd (spec_l09Once k b) (fun y1 => br (!y1) (some false) (bnd (spec_l09ColsOK_l0 k b c a 0) (fun y2 => onSum y2 (fun y3 => some true) (fun y3 => some y3)))))) := by kernel_rfl
theorem spec_l09ColsOK_l0_zero (v1 : (Ty.den T25)) (v2 : (Ty.den T4)) (v3 : (Ty.den T91)) (v7 : (Ty.den T3)) : spec_l09ColsOK_l0 0 v1 v2 v3 v7 = none := by kernel_rfl
theorem spec_l09ColsOK_l0_succ (k : Nat) (v1 : (Ty.den T25)) (v2 : (Ty.den T4)) (v3 : (Ty.den T91)) (v7 : (Ty.den T3)) : spec_l09ColsOK_l0 (k + 1) v1 v2 v3 v7 = br (decide (v7 < (↑(List.length v1) : Int))) (br (decide (0 ≤ v7)) (br (decide (v7 < (↑(List.length v1) : Int))) (bnd (spec_l09Col k v3 (List.getD v1 (Int.toNat v7) T3.zero)) (fun y1 => br (decide (y1 < 0)) (some (Sum.inr false)) (br (v2) (br (decide (0 ≤ y1)) (br (decide (y1 < (↑(List.length v3.2.2.2.1) : Int))) (br (!(List.getD v3.2.2.2.1 (Int.toNat y1) T167.zero).2.2.2.1) (some (Sum.inr false)) (spec_l09ColsOK_l0 k v1 v2 v3 (IntKind.i64.wrap (v7 + 1)))) (none)) (none)) (spec_l09ColsOK_l0 k v1 v2 v3 (IntKind.i64.wrap (v7 + 1)))))) (none)) (none)) (some (Sum.inl ())) := by kernel_rfl
noncomputable def c_spec_l09ColsOK : Con := ⟨[.val T91, .val T25, .val T4], [T4], fun k x => spec_l09ColsOK k x.1 x.2.1 x.2.2.1⟩
theorem del_spec_l09ColsOK {w0 : World} (hS : Stops w0) : DelOk Try.prog w0 d_spec_l09ColsOK := .cons (ok_spec_l09Once hS) ent_spec_l09Once (.cons (ok_spec_l09Col hS) ent_spec_l09Col (.nil))
theorem ok_spec_l09ColsOK {w0 : World} (hS : Stops w0) : ConOk Try.prog w0 193 c_spec_l09ColsOK := fn_sound (A := a_spec_l09ColsOK) tab_ok (del_spec_l09ColsOK hS) (draws (del_spec_l09ColsOK hS)) Try.func193 (by kernel_rfl) fun _ _ => rfl
theorem ent_spec_l09ColsOK : Enters' Try.prog 193 := enters' Try.func193 (by kernel_rfl)
attribute [irreducible] spec_l09ColsOK spec_l09ColsOK_l0

/-! ### spec_TableOK: function 115 -/
def a_spec_TableOK : Ann := ⟨[(0, [.var 1 T91 [], .val 3 T3], ⟨[.var 1 T91 []], false⟩), (2, [.var 1 T91 [], .val 5 T3], ⟨[], false⟩), (4, [.var 1 T91 [], .val 5 T3, .var 6 T146 [], .val 7 T3], ⟨[.var 1 T91 [], .val 5 T3], false⟩)], []⟩
noncomputable def d_spec_TableOK : List (Nat × Con) := [(118, c_spec_l09Col), (191, c_spec_l08Name), (192, c_spec_l09Named), (193, c_spec_l09ColsOK)]
noncomputable def spec_TableOK (k : Nat) (a : (Ty.den T91)) : Option (den1 [T4]) := evFn Γ d_spec_TableOK a_spec_TableOK Try.f115 [.val T91] [T4] k (a, ())
noncomputable def spec_TableOK_l0 (k : Nat) (v1 : (Ty.den T91)) (v3 : (Ty.den T3)) : Option ((Items.den [.var 1 T91 []]) ⊕ (den1 [T4])) := loopR (ρ := (den1 [T4])) 0 [.var 1 T91 [], .val 3 T3] [.var 1 T91 []] (runOf Γ d_spec_TableOK a_spec_TableOK Try.f115 [T4] 0) k (v1, v3)
noncomputable def spec_TableOK_l2 (k : Nat) (v1 : (Ty.den T91)) (v5 : (Ty.den T3)) : Option ((Items.den []) ⊕ (den1 [T4])) := loopR (ρ := (den1 [T4])) 2 [.var 1 T91 [], .val 5 T3] [] (runOf Γ d_spec_TableOK a_spec_TableOK Try.f115 [T4] 2) k (v1, v5)
noncomputable def spec_TableOK_l4 (k : Nat) (v1 : (Ty.den T91)) (v5 : (Ty.den T3)) (v6 : (Ty.den T146)) (v7 : (Ty.den T3)) : Option ((Items.den [.var 1 T91 [], .val 5 T3]) ⊕ (den1 [T4])) := loopR (ρ := (den1 [T4])) 4 [.var 1 T91 [], .val 5 T3, .var 6 T146 [], .val 7 T3] [.var 1 T91 [], .val 5 T3] (runOf Γ d_spec_TableOK a_spec_TableOK Try.f115 [T4] 4) k (v1, v5, v6, v7)
theorem spec_TableOK_eq (k : Nat) (a : (Ty.den T91)) : spec_TableOK k a = br (decide (a.1 < 1)) (some false) (br (decide (a.1 > 40)) (some false) (bnd (spec_l08Name k a.2.1) (fun y1 => br (!y1) (some false) (br (decide (a.2.2.1 < 1)) (some false) (br (decide (a.2.2.1 > 1000000)) (some false) (br (decide ((↑(List.length a.2.2.2.1) : Int) < 1)) (some false) (br (decide ((↑(List.length a.2.2.2.1) : Int) > 14)) (some false) (br (decide ((↑(List.length a.2.2.2.2.2.1) : Int) > 8)) (some false) (bnd (spec_TableOK_l0 k a 0) (fun y2 => onSum y2 (fun y3 => bnd (spec_l09ColsOK k y3 y3.2.2.2.2.1 true) (fun y4 => br (!y4) (some false) (bnd (spec_TableOK_l2 k y3 0) (fun y5 => onSum y5 (fun y6 => some true) (fun y6 => some y6))))) (fun y3 => some y3))))))))))) := by kernel_rfl
theorem spec_TableOK_l0_zero (v1 : (Ty.den T91)) (v3 : (Ty.den T3)) : spec_TableOK_l0 0 v1 v3 = none := by kernel_rfl
theorem spec_TableOK_l0_succ (k : Nat) (v1 : (Ty.den T91)) (v3 : (Ty.den T3)) : spec_TableOK_l0 (k + 1) v1 v3 = br (decide (v3 < (↑(List.length v1.2.2.2.1) : Int))) (br (decide (0 ≤ v3)) (br (decide (v3 < (↑(List.length v1.2.2.2.1) : Int))) (br (decide ((List.getD v1.2.2.2.1 (Int.toNat v3) T167.zero).1 < 1)) (some (Sum.inr false)) (br (decide ((List.getD v1.2.2.2.1 (Int.toNat v3) T167.zero).1 > 1000)) (some (Sum.inr false)) (bnd (spec_l08Name k (List.getD v1.2.2.2.1 (Int.toNat v3) T167.zero).2.1) (fun y1 => br (!y1) (some (Sum.inr false)) (br (decide ((List.getD v1.2.2.2.1 (Int.toNat v3) T167.zero).2.2.1 < 1)) (some (Sum.inr false)) (br (decide ((List.getD v1.2.2.2.1 (Int.toNat v3) T167.zero).2.2.1 > 5)) (some (Sum.inr false)) (bnd (spec_l09Col k v1 (List.getD v1.2.2.2.1 (Int.toNat v3) T167.zero).1) (fun y2 => br (y2 != v3) (some (Sum.inr false)) (bnd (spec_l09Named k v1 (List.getD v1.2.2.2.1 (Int.toNat v3) T167.zero).2.1) (fun y3 => br (y3 != v3) (some (Sum.inr false)) (spec_TableOK_l0 k v1 (IntKind.i64.wrap (v3 + 1))))))))))))) (none)) (none)) (some (Sum.inl v1)) := by kernel_rfl
theorem spec_TableOK_l2_zero (v1 : (Ty.den T91)) (v5 : (Ty.den T3)) : spec_TableOK_l2 0 v1 v5 = none := by kernel_rfl
theorem spec_TableOK_l2_succ (k : Nat) (v1 : (Ty.den T91)) (v5 : (Ty.den T3)) : spec_TableOK_l2 (k + 1) v1 v5 = br (decide (v5 < (↑(List.length v1.2.2.2.2.2.1) : Int))) (br (decide (0 ≤ v5)) (br (decide (v5 < (↑(List.length v1.2.2.2.2.2.1) : Int))) (br (decide ((List.getD v1.2.2.2.2.2.1 (Int.toNat v5) T146.zero).1 < 1)) (some (Sum.inr false)) (br (decide ((List.getD v1.2.2.2.2.2.1 (Int.toNat v5) T146.zero).1 > 1000)) (some (Sum.inr false)) (bnd (spec_l08Name k (List.getD v1.2.2.2.2.2.1 (Int.toNat v5) T146.zero).2.1) (fun y1 => br (!y1) (some (Sum.inr false)) (br (decide ((List.getD v1.2.2.2.2.2.1 (Int.toNat v5) T146.zero).2.2.2.2.1 < 1)) (some (Sum.inr false)) (br (decide ((List.getD v1.2.2.2.2.2.1 (Int.toNat v5) T146.zero).2.2.2.2.1 > 3)) (some (Sum.inr false)) (bnd (spec_l09ColsOK k v1 (List.getD v1.2.2.2.2.2.1 (Int.toNat v5) T146.zero).2.2.1 false) (fun y2 => br (!y2) (some (Sum.inr false)) (br (decide (IntKind.i64.wrap ((↑(List.length (List.getD v1.2.2.2.2.2.1 (Int.toNat v5) T146.zero).2.2.1) : Int) + (↑(List.length v1.2.2.2.2.1) : Int)) > 14)) (some (Sum.inr false)) (bnd (spec_TableOK_l4 k v1 v5 (List.getD v1.2.2.2.2.2.1 (Int.toNat v5) T146.zero) 0) (fun y3 => onSum y3 (fun y4 => spec_TableOK_l2 k y4.1 (IntKind.i64.wrap (y4.2 + 1))) (fun y4 => some (Sum.inr y4))))))))))))) (none)) (none)) (some (Sum.inl ())) := by kernel_rfl
theorem spec_TableOK_l4_zero (v1 : (Ty.den T91)) (v5 : (Ty.den T3)) (v6 : (Ty.den T146)) (v7 : (Ty.den T3)) : spec_TableOK_l4 0 v1 v5 v6 v7 = none := by kernel_rfl
theorem spec_TableOK_l4_succ (k : Nat) (v1 : (Ty.den T91)) (v5 : (Ty.den T3)) (v6 : (Ty.den T146)) (v7 : (Ty.den T3)) : spec_TableOK_l4 (k + 1) v1 v5 v6 v7 = br (decide (v7 < v5)) (br (decide (0 ≤ v7)) (br (decide (v7 < (↑(List.length v1.2.2.2.2.2.1) : Int))) (br ((List.getD v1.2.2.2.2.2.1 (Int.toNat v7) T146.zero).1 == v6.1) (some (Sum.inr false)) (br (decide (0 ≤ v7)) (br (decide (v7 < (↑(List.length v1.2.2.2.2.2.1) : Int))) (br ((List.getD v1.2.2.2.2.2.1 (Int.toNat v7) T146.zero).2.1 == v6.2.1) (some (Sum.inr false)) (spec_TableOK_l4 k v1 v5 v6 (IntKind.i64.wrap (v7 + 1)))) (none)) (none))) (none)) (none)) (some (Sum.inl (v1, v5))) := by kernel_rfl
noncomputable def c_spec_TableOK : Con := ⟨[.val T91], [T4], fun k x => spec_TableOK k x.1⟩
theorem del_spec_TableOK {w0 : World} (hS : Stops w0) : DelOk Try.prog w0 d_spec_TableOK := .cons (ok_spec_l09Col hS) ent_spec_l09Col (.cons (ok_spec_l08Name hS) ent_spec_l08Name (.cons (ok_spec_l09Named hS) ent_spec_l09Named (.cons (ok_spec_l09ColsOK hS) ent_spec_l09ColsOK (.nil))))
theorem ok_spec_TableOK {w0 : World} (hS : Stops w0) : ConOk Try.prog w0 115 c_spec_TableOK := fn_sound (A := a_spec_TableOK) tab_ok (del_spec_TableOK hS) (draws (del_spec_TableOK hS)) Try.func115 (by kernel_rfl) fun _ _ => rfl
theorem ent_spec_TableOK : Enters' Try.prog 115 := enters' Try.func115 (by kernel_rfl)
attribute [irreducible] spec_TableOK spec_TableOK_l0 spec_TableOK_l2 spec_TableOK_l4

/-! ### spec_CatalogOK: function 77 -/
def a_spec_CatalogOK : Ann := ⟨[(0, [.val 0 T57, .val 3 T3], ⟨[], false⟩), (2, [.val 0 T57, .val 3 T3, .val 4 T3], ⟨[.val 0 T57, .val 3 T3], false⟩)], [(8, ⟨[.val 0 T57, .val 3 T3], false⟩)]⟩
noncomputable def d_spec_CatalogOK : List (Nat × Con) := [(78, c_spec_l09Where), (95, c_spec_l09Table), (115, c_spec_TableOK)]
noncomputable def spec_CatalogOK (k : Nat) (a : (Ty.den T57)) : Option (den1 [T4]) := evFn Γ d_spec_CatalogOK a_spec_CatalogOK Try.f77 [.val T57] [T4] k (a, ())
noncomputable def spec_CatalogOK_l0 (k : Nat) (v0 : (Ty.den T57)) (v3 : (Ty.den T3)) : Option ((Items.den []) ⊕ (den1 [T4])) := loopR (ρ := (den1 [T4])) 0 [.val 0 T57, .val 3 T3] [] (runOf Γ d_spec_CatalogOK a_spec_CatalogOK Try.f77 [T4] 0) k (v0, v3)
noncomputable def spec_CatalogOK_l2 (k : Nat) (v0 : (Ty.den T57)) (v3 : (Ty.den T3)) (v4 : (Ty.den T3)) : Option ((Items.den [.val 0 T57, .val 3 T3]) ⊕ (den1 [T4])) := loopR (ρ := (den1 [T4])) 2 [.val 0 T57, .val 3 T3, .val 4 T3] [.val 0 T57, .val 3 T3] (runOf Γ d_spec_CatalogOK a_spec_CatalogOK Try.f77 [T4] 2) k (v0, v3, v4)
theorem spec_CatalogOK_eq (k : Nat) (a : (Ty.den T57)) : spec_CatalogOK k a = br (decide ((↑(List.length a) : Int) > 40)) (some false) (bnd (spec_CatalogOK_l0 k a 0) (fun y1 => onSum y1 (fun y2 => some true) (fun y2 => some y2))) := by kernel_rfl
theorem spec_CatalogOK_l0_zero (v0 : (Ty.den T57)) (v3 : (Ty.den T3)) : spec_CatalogOK_l0 0 v0 v3 = none := by kernel_rfl
theorem spec_CatalogOK_l0_succ (k : Nat) (v0 : (Ty.den T57)) (v3 : (Ty.den T3)) : spec_CatalogOK_l0 (k + 1) v0 v3 = br (decide (v3 < (↑(List.length v0) : Int))) (bnd (br (decide (0 ≤ v3)) (br (decide (v3 < (↑(List.length v0) : Int))) (bnd (spec_TableOK k (List.getD v0 (Int.toNat v3) T91.zero)) (fun y1 => br (!y1) (some (Sum.inr false)) (br (decide (v3 > 0)) (br (decide (0 ≤ v3)) (br (decide (v3 < (↑(List.length v0) : Int))) (br (decide (0 ≤ IntKind.i64.wrap (v3 - 1))) (br (decide (IntKind.i64.wrap (v3 - 1) < (↑(List.length v0) : Int))) (br (decide ((List.getD v0 (Int.toNat v3) T91.zero).1 ≤ (List.getD v0 (IntKind.i64.wrap (v3 - 1)).toNat T91.zero).1)) (some (Sum.inr false)) (br (decide (0 ≤ v3)) (br (decide (v3 < (↑(List.length v0) : Int))) (bnd (spec_l09Table k v0 (List.getD v0 (Int.toNat v3) T91.zero).2.1) (fun y2 => br (y2 != v3) (some (Sum.inr false)) (some (Sum.inl (v0, v3))))) (none)) (none))) (none)) (none)) (none)) (none)) (br (decide (0 ≤ v3)) (br (decide (v3 < (↑(List.length v0) : Int))) (bnd (spec_l09Table k v0 (List.getD v0 (Int.toNat v3) T91.zero).2.1) (fun y2 => br (y2 != v3) (some (Sum.inr false)) (some (Sum.inl (v0, v3))))) (none)) (none))))) (none)) (none)) (fun y1 => onSum y1 (fun y2 => bnd (spec_CatalogOK_l2 k y2.1 y2.2 0) (fun y3 => onSum y3 (fun y4 => spec_CatalogOK_l0 k y4.1 (IntKind.i64.wrap (y4.2 + 1))) (fun y4 => some (Sum.inr y4)))) (fun y2 => some (Sum.inr y2)))) (some (Sum.inl ())) := by kernel_rfl
theorem spec_CatalogOK_l2_zero (v0 : (Ty.den T57)) (v3 : (Ty.den T3)) (v4 : (Ty.den T3)) : spec_CatalogOK_l2 0 v0 v3 v4 = none := by kernel_rfl
theorem spec_CatalogOK_l2_succ (k : Nat) (v0 : (Ty.den T57)) (v3 : (Ty.den T3)) (v4 : (Ty.den T3)) : spec_CatalogOK_l2 (k + 1) v0 v3 v4 = br (decide (0 ≤ v3)) (br (decide (v3 < (↑(List.length v0) : Int))) (br (decide (v4 < (↑(List.length (List.getD v0 (Int.toNat v3) T91.zero).2.2.2.2.2.1) : Int))) (br (decide (0 ≤ v3)) (br (decide (v3 < (↑(List.length v0) : Int))) (br (decide (0 ≤ v4)) (br (decide (v4 < (↑(List.length (List.getD v0 (Int.toNat v3) T91.zero).2.2.2.2.2.1) : Int))) (bnd (spec_l09Where k v0 (List.getD (List.getD v0 (Int.toNat v3) T91.zero).2.2.2.2.2.1 (Int.toNat v4) T146.zero).2.1) (fun y1 => br (y1.1 != v3) (some (Sum.inr false)) (spec_CatalogOK_l2 k v0 v3 (IntKind.i64.wrap (v4 + 1))))) (none)) (none)) (none)) (none)) (some (Sum.inl (v0, v3)))) (none)) (none) := by kernel_rfl
noncomputable def c_spec_CatalogOK : Con := ⟨[.val T57], [T4], fun k x => spec_CatalogOK k x.1⟩
theorem del_spec_CatalogOK {w0 : World} (hS : Stops w0) : DelOk Try.prog w0 d_spec_CatalogOK := .cons (ok_spec_l09Where hS) ent_spec_l09Where (.cons (ok_spec_l09Table hS) ent_spec_l09Table (.cons (ok_spec_TableOK hS) ent_spec_TableOK (.nil)))
theorem ok_spec_CatalogOK {w0 : World} (hS : Stops w0) : ConOk Try.prog w0 77 c_spec_CatalogOK := fn_sound (A := a_spec_CatalogOK) tab_ok (del_spec_CatalogOK hS) (draws (del_spec_CatalogOK hS)) Try.func77 (by kernel_rfl) fun _ _ => rfl
theorem ent_spec_CatalogOK : Enters' Try.prog 77 := enters' Try.func77 (by kernel_rfl)
attribute [irreducible] spec_CatalogOK spec_CatalogOK_l0 spec_CatalogOK_l2

/-! ### spec_l11Cols: function 96 -/
def a_spec_l11Cols : Ann := ⟨[(0, [.val 0 T57, .val 1 T64, .row 6 3 T3, .row 7 167 T167, .val 8 T3], ⟨[.row 6 3 T3, .row 7 167 T167], true⟩), (2, [.val 0 T57, .val 1 T64, .row 6 3 T3, .row 7 167 T167, .val 8 T3, .val 9 T3, .val 10 T3], ⟨[.val 0 T57, .val 1 T64, .row 6 3 T3, .row 7 167 T167, .val 8 T3], true⟩)], []⟩
noncomputable def d_spec_l11Cols : List (Nat × Con) := [(95, c_spec_l09Table)]
noncomputable def spec_l11Cols (k : Nat) (a : (Ty.den T57)) (b : (Ty.den T64)) : Option (den1 [T25, T88]) := evFn Γ d_spec_l11Cols a_spec_l11Cols Try.f96 [.val T57, .val T64] [T25, T88] k (a, b, ())
noncomputable def spec_l11Cols_l0 (k : Nat) (v0 : (Ty.den T57)) (v1 : (Ty.den T64)) (v6 : (Ty.den (.sl T3))) (v7 : (Ty.den (.sl T167))) (v8 : (Ty.den T3)) : Option (Items.den [.row 6 3 T3, .row 7 167 T167]) := loopQ (ρ := (den1 [T25, T88])) 0 [.val 0 T57, .val 1 T64, .row 6 3 T3, .row 7 167 T167, .val 8 T3] [.row 6 3 T3, .row 7 167 T167] (runOf Γ d_spec_l11Cols a_spec_l11Cols Try.f96 [T25, T88] 0) k (v0, v1, v6, v7, v8)
noncomputable def spec_l11Cols_l2 (k : Nat) (v0 : (Ty.den T57)) (v1 : (Ty.den T64)) (v6 : (Ty.den (.sl T3))) (v7 : (Ty.den (.sl T167))) (v8 : (Ty.den T3)) (v9 : (Ty.den T3)) (v10 : (Ty.den T3)) : Option (Items.den [.val 0 T57, .val 1 T64, .row 6 3 T3, .row 7 167 T167, .val 8 T3]) := loopQ (ρ := (den1 [T25, T88])) 2 [.val 0 T57, .val 1 T64, .row 6 3 T3, .row 7 167 T167, .val 8 T3, .val 9 T3, .val 10 T3] [.val 0 T57, .val 1 T64, .row 6 3 T3, .row 7 167 T167, .val 8 T3] (runOf Γ d_spec_l11Cols a_spec_l11Cols Try.f96 [T25, T88] 2) k (v0, v1, v6, v7, v8, v9, v10)
theorem spec_l11Cols_eq (k : Nat) (a : (Ty.den T57)) (b : (Ty.den T64)) : spec_l11Cols k a b = bnd (spec_l11Cols_l0 k a b [] [] 0) (fun y1 => some (y1.1, y1.2)) := by kernel_rfl
theorem spec_l11Cols_l0_zero (v0 : (Ty.den T57)) (v1 : (Ty.den T64)) (v6 : (Ty.den (.sl T3))) (v7 : (Ty.den (.sl T167))) (v8 : (Ty.den T3)) : spec_l11Cols_l0 0 v0 v1 v6 v7 v8 = none := by kernel_rfl
theorem spec_l11Cols_l0_succ (k : Nat) (v0 : (Ty.den T57)) (v1 : (Ty.den T64)) (v6 : (Ty.den (.sl T3))) (v7 : (Ty.den (.sl T167))) (v8 : (Ty.den T3)) : spec_l11Cols_l0 (k + 1) v0 v1 v6 v7 v8 = br (decide (v8 < (↑(List.length v1) : Int))) (br (decide (0 ≤ v8)) (br (decide (v8 < (↑(List.length v1) : Int))) (bnd (spec_l09Table k v0 (List.getD v1 (Int.toNat v8) T9.zero)) (fun y1 => br (decide (y1 < 0)) (spec_l11Cols_l0 k v0 v1 v6 v7 (IntKind.i64.wrap (v8 + 1))) (bnd (spec_l11Cols_l2 k v0 v1 v6 v7 v8 y1 0) (fun y2 => spec_l11Cols_l0 k y2.1 y2.2.1 y2.2.2.1 y2.2.2.2.1 (IntKind.i64.wrap (y2.2.2.2.2 + 1)))))) (none)) (none)) (some (v6, v7)) := by kernel_rfl
theorem spec_l11Cols_l2_zero (v0 : (Ty.den T57)) (v1 : (Ty.den T64)) (v6 : (Ty.den (.sl T3))) (v7 : (Ty.den (.sl T167))) (v8 : (Ty.den T3)) (v9 : (Ty.den T3)) (v10 : (Ty.den T3)) : spec_l11Cols_l2 0 v0 v1 v6 v7 v8 v9 v10 = none := by kernel_rfl
theorem spec_l11Cols_l2_succ (k : Nat) (v0 : (Ty.den T57)) (v1 : (Ty.den T64)) (v6 : (Ty.den (.sl T3))) (v7 : (Ty.den (.sl T167))) (v8 : (Ty.den T3)) (v9 : (Ty.den T3)) (v10 : (Ty.den T3)) : spec_l11Cols_l2 (k + 1) v0 v1 v6 v7 v8 v9 v10 = br (decide (0 ≤ v9)) (br (decide (v9 < (↑(List.length v0) : Int))) (br (decide (v10 < (↑(List.length (List.getD v0 (Int.toNat v9) T91.zero).2.2.2.1) : Int))) (br (decide (List.length v6 + [v8].length ≤ capN)) (br (decide (0 ≤ v9)) (br (decide (v9 < (↑(List.length v0) : Int))) (br (decide (0 ≤ v10)) (br (decide (v10 < (↑(List.length (List.getD v0 (Int.toNat v9) T91.zero).2.2.2.1) : Int))) (br (decide (List.length v7 + [(List.getD (List.getD v0 (Int.toNat v9) T91.zero).2.2.2.1 (Int.toNat v10) T167.zero)].length ≤ capN)) (spec_l11Cols_l2 k v0 v1 (v6 ++ [v8]) (v7 ++ [(List.getD (List.getD v0 (Int.toNat v9) T91.zero).2.2.2.1 (Int.toNat v10) T167.zero)]) v8 v9 (IntKind.i64.wrap (v10 + 1))) (none)) (none)) (none)) (none)) (none)) (none)) (some (v0, v1, v6, v7, v8))) (none)) (none) := by kernel_rfl
noncomputable def c_spec_l11Cols : Con := ⟨[.val T57, .val T64], [T25, T88], fun k x => spec_l11Cols k x.1 x.2.1⟩
theorem del_spec_l11Cols {w0 : World} (hS : Stops w0) : DelOk Try.prog w0 d_spec_l11Cols := .cons (ok_spec_l09Table hS) ent_spec_l09Table (.nil)
theorem ok_spec_l11Cols {w0 : World} (hS : Stops w0) : ConOk Try.prog w0 96 c_spec_l11Cols := fn_sound (A := a_spec_l11Cols) tab_ok (del_spec_l11Cols hS) (draws (del_spec_l11Cols hS)) Try.func96 (by kernel_rfl) fun _ _ => rfl
theorem ent_spec_l11Cols : Enters' Try.prog 96 := enters' Try.func96 (by kernel_rfl)
attribute [irreducible] spec_l11Cols spec_l11Cols_l0 spec_l11Cols_l2

/-! ### spec_l01Printable: function 133 -/
def a_spec_l01Printable : Ann := ⟨[(0, [.val 0 T9, .val 3 T3], ⟨[], false⟩)], []⟩
noncomputable def d_spec_l01Printable : List (Nat × Con) := []
noncomputable def spec_l01Printable (k : Nat) (a : (Ty.den T9)) : Option (den1 [T4]) := evFn Γ d_spec_l01Printable a_spec_l01Printable Try.f133 [.val T9] [T4] k (a, ())
noncomputable def spec_l01Printable_l0 (k : Nat) (v0 : (Ty.den T9)) (v3 : (Ty.den T3)) : Option ((Items.den []) ⊕ (den1 [T4])) := loopR (ρ := (den1 [T4])) 0 [.val 0 T9, .val 3 T3] [] (runOf Γ d_spec_l01Printable a_spec_l01Printable Try.f133 [T4] 0) k (v0, v3)
theorem spec_l01Printable_eq (k : Nat) (a : (Ty.den T9)) : spec_l01Printable k a = bnd (spec_l01Printable_l0 k a 0) (fun y1 => onSum y1 (fun y2 => some true) (fun y2 => some y2)) := by kernel_rfl
theorem spec_l01Printable_l0_zero (v0 : (Ty.den T9)) (v3 : (Ty.den T3)) : spec_l01Printable_l0 0 v0 v3 = none := by kernel_rfl
theorem spec_l01Printable_l0_succ (k : Nat) (v0 : (Ty.den T9)) (v3 : (Ty.den T3)) : spec_l01Printable_l0 (k + 1) v0 v3 = br (decide (v3 < (↑(List.length v0) : Int))) (br (decide (0 ≤ v3)) (br (decide (v3 < (↑(List.length v0) : Int))) (br (decide ((↑(List.getD v0 (Int.toNat v3) 0).toNat : Int) < 32)) (some (Sum.inr false)) (br (decide (0 ≤ v3)) (br (decide (v3 < (↑(List.length v0) : Int))) (br (decide ((↑(List.getD v0 (Int.toNat v3) 0).toNat : Int) > 126)) (some (Sum.inr false)) (spec_l01Printable_l0 k v0 (IntKind.i64.wrap (v3 + 1)))) (none)) (none))) (none)) (none)) (some (Sum.inl ())) := by kernel_rfl
noncomputable def c_spec_l01Printable : Con := ⟨[.val T9], [T4], fun k x => spec_l01Printable k x.1⟩
theorem del_spec_l01Printable {w0 : World} (hS : Stops w0) : DelOk Try.prog w0 d_spec_l01Printable := .nil
theorem ok_spec_l01Printable {w0 : World} (hS : Stops w0) : ConOk Try.prog w0 133 c_spec_l01Printable := fn_sound (A := a_spec_l01Printable) tab_ok (del_spec_l01Printable hS) (draws (del_spec_l01Printable hS)) Try.func133 (by kernel_rfl) fun _ _ => rfl
theorem ent_spec_l01Printable : Enters' Try.prog 133 := enters' Try.func133 (by kernel_rfl)
attribute [irreducible] spec_l01Printable spec_l01Printable_l0

/-! ### spec_ValueOK: function 47 -/
def a_spec_ValueOK : Ann := ⟨[], [(3, ⟨[.var 1 T108 []], false⟩)]⟩
noncomputable def d_spec_ValueOK : List (Nat × Con) := [(133, c_spec_l01Printable)]
noncomputable def spec_ValueOK (k : Nat) (a : (Ty.den T108)) : Option (den1 [T4]) := evFn Γ d_spec_ValueOK a_spec_ValueOK Try.f47 [.val T108] [T4] k (a, ())
theorem spec_ValueOK_eq (k : Nat) (a : (Ty.den T108)) : spec_ValueOK k a = bnd (br (a.1 != 4) (br (decide ((↑(List.length a.2.2.2.1) : Int) > 0)) (some (Sum.inr false)) (br (a.1 != 3) (br (a.2.2.1 != 0) (some (Sum.inr false)) (some (Sum.inl a))) (some (Sum.inl a)))) (br (a.1 != 3) (br (a.2.2.1 != 0) (some (Sum.inr false)) (some (Sum.inl a))) (some (Sum.inl a)))) (fun y1 => onSum y1 (fun y2 => br (y2.1 == 0) (some (y2.2.1 == 0)) (br (y2.1 == 1) (br (y2.2.1 == 0) (some true) (some (y2.2.1 == 1))) (br (y2.1 == 2) (br (decide (y2.2.1 ≥ -1000000000000000)) (some (decide (y2.2.1 ≤ 1000000000000000))) (some false)) (br (y2.1 == 3) (br (decide (y2.2.1 ≥ -1000000000)) (br (decide (y2.2.1 ≤ 1000000000)) (br (decide (y2.2.2.1 ≥ 0)) (br (decide (y2.2.2.1 ≤ 6)) (br (y2.2.2.1 == 0) (some true) (br (!10 == 0) (some (Int.tmod y2.2.1 10 != 0)) (none))) (some false)) (some false)) (some false)) (some false)) (br (y2.1 == 5) (br (decide (y2.2.1 ≥ 0)) (some (decide (y2.2.1 ≤ 3652058))) (some false)) (br (y2.1 == 4) (br (y2.2.1 == 0) (bnd (spec_l01Printable k y2.2.2.2.1) (fun y3 => br (y3) (some (decide ((↑(List.length y2.2.2.2.1) : Int) ≤ 200))) (some false))) (some false)) (some false))))))) (fun y2 => some y2)) := by kernel_rfl
noncomputable def c_spec_ValueOK : Con := ⟨[.val T108], [T4], fun k x => spec_ValueOK k x.1⟩
theorem del_spec_ValueOK {w0 : World} (hS : Stops w0) : DelOk Try.prog w0 d_spec_ValueOK := .cons (ok_spec_l01Printable hS) ent_spec_l01Printable (.nil)
theorem ok_spec_ValueOK {w0 : World} (hS : Stops w0) : ConOk Try.prog w0 47 c_spec_ValueOK := fn_sound (A := a_spec_ValueOK) tab_ok (del_spec_ValueOK hS) (draws (del_spec_ValueOK hS)) Try.func47 (by kernel_rfl) fun _ _ => rfl
theorem ent_spec_ValueOK : Enters' Try.prog 47 := enters' Try.func47 (by kernel_rfl)
attribute [irreducible] spec_ValueOK

/-! ### spec_l11Compares: function 180 -/
def a_spec_l11Compares : Ann := ⟨[], []⟩
noncomputable def d_spec_l11Compares : List (Nat × Con) := []
noncomputable def spec_l11Compares (k : Nat) (a : (Ty.den T9)) : Option (den1 [T4]) := evFn Γ d_spec_l11Compares a_spec_l11Compares Try.f180 [.val T9] [T4] k (a, ())
theorem spec_l11Compares_eq (k : Nat) (a : (Ty.den T9)) : spec_l11Compares k a = br (a == [61]) (br (a == [61]) (some true) (some false)) (br (a == [60, 62]) (br (a == [60, 62]) (some true) (some false)) (br (a == [60]) (br (a == [60]) (some true) (some false)) (br (a == [60, 61]) (br (a == [60, 61]) (some true) (some false)) (br (a == [62]) (br (a == [62]) (some true) (some false)) (br (a == [62, 61]) (some true) (some false)))))) := by kernel_rfl
noncomputable def c_spec_l11Compares : Con := ⟨[.val T9], [T4], fun k x => spec_l11Compares k x.1⟩
theorem del_spec_l11Compares {w0 : World} (hS : Stops w0) : DelOk Try.prog w0 d_spec_l11Compares := .nil
theorem ok_spec_l11Compares {w0 : World} (hS : Stops w0) : ConOk Try.prog w0 180 c_spec_l11Compares := fn_sound (A := a_spec_l11Compares) tab_ok (del_spec_l11Compares hS) (draws (del_spec_l11Compares hS)) Try.func180 (by kernel_rfl) fun _ _ => rfl
theorem ent_spec_l11Compares : Enters' Try.prog 180 := enters' Try.func180 (by kernel_rfl)
attribute [irreducible] spec_l11Compares

/-! ### spec_l11KindsAlike: function 181 -/
def a_spec_l11KindsAlike : Ann := ⟨[], [(2, ⟨[.val 0 T3, .val 1 T3, .val 5 T4], true⟩), (3, ⟨[.val 0 T3, .val 1 T3, .val 5 T4, .val 6 T4], true⟩)]⟩
noncomputable def d_spec_l11KindsAlike : List (Nat × Con) := []
noncomputable def spec_l11KindsAlike (k : Nat) (a : (Ty.den T3)) (b : (Ty.den T3)) : Option (den1 [T4]) := evFn Γ d_spec_l11KindsAlike a_spec_l11KindsAlike Try.f181 [.val T3, .val T3] [T4] k (a, b, ())
theorem spec_l11KindsAlike_eq (k : Nat) (a : (Ty.den T3)) (b : (Ty.den T3)) : spec_l11KindsAlike k a b = bnd (br (a == 2) (some (a, b, true)) (some (a, b, a == 3))) (fun y1 => bnd (br (y1.2.1 == 2) (some (y1.1, y1.2.1, y1.2.2, true)) (some (y1.1, y1.2.1, y1.2.2, y1.2.1 == 3))) (fun y2 => br (y2.1 == y2.2.1) (some true) (br (y2.2.2.1) (some y2.2.2.2) (some false)))) := by kernel_rfl
noncomputable def c_spec_l11KindsAlike : Con := ⟨[.val T3, .val T3], [T4], fun k x => spec_l11KindsAlike k x.1 x.2.1⟩
theorem del_spec_l11KindsAlike {w0 : World} (hS : Stops w0) : DelOk Try.prog w0 d_spec_l11KindsAlike := .nil
theorem ok_spec_l11KindsAlike {w0 : World} (hS : Stops w0) : ConOk Try.prog w0 181 c_spec_l11KindsAlike := fn_sound (A := a_spec_l11KindsAlike) tab_ok (del_spec_l11KindsAlike hS) (draws (del_spec_l11KindsAlike hS)) Try.func181 (by kernel_rfl) fun _ _ => rfl
theorem ent_spec_l11KindsAlike : Enters' Try.prog 181 := enters' Try.func181 (by kernel_rfl)
attribute [irreducible] spec_l11KindsAlike

/-! ### spec_l11PredOK: function 97 -/
def a_spec_l11PredOK : Ann := ⟨[], []⟩
noncomputable def d_spec_l11PredOK : List (Nat × Con) := [(47, c_spec_ValueOK), (180, c_spec_l11Compares), (181, c_spec_l11KindsAlike)]
noncomputable def spec_l11PredOK (k : Nat) (a : (Ty.den T88)) (b : (Ty.den T162)) : Option (den1 [T4]) := evFn Γ d_spec_l11PredOK a_spec_l11PredOK Try.f97 [.val T88, .val T162] [T4] k (a, b, ())
theorem spec_l11PredOK_eq (k : Nat) (a : (Ty.den T88)) (b : (Ty.den T162)) : spec_l11PredOK k a b = br (decide (b.2.1 < 0)) (some false) (br (decide (b.2.1 ≥ (↑(List.length a) : Int))) (some false) (br (decide (b.2.2.1 < -1)) (some false) (br (decide (b.2.2.1 ≥ (↑(List.length a) : Int))) (some false) (bnd (spec_ValueOK k b.2.2.2.1) (fun y1 => br (!y1) (some false) (br (b.1 == [110, 117, 108, 108]) (br (b.2.2.1 == -1) (some (andB (eqI b.2.2.2.1.1 0) (andB (eqI b.2.2.2.1.2.1 0) (andB (eqI b.2.2.2.1.2.2.1 0) (andB (eqS b.2.2.2.1.2.2.2.1 []) true))))) (some false)) (br (b.1 == [115, 111, 109, 101]) (br (b.2.2.1 == -1) (some (andB (eqI b.2.2.2.1.1 0) (andB (eqI b.2.2.2.1.2.1 0) (andB (eqI b.2.2.2.1.2.2.1 0) (andB (eqS b.2.2.2.1.2.2.2.1 []) true))))) (some false)) (bnd (spec_l11Compares k b.1) (fun y2 => br (!y2) (some false) (br (decide (b.2.2.1 ≥ 0)) (br (andB (eqI b.2.2.2.1.1 0) (andB (eqI b.2.2.2.1.2.1 0) (andB (eqI b.2.2.2.1.2.2.1 0) (andB (eqS b.2.2.2.1.2.2.2.1 []) true)))) (br (decide (0 ≤ b.2.1)) (br (decide (b.2.1 < (↑(List.length a) : Int))) (br (decide (0 ≤ b.2.2.1)) (br (decide (b.2.2.1 < (↑(List.length a) : Int))) (bnd (spec_l11KindsAlike k (List.getD a (Int.toNat b.2.1) T167.zero).2.2.1 (List.getD a (Int.toNat b.2.2.1) T167.zero).2.2.1) (fun y3 => some y3)) (none)) (none)) (none)) (none)) (some false)) (br (b.2.2.2.1.1 != 0) (br (decide (0 ≤ b.2.1)) (br (decide (b.2.1 < (↑(List.length a) : Int))) (bnd (spec_l11KindsAlike k (List.getD a (Int.toNat b.2.1) T167.zero).2.2.1 b.2.2.2.1.1) (fun y3 => some y3)) (none)) (none)) (some false)))))))))))) := by kernel_rfl
noncomputable def c_spec_l11PredOK : Con := ⟨[.val T88, .val T162], [T4], fun k x => spec_l11PredOK k x.1 x.2.1⟩
theorem del_spec_l11PredOK {w0 : World} (hS : Stops w0) : DelOk Try.prog w0 d_spec_l11PredOK := .cons (ok_spec_ValueOK hS) ent_spec_ValueOK (.cons (ok_spec_l11Compares hS) ent_spec_l11Compares (.cons (ok_spec_l11KindsAlike hS) ent_spec_l11KindsAlike (.nil)))
theorem ok_spec_l11PredOK {w0 : World} (hS : Stops w0) : ConOk Try.prog w0 97 c_spec_l11PredOK := fn_sound (A := a_spec_l11PredOK) tab_ok (del_spec_l11PredOK hS) (draws (del_spec_l11PredOK hS)) Try.func97 (by kernel_rfl) fun _ _ => rfl
theorem ent_spec_l11PredOK : Enters' Try.prog 97 := enters' Try.func97 (by kernel_rfl)
attribute [irreducible] spec_l11PredOK

/-! ### spec_FlatOK: function 31 -/
def a_spec_FlatOK : Ann := ⟨[(0, [.val 0 T57, .var 3 T74 [], .val 5 T3], ⟨[.val 0 T57, .var 3 T74 []], false⟩), (2, [.var 3 T74 [], .val 7 T88, .val 8 T3], ⟨[.var 3 T74 [], .val 7 T88], false⟩), (4, [.var 3 T74 [], .val 7 T88, .val 9 T3], ⟨[.var 3 T74 [], .val 7 T88], false⟩), (6, [.var 3 T74 [], .val 7 T88, .val 10 T3], ⟨[.var 3 T74 []], false⟩)], []⟩
noncomputable def d_spec_FlatOK : List (Nat × Con) := [(77, c_spec_CatalogOK), (94, c_spec_l09Once), (95, c_spec_l09Table), (96, c_spec_l11Cols), (97, c_spec_l11PredOK), (98, c_spec_l09Has)]
noncomputable def spec_FlatOK (k : Nat) (a : (Ty.den T57)) (b : (Ty.den T74)) : Option (den1 [T4]) := evFn Γ d_spec_FlatOK a_spec_FlatOK Try.f31 [.val T57, .val T74] [T4] k (a, b, ())
noncomputable def spec_FlatOK_l0 (k : Nat) (v0 : (Ty.den T57)) (v3 : (Ty.den T74)) (v5 : (Ty.den T3)) : Option ((Items.den [.val 0 T57, .var 3 T74 []]) ⊕ (den1 [T4])) := loopR (ρ := (den1 [T4])) 0 [.val 0 T57, .var 3 T74 [], .val 5 T3] [.val 0 T57, .var 3 T74 []] (runOf Γ d_spec_FlatOK a_spec_FlatOK Try.f31 [T4] 0) k (v0, v3, v5)
noncomputable def spec_FlatOK_l2 (k : Nat) (v3 : (Ty.den T74)) (v7 : (Ty.den T88)) (v8 : (Ty.den T3)) : Option ((Items.den [.var 3 T74 [], .val 7 T88]) ⊕ (den1 [T4])) := loopR (ρ := (den1 [T4])) 2 [.var 3 T74 [], .val 7 T88, .val 8 T3] [.var 3 T74 [], .val 7 T88] (runOf Γ d_spec_FlatOK a_spec_FlatOK Try.f31 [T4] 2) k (v3, v7, v8)
noncomputable def spec_FlatOK_l4 (k : Nat) (v3 : (Ty.den T74)) (v7 : (Ty.den T88)) (v9 : (Ty.den T3)) : Option ((Items.den [.var 3 T74 [], .val 7 T88]) ⊕ (den1 [T4])) := loopR (ρ := (den1 [T4])) 4 [.var 3 T74 [], .val 7 T88, .val 9 T3] [.var 3 T74 [], .val 7 T88] (runOf Γ d_spec_FlatOK a_spec_FlatOK Try.f31 [T4] 4) k (v3, v7, v9)
noncomputable def spec_FlatOK_l6 (k : Nat) (v3 : (Ty.den T74)) (v7 : (Ty.den T88)) (v10 : (Ty.den T3)) : Option ((Items.den [.var 3 T74 []]) ⊕ (den1 [T4])) := loopR (ρ := (den1 [T4])) 6 [.var 3 T74 [], .val 7 T88, .val 10 T3] [.var 3 T74 []] (runOf Γ d_spec_FlatOK a_spec_FlatOK Try.f31 [T4] 6) k (v3, v7, v10)
theorem spec_FlatOK_eq (k : Nat) (a : (Ty.den T57)) (b : (Ty.den T74)) : spec_FlatOK k a b = bnd (spec_CatalogOK k a) (fun y1 => br (!y1) (some false) (br (decide ((↑(List.length b.1) : Int) < 1)) (some false) (br (decide ((↑(List.length b.1) : Int) > 4)) (some false) (br (decide ((↑(List.length b.2.1) : Int) > 30)) (some false) (br (decide ((↑(List.length b.2.2.2.1) : Int) < 1)) (some false) (br (decide ((↑(List.length b.2.2.2.1) : Int) > 16)) (some false) (br (decide ((↑(List.length b.2.2.1) : Int) > 16)) (some false) (bnd (spec_l09Once k b.2.2.1) (fun y2 => br (!y2) (some false) (bnd (spec_FlatOK_l0 k a b 0) (fun y3 => onSum y3 (fun y4 => bnd (spec_l11Cols k y4.1 y4.2.1) (fun y5 => bnd (spec_FlatOK_l2 k y4.2 y5.2 0) (fun y6 => onSum y6 (fun y7 => bnd (spec_FlatOK_l4 k y7.1 y7.2 0) (fun y8 => onSum y8 (fun y9 => bnd (spec_FlatOK_l6 k y9.1 y9.2 0) (fun y10 => onSum y10 (fun y11 => br (y11.2.2.2.2.1) (some true) (some ((↑(List.length y11.2.2.1) : Int) == 0))) (fun y11 => some y11))) (fun y9 => some y9))) (fun y7 => some y7)))) (fun y4 => some y4)))))))))))) := by kernel_rfl
theorem spec_FlatOK_l0_zero (v0 : (Ty.den T57)) (v3 : (Ty.den T74)) (v5 : (Ty.den T3)) : spec_FlatOK_l0 0 v0 v3 v5 = none := by kernel_rfl
theorem spec_FlatOK_l0_succ (k : Nat) (v0 : (Ty.den T57)) (v3 : (Ty.den T74)) (v5 : (Ty.den T3)) : spec_FlatOK_l0 (k + 1) v0 v3 v5 = br (decide (v5 < (↑(List.length v3.1) : Int))) (br (decide (0 ≤ v5)) (br (decide (v5 < (↑(List.length v3.1) : Int))) (bnd (spec_l09Table k v0 (List.getD v3.1 (Int.toNat v5) T9.zero)) (fun y1 => br (decide (y1 < 0)) (some (Sum.inr false)) (spec_FlatOK_l0 k v0 v3 (IntKind.i64.wrap (v5 + 1))))) (none)) (none)) (some (Sum.inl (v0, v3.1, v3.2.1, v3.2.2.1, v3.2.2.2.1, v3.2.2.2.2.1, ()))) := by kernel_rfl
theorem spec_FlatOK_l2_zero (v3 : (Ty.den T74)) (v7 : (Ty.den T88)) (v8 : (Ty.den T3)) : spec_FlatOK_l2 0 v3 v7 v8 = none := by kernel_rfl
theorem spec_FlatOK_l2_succ (k : Nat) (v3 : (Ty.den T74)) (v7 : (Ty.den T88)) (v8 : (Ty.den T3)) : spec_FlatOK_l2 (k + 1) v3 v7 v8 = br (decide (v8 < (↑(List.length v3.2.1) : Int))) (br (decide (0 ≤ v8)) (br (decide (v8 < (↑(List.length v3.2.1) : Int))) (bnd (spec_l11PredOK k v7 (List.getD v3.2.1 (Int.toNat v8) T162.zero)) (fun y1 => br (!y1) (some (Sum.inr false)) (spec_FlatOK_l2 k v3 v7 (IntKind.i64.wrap (v8 + 1))))) (none)) (none)) (some (Sum.inl (v3, v7))) := by kernel_rfl
theorem spec_FlatOK_l4_zero (v3 : (Ty.den T74)) (v7 : (Ty.den T88)) (v9 : (Ty.den T3)) : spec_FlatOK_l4 0 v3 v7 v9 = none := by kernel_rfl
theorem spec_FlatOK_l4_succ (k : Nat) (v3 : (Ty.den T74)) (v7 : (Ty.den T88)) (v9 : (Ty.den T3)) : spec_FlatOK_l4 (k + 1) v3 v7 v9 = br (decide (v9 < (↑(List.length v3.2.2.1) : Int))) (br (decide (0 ≤ v9)) (br (decide (v9 < (↑(List.length v3.2.2.1) : Int))) (br (decide (List.getD v3.2.2.1 (Int.toNat v9) T3.zero < 0)) (some (Sum.inr false)) (br (decide (0 ≤ v9)) (br (decide (v9 < (↑(List.length v3.2.2.1) : Int))) (br (decide (List.getD v3.2.2.1 (Int.toNat v9) T3.zero ≥ (↑(List.length v7) : Int))) (some (Sum.inr false)) (spec_FlatOK_l4 k v3 v7 (IntKind.i64.wrap (v9 + 1)))) (none)) (none))) (none)) (none)) (some (Sum.inl (v3, v7))) := by kernel_rfl
theorem spec_FlatOK_l6_zero (v3 : (Ty.den T74)) (v7 : (Ty.den T88)) (v10 : (Ty.den T3)) : spec_FlatOK_l6 0 v3 v7 v10 = none := by kernel_rfl
theorem spec_FlatOK_l6_succ (k : Nat) (v3 : (Ty.den T74)) (v7 : (Ty.den T88)) (v10 : (Ty.den T3)) : spec_FlatOK_l6 (k + 1) v3 v7 v10 = br (decide (v10 < (↑(List.length v3.2.2.2.1) : Int))) (br (decide (0 ≤ v10)) (br (decide (v10 < (↑(List.length v3.2.2.2.1) : Int))) (br (decide ((List.getD v3.2.2.2.1 (Int.toNat v10) T164.zero).2.1 < -1)) (some (Sum.inr false)) (br (decide ((List.getD v3.2.2.2.1 (Int.toNat v10) T164.zero).2.1 ≥ (↑(List.length v7) : Int))) (some (Sum.inr false)) (br ((List.getD v3.2.2.2.1 (Int.toNat v10) T164.zero).1 == []) (br (decide ((List.getD v3.2.2.2.1 (Int.toNat v10) T164.zero).2.1 < 0)) (some (Sum.inr false)) (br (v3.2.2.2.2.1) (bnd (spec_l09Has k v3.2.2.1 (List.getD v3.2.2.2.1 (Int.toNat v10) T164.zero).2.1) (fun y1 => br (!y1) (some (Sum.inr false)) (spec_FlatOK_l6 k v3 v7 (IntKind.i64.wrap (v10 + 1))))) (spec_FlatOK_l6 k v3 v7 (IntKind.i64.wrap (v10 + 1))))) (br ((List.getD v3.2.2.2.1 (Int.toNat v10) T164.zero).1 == [99, 111, 117, 110, 116]) (br (!v3.2.2.2.2.1) (some (Sum.inr false)) (spec_FlatOK_l6 k v3 v7 (IntKind.i64.wrap (v10 + 1)))) (br ((List.getD v3.2.2.2.1 (Int.toNat v10) T164.zero).1 == [109, 105, 110]) (br ((List.getD v3.2.2.2.1 (Int.toNat v10) T164.zero).1 == [109, 105, 110]) (br (decide ((List.getD v3.2.2.2.1 (Int.toNat v10) T164.zero).2.1 < 0)) (some (Sum.inr false)) (br (!v3.2.2.2.2.1) (some (Sum.inr false)) (spec_FlatOK_l6 k v3 v7 (IntKind.i64.wrap (v10 + 1))))) (br ((List.getD v3.2.2.2.1 (Int.toNat v10) T164.zero).1 == [115, 117, 109]) (br (decide ((List.getD v3.2.2.2.1 (Int.toNat v10) T164.zero).2.1 < 0)) (some (Sum.inr false)) (br (decide (0 ≤ (List.getD v3.2.2.2.1 (Int.toNat v10) T164.zero).2.1)) (br (decide ((List.getD v3.2.2.2.1 (Int.toNat v10) T164.zero).2.1 < (↑(List.length v7) : Int))) (br ((List.getD v7 (Int.toNat (List.getD v3.2.2.2.1 (Int.toNat v10) T164.zero).2.1) T167.zero).2.2.1 != 2) (br (decide (0 ≤ (List.getD v3.2.2.2.1 (Int.toNat v10) T164.zero).2.1)) (br (decide ((List.getD v3.2.2.2.1 (Int.toNat v10) T164.zero).2.1 < (↑(List.length v7) : Int))) (br ((List.getD v7 (Int.toNat (List.getD v3.2.2.2.1 (Int.toNat v10) T164.zero).2.1) T167.zero).2.2.1 != 3) (some (Sum.inr false)) (br (!v3.2.2.2.2.1) (some (Sum.inr false)) (spec_FlatOK_l6 k v3 v7 (IntKind.i64.wrap (v10 + 1))))) (none)) (none)) (br (!v3.2.2.2.2.1) (some (Sum.inr false)) (spec_FlatOK_l6 k v3 v7 (IntKind.i64.wrap (v10 + 1))))) (none)) (none))) (some (Sum.inr false)))) (br ((List.getD v3.2.2.2.1 (Int.toNat v10) T164.zero).1 == [109, 97, 120]) (br (decide ((List.getD v3.2.2.2.1 (Int.toNat v10) T164.zero).2.1 < 0)) (some (Sum.inr false)) (br (!v3.2.2.2.2.1) (some (Sum.inr false)) (spec_FlatOK_l6 k v3 v7 (IntKind.i64.wrap (v10 + 1))))) (br ((List.getD v3.2.2.2.1 (Int.toNat v10) T164.zero).1 == [115, 117, 109]) (br (decide ((List.getD v3.2.2.2.1 (Int.toNat v10) T164.zero).2.1 < 0)) (some (Sum.inr false)) (br (decide (0 ≤ (List.getD v3.2.2.2.1 (Int.toNat v10) T164.zero).2.1)) (br (decide ((List.getD v3.2.2.2.1 (Int.toNat v10) T164.zero).2.1 < (↑(List.length v7) : Int))) (br ((List.getD v7 (Int.toNat (List.getD v3.2.2.2.1 (Int.toNat v10) T164.zero).2.1) T167.zero).2.2.1 != 2) (br (decide (0 ≤ (List.getD v3.2.2.2.1 (Int.toNat v10) T164.zero).2.1)) (br (decide ((List.getD v3.2.2.2.1 (Int.toNat v10) T164.zero).2.1 < (↑(List.length v7) : Int))) (br ((List.getD v7 (Int.toNat (List.getD v3.2.2.2.1 (Int.toNat v10) T164.zero).2.1) T167.zero).2.2.1 != 3) (some (Sum.inr false)) (br (!v3.2.2.2.2.1) (some (Sum.inr false)) (spec_FlatOK_l6 k v3 v7 (IntKind.i64.wrap (v10 + 1))))) (none)) (none)) (br (!v3.2.2.2.2.1) (some (Sum.inr false)) (spec_FlatOK_l6 k v3 v7 (IntKind.i64.wrap (v10 + 1))))) (none)) (none))) (some (Sum.inr false))))))))) (none)) (none)) (some (Sum.inl v3)) := by kernel_rfl
noncomputable def c_spec_FlatOK : Con := ⟨[.val T57, .val T74], [T4], fun k x => spec_FlatOK k x.1 x.2.1⟩
theorem del_spec_FlatOK {w0 : World} (hS : Stops w0) : DelOk Try.prog w0 d_spec_FlatOK := .cons (ok_spec_CatalogOK hS) ent_spec_CatalogOK (.cons (ok_spec_l09Once hS) ent_spec_l09Once (.cons (ok_spec_l09Table hS) ent_spec_l09Table (.cons (ok_spec_l11Cols hS) ent_spec_l11Cols (.cons (ok_spec_l11PredOK hS) ent_spec_l11PredOK (.cons (ok_spec_l09Has hS) ent_spec_l09Has (.nil))))))
theorem ok_spec_FlatOK {w0 : World} (hS : Stops w0) : ConOk Try.prog w0 31 c_spec_FlatOK := fn_sound (A := a_spec_FlatOK) tab_ok (del_spec_FlatOK hS) (draws (del_spec_FlatOK hS)) Try.func31 (by kernel_rfl) fun _ _ => rfl
theorem ent_spec_FlatOK : Enters' Try.prog 31 := enters' Try.func31 (by kernel_rfl)
attribute [irreducible] spec_FlatOK spec_FlatOK_l0 spec_FlatOK_l2 spec_FlatOK_l4 spec_FlatOK_l6

/-! ### laws_toStringS: function 99 -/
def a_laws_toStringS : Ann := ⟨[(0, [.val 0 T64, .row 3 9 T9, .val 4 T3], ⟨[.row 3 9 T9], true⟩)], []⟩
noncomputable def d_laws_toStringS : List (Nat × Con) := []
noncomputable def laws_toStringS (k : Nat) (a : (Ty.den T64)) : Option (den1 [T64]) := evFn Γ d_laws_toStringS a_laws_toStringS Try.f99 [.val T64] [T64] k (a, ())
noncomputable def laws_toStringS_l0 (k : Nat) (v0 : (Ty.den T64)) (v3 : (Ty.den (.sl T9))) (v4 : (Ty.den T3)) : Option (Items.den [.row 3 9 T9]) := loopQ (ρ := (den1 [T64])) 0 [.val 0 T64, .row 3 9 T9, .val 4 T3] [.row 3 9 T9] (runOf Γ d_laws_toStringS a_laws_toStringS Try.f99 [T64] 0) k (v0, v3, v4)
theorem laws_toStringS_eq (k : Nat) (a : (Ty.den T64)) : laws_toStringS k a = br ((↑(List.length a) : Int) == (↑(List.length a) : Int)) (br (decide (0 ≤ (↑(List.length a) : Int))) (br (decide ((↑(List.length a) : Int) ≤ (↑capN : Int))) (bnd (laws_toStringS_l0 k a (List.replicate (↑(List.length a) : Int).toNat Ty.str.zero) 0) (fun y1 => some y1)) (none)) (none)) (none) := by kernel_rfl
theorem laws_toStringS_l0_zero (v0 : (Ty.den T64)) (v3 : (Ty.den (.sl T9))) (v4 : (Ty.den T3)) : laws_toStringS_l0 0 v0 v3 v4 = none := by kernel_rfl
theorem laws_toStringS_l0_succ (k : Nat) (v0 : (Ty.den T64)) (v3 : (Ty.den (.sl T9))) (v4 : (Ty.den T3)) : laws_toStringS_l0 (k + 1) v0 v3 v4 = br (decide (v4 < (↑(List.length v0) : Int))) (br (decide (0 ≤ v4)) (br (decide (v4 < (↑(List.length v0) : Int))) (br (decide (0 ≤ v4)) (br (decide (v4 < (↑(List.length v3) : Int))) (laws_toStringS_l0 k v0 (List.set v3 (Int.toNat v4) (List.getD v0 (Int.toNat v4) T9.zero)) (IntKind.i64.wrap (v4 + 1))) (none)) (none)) (none)) (none)) (some v3) := by kernel_rfl
noncomputable def c_laws_toStringS : Con := ⟨[.val T64], [T64], fun k x => laws_toStringS k x.1⟩
theorem del_laws_toStringS {w0 : World} (hS : Stops w0) : DelOk Try.prog w0 d_laws_toStringS := .nil
theorem ok_laws_toStringS {w0 : World} (hS : Stops w0) : ConOk Try.prog w0 99 c_laws_toStringS := fn_sound (A := a_laws_toStringS) tab_ok (del_laws_toStringS hS) (draws (del_laws_toStringS hS)) Try.func99 (by kernel_rfl) fun _ _ => rfl
theorem ent_laws_toStringS : Enters' Try.prog 99 := enters' Try.func99 (by kernel_rfl)
attribute [irreducible] laws_toStringS laws_toStringS_l0

/-! ### laws_toValue: function 209 -/
def a_laws_toValue : Ann := ⟨[], []⟩
noncomputable def d_laws_toValue : List (Nat × Con) := []
noncomputable def laws_toValue (k : Nat) (a : (Ty.den T245)) : Option (den1 [T108]) := evFn Γ d_laws_toValue a_laws_toValue Try.f209 [.val T245] [T108] k (a, ())
theorem laws_toValue_eq (k : Nat) (a : (Ty.den T245)) : laws_toValue k a = some a := by kernel_rfl
noncomputable def c_laws_toValue : Con := ⟨[.val T245], [T108], fun k x => laws_toValue k x.1⟩
theorem del_laws_toValue {w0 : World} (hS : Stops w0) : DelOk Try.prog w0 d_laws_toValue := .nil
theorem ok_laws_toValue {w0 : World} (hS : Stops w0) : ConOk Try.prog w0 209 c_laws_toValue := fn_sound (A := a_laws_toValue) tab_ok (del_laws_toValue hS) (draws (del_laws_toValue hS)) Try.func209 (by kernel_rfl) fun _ _ => rfl
theorem ent_laws_toValue : Enters' Try.prog 209 := enters' Try.func209 (by kernel_rfl)
attribute [irreducible] laws_toValue

/-! ### laws_toPred: function 182 -/
def a_laws_toPred : Ann := ⟨[], []⟩
noncomputable def d_laws_toPred : List (Nat × Con) := [(209, c_laws_toValue)]
noncomputable def laws_toPred (k : Nat) (a : (Ty.den T247)) : Option (den1 [T162]) := evFn Γ d_laws_toPred a_laws_toPred Try.f182 [.val T247] [T162] k (a, ())
theorem laws_toPred_eq (k : Nat) (a : (Ty.den T247)) : laws_toPred k a = bnd (laws_toValue k a.2.2.2.1) (fun y1 => some (a.1, a.2.1, a.2.2.1, y1, ())) := by kernel_rfl
noncomputable def c_laws_toPred : Con := ⟨[.val T247], [T162], fun k x => laws_toPred k x.1⟩
theorem del_laws_toPred {w0 : World} (hS : Stops w0) : DelOk Try.prog w0 d_laws_toPred := .cons (ok_laws_toValue hS) ent_laws_toValue (.nil)
theorem ok_laws_toPred {w0 : World} (hS : Stops w0) : ConOk Try.prog w0 182 c_laws_toPred := fn_sound (A := a_laws_toPred) tab_ok (del_laws_toPred hS) (draws (del_laws_toPred hS)) Try.func182 (by kernel_rfl) fun _ _ => rfl
theorem ent_laws_toPred : Enters' Try.prog 182 := enters' Try.func182 (by kernel_rfl)
attribute [irreducible] laws_toPred

/-! ### laws_toPredS: function 100 -/
def a_laws_toPredS : Ann := ⟨[(0, [.val 0 T65, .row 3 162 T162, .val 4 T3], ⟨[.row 3 162 T162], true⟩)], []⟩
noncomputable def d_laws_toPredS : List (Nat × Con) := [(182, c_laws_toPred)]
noncomputable def laws_toPredS (k : Nat) (a : (Ty.den T65)) : Option (den1 [T71]) := evFn Γ d_laws_toPredS a_laws_toPredS Try.f100 [.val T65] [T71] k (a, ())
noncomputable def laws_toPredS_l0 (k : Nat) (v0 : (Ty.den T65)) (v3 : (Ty.den (.sl T162))) (v4 : (Ty.den T3)) : Option (Items.den [.row 3 162 T162]) := loopQ (ρ := (den1 [T71])) 0 [.val 0 T65, .row 3 162 T162, .val 4 T3] [.row 3 162 T162] (runOf Γ d_laws_toPredS a_laws_toPredS Try.f100 [T71] 0) k (v0, v3, v4)
theorem laws_toPredS_eq (k : Nat) (a : (Ty.den T65)) : laws_toPredS k a = br ((↑(List.length a) : Int) == (↑(List.length a) : Int)) (br (decide (0 ≤ (↑(List.length a) : Int))) (br (decide ((↑(List.length a) : Int) ≤ (↑capN : Int))) (bnd (laws_toPredS_l0 k a (List.replicate (↑(List.length a) : Int).toNat (T9.pair (T3.pair (T3.pair (T108.pair Ty.unit)))).zero) 0) (fun y1 => some y1)) (none)) (none)) (none) := by kernel_rfl
theorem laws_toPredS_l0_zero (v0 : (Ty.den T65)) (v3 : (Ty.den (.sl T162))) (v4 : (Ty.den T3)) : laws_toPredS_l0 0 v0 v3 v4 = none := by kernel_rfl
theorem laws_toPredS_l0_succ (k : Nat) (v0 : (Ty.den T65)) (v3 : (Ty.den (.sl T162))) (v4 : (Ty.den T3)) : laws_toPredS_l0 (k + 1) v0 v3 v4 = br (decide (v4 < (↑(List.length v0) : Int))) (br (decide (0 ≤ v4)) (br (decide (v4 < (↑(List.length v0) : Int))) (bnd (laws_toPred k (List.getD v0 (Int.toNat v4) T247.zero)) (fun y1 => br (decide (0 ≤ v4)) (br (decide (v4 < (↑(List.length v3) : Int))) (laws_toPredS_l0 k v0 (List.set v3 (Int.toNat v4) y1) (IntKind.i64.wrap (v4 + 1))) (none)) (none))) (none)) (none)) (some v3) := by kernel_rfl
noncomputable def c_laws_toPredS : Con := ⟨[.val T65], [T71], fun k x => laws_toPredS k x.1⟩
theorem del_laws_toPredS {w0 : World} (hS : Stops w0) : DelOk Try.prog w0 d_laws_toPredS := .cons (ok_laws_toPred hS) ent_laws_toPred (.nil)
theorem ok_laws_toPredS {w0 : World} (hS : Stops w0) : ConOk Try.prog w0 100 c_laws_toPredS := fn_sound (A := a_laws_toPredS) tab_ok (del_laws_toPredS hS) (draws (del_laws_toPredS hS)) Try.func100 (by kernel_rfl) fun _ _ => rfl
theorem ent_laws_toPredS : Enters' Try.prog 100 := enters' Try.func100 (by kernel_rfl)
attribute [irreducible] laws_toPredS laws_toPredS_l0

/-! ### laws_toOut: function 183 -/
def a_laws_toOut : Ann := ⟨[], []⟩
noncomputable def d_laws_toOut : List (Nat × Con) := []
noncomputable def laws_toOut (k : Nat) (a : (Ty.den T249)) : Option (den1 [T164]) := evFn Γ d_laws_toOut a_laws_toOut Try.f183 [.val T249] [T164] k (a, ())
theorem laws_toOut_eq (k : Nat) (a : (Ty.den T249)) : laws_toOut k a = some a := by kernel_rfl
noncomputable def c_laws_toOut : Con := ⟨[.val T249], [T164], fun k x => laws_toOut k x.1⟩
theorem del_laws_toOut {w0 : World} (hS : Stops w0) : DelOk Try.prog w0 d_laws_toOut := .nil
theorem ok_laws_toOut {w0 : World} (hS : Stops w0) : ConOk Try.prog w0 183 c_laws_toOut := fn_sound (A := a_laws_toOut) tab_ok (del_laws_toOut hS) (draws (del_laws_toOut hS)) Try.func183 (by kernel_rfl) fun _ _ => rfl
theorem ent_laws_toOut : Enters' Try.prog 183 := enters' Try.func183 (by kernel_rfl)
attribute [irreducible] laws_toOut

/-! ### laws_toOutS: function 102 -/
def a_laws_toOutS : Ann := ⟨[(0, [.val 0 T66, .row 3 164 T164, .val 4 T3], ⟨[.row 3 164 T164], true⟩)], []⟩
noncomputable def d_laws_toOutS : List (Nat × Con) := [(183, c_laws_toOut)]
noncomputable def laws_toOutS (k : Nat) (a : (Ty.den T66)) : Option (den1 [T72]) := evFn Γ d_laws_toOutS a_laws_toOutS Try.f102 [.val T66] [T72] k (a, ())
noncomputable def laws_toOutS_l0 (k : Nat) (v0 : (Ty.den T66)) (v3 : (Ty.den (.sl T164))) (v4 : (Ty.den T3)) : Option (Items.den [.row 3 164 T164]) := loopQ (ρ := (den1 [T72])) 0 [.val 0 T66, .row 3 164 T164, .val 4 T3] [.row 3 164 T164] (runOf Γ d_laws_toOutS a_laws_toOutS Try.f102 [T72] 0) k (v0, v3, v4)
theorem laws_toOutS_eq (k : Nat) (a : (Ty.den T66)) : laws_toOutS k a = br ((↑(List.length a) : Int) == (↑(List.length a) : Int)) (br (decide (0 ≤ (↑(List.length a) : Int))) (br (decide ((↑(List.length a) : Int) ≤ (↑capN : Int))) (bnd (laws_toOutS_l0 k a (List.replicate (↑(List.length a) : Int).toNat (T9.pair (T3.pair Ty.unit)).zero) 0) (fun y1 => some y1)) (none)) (none)) (none) := by kernel_rfl
theorem laws_toOutS_l0_zero (v0 : (Ty.den T66)) (v3 : (Ty.den (.sl T164))) (v4 : (Ty.den T3)) : laws_toOutS_l0 0 v0 v3 v4 = none := by kernel_rfl
theorem laws_toOutS_l0_succ (k : Nat) (v0 : (Ty.den T66)) (v3 : (Ty.den (.sl T164))) (v4 : (Ty.den T3)) : laws_toOutS_l0 (k + 1) v0 v3 v4 = br (decide (v4 < (↑(List.length v0) : Int))) (br (decide (0 ≤ v4)) (br (decide (v4 < (↑(List.length v0) : Int))) (bnd (laws_toOut k (List.getD v0 (Int.toNat v4) T249.zero)) (fun y1 => br (decide (0 ≤ v4)) (br (decide (v4 < (↑(List.length v3) : Int))) (laws_toOutS_l0 k v0 (List.set v3 (Int.toNat v4) y1) (IntKind.i64.wrap (v4 + 1))) (none)) (none))) (none)) (none)) (some v3) := by kernel_rfl
noncomputable def c_laws_toOutS : Con := ⟨[.val T66], [T72], fun k x => laws_toOutS k x.1⟩
theorem del_laws_toOutS {w0 : World} (hS : Stops w0) : DelOk Try.prog w0 d_laws_toOutS := .cons (ok_laws_toOut hS) ent_laws_toOut (.nil)
theorem ok_laws_toOutS {w0 : World} (hS : Stops w0) : ConOk Try.prog w0 102 c_laws_toOutS := fn_sound (A := a_laws_toOutS) tab_ok (del_laws_toOutS hS) (draws (del_laws_toOutS hS)) Try.func102 (by kernel_rfl) fun _ _ => rfl
theorem ent_laws_toOutS : Enters' Try.prog 102 := enters' Try.func102 (by kernel_rfl)
attribute [irreducible] laws_toOutS laws_toOutS_l0

/-! ### laws_toFlat: function 32 -/
def a_laws_toFlat : Ann := ⟨[], []⟩
noncomputable def d_laws_toFlat : List (Nat × Con) := [(99, c_laws_toStringS), (100, c_laws_toPredS), (101, c_laws_toIntS), (102, c_laws_toOutS)]
noncomputable def laws_toFlat (k : Nat) (a : (Ty.den T68)) : Option (den1 [T74]) := evFn Γ d_laws_toFlat a_laws_toFlat Try.f32 [.val T68] [T74] k (a, ())
theorem laws_toFlat_eq (k : Nat) (a : (Ty.den T68)) : laws_toFlat k a = bnd (laws_toStringS k a.1) (fun y1 => bnd (laws_toPredS k a.2.1) (fun y2 => bnd (laws_toIntS k a.2.2.1) (fun y3 => bnd (laws_toOutS k a.2.2.2.1) (fun y4 => some (y1, y2, y3, y4, a.2.2.2.2.1, ()))))) := by kernel_rfl
noncomputable def c_laws_toFlat : Con := ⟨[.val T68], [T74], fun k x => laws_toFlat k x.1⟩
theorem del_laws_toFlat {w0 : World} (hS : Stops w0) : DelOk Try.prog w0 d_laws_toFlat := .cons (ok_laws_toStringS hS) ent_laws_toStringS (.cons (ok_laws_toPredS hS) ent_laws_toPredS (.cons (ok_laws_toIntS hS) ent_laws_toIntS (.cons (ok_laws_toOutS hS) ent_laws_toOutS (.nil))))
theorem ok_laws_toFlat {w0 : World} (hS : Stops w0) : ConOk Try.prog w0 32 c_laws_toFlat := fn_sound (A := a_laws_toFlat) tab_ok (del_laws_toFlat hS) (draws (del_laws_toFlat hS)) Try.func32 (by kernel_rfl) fun _ _ => rfl
theorem ent_laws_toFlat : Enters' Try.prog 32 := enters' Try.func32 (by kernel_rfl)
attribute [irreducible] laws_toFlat

/-! ### impl_kWithin: function 51 -/
def a_impl_kWithin : Ann := ⟨[], []⟩
noncomputable def d_impl_kWithin : List (Nat × Con) := []
noncomputable def impl_kWithin (k : Nat) (a : (Ty.den T3)) (b : (Ty.den T3)) (c : (Ty.den T3)) : Option (den1 [T4]) := evFn Γ d_impl_kWithin a_impl_kWithin Try.f51 [.val T3, .val T3, .val T3] [T4] k (a, b, c, ())
theorem impl_kWithin_eq (k : Nat) (a : (Ty.den T3)) (b : (Ty.den T3)) (c : (Ty.den T3)) : impl_kWithin k a b c = br (decide (a ≥ b)) (some (decide (a ≤ c))) (some false) := by kernel_rfl
noncomputable def c_impl_kWithin : Con := ⟨[.val T3, .val T3, .val T3], [T4], fun k x => impl_kWithin k x.1 x.2.1 x.2.2.1⟩
theorem del_impl_kWithin {w0 : World} (hS : Stops w0) : DelOk Try.prog w0 d_impl_kWithin := .nil
theorem ok_impl_kWithin {w0 : World} (hS : Stops w0) : ConOk Try.prog w0 51 c_impl_kWithin := fn_sound (A := a_impl_kWithin) tab_ok (del_impl_kWithin hS) (draws (del_impl_kWithin hS)) Try.func51 (by kernel_rfl) fun _ _ => rfl
theorem ent_impl_kWithin : Enters' Try.prog 51 := enters' Try.func51 (by kernel_rfl)
attribute [irreducible] impl_kWithin

/-! ### impl_printable: function 142 -/
def a_impl_printable : Ann := ⟨[(0, [.val 0 T9, .val 3 T3], ⟨[], false⟩)], []⟩
noncomputable def d_impl_printable : List (Nat × Con) := []
noncomputable def impl_printable (k : Nat) (a : (Ty.den T9)) : Option (den1 [T4]) := evFn Γ d_impl_printable a_impl_printable Try.f142 [.val T9] [T4] k (a, ())
noncomputable def impl_printable_l0 (k : Nat) (v0 : (Ty.den T9)) (v3 : (Ty.den T3)) : Option ((Items.den []) ⊕ (den1 [T4])) := loopR (ρ := (den1 [T4])) 0 [.val 0 T9, .val 3 T3] [] (runOf Γ d_impl_printable a_impl_printable Try.f142 [T4] 0) k (v0, v3)
theorem impl_printable_eq (k : Nat) (a : (Ty.den T9)) : impl_printable k a = bnd (impl_printable_l0 k a 0) (fun y1 => onSum y1 (fun y2 => some true) (fun y2 => some y2)) := by kernel_rfl
theorem impl_printable_l0_zero (v0 : (Ty.den T9)) (v3 : (Ty.den T3)) : impl_printable_l0 0 v0 v3 = none := by kernel_rfl
theorem impl_printable_l0_succ (k : Nat) (v0 : (Ty.den T9)) (v3 : (Ty.den T3)) : impl_printable_l0 (k + 1) v0 v3 = br (decide (v3 < (↑(List.length v0) : Int))) (br (decide (0 ≤ v3)) (br (decide (v3 < (↑(List.length v0) : Int))) (br (decide ((↑(List.getD v0 (Int.toNat v3) 0).toNat : Int) < 32)) (some (Sum.inr false)) (br (decide (0 ≤ v3)) (br (decide (v3 < (↑(List.length v0) : Int))) (br (decide ((↑(List.getD v0 (Int.toNat v3) 0).toNat : Int) > 126)) (some (Sum.inr false)) (impl_printable_l0 k v0 (IntKind.i64.wrap (v3 + 1)))) (none)) (none))) (none)) (none)) (some (Sum.inl ())) := by kernel_rfl
noncomputable def c_impl_printable : Con := ⟨[.val T9], [T4], fun k x => impl_printable k x.1⟩
theorem del_impl_printable {w0 : World} (hS : Stops w0) : DelOk Try.prog w0 d_impl_printable := .nil
theorem ok_impl_printable {w0 : World} (hS : Stops w0) : ConOk Try.prog w0 142 c_impl_printable := fn_sound (A := a_impl_printable) tab_ok (del_impl_printable hS) (draws (del_impl_printable hS)) Try.func142 (by kernel_rfl) fun _ _ => rfl
theorem ent_impl_printable : Enters' Try.prog 142 := enters' Try.func142 (by kernel_rfl)
attribute [irreducible] impl_printable impl_printable_l0

/-! ### impl_ValueOK: function 52 -/
def a_impl_ValueOK : Ann := ⟨[], []⟩
noncomputable def d_impl_ValueOK : List (Nat × Con) := [(142, c_impl_printable)]
noncomputable def impl_ValueOK (k : Nat) (a : (Ty.den T108)) : Option (den1 [T4]) := evFn Γ d_impl_ValueOK a_impl_ValueOK Try.f52 [.val T108] [T4] k (a, ())
theorem impl_ValueOK_eq (k : Nat) (a : (Ty.den T108)) : impl_ValueOK k a = br (a.1 == 0) (some (andB (eqI a.1 a.1) (andB (eqI a.2.1 0) (andB (eqI a.2.2.1 0) (andB (eqS a.2.2.2.1 []) true))))) (br (a.1 == 1) (br (decide (a.2.1 < 0)) (some false) (br (decide (a.2.1 > 1)) (some false) (some (andB (eqI a.1 a.1) (andB (eqI 0 0) (andB (eqI a.2.2.1 0) (andB (eqS a.2.2.2.1 []) true))))))) (br (a.1 == 2) (br (decide (a.2.1 < -1000000000000000)) (some false) (br (decide (a.2.1 > 1000000000000000)) (some false) (some (andB (eqI a.1 a.1) (andB (eqI 0 0) (andB (eqI a.2.2.1 0) (andB (eqS a.2.2.2.1 []) true))))))) (br (a.1 == 3) (br (decide (a.2.1 < -1000000000)) (some false) (br (decide (a.2.1 > 1000000000)) (some false) (br (decide (a.2.2.1 < 0)) (some false) (br (decide (a.2.2.1 > 6)) (some false) (br (decide (a.2.2.1 > 0)) (br (!10 == 0) (br (Int.tmod a.2.1 10 == 0) (some false) (some (andB (eqI a.1 a.1) (andB (eqI 0 0) (andB (eqI 0 0) (andB (eqS a.2.2.2.1 []) true)))))) (none)) (some (andB (eqI a.1 a.1) (andB (eqI 0 0) (andB (eqI 0 0) (andB (eqS a.2.2.2.1 []) true)))))))))) (br (a.1 == 4) (br (decide ((↑(List.length a.2.2.2.1) : Int) > 200)) (some false) (bnd (impl_printable k a.2.2.2.1) (fun y1 => br (!y1) (some false) (some (andB (eqI a.1 a.1) (andB (eqI a.2.1 0) (andB (eqI a.2.2.1 0) (andB (eqS [] []) true)))))))) (br (a.1 == 5) (br (decide (a.2.1 < 0)) (some false) (br (decide (a.2.1 > 3652058)) (some false) (some (andB (eqI a.1 a.1) (andB (eqI 0 0) (andB (eqI a.2.2.1 0) (andB (eqS a.2.2.2.1 []) true))))))) (some false)))))) := by kernel_rfl
noncomputable def c_impl_ValueOK : Con := ⟨[.val T108], [T4], fun k x => impl_ValueOK k x.1⟩
theorem del_impl_ValueOK {w0 : World} (hS : Stops w0) : DelOk Try.prog w0 d_impl_ValueOK := .cons (ok_impl_printable hS) ent_impl_printable (.nil)
theorem ok_impl_ValueOK {w0 : World} (hS : Stops w0) : ConOk Try.prog w0 52 c_impl_ValueOK := fn_sound (A := a_impl_ValueOK) tab_ok (del_impl_ValueOK hS) (draws (del_impl_ValueOK hS)) Try.func52 (by kernel_rfl) fun _ _ => rfl
theorem ent_impl_ValueOK : Enters' Try.prog 52 := enters' Try.func52 (by kernel_rfl)
attribute [irreducible] impl_ValueOK

/-! ### slices_Index_int_int: function 186 -/
def a_slices_Index_int_int : Ann := ⟨[(0, [.val 0 T25, .val 1 T3, .val 7 T3, .val 8 T3], ⟨[], false⟩)], []⟩
noncomputable def d_slices_Index_int_int : List (Nat × Con) := []
noncomputable def slices_Index_int_int (k : Nat) (a : (Ty.den T25)) (b : (Ty.den T3)) : Option (den1 [T3]) := evFn Γ d_slices_Index_int_int a_slices_Index_int_int Try.f186 [.val T25, .val T3] [T3] k (a, b, ())
noncomputable def slices_Index_int_int_l0 (k : Nat) (v0 : (Ty.den T25)) (v1 : (Ty.den T3)) (v7 : (Ty.den T3)) (v8 : (Ty.den T3)) : Option ((Items.den []) ⊕ (den1 [T3])) := loopR (ρ := (den1 [T3])) 0 [.val 0 T25, .val 1 T3, .val 7 T3, .val 8 T3] [] (runOf Γ d_slices_Index_int_int a_slices_Index_int_int Try.f186 [T3] 0) k (v0, v1, v7, v8)
theorem slices_Index_int_int_eq (k : Nat) (a : (Ty.den T25)) (b : (Ty.den T3)) : slices_Index_int_int k a b = bnd (slices_Index_int_int_l0 k a b ((↑(List.length a) : Int)) 0) (fun y1 => onSum y1 (fun y2 => some (-1)) (fun y2 => some y2)) := by kernel_rfl
theorem slices_Index_int_int_l0_zero (v0 : (Ty.den T25)) (v1 : (Ty.den T3)) (v7 : (Ty.den T3)) (v8 : (Ty.den T3)) : slices_Index_int_int_l0 0 v0 v1 v7 v8 = none := by kernel_rfl
theorem slices_Index_int_int_l0_succ (k : Nat) (v0 : (Ty.den T25)) (v1 : (Ty.den T3)) (v7 : (Ty.den T3)) (v8 : (Ty.den T3)) : slices_Index_int_int_l0 (k + 1) v0 v1 v7 v8 = br (decide (v8 < v7)) (br (decide (0 ≤ v8)) (br (decide (v8 < (↑(List.length v0) : Int))) (br (v1 == List.getD v0 (Int.toNat v8) T3.zero) (some (Sum.inr v8)) (slices_Index_int_int_l0 k v0 v1 v7 (IntKind.i64.wrap (v8 + 1)))) (none)) (none)) (some (Sum.inl ())) := by kernel_rfl
noncomputable def c_slices_Index_int_int : Con := ⟨[.val T25, .val T3], [T3], fun k x => slices_Index_int_int k x.1 x.2.1⟩
theorem del_slices_Index_int_int {w0 : World} (hS : Stops w0) : DelOk Try.prog w0 d_slices_Index_int_int := .nil
theorem ok_slices_Index_int_int {w0 : World} (hS : Stops w0) : ConOk Try.prog w0 186 c_slices_Index_int_int := fn_sound (A := a_slices_Index_int_int) tab_ok (del_slices_Index_int_int hS) (draws (del_slices_Index_int_int hS)) Try.func186 (by kernel_rfl) fun _ _ => rfl
theorem ent_slices_Index_int_int : Enters' Try.prog 186 := enters' Try.func186 (by kernel_rfl)
attribute [irreducible] slices_Index_int_int slices_Index_int_int_l0

/-! ### slices_Contains_int_int: function 108 -/
def a_slices_Contains_int_int : Ann := ⟨[], []⟩
noncomputable def d_slices_Contains_int_int : List (Nat × Con) := [(186, c_slices_Index_int_int)]
noncomputable def slices_Contains_int_int (k : Nat) (a : (Ty.den T25)) (b : (Ty.den T3)) : Option (den1 [T4]) := evFn Γ d_slices_Contains_int_int a_slices_Contains_int_int Try.f108 [.val T25, .val T3] [T4] k (a, b, ())
theorem slices_Contains_int_int_eq (k : Nat) (a : (Ty.den T25)) (b : (Ty.den T3)) : slices_Contains_int_int k a b = bnd (slices_Index_int_int k a b) (fun y1 => some (decide (y1 ≥ 0))) := by kernel_rfl
noncomputable def c_slices_Contains_int_int : Con := ⟨[.val T25, .val T3], [T4], fun k x => slices_Contains_int_int k x.1 x.2.1⟩
theorem del_slices_Contains_int_int {w0 : World} (hS : Stops w0) : DelOk Try.prog w0 d_slices_Contains_int_int := .cons (ok_slices_Index_int_int hS) ent_slices_Index_int_int (.nil)
theorem ok_slices_Contains_int_int {w0 : World} (hS : Stops w0) : ConOk Try.prog w0 108 c_slices_Contains_int_int := fn_sound (A := a_slices_Contains_int_int) tab_ok (del_slices_Contains_int_int hS) (draws (del_slices_Contains_int_int hS)) Try.func108 (by kernel_rfl) fun _ _ => rfl
theorem ent_slices_Contains_int_int : Enters' Try.prog 108 := enters' Try.func108 (by kernel_rfl)
attribute [irreducible] slices_Contains_int_int

/-! ### impl_kTwice_int: function 107 -/
def a_impl_kTwice_int : Ann := ⟨[(0, [.val 0 T25, .val 5 T3, .val 6 T3], ⟨[], false⟩)], []⟩
noncomputable def d_impl_kTwice_int : List (Nat × Con) := [(108, c_slices_Contains_int_int)]
noncomputable def impl_kTwice_int (k : Nat) (a : (Ty.den T25)) : Option (den1 [T4]) := evFn Γ d_impl_kTwice_int a_impl_kTwice_int Try.f107 [.val T25] [T4] k (a, ())
noncomputable def impl_kTwice_int_l0 (k : Nat) (v0 : (Ty.den T25)) (v5 : (Ty.den T3)) (v6 : (Ty.den T3)) : Option ((Items.den []) ⊕ (den1 [T4])) := loopR (ρ := (den1 [T4])) 0 [.val 0 T25, .val 5 T3, .val 6 T3] [] (runOf Γ d_impl_kTwice_int a_impl_kTwice_int Try.f107 [T4] 0) k (v0, v5, v6)
theorem impl_kTwice_int_eq (k : Nat) (a : (Ty.den T25)) : impl_kTwice_int k a = bnd (impl_kTwice_int_l0 k a ((↑(List.length a) : Int)) 0) (fun y1 => onSum y1 (fun y2 => some false) (fun y2 => some y2)) := by kernel_rfl
theorem impl_kTwice_int_l0_zero (v0 : (Ty.den T25)) (v5 : (Ty.den T3)) (v6 : (Ty.den T3)) : impl_kTwice_int_l0 0 v0 v5 v6 = none := by kernel_rfl
theorem impl_kTwice_int_l0_succ (k : Nat) (v0 : (Ty.den T25)) (v5 : (Ty.den T3)) (v6 : (Ty.den T3)) : impl_kTwice_int_l0 (k + 1) v0 v5 v6 = br (decide (v6 < v5)) (br (decide (0 ≤ v6)) (br (decide (v6 ≤ (↑(List.length v0) : Int))) (br (decide (0 ≤ v6)) (br (decide (v6 < (↑(List.length v0) : Int))) (bnd (slices_Contains_int_int k (List.take (Int.toNat v6) v0) (List.getD v0 (Int.toNat v6) T3.zero)) (fun y1 => br (y1) (some (Sum.inr true)) (impl_kTwice_int_l0 k v0 v5 (IntKind.i64.wrap (v6 + 1))))) (none)) (none)) (none)) (none)) (some (Sum.inl ())) := by kernel_rfl
noncomputable def c_impl_kTwice_int : Con := ⟨[.val T25], [T4], fun k x => impl_kTwice_int k x.1⟩
theorem del_impl_kTwice_int {w0 : World} (hS : Stops w0) : DelOk Try.prog w0 d_impl_kTwice_int := .cons (ok_slices_Contains_int_int hS) ent_slices_Contains_int_int (.nil)
theorem ok_impl_kTwice_int {w0 : World} (hS : Stops w0) : ConOk Try.prog w0 107 c_impl_kTwice_int := fn_sound (A := a_impl_kTwice_int) tab_ok (del_impl_kTwice_int hS) (draws (del_impl_kTwice_int hS)) Try.func107 (by kernel_rfl) fun _ _ => rfl
theorem ent_impl_kTwice_int : Enters' Try.prog 107 := enters' Try.func107 (by kernel_rfl)
attribute [irreducible] impl_kTwice_int impl_kTwice_int_l0

/-! ### impl_kCol_1: function 204 -/
def a_impl_kCol_1 : Ann := ⟨[], []⟩
noncomputable def d_impl_kCol_1 : List (Nat × Con) := []
noncomputable def impl_kCol_1 (k : Nat) (a : (Ty.den T167)) (b : (Ty.den T3)) : Option (den1 [T4]) := evFn Γ d_impl_kCol_1 a_impl_kCol_1 Try.f204 [.val T167, .ptr T3] [T4] k (a, b, ())
theorem impl_kCol_1_eq (k : Nat) (a : (Ty.den T167)) (b : (Ty.den T3)) : impl_kCol_1 k a b = some (a.1 == b) := by kernel_rfl
noncomputable def c_impl_kCol_1 : Con := ⟨[.val T167, .ptr T3], [T4], fun k x => impl_kCol_1 k x.1 x.2.1⟩
theorem del_impl_kCol_1 {w0 : World} (hS : Stops w0) : DelOk Try.prog w0 d_impl_kCol_1 := .nil
theorem ok_impl_kCol_1 {w0 : World} (hS : Stops w0) : ConOk Try.prog w0 204 c_impl_kCol_1 := fn_sound (A := a_impl_kCol_1) tab_ok (del_impl_kCol_1 hS) (draws (del_impl_kCol_1 hS)) Try.func204 (by kernel_rfl) fun _ _ => rfl
theorem ent_impl_kCol_1 : Enters' Try.prog 204 := enters' Try.func204 (by kernel_rfl)
attribute [irreducible] impl_kCol_1

/-! ### slices_IndexFunc_Column: function 203 -/
def a_slices_IndexFunc_Column : Ann := ⟨[(0, [.val 0 T88, .clo 1 204 [T3], .val 7 T3, .val 8 T3], ⟨[], false⟩)], []⟩
noncomputable def d_slices_IndexFunc_Column : List (Nat × Con) := [(204, c_impl_kCol_1)]
noncomputable def slices_IndexFunc_Column (k : Nat) (a : (Ty.den T88)) (b : (dens [T3])) : Option (den1 [T3]) := evFn Γ d_slices_IndexFunc_Column a_slices_IndexFunc_Column Try.f203 [.val T88, .clo 204 [T3]] [T3] k (a, b, ())
noncomputable def slices_IndexFunc_Column_l0 (k : Nat) (v0 : (Ty.den T88)) (v1 : (dens [T3])) (v7 : (Ty.den T3)) (v8 : (Ty.den T3)) : Option ((Items.den []) ⊕ (den1 [T3])) := loopR (ρ := (den1 [T3])) 0 [.val 0 T88, .clo 1 204 [T3], .val 7 T3, .val 8 T3] [] (runOf Γ d_slices_IndexFunc_Column a_slices_IndexFunc_Column Try.f203 [T3] 0) k (v0, v1, v7, v8)
theorem slices_IndexFunc_Column_eq (k : Nat) (a : (Ty.den T88)) (b : (dens [T3])) : slices_IndexFunc_Column k a b = bnd (slices_IndexFunc_Column_l0 k a (b.1, ()) ((↑(List.length a) : Int)) 0) (fun y1 => onSum y1 (fun y2 => some (-1)) (fun y2 => some y2)) := by kernel_rfl
theorem slices_IndexFunc_Column_l0_zero (v0 : (Ty.den T88)) (v1 : (dens [T3])) (v7 : (Ty.den T3)) (v8 : (Ty.den T3)) : slices_IndexFunc_Column_l0 0 v0 v1 v7 v8 = none := by kernel_rfl
theorem slices_IndexFunc_Column_l0_succ (k : Nat) (v0 : (Ty.den T88)) (v1 : (dens [T3])) (v7 : (Ty.den T3)) (v8 : (Ty.den T3)) : slices_IndexFunc_Column_l0 (k + 1) v0 v1 v7 v8 = br (decide (v8 < v7)) (br (decide (0 ≤ v8)) (br (decide (v8 < (↑(List.length v0) : Int))) (bnd (impl_kCol_1 k (List.getD v0 (Int.toNat v8) T167.zero) v1.1) (fun y1 => br (y1) (some (Sum.inr v8)) (slices_IndexFunc_Column_l0 k v0 (v1.1, ()) v7 (IntKind.i64.wrap (v8 + 1))))) (none)) (none)) (some (Sum.inl ())) := by kernel_rfl
noncomputable def c_slices_IndexFunc_Column : Con := ⟨[.val T88, .clo 204 [T3]], [T3], fun k x => slices_IndexFunc_Column k x.1 x.2.1⟩
theorem del_slices_IndexFunc_Column {w0 : World} (hS : Stops w0) : DelOk Try.prog w0 d_slices_IndexFunc_Column := .cons (ok_impl_kCol_1 hS) ent_impl_kCol_1 (.nil)
theorem ok_slices_IndexFunc_Column {w0 : World} (hS : Stops w0) : ConOk Try.prog w0 203 c_slices_IndexFunc_Column := fn_sound (A := a_slices_IndexFunc_Column) tab_ok (del_slices_IndexFunc_Column hS) (draws (del_slices_IndexFunc_Column hS)) Try.func203 (by kernel_rfl) fun _ _ => rfl
theorem ent_slices_IndexFunc_Column : Enters' Try.prog 203 := enters' Try.func203 (by kernel_rfl)
attribute [irreducible] slices_IndexFunc_Column slices_IndexFunc_Column_l0

/-! ### impl_kCol: function 125 -/
def a_impl_kCol : Ann := ⟨[], []⟩
noncomputable def d_impl_kCol : List (Nat × Con) := [(203, c_slices_IndexFunc_Column), (204, c_impl_kCol_1)]
noncomputable def impl_kCol (k : Nat) (a : (Ty.den T91)) (b : (Ty.den T3)) : Option (den1 [T3]) := evFn Γ d_impl_kCol a_impl_kCol Try.f125 [.val T91, .val T3] [T3] k (a, b, ())
theorem impl_kCol_eq (k : Nat) (a : (Ty.den T91)) (b : (Ty.den T3)) : impl_kCol k a b = bnd (slices_IndexFunc_Column k a.2.2.2.1 (b, ())) (fun y1 => some y1) := by kernel_rfl
noncomputable def c_impl_kCol : Con := ⟨[.val T91, .val T3], [T3], fun k x => impl_kCol k x.1 x.2.1⟩
theorem del_impl_kCol {w0 : World} (hS : Stops w0) : DelOk Try.prog w0 d_impl_kCol := .cons (ok_slices_IndexFunc_Column hS) ent_slices_IndexFunc_Column (.cons (ok_impl_kCol_1 hS) ent_impl_kCol_1 (.nil))
theorem ok_impl_kCol {w0 : World} (hS : Stops w0) : ConOk Try.prog w0 125 c_impl_kCol := fn_sound (A := a_impl_kCol) tab_ok (del_impl_kCol hS) (draws (del_impl_kCol hS)) Try.func125 (by kernel_rfl) fun _ _ => rfl
theorem ent_impl_kCol : Enters' Try.prog 125 := enters' Try.func125 (by kernel_rfl)
attribute [irreducible] impl_kCol

/-! ### slices_Index_string_string: function 242 -/
def a_slices_Index_string_string : Ann := ⟨[(0, [.val 0 T64, .val 1 T9, .val 7 T3, .val 8 T3], ⟨[], false⟩)], []⟩
noncomputable def d_slices_Index_string_string : List (Nat × Con) := []
noncomputable def slices_Index_string_string (k : Nat) (a : (Ty.den T64)) (b : (Ty.den T9)) : Option (den1 [T3]) := evFn Γ d_slices_Index_string_string a_slices_Index_string_string Try.f242 [.val T64, .val T9] [T3] k (a, b, ())
noncomputable def slices_Index_string_string_l0 (k : Nat) (v0 : (Ty.den T64)) (v1 : (Ty.den T9)) (v7 : (Ty.den T3)) (v8 : (Ty.den T3)) : Option ((Items.den []) ⊕ (den1 [T3])) := loopR (ρ := (den1 [T3])) 0 [.val 0 T64, .val 1 T9, .val 7 T3, .val 8 T3] [] (runOf Γ d_slices_Index_string_string a_slices_Index_string_string Try.f242 [T3] 0) k (v0, v1, v7, v8)
theorem slices_Index_string_string_eq (k : Nat) (a : (Ty.den T64)) (b : (Ty.den T9)) : slices_Index_string_string k a b = bnd (slices_Index_string_string_l0 k a b ((↑(List.length a) : Int)) 0) (fun y1 => onSum y1 (fun y2 => some (-1)) (fun y2 => some y2)) := by kernel_rfl
theorem slices_Index_string_string_l0_zero (v0 : (Ty.den T64)) (v1 : (Ty.den T9)) (v7 : (Ty.den T3)) (v8 : (Ty.den T3)) : slices_Index_string_string_l0 0 v0 v1 v7 v8 = none := by kernel_rfl
theorem slices_Index_string_string_l0_succ (k : Nat) (v0 : (Ty.den T64)) (v1 : (Ty.den T9)) (v7 : (Ty.den T3)) (v8 : (Ty.den T3)) : slices_Index_string_string_l0 (k + 1) v0 v1 v7 v8 = br (decide (v8 < v7)) (br (decide (0 ≤ v8)) (br (decide (v8 < (↑(List.length v0) : Int))) (br (v1 == List.getD v0 (Int.toNat v8) T9.zero) (some (Sum.inr v8)) (slices_Index_string_string_l0 k v0 v1 v7 (IntKind.i64.wrap (v8 + 1)))) (none)) (none)) (some (Sum.inl ())) := by kernel_rfl
noncomputable def c_slices_Index_string_string : Con := ⟨[.val T64, .val T9], [T3], fun k x => slices_Index_string_string k x.1 x.2.1⟩
theorem del_slices_Index_string_string {w0 : World} (hS : Stops w0) : DelOk Try.prog w0 d_slices_Index_string_string := .nil
theorem ok_slices_Index_string_string {w0 : World} (hS : Stops w0) : ConOk Try.prog w0 242 c_slices_Index_string_string := fn_sound (A := a_slices_Index_string_string) tab_ok (del_slices_Index_string_string hS) (draws (del_slices_Index_string_string hS)) Try.func242 (by kernel_rfl) fun _ _ => rfl
theorem ent_slices_Index_string_string : Enters' Try.prog 242 := enters' Try.func242 (by kernel_rfl)
attribute [irreducible] slices_Index_string_string slices_Index_string_string_l0

/-! ### slices_Contains_string_string: function 185 -/
def a_slices_Contains_string_string : Ann := ⟨[], []⟩
noncomputable def d_slices_Contains_string_string : List (Nat × Con) := [(242, c_slices_Index_string_string)]
noncomputable def slices_Contains_string_string (k : Nat) (a : (Ty.den T64)) (b : (Ty.den T9)) : Option (den1 [T4]) := evFn Γ d_slices_Contains_string_string a_slices_Contains_string_string Try.f185 [.val T64, .val T9] [T4] k (a, b, ())
theorem slices_Contains_string_string_eq (k : Nat) (a : (Ty.den T64)) (b : (Ty.den T9)) : slices_Contains_string_string k a b = bnd (slices_Index_string_string k a b) (fun y1 => some (decide (y1 ≥ 0))) := by kernel_rfl
noncomputable def c_slices_Contains_string_string : Con := ⟨[.val T64, .val T9], [T4], fun k x => slices_Contains_string_string k x.1 x.2.1⟩
theorem del_slices_Contains_string_string {w0 : World} (hS : Stops w0) : DelOk Try.prog w0 d_slices_Contains_string_string := .cons (ok_slices_Index_string_string hS) ent_slices_Index_string_string (.nil)
theorem ok_slices_Contains_string_string {w0 : World} (hS : Stops w0) : ConOk Try.prog w0 185 c_slices_Contains_string_string := fn_sound (A := a_slices_Contains_string_string) tab_ok (del_slices_Contains_string_string hS) (draws (del_slices_Contains_string_string hS)) Try.func185 (by kernel_rfl) fun _ _ => rfl
theorem ent_slices_Contains_string_string : Enters' Try.prog 185 := enters' Try.func185 (by kernel_rfl)
attribute [irreducible] slices_Contains_string_string

/-! ### impl_kTwice_string: function 176 -/
def a_impl_kTwice_string : Ann := ⟨[(0, [.val 0 T64, .val 5 T3, .val 6 T3], ⟨[], false⟩)], []⟩
noncomputable def d_impl_kTwice_string : List (Nat × Con) := [(185, c_slices_Contains_string_string)]
noncomputable def impl_kTwice_string (k : Nat) (a : (Ty.den T64)) : Option (den1 [T4]) := evFn Γ d_impl_kTwice_string a_impl_kTwice_string Try.f176 [.val T64] [T4] k (a, ())
noncomputable def impl_kTwice_string_l0 (k : Nat) (v0 : (Ty.den T64)) (v5 : (Ty.den T3)) (v6 : (Ty.den T3)) : Option ((Items.den []) ⊕ (den1 [T4])) := loopR (ρ := (den1 [T4])) 0 [.val 0 T64, .val 5 T3, .val 6 T3] [] (runOf Γ d_impl_kTwice_string a_impl_kTwice_string Try.f176 [T4] 0) k (v0, v5, v6)
theorem impl_kTwice_string_eq (k : Nat) (a : (Ty.den T64)) : impl_kTwice_string k a = bnd (impl_kTwice_string_l0 k a ((↑(List.length a) : Int)) 0) (fun y1 => onSum y1 (fun y2 => some false) (fun y2 => some y2)) := by kernel_rfl
theorem impl_kTwice_string_l0_zero (v0 : (Ty.den T64)) (v5 : (Ty.den T3)) (v6 : (Ty.den T3)) : impl_kTwice_string_l0 0 v0 v5 v6 = none := by kernel_rfl
theorem impl_kTwice_string_l0_succ (k : Nat) (v0 : (Ty.den T64)) (v5 : (Ty.den T3)) (v6 : (Ty.den T3)) : impl_kTwice_string_l0 (k + 1) v0 v5 v6 = br (decide (v6 < v5)) (br (decide (0 ≤ v6)) (br (decide (v6 ≤ (↑(List.length v0) : Int))) (br (decide (0 ≤ v6)) (br (decide (v6 < (↑(List.length v0) : Int))) (bnd (slices_Contains_string_string k (List.take (Int.toNat v6) v0) (List.getD v0 (Int.toNat v6) T9.zero)) (fun y1 => br (y1) (some (Sum.inr true)) (impl_kTwice_string_l0 k v0 v5 (IntKind.i64.wrap (v6 + 1))))) (none)) (none)) (none)) (none)) (some (Sum.inl ())) := by kernel_rfl
noncomputable def c_impl_kTwice_string : Con := ⟨[.val T64], [T4], fun k x => impl_kTwice_string k x.1⟩
theorem del_impl_kTwice_string {w0 : World} (hS : Stops w0) : DelOk Try.prog w0 d_impl_kTwice_string := .cons (ok_slices_Contains_string_string hS) ent_slices_Contains_string_string (.nil)
theorem ok_impl_kTwice_string {w0 : World} (hS : Stops w0) : ConOk Try.prog w0 176 c_impl_kTwice_string := fn_sound (A := a_impl_kTwice_string) tab_ok (del_impl_kTwice_string hS) (draws (del_impl_kTwice_string hS)) Try.func176 (by kernel_rfl) fun _ _ => rfl
theorem ent_impl_kTwice_string : Enters' Try.prog 176 := enters' Try.func176 (by kernel_rfl)
attribute [irreducible] impl_kTwice_string impl_kTwice_string_l0

/-! ### impl_kIsName: function 197 -/
def a_impl_kIsName : Ann := ⟨[(0, [.val 0 T9, .val 19 T3, .val 20 T3], ⟨[], false⟩)], []⟩
noncomputable def d_impl_kIsName : List (Nat × Con) := [(249, c_strings_Contains)]
noncomputable def impl_kIsName (k : Nat) (a : (Ty.den T9)) : Option (den1 [T4]) := evFn Γ d_impl_kIsName a_impl_kIsName Try.f197 [.val T9] [T4] k (a, ())
noncomputable def impl_kIsName_l0 (k : Nat) (v0 : (Ty.den T9)) (v19 : (Ty.den T3)) (v20 : (Ty.den T3)) : Option ((Items.den []) ⊕ (den1 [T4])) := loopR (ρ := (den1 [T4])) 0 [.val 0 T9, .val 19 T3, .val 20 T3] [] (runOf Γ d_impl_kIsName a_impl_kIsName Try.f197 [T4] 0) k (v0, v19, v20)
theorem impl_kIsName_eq (k : Nat) (a : (Ty.den T9)) : impl_kIsName k a = br (a == []) (some false) (br (decide ((↑(List.length a) : Int) > 30)) (some false) (br (decide ([32].length + List.length a ≤ capN)) (br (decide (([32] ++ a).length + [32].length ≤ capN)) (bnd (strings_Contains k [32, 97, 108, 108, 32, 97, 110, 100, 32, 97, 115, 32, 97, 115, 99, 32, 98, 101, 103, 105, 110, 32, 98, 101, 116, 119, 101, 101, 110, 32, 98, 121, 32, 99, 97, 115, 101, 32, 99, 97, 115, 116, 32, 99, 111, 109, 109, 105, 116, 32, 99, 114, 101, 97, 116, 101, 32, 99, 114, 111, 115, 115, 32, 100, 97, 121, 32, 100, 101, 108, 101, 116, 101, 32, 100, 101, 115, 99, 32, 100, 105, 115, 116, 105, 110, 99, 116, 32, 100, 114, 111, 112, 32, 101, 108, 115, 101, 32, 101, 110, 100, 32, 101, 120, 99, 101, 112, 116, 32, 101, 120, 105, 115, 116, 115, 32, 101, 120, 112, 108, 97, 105, 110, 32, 102, 97, 108, 115, 101, 32, 102, 114, 111, 109, 32, 103, 114, 111, 117, 112, 32, 104, 97, 118, 105, 110, 103, 32, 105, 110, 32, 105, 110, 100, 101, 120, 32, 105, 110, 115, 101, 114, 116, 32, 105, 110, 116, 101, 114, 115, 101, 99, 116, 32, 105, 110, 116, 111, 32, 105, 115, 32, 106, 111, 105, 110, 32, 107, 101, 121, 32, 108, 101, 102, 116, 32, 108, 105, 109, 105, 116, 32, 110, 111, 116, 32, 110, 117, 108, 108, 32, 111, 110, 32, 111, 114, 32, 111, 114, 100, 101, 114, 32, 111, 118, 101, 114, 32, 112, 97, 114, 116, 105, 116, 105, 111, 110, 32, 112, 114, 105, 109, 97, 114, 121, 32, 114, 101, 99, 117, 114, 115, 105, 118, 101, 32, 114, 111, 108, 108, 98, 97, 99, 107, 32, 115, 101, 108, 101, 99, 116, 32, 115, 101, 116, 32, 116, 97, 98, 108, 101, 32, 116, 104, 101, 110, 32, 116, 114, 117, 101, 32, 117, 110, 105, 111, 110, 32, 117, 110, 105, 113, 117, 101, 32, 117, 112, 100, 97, 116, 101, 32, 118, 97, 108, 117, 101, 115, 32, 118, 105, 101, 119, 32, 119, 104, 101, 110, 32, 119, 104, 101, 114, 101, 32, 119, 105, 116, 104, 32, 97, 108, 116, 101, 114, 32, 97, 100, 100, 32, 99, 111, 108, 117, 109, 110, 32, 108, 101, 118, 101, 108, 32, 115, 101, 114, 105, 97, 108, 32, 115, 110, 97, 112, 115, 104, 111, 116, 32, 108, 97, 116, 101, 115, 116, 32] ([32] ++ a ++ [32])) (fun y1 => br (y1) (some false) (bnd (impl_kIsName_l0 k a ((↑(List.length a) : Int)) 0) (fun y2 => onSum y2 (fun y3 => some true) (fun y3 => some y3))))) (none)) (none))) := by kernel_rfl
theorem impl_kIsName_l0_zero (v0 : (Ty.den T9)) (v19 : (Ty.den T3)) (v20 : (Ty.den T3)) : impl_kIsName_l0 0 v0 v19 v20 = none := by kernel_rfl
theorem impl_kIsName_l0_succ (k : Nat) (v0 : (Ty.den T9)) (v19 : (Ty.den T3)) (v20 : (Ty.den T3)) : impl_kIsName_l0 (k + 1) v0 v19 v20 = br (decide (v20 < v19)) (br (decide (0 ≤ v20)) (br (decide (v20 < (↑(List.length v0) : Int))) (br (decide ((↑(List.getD v0 (Int.toNat v20) 0).toNat : Int) ≥ 97)) (br (decide ((↑(List.getD v0 (Int.toNat v20) 0).toNat : Int) ≤ 122)) (br (!true) (some (Sum.inr false)) (impl_kIsName_l0 k v0 v19 (IntKind.i64.wrap (v20 + 1)))) (br ((↑(List.getD v0 (Int.toNat v20) 0).toNat : Int) == 95) (br (!true) (some (Sum.inr false)) (impl_kIsName_l0 k v0 v19 (IntKind.i64.wrap (v20 + 1)))) (br (decide (v20 > 0)) (br (decide ((↑(List.getD v0 (Int.toNat v20) 0).toNat : Int) ≥ 48)) (br (!decide ((↑(List.getD v0 (Int.toNat v20) 0).toNat : Int) ≤ 57)) (some (Sum.inr false)) (impl_kIsName_l0 k v0 v19 (IntKind.i64.wrap (v20 + 1)))) (br (!false) (some (Sum.inr false)) (impl_kIsName_l0 k v0 v19 (IntKind.i64.wrap (v20 + 1))))) (br (!false) (some (Sum.inr false)) (impl_kIsName_l0 k v0 v19 (IntKind.i64.wrap (v20 + 1))))))) (br ((↑(List.getD v0 (Int.toNat v20) 0).toNat : Int) == 95) (br (!true) (some (Sum.inr false)) (impl_kIsName_l0 k v0 v19 (IntKind.i64.wrap (v20 + 1)))) (br (decide (v20 > 0)) (br (decide ((↑(List.getD v0 (Int.toNat v20) 0).toNat : Int) ≥ 48)) (br (!decide ((↑(List.getD v0 (Int.toNat v20) 0).toNat : Int) ≤ 57)) (some (Sum.inr false)) (impl_kIsName_l0 k v0 v19 (IntKind.i64.wrap (v20 + 1)))) (br (!false) (some (Sum.inr false)) (impl_kIsName_l0 k v0 v19 (IntKind.i64.wrap (v20 + 1))))) (br (!false) (some (Sum.inr false)) (impl_kIsName_l0 k v0 v19 (IntKind.i64.wrap (v20 + 1))))))) (none)) (none)) (some (Sum.inl ())) := by kernel_rfl
noncomputable def c_impl_kIsName : Con := ⟨[.val T9], [T4], fun k x => impl_kIsName k x.1⟩
theorem del_impl_kIsName {w0 : World} (hS : Stops w0) : DelOk Try.prog w0 d_impl_kIsName := .cons (hS.strings_Contains.1) hS.strings_Contains.2 (.nil)
theorem ok_impl_kIsName {w0 : World} (hS : Stops w0) : ConOk Try.prog w0 197 c_impl_kIsName := fn_sound (A := a_impl_kIsName) tab_ok (del_impl_kIsName hS) (draws (del_impl_kIsName hS)) Try.func197 (by kernel_rfl) fun _ _ => rfl
theorem ent_impl_kIsName : Enters' Try.prog 197 := enters' Try.func197 (by kernel_rfl)
attribute [irreducible] impl_kIsName impl_kIsName_l0

/-! ### impl_TableOK: function 122 -/
def a_impl_TableOK : Ann := ⟨[(0, [.var 1 T91 [], .row 3 3 T3, .row 4 9 T9, .val 55 T88, .val 56 T3, .val 57 T3], ⟨[.var 1 T91 [], .row 3 3 T3, .row 4 9 T9], false⟩), (2, [.var 1 T91 [], .val 95 T25, .val 96 T3, .val 97 T3], ⟨[.var 1 T91 []], false⟩), (4, [.var 1 T91 [], .row 3 3 T3, .row 4 9 T9, .val 117 T89, .val 118 T3, .val 119 T3], ⟨[.row 3 3 T3, .row 4 9 T9], false⟩), (6, [.var 1 T91 [], .row 3 3 T3, .row 4 9 T9, .var 11 T146 [], .val 117 T89, .val 118 T3, .val 119 T3, .val 161 T25, .val 162 T3, .val 163 T3], ⟨[.var 1 T91 [], .row 3 3 T3, .row 4 9 T9, .var 11 T146 [], .val 117 T89, .val 118 T3, .val 119 T3], false⟩)], []⟩
noncomputable def d_impl_TableOK : List (Nat × Con) := [(51, c_impl_kWithin), (107, c_impl_kTwice_int), (125, c_impl_kCol), (176, c_impl_kTwice_string), (197, c_impl_kIsName)]
noncomputable def impl_TableOK (k : Nat) (a : (Ty.den T91)) : Option (den1 [T4]) := evFn Γ d_impl_TableOK a_impl_TableOK Try.f122 [.val T91] [T4] k (a, ())
noncomputable def impl_TableOK_l0 (k : Nat) (v1 : (Ty.den T91)) (v3 : (Ty.den (.sl T3))) (v4 : (Ty.den (.sl T9))) (v55 : (Ty.den T88)) (v56 : (Ty.den T3)) (v57 : (Ty.den T3)) : Option ((Items.den [.var 1 T91 [], .row 3 3 T3, .row 4 9 T9]) ⊕ (den1 [T4])) := loopR (ρ := (den1 [T4])) 0 [.var 1 T91 [], .row 3 3 T3, .row 4 9 T9, .val 55 T88, .val 56 T3, .val 57 T3] [.var 1 T91 [], .row 3 3 T3, .row 4 9 T9] (runOf Γ d_impl_TableOK a_impl_TableOK Try.f122 [T4] 0) k (v1, v3, v4, v55, v56, v57)
noncomputable def impl_TableOK_l2 (k : Nat) (v1 : (Ty.den T91)) (v95 : (Ty.den T25)) (v96 : (Ty.den T3)) (v97 : (Ty.den T3)) : Option ((Items.den [.var 1 T91 []]) ⊕ (den1 [T4])) := loopR (ρ := (den1 [T4])) 2 [.var 1 T91 [], .val 95 T25, .val 96 T3, .val 97 T3] [.var 1 T91 []] (runOf Γ d_impl_TableOK a_impl_TableOK Try.f122 [T4] 2) k (v1, v95, v96, v97)
noncomputable def impl_TableOK_l4 (k : Nat) (v1 : (Ty.den T91)) (v3 : (Ty.den (.sl T3))) (v4 : (Ty.den (.sl T9))) (v117 : (Ty.den T89)) (v118 : (Ty.den T3)) (v119 : (Ty.den T3)) : Option ((Items.den [.row 3 3 T3, .row 4 9 T9]) ⊕ (den1 [T4])) := loopR (ρ := (den1 [T4])) 4 [.var 1 T91 [], .row 3 3 T3, .row 4 9 T9, .val 117 T89, .val 118 T3, .val 119 T3] [.row 3 3 T3, .row 4 9 T9] (runOf Γ d_impl_TableOK a_impl_TableOK Try.f122 [T4] 4) k (v1, v3, v4, v117, v118, v119)
noncomputable def impl_TableOK_l6 (k : Nat) (v1 : (Ty.den T91)) (v3 : (Ty.den (.sl T3))) (v4 : (Ty.den (.sl T9))) (v11 : (Ty.den T146)) (v117 : (Ty.den T89)) (v118 : (Ty.den T3)) (v119 : (Ty.den T3)) (v161 : (Ty.den T25)) (v162 : (Ty.den T3)) (v163 : (Ty.den T3)) : Option ((Items.den [.var 1 T91 [], .row 3 3 T3, .row 4 9 T9, .var 11 T146 [], .val 117 T89, .val 118 T3, .val 119 T3]) ⊕ (den1 [T4])) := loopR (ρ := (den1 [T4])) 6 [.var 1 T91 [], .row 3 3 T3, .row 4 9 T9, .var 11 T146 [], .val 117 T89, .val 118 T3, .val 119 T3, .val 161 T25, .val 162 T3, .val 163 T3] [.var 1 T91 [], .row 3 3 T3, .row 4 9 T9, .var 11 T146 [], .val 117 T89, .val 118 T3, .val 119 T3] (runOf Γ d_impl_TableOK a_impl_TableOK Try.f122 [T4] 6) k (v1, v3, v4, v11, v117, v118, v119, v161, v162, v163)
theorem impl_TableOK_eq (k : Nat) (a : (Ty.den T91)) : impl_TableOK k a = bnd (impl_kWithin k a.1 1 40) (fun y1 => br (!y1) (some false) (bnd (impl_kWithin k a.2.2.1 1 1000000) (fun y2 => br (!y2) (some false) (bnd (impl_kIsName k a.2.1) (fun y3 => br (!y3) (some false) (bnd (impl_kWithin k (↑(List.length a.2.2.2.1) : Int) 1 14) (fun y4 => br (!y4) (some false) (br ((↑(List.length a.2.2.2.2.1) : Int) == 0) (some false) (bnd (impl_kTwice_int k a.2.2.2.2.1) (fun y5 => br (y5) (some false) (br (decide ((↑(List.length a.2.2.2.2.2.1) : Int) > 8)) (some false) (bnd (impl_TableOK_l0 k a [] [] a.2.2.2.1 ((↑(List.length a.2.2.2.1) : Int)) 0) (fun y6 => onSum y6 (fun y7 => bnd (impl_kTwice_int k y7.2.1) (fun y8 => br (y8) (some false) (bnd (impl_kTwice_string k y7.2.2) (fun y9 => br (y9) (some false) (bnd (impl_TableOK_l2 k y7.1 y7.1.2.2.2.2.1 ((↑(List.length y7.1.2.2.2.2.1) : Int)) 0) (fun y10 => onSum y10 (fun y11 => bnd (impl_TableOK_l4 k y11 [] [] y11.2.2.2.2.2.1 ((↑(List.length y11.2.2.2.2.2.1) : Int)) 0) (fun y12 => onSum y12 (fun y13 => bnd (impl_kTwice_int k y13.1) (fun y14 => br (!y14) (bnd (impl_kTwice_string k y13.2) (fun y15 => some (!y15))) (some false))) (fun y13 => some y13))) (fun y11 => some y11))))))) (fun y7 => some y7)))))))))))))) := by kernel_rfl
theorem impl_TableOK_l0_zero (v1 : (Ty.den T91)) (v3 : (Ty.den (.sl T3))) (v4 : (Ty.den (.sl T9))) (v55 : (Ty.den T88)) (v56 : (Ty.den T3)) (v57 : (Ty.den T3)) : impl_TableOK_l0 0 v1 v3 v4 v55 v56 v57 = none := by kernel_rfl
theorem impl_TableOK_l0_succ (k : Nat) (v1 : (Ty.den T91)) (v3 : (Ty.den (.sl T3))) (v4 : (Ty.den (.sl T9))) (v55 : (Ty.den T88)) (v56 : (Ty.den T3)) (v57 : (Ty.den T3)) : impl_TableOK_l0 (k + 1) v1 v3 v4 v55 v56 v57 = br (decide (v57 < v56)) (br (decide (0 ≤ v57)) (br (decide (v57 < (↑(List.length v55) : Int))) (bnd (impl_kWithin k (List.getD v55 (Int.toNat v57) T167.zero).1 1 1000) (fun y1 => br (!y1) (some (Sum.inr false)) (bnd (impl_kIsName k (List.getD v55 (Int.toNat v57) T167.zero).2.1) (fun y2 => br (!y2) (some (Sum.inr false)) (bnd (impl_kWithin k (List.getD v55 (Int.toNat v57) T167.zero).2.2.1 1 5) (fun y3 => br (!y3) (some (Sum.inr false)) (br (decide (List.length v3 + [(List.getD v55 (Int.toNat v57) T167.zero).1].length ≤ capN)) (br (decide (List.length v4 + [(List.getD v55 (Int.toNat v57) T167.zero).2.1].length ≤ capN)) (impl_TableOK_l0 k v1 (v3 ++ [(List.getD v55 (Int.toNat v57) T167.zero).1]) (v4 ++ [(List.getD v55 (Int.toNat v57) T167.zero).2.1]) v55 v56 (IntKind.i64.wrap (v57 + 1))) (none)) (none)))))))) (none)) (none)) (some (Sum.inl (v1, v3, v4))) := by kernel_rfl
theorem impl_TableOK_l2_zero (v1 : (Ty.den T91)) (v95 : (Ty.den T25)) (v96 : (Ty.den T3)) (v97 : (Ty.den T3)) : impl_TableOK_l2 0 v1 v95 v96 v97 = none := by kernel_rfl
theorem impl_TableOK_l2_succ (k : Nat) (v1 : (Ty.den T91)) (v95 : (Ty.den T25)) (v96 : (Ty.den T3)) (v97 : (Ty.den T3)) : impl_TableOK_l2 (k + 1) v1 v95 v96 v97 = br (decide (v97 < v96)) (br (decide (0 ≤ v97)) (br (decide (v97 < (↑(List.length v95) : Int))) (bnd (impl_kCol k v1 (List.getD v95 (Int.toNat v97) T3.zero)) (fun y1 => br (decide (y1 < 0)) (some (Sum.inr false)) (br (decide (0 ≤ y1)) (br (decide (y1 < (↑(List.length v1.2.2.2.1) : Int))) (br (!(List.getD v1.2.2.2.1 (Int.toNat y1) T167.zero).2.2.2.1) (some (Sum.inr false)) (impl_TableOK_l2 k v1 v95 v96 (IntKind.i64.wrap (v97 + 1)))) (none)) (none)))) (none)) (none)) (some (Sum.inl v1)) := by kernel_rfl
theorem impl_TableOK_l4_zero (v1 : (Ty.den T91)) (v3 : (Ty.den (.sl T3))) (v4 : (Ty.den (.sl T9))) (v117 : (Ty.den T89)) (v118 : (Ty.den T3)) (v119 : (Ty.den T3)) : impl_TableOK_l4 0 v1 v3 v4 v117 v118 v119 = none := by kernel_rfl
theorem impl_TableOK_l4_succ (k : Nat) (v1 : (Ty.den T91)) (v3 : (Ty.den (.sl T3))) (v4 : (Ty.den (.sl T9))) (v117 : (Ty.den T89)) (v118 : (Ty.den T3)) (v119 : (Ty.den T3)) : impl_TableOK_l4 (k + 1) v1 v3 v4 v117 v118 v119 = br (decide (v119 < v118)) (br (decide (0 ≤ v119)) (br (decide (v119 < (↑(List.length v117) : Int))) (bnd (impl_kWithin k (List.getD v117 (Int.toNat v119) T146.zero).1 1 1000) (fun y1 => br (!y1) (some (Sum.inr false)) (bnd (impl_kIsName k (List.getD v117 (Int.toNat v119) T146.zero).2.1) (fun y2 => br (!y2) (some (Sum.inr false)) (br ((↑(List.length (List.getD v117 (Int.toNat v119) T146.zero).2.2.1) : Int) == 0) (some (Sum.inr false)) (bnd (impl_kTwice_int k (List.getD v117 (Int.toNat v119) T146.zero).2.2.1) (fun y3 => br (y3) (some (Sum.inr false)) (bnd (impl_kWithin k (List.getD v117 (Int.toNat v119) T146.zero).2.2.2.2.1 1 3) (fun y4 => br (!y4) (some (Sum.inr false)) (br (decide (IntKind.i64.wrap ((↑(List.length (List.getD v117 (Int.toNat v119) T146.zero).2.2.1) : Int) + (↑(List.length v1.2.2.2.2.1) : Int)) > 14)) (some (Sum.inr false)) (bnd (impl_TableOK_l6 k v1 v3 v4 (List.getD v117 (Int.toNat v119) T146.zero) v117 v118 v119 ((List.getD v117 (Int.toNat v119) T146.zero).2.2.1) ((↑(List.length (List.getD v117 (Int.toNat v119) T146.zero).2.2.1) : Int)) 0) (fun y5 => onSum y5 (fun y6 => br (decide (List.length y6.2.1 + [y6.2.2.2.1.1].length ≤ capN)) (br (decide (List.length y6.2.2.1 + [y6.2.2.2.1.2.1].length ≤ capN)) (impl_TableOK_l4 k y6.1 (y6.2.1 ++ [y6.2.2.2.1.1]) (y6.2.2.1 ++ [y6.2.2.2.1.2.1]) y6.2.2.2.2.1 y6.2.2.2.2.2.1 (IntKind.i64.wrap (y6.2.2.2.2.2.2 + 1))) (none)) (none)) (fun y6 => some (Sum.inr y6)))))))))))))) (none)) (none)) (some (Sum.inl (v3, v4))) := by kernel_rfl
theorem impl_TableOK_l6_zero (v1 : (Ty.den T91)) (v3 : (Ty.den (.sl T3))) (v4 : (Ty.den (.sl T9))) (v11 : (Ty.den T146)) (v117 : (Ty.den T89)) (v118 : (Ty.den T3)) (v119 : (Ty.den T3)) (v161 : (Ty.den T25)) (v162 : (Ty.den T3)) (v163 : (Ty.den T3)) : impl_TableOK_l6 0 v1 v3 v4 v11 v117 v118 v119 v161 v162 v163 = none := by kernel_rfl
theorem impl_TableOK_l6_succ (k : Nat) (v1 : (Ty.den T91)) (v3 : (Ty.den (.sl T3))) (v4 : (Ty.den (.sl T9))) (v11 : (Ty.den T146)) (v117 : (Ty.den T89)) (v118 : (Ty.den T3)) (v119 : (Ty.den T3)) (v161 : (Ty.den T25)) (v162 : (Ty.den T3)) (v163 : (Ty.den T3)) : impl_TableOK_l6 (k + 1) v1 v3 v4 v11 v117 v118 v119 v161 v162 v163 = br (decide (v163 < v162)) (br (decide (0 ≤ v163)) (br (decide (v163 < (↑(List.length v161) : Int))) (bnd (impl_kCol k v1 (List.getD v161 (Int.toNat v163) T3.zero)) (fun y1 => br (decide (y1 < 0)) (some (Sum.inr false)) (impl_TableOK_l6 k v1 v3 v4 v11 v117 v118 v119 v161 v162 (IntKind.i64.wrap (v163 + 1))))) (none)) (none)) (some (Sum.inl (v1, v3, v4, v11, v117, v118, v119))) := by kernel_rfl
noncomputable def c_impl_TableOK : Con := ⟨[.val T91], [T4], fun k x => impl_TableOK k x.1⟩
theorem del_impl_TableOK {w0 : World} (hS : Stops w0) : DelOk Try.prog w0 d_impl_TableOK := .cons (ok_impl_kWithin hS) ent_impl_kWithin (.cons (ok_impl_kTwice_int hS) ent_impl_kTwice_int (.cons (ok_impl_kCol hS) ent_impl_kCol (.cons (ok_impl_kTwice_string hS) ent_impl_kTwice_string (.cons (ok_impl_kIsName hS) ent_impl_kIsName (.nil)))))
theorem ok_impl_TableOK {w0 : World} (hS : Stops w0) : ConOk Try.prog w0 122 c_impl_TableOK := fn_sound (A := a_impl_TableOK) tab_ok (del_impl_TableOK hS) (draws (del_impl_TableOK hS)) Try.func122 (by kernel_rfl) fun _ _ => rfl
theorem ent_impl_TableOK : Enters' Try.prog 122 := enters' Try.func122 (by kernel_rfl)
attribute [irreducible] impl_TableOK impl_TableOK_l0 impl_TableOK_l2 impl_TableOK_l4 impl_TableOK_l6

/-! ### impl_CatalogOK: function 81 -/
def a_impl_CatalogOK : Ann := ⟨[(0, [.val 0 T57, .row 3 9 T9, .row 4 9 T9, .val 12 T57, .val 13 T3, .val 14 T3], ⟨[.row 3 9 T9, .row 4 9 T9], false⟩), (2, [.val 0 T57, .row 3 9 T9, .row 4 9 T9, .val 12 T57, .val 13 T3, .val 14 T3, .val 43 T89, .val 44 T3, .val 45 T3], ⟨[.val 0 T57, .row 3 9 T9, .row 4 9 T9, .val 12 T57, .val 13 T3, .val 14 T3], true⟩)], [(9, ⟨[.val 0 T57, .row 3 9 T9, .row 4 9 T9, .var 6 T91 [], .val 12 T57, .val 13 T3, .val 14 T3], false⟩)]⟩
noncomputable def d_impl_CatalogOK : List (Nat × Con) := [(122, c_impl_TableOK), (176, c_impl_kTwice_string)]
noncomputable def impl_CatalogOK (k : Nat) (a : (Ty.den T57)) : Option (den1 [T4]) := evFn Γ d_impl_CatalogOK a_impl_CatalogOK Try.f81 [.val T57] [T4] k (a, ())
noncomputable def impl_CatalogOK_l0 (k : Nat) (v0 : (Ty.den T57)) (v3 : (Ty.den (.sl T9))) (v4 : (Ty.den (.sl T9))) (v12 : (Ty.den T57)) (v13 : (Ty.den T3)) (v14 : (Ty.den T3)) : Option ((Items.den [.row 3 9 T9, .row 4 9 T9]) ⊕ (den1 [T4])) := loopR (ρ := (den1 [T4])) 0 [.val 0 T57, .row 3 9 T9, .row 4 9 T9, .val 12 T57, .val 13 T3, .val 14 T3] [.row 3 9 T9, .row 4 9 T9] (runOf Γ d_impl_CatalogOK a_impl_CatalogOK Try.f81 [T4] 0) k (v0, v3, v4, v12, v13, v14)
noncomputable def impl_CatalogOK_l2 (k : Nat) (v0 : (Ty.den T57)) (v3 : (Ty.den (.sl T9))) (v4 : (Ty.den (.sl T9))) (v12 : (Ty.den T57)) (v13 : (Ty.den T3)) (v14 : (Ty.den T3)) (v43 : (Ty.den T89)) (v44 : (Ty.den T3)) (v45 : (Ty.den T3)) : Option (Items.den [.val 0 T57, .row 3 9 T9, .row 4 9 T9, .val 12 T57, .val 13 T3, .val 14 T3]) := loopQ (ρ := (den1 [T4])) 2 [.val 0 T57, .row 3 9 T9, .row 4 9 T9, .val 12 T57, .val 13 T3, .val 14 T3, .val 43 T89, .val 44 T3, .val 45 T3] [.val 0 T57, .row 3 9 T9, .row 4 9 T9, .val 12 T57, .val 13 T3, .val 14 T3] (runOf Γ d_impl_CatalogOK a_impl_CatalogOK Try.f81 [T4] 2) k (v0, v3, v4, v12, v13, v14, v43, v44, v45)
theorem impl_CatalogOK_eq (k : Nat) (a : (Ty.den T57)) : impl_CatalogOK k a = br (decide ((↑(List.length a) : Int) > 40)) (some false) (bnd (impl_CatalogOK_l0 k a [] [] a ((↑(List.length a) : Int)) 0) (fun y1 => onSum y1 (fun y2 => bnd (impl_kTwice_string k y2.1) (fun y3 => br (!y3) (bnd (impl_kTwice_string k y2.2) (fun y4 => some (!y4))) (some false))) (fun y2 => some y2))) := by kernel_rfl
theorem impl_CatalogOK_l0_zero (v0 : (Ty.den T57)) (v3 : (Ty.den (.sl T9))) (v4 : (Ty.den (.sl T9))) (v12 : (Ty.den T57)) (v13 : (Ty.den T3)) (v14 : (Ty.den T3)) : impl_CatalogOK_l0 0 v0 v3 v4 v12 v13 v14 = none := by kernel_rfl
theorem impl_CatalogOK_l0_succ (k : Nat) (v0 : (Ty.den T57)) (v3 : (Ty.den (.sl T9))) (v4 : (Ty.den (.sl T9))) (v12 : (Ty.den T57)) (v13 : (Ty.den T3)) (v14 : (Ty.den T3)) : impl_CatalogOK_l0 (k + 1) v0 v3 v4 v12 v13 v14 = br (decide (v14 < v13)) (br (decide (0 ≤ v14)) (br (decide (v14 < (↑(List.length v12) : Int))) (bnd (bnd (impl_TableOK k (List.getD v12 (Int.toNat v14) T91.zero)) (fun y1 => br (!y1) (some (Sum.inr false)) (br (decide (v14 > 0)) (br (decide (0 ≤ IntKind.i64.wrap (v14 - 1))) (br (decide (IntKind.i64.wrap (v14 - 1) < (↑(List.length v0) : Int))) (br (decide ((List.getD v0 (IntKind.i64.wrap (v14 - 1)).toNat T91.zero).1 ≥ (List.getD v12 (Int.toNat v14) T91.zero).1)) (some (Sum.inr false)) (some (Sum.inl (v0, v3, v4, (List.getD v12 (Int.toNat v14) T91.zero), v12, v13, v14)))) (none)) (none)) (some (Sum.inl (v0, v3, v4, (List.getD v12 (Int.toNat v14) T91.zero), v12, v13, v14)))))) (fun y1 => onSum y1 (fun y2 => br (decide (List.length y2.2.1 + [y2.2.2.2.1.2.1].length ≤ capN)) (bnd (impl_CatalogOK_l2 k y2.1 (y2.2.1 ++ [y2.2.2.2.1.2.1]) y2.2.2.1 y2.2.2.2.2.1 y2.2.2.2.2.2.1 y2.2.2.2.2.2.2 y2.2.2.2.1.2.2.2.2.2.1 ((↑(List.length y2.2.2.2.1.2.2.2.2.2.1) : Int)) 0) (fun y3 => impl_CatalogOK_l0 k y3.1 y3.2.1 y3.2.2.1 y3.2.2.2.1 y3.2.2.2.2.1 (IntKind.i64.wrap (y3.2.2.2.2.2 + 1)))) (none)) (fun y2 => some (Sum.inr y2)))) (none)) (none)) (some (Sum.inl (v3, v4))) := by kernel_rfl
theorem impl_CatalogOK_l2_zero (v0 : (Ty.den T57)) (v3 : (Ty.den (.sl T9))) (v4 : (Ty.den (.sl T9))) (v12 : (Ty.den T57)) (v13 : (Ty.den T3)) (v14 : (Ty.den T3)) (v43 : (Ty.den T89)) (v44 : (Ty.den T3)) (v45 : (Ty.den T3)) : impl_CatalogOK_l2 0 v0 v3 v4 v12 v13 v14 v43 v44 v45 = none := by kernel_rfl
theorem impl_CatalogOK_l2_succ (k : Nat) (v0 : (Ty.den T57)) (v3 : (Ty.den (.sl T9))) (v4 : (Ty.den (.sl T9))) (v12 : (Ty.den T57)) (v13 : (Ty.den T3)) (v14 : (Ty.den T3)) (v43 : (Ty.den T89)) (v44 : (Ty.den T3)) (v45 : (Ty.den T3)) : impl_CatalogOK_l2 (k + 1) v0 v3 v4 v12 v13 v14 v43 v44 v45 = br (decide (v45 < v44)) (br (decide (0 ≤ v45)) (br (decide (v45 < (↑(List.length v43) : Int))) (br (decide (List.length v4 + [(List.getD v43 (Int.toNat v45) T146.zero).2.1].length ≤ capN)) (impl_CatalogOK_l2 k v0 v3 (v4 ++ [(List.getD v43 (Int.toNat v45) T146.zero).2.1]) v12 v13 v14 v43 v44 (IntKind.i64.wrap (v45 + 1))) (none)) (none)) (none)) (some (v0, v3, v4, v12, v13, v14)) := by kernel_rfl
noncomputable def c_impl_CatalogOK : Con := ⟨[.val T57], [T4], fun k x => impl_CatalogOK k x.1⟩
theorem del_impl_CatalogOK {w0 : World} (hS : Stops w0) : DelOk Try.prog w0 d_impl_CatalogOK := .cons (ok_impl_TableOK hS) ent_impl_TableOK (.cons (ok_impl_kTwice_string hS) ent_impl_kTwice_string (.nil))
theorem ok_impl_CatalogOK {w0 : World} (hS : Stops w0) : ConOk Try.prog w0 81 c_impl_CatalogOK := fn_sound (A := a_impl_CatalogOK) tab_ok (del_impl_CatalogOK hS) (draws (del_impl_CatalogOK hS)) Try.func81 (by kernel_rfl) fun _ _ => rfl
theorem ent_impl_CatalogOK : Enters' Try.prog 81 := enters' Try.func81 (by kernel_rfl)
attribute [irreducible] impl_CatalogOK impl_CatalogOK_l0 impl_CatalogOK_l2

/-! ### impl_kTable_1: function 241 -/
def a_impl_kTable_1 : Ann := ⟨[], []⟩
noncomputable def d_impl_kTable_1 : List (Nat × Con) := []
noncomputable def impl_kTable_1 (k : Nat) (a : (Ty.den T91)) (b : (Ty.den T9)) : Option (den1 [T4]) := evFn Γ d_impl_kTable_1 a_impl_kTable_1 Try.f241 [.val T91, .ptr T9] [T4] k (a, b, ())
theorem impl_kTable_1_eq (k : Nat) (a : (Ty.den T91)) (b : (Ty.den T9)) : impl_kTable_1 k a b = some (a.2.1 == b) := by kernel_rfl
noncomputable def c_impl_kTable_1 : Con := ⟨[.val T91, .ptr T9], [T4], fun k x => impl_kTable_1 k x.1 x.2.1⟩
theorem del_impl_kTable_1 {w0 : World} (hS : Stops w0) : DelOk Try.prog w0 d_impl_kTable_1 := .nil
theorem ok_impl_kTable_1 {w0 : World} (hS : Stops w0) : ConOk Try.prog w0 241 c_impl_kTable_1 := fn_sound (A := a_impl_kTable_1) tab_ok (del_impl_kTable_1 hS) (draws (del_impl_kTable_1 hS)) Try.func241 (by kernel_rfl) fun _ _ => rfl
theorem ent_impl_kTable_1 : Enters' Try.prog 241 := enters' Try.func241 (by kernel_rfl)
attribute [irreducible] impl_kTable_1

/-! ### slices_IndexFunc_Table: function 240 -/
def a_slices_IndexFunc_Table : Ann := ⟨[(0, [.val 0 T57, .clo 1 241 [T9], .val 7 T3, .val 8 T3], ⟨[], false⟩)], []⟩
noncomputable def d_slices_IndexFunc_Table : List (Nat × Con) := [(241, c_impl_kTable_1)]
noncomputable def slices_IndexFunc_Table (k : Nat) (a : (Ty.den T57)) (b : (dens [T9])) : Option (den1 [T3]) := evFn Γ d_slices_IndexFunc_Table a_slices_IndexFunc_Table Try.f240 [.val T57, .clo 241 [T9]] [T3] k (a, b, ())
noncomputable def slices_IndexFunc_Table_l0 (k : Nat) (v0 : (Ty.den T57)) (v1 : (dens [T9])) (v7 : (Ty.den T3)) (v8 : (Ty.den T3)) : Option ((Items.den []) ⊕ (den1 [T3])) := loopR (ρ := (den1 [T3])) 0 [.val 0 T57, .clo 1 241 [T9], .val 7 T3, .val 8 T3] [] (runOf Γ d_slices_IndexFunc_Table a_slices_IndexFunc_Table Try.f240 [T3] 0) k (v0, v1, v7, v8)
theorem slices_IndexFunc_Table_eq (k : Nat) (a : (Ty.den T57)) (b : (dens [T9])) : slices_IndexFunc_Table k a b = bnd (slices_IndexFunc_Table_l0 k a (b.1, ()) ((↑(List.length a) : Int)) 0) (fun y1 => onSum y1 (fun y2 => some (-1)) (fun y2 => some y2)) := by kernel_rfl
theorem slices_IndexFunc_Table_l0_zero (v0 : (Ty.den T57)) (v1 : (dens [T9])) (v7 : (Ty.den T3)) (v8 : (Ty.den T3)) : slices_IndexFunc_Table_l0 0 v0 v1 v7 v8 = none := by kernel_rfl
theorem slices_IndexFunc_Table_l0_succ (k : Nat) (v0 : (Ty.den T57)) (v1 : (dens [T9])) (v7 : (Ty.den T3)) (v8 : (Ty.den T3)) : slices_IndexFunc_Table_l0 (k + 1) v0 v1 v7 v8 = br (decide (v8 < v7)) (br (decide (0 ≤ v8)) (br (decide (v8 < (↑(List.length v0) : Int))) (bnd (impl_kTable_1 k (List.getD v0 (Int.toNat v8) T91.zero) v1.1) (fun y1 => br (y1) (some (Sum.inr v8)) (slices_IndexFunc_Table_l0 k v0 (v1.1, ()) v7 (IntKind.i64.wrap (v8 + 1))))) (none)) (none)) (some (Sum.inl ())) := by kernel_rfl
noncomputable def c_slices_IndexFunc_Table : Con := ⟨[.val T57, .clo 241 [T9]], [T3], fun k x => slices_IndexFunc_Table k x.1 x.2.1⟩
theorem del_slices_IndexFunc_Table {w0 : World} (hS : Stops w0) : DelOk Try.prog w0 d_slices_IndexFunc_Table := .cons (ok_impl_kTable_1 hS) ent_impl_kTable_1 (.nil)
theorem ok_slices_IndexFunc_Table {w0 : World} (hS : Stops w0) : ConOk Try.prog w0 240 c_slices_IndexFunc_Table := fn_sound (A := a_slices_IndexFunc_Table) tab_ok (del_slices_IndexFunc_Table hS) (draws (del_slices_IndexFunc_Table hS)) Try.func240 (by kernel_rfl) fun _ _ => rfl
theorem ent_slices_IndexFunc_Table : Enters' Try.prog 240 := enters' Try.func240 (by kernel_rfl)
attribute [irreducible] slices_IndexFunc_Table slices_IndexFunc_Table_l0

/-! ### impl_kTable: function 184 -/
def a_impl_kTable : Ann := ⟨[], []⟩
noncomputable def d_impl_kTable : List (Nat × Con) := [(240, c_slices_IndexFunc_Table), (241, c_impl_kTable_1)]
noncomputable def impl_kTable (k : Nat) (a : (Ty.den T57)) (b : (Ty.den T9)) : Option (den1 [T3]) := evFn Γ d_impl_kTable a_impl_kTable Try.f184 [.val T57, .val T9] [T3] k (a, b, ())
theorem impl_kTable_eq (k : Nat) (a : (Ty.den T57)) (b : (Ty.den T9)) : impl_kTable k a b = bnd (slices_IndexFunc_Table k a (b, ())) (fun y1 => some y1) := by kernel_rfl
noncomputable def c_impl_kTable : Con := ⟨[.val T57, .val T9], [T3], fun k x => impl_kTable k x.1 x.2.1⟩
theorem del_impl_kTable {w0 : World} (hS : Stops w0) : DelOk Try.prog w0 d_impl_kTable := .cons (ok_slices_IndexFunc_Table hS) ent_slices_IndexFunc_Table (.cons (ok_impl_kTable_1 hS) ent_impl_kTable_1 (.nil))
theorem ok_impl_kTable {w0 : World} (hS : Stops w0) : ConOk Try.prog w0 184 c_impl_kTable := fn_sound (A := a_impl_kTable) tab_ok (del_impl_kTable hS) (draws (del_impl_kTable hS)) Try.func184 (by kernel_rfl) fun _ _ => rfl
theorem ent_impl_kTable : Enters' Try.prog 184 := enters' Try.func184 (by kernel_rfl)
attribute [irreducible] impl_kTable

/-! ### impl_kFlatCols: function 103 -/
def a_impl_kFlatCols : Ann := ⟨[(0, [.val 0 T57, .row 6 178 T178, .val 12 T64, .val 13 T3, .val 14 T3], ⟨[.row 6 178 T178], false⟩), (2, [.val 0 T57, .row 6 178 T178, .val 7 T3, .val 12 T64, .val 13 T3, .val 14 T3, .val 28 T88, .val 29 T3, .val 30 T3], ⟨[.val 0 T57, .row 6 178 T178, .val 12 T64, .val 13 T3, .val 14 T3], true⟩)], []⟩
noncomputable def d_impl_kFlatCols : List (Nat × Con) := [(184, c_impl_kTable)]
noncomputable def impl_kFlatCols (k : Nat) (a : (Ty.den T57)) (b : (Ty.den T64)) : Option (den1 [T172, T4]) := evFn Γ d_impl_kFlatCols a_impl_kFlatCols Try.f103 [.val T57, .val T64] [T172, T4] k (a, b, ())
noncomputable def impl_kFlatCols_l0 (k : Nat) (v0 : (Ty.den T57)) (v6 : (Ty.den (.sl T178))) (v12 : (Ty.den T64)) (v13 : (Ty.den T3)) (v14 : (Ty.den T3)) : Option ((Items.den [.row 6 178 T178]) ⊕ (den1 [T172, T4])) := loopR (ρ := (den1 [T172, T4])) 0 [.val 0 T57, .row 6 178 T178, .val 12 T64, .val 13 T3, .val 14 T3] [.row 6 178 T178] (runOf Γ d_impl_kFlatCols a_impl_kFlatCols Try.f103 [T172, T4] 0) k (v0, v6, v12, v13, v14)
noncomputable def impl_kFlatCols_l2 (k : Nat) (v0 : (Ty.den T57)) (v6 : (Ty.den (.sl T178))) (v7 : (Ty.den T3)) (v12 : (Ty.den T64)) (v13 : (Ty.den T3)) (v14 : (Ty.den T3)) (v28 : (Ty.den T88)) (v29 : (Ty.den T3)) (v30 : (Ty.den T3)) : Option (Items.den [.val 0 T57, .row 6 178 T178, .val 12 T64, .val 13 T3, .val 14 T3]) := loopQ (ρ := (den1 [T172, T4])) 2 [.val 0 T57, .row 6 178 T178, .val 7 T3, .val 12 T64, .val 13 T3, .val 14 T3, .val 28 T88, .val 29 T3, .val 30 T3] [.val 0 T57, .row 6 178 T178, .val 12 T64, .val 13 T3, .val 14 T3] (runOf Γ d_impl_kFlatCols a_impl_kFlatCols Try.f103 [T172, T4] 2) k (v0, v6, v7, v12, v13, v14, v28, v29, v30)
theorem impl_kFlatCols_eq (k : Nat) (a : (Ty.den T57)) (b : (Ty.den T64)) : impl_kFlatCols k a b = bnd (impl_kFlatCols_l0 k a [] b ((↑(List.length b) : Int)) 0) (fun y1 => onSum y1 (fun y2 => some (y2, true)) (fun y2 => some y2)) := by kernel_rfl
theorem impl_kFlatCols_l0_zero (v0 : (Ty.den T57)) (v6 : (Ty.den (.sl T178))) (v12 : (Ty.den T64)) (v13 : (Ty.den T3)) (v14 : (Ty.den T3)) : impl_kFlatCols_l0 0 v0 v6 v12 v13 v14 = none := by kernel_rfl
theorem impl_kFlatCols_l0_succ (k : Nat) (v0 : (Ty.den T57)) (v6 : (Ty.den (.sl T178))) (v12 : (Ty.den T64)) (v13 : (Ty.den T3)) (v14 : (Ty.den T3)) : impl_kFlatCols_l0 (k + 1) v0 v6 v12 v13 v14 = br (decide (v14 < v13)) (br (decide (0 ≤ v14)) (br (decide (v14 < (↑(List.length v12) : Int))) (bnd (impl_kTable k v0 (List.getD v12 (Int.toNat v14) T9.zero)) (fun y1 => br (decide (y1 < 0)) (some (Sum.inr ([], false))) (br (decide (0 ≤ y1)) (br (decide (y1 < (↑(List.length v0) : Int))) (bnd (impl_kFlatCols_l2 k v0 v6 v14 v12 v13 v14 ((List.getD v0 (Int.toNat y1) T91.zero).2.2.2.1) ((↑(List.length (List.getD v0 (Int.toNat y1) T91.zero).2.2.2.1) : Int)) 0) (fun y2 => impl_kFlatCols_l0 k y2.1 y2.2.1 y2.2.2.1 y2.2.2.2.1 (IntKind.i64.wrap (y2.2.2.2.2 + 1)))) (none)) (none)))) (none)) (none)) (some (Sum.inl v6)) := by kernel_rfl
theorem impl_kFlatCols_l2_zero (v0 : (Ty.den T57)) (v6 : (Ty.den (.sl T178))) (v7 : (Ty.den T3)) (v12 : (Ty.den T64)) (v13 : (Ty.den T3)) (v14 : (Ty.den T3)) (v28 : (Ty.den T88)) (v29 : (Ty.den T3)) (v30 : (Ty.den T3)) : impl_kFlatCols_l2 0 v0 v6 v7 v12 v13 v14 v28 v29 v30 = none := by kernel_rfl
theorem impl_kFlatCols_l2_succ (k : Nat) (v0 : (Ty.den T57)) (v6 : (Ty.den (.sl T178))) (v7 : (Ty.den T3)) (v12 : (Ty.den T64)) (v13 : (Ty.den T3)) (v14 : (Ty.den T3)) (v28 : (Ty.den T88)) (v29 : (Ty.den T3)) (v30 : (Ty.den T3)) : impl_kFlatCols_l2 (k + 1) v0 v6 v7 v12 v13 v14 v28 v29 v30 = br (decide (v30 < v29)) (br (decide (0 ≤ v30)) (br (decide (v30 < (↑(List.length v28) : Int))) (br (decide (List.length v6 + [(v7, v30, (List.getD v28 (Int.toNat v30) T167.zero), (List.getD v28 (Int.toNat v30) T167.zero).2.1, ())].length ≤ capN)) (impl_kFlatCols_l2 k v0 (v6 ++ [(v7, v30, (List.getD v28 (Int.toNat v30) T167.zero), (List.getD v28 (Int.toNat v30) T167.zero).2.1, ())]) v7 v12 v13 v14 v28 v29 (IntKind.i64.wrap (v30 + 1))) (none)) (none)) (none)) (some (v0, v6, v12, v13, v14)) := by kernel_rfl
noncomputable def c_impl_kFlatCols : Con := ⟨[.val T57, .val T64], [T172, T4], fun k x => impl_kFlatCols k x.1 x.2.1⟩
theorem del_impl_kFlatCols {w0 : World} (hS : Stops w0) : DelOk Try.prog w0 d_impl_kFlatCols := .cons (ok_impl_kTable hS) ent_impl_kTable (.nil)
theorem ok_impl_kFlatCols {w0 : World} (hS : Stops w0) : ConOk Try.prog w0 103 c_impl_kFlatCols := fn_sound (A := a_impl_kFlatCols) tab_ok (del_impl_kFlatCols hS) (draws (del_impl_kFlatCols hS)) Try.func103 (by kernel_rfl) fun _ _ => rfl
theorem ent_impl_kFlatCols : Enters' Try.prog 103 := enters' Try.func103 (by kernel_rfl)
attribute [irreducible] impl_kFlatCols impl_kFlatCols_l0 impl_kFlatCols_l2

/-! ### impl_FlatOK_1: function 104 -/
def a_impl_FlatOK_1 : Ann := ⟨[], []⟩
noncomputable def d_impl_FlatOK_1 : List (Nat × Con) := []
noncomputable def impl_FlatOK_1 (k : Nat) (a : (Ty.den T3)) (b : (Ty.den T172)) : Option (den1 [T4]) := evFn Γ d_impl_FlatOK_1 a_impl_FlatOK_1 Try.f104 [.val T3, .ptr T172] [T4] k (a, b, ())
theorem impl_FlatOK_1_eq (k : Nat) (a : (Ty.den T3)) (b : (Ty.den T172)) : impl_FlatOK_1 k a b = br (decide (a ≥ 0)) (some (decide (a < (↑(List.length b) : Int)))) (some false) := by kernel_rfl
noncomputable def c_impl_FlatOK_1 : Con := ⟨[.val T3, .ptr T172], [T4], fun k x => impl_FlatOK_1 k x.1 x.2.1⟩
theorem del_impl_FlatOK_1 {w0 : World} (hS : Stops w0) : DelOk Try.prog w0 d_impl_FlatOK_1 := .nil
theorem ok_impl_FlatOK_1 {w0 : World} (hS : Stops w0) : ConOk Try.prog w0 104 c_impl_FlatOK_1 := fn_sound (A := a_impl_FlatOK_1) tab_ok (del_impl_FlatOK_1 hS) (draws (del_impl_FlatOK_1 hS)) Try.func104 (by kernel_rfl) fun _ _ => rfl
theorem ent_impl_FlatOK_1 : Enters' Try.prog 104 := enters' Try.func104 (by kernel_rfl)
attribute [irreducible] impl_FlatOK_1

/-! ### impl_kRel: function 105 -/
def a_impl_kRel : Ann := ⟨[], []⟩
noncomputable def d_impl_kRel : List (Nat × Con) := [(185, c_slices_Contains_string_string)]
noncomputable def impl_kRel (k : Nat) (a : (Ty.den T9)) : Option (den1 [T4]) := evFn Γ d_impl_kRel a_impl_kRel Try.f105 [.val T9] [T4] k (a, ())
theorem impl_kRel_eq (k : Nat) (a : (Ty.den T9)) : impl_kRel k a = bnd (slices_Contains_string_string k [[61], [60, 62], [60], [60, 61], [62], [62, 61]] a) (fun y1 => some y1) := by kernel_rfl
noncomputable def c_impl_kRel : Con := ⟨[.val T9], [T4], fun k x => impl_kRel k x.1⟩
theorem del_impl_kRel {w0 : World} (hS : Stops w0) : DelOk Try.prog w0 d_impl_kRel := .cons (ok_slices_Contains_string_string hS) ent_slices_Contains_string_string (.nil)
theorem ok_impl_kRel {w0 : World} (hS : Stops w0) : ConOk Try.prog w0 105 c_impl_kRel := fn_sound (A := a_impl_kRel) tab_ok (del_impl_kRel hS) (draws (del_impl_kRel hS)) Try.func105 (by kernel_rfl) fun _ _ => rfl
theorem ent_impl_kRel : Enters' Try.prog 105 := enters' Try.func105 (by kernel_rfl)
attribute [irreducible] impl_kRel

/-! ### impl_kNumber: function 109 -/
def a_impl_kNumber : Ann := ⟨[], []⟩
noncomputable def d_impl_kNumber : List (Nat × Con) := []
noncomputable def impl_kNumber (k : Nat) (a : (Ty.den T3)) : Option (den1 [T4]) := evFn Γ d_impl_kNumber a_impl_kNumber Try.f109 [.val T3] [T4] k (a, ())
theorem impl_kNumber_eq (k : Nat) (a : (Ty.den T3)) : impl_kNumber k a = br (a == 2) (some true) (some (a == 3)) := by kernel_rfl
noncomputable def c_impl_kNumber : Con := ⟨[.val T3], [T4], fun k x => impl_kNumber k x.1⟩
theorem del_impl_kNumber {w0 : World} (hS : Stops w0) : DelOk Try.prog w0 d_impl_kNumber := .nil
theorem ok_impl_kNumber {w0 : World} (hS : Stops w0) : ConOk Try.prog w0 109 c_impl_kNumber := fn_sound (A := a_impl_kNumber) tab_ok (del_impl_kNumber hS) (draws (del_impl_kNumber hS)) Try.func109 (by kernel_rfl) fun _ _ => rfl
theorem ent_impl_kNumber : Enters' Try.prog 109 := enters' Try.func109 (by kernel_rfl)
attribute [irreducible] impl_kNumber

/-! ### impl_kAlike: function 106 -/
def a_impl_kAlike : Ann := ⟨[], []⟩
noncomputable def d_impl_kAlike : List (Nat × Con) := [(109, c_impl_kNumber)]
noncomputable def impl_kAlike (k : Nat) (a : (Ty.den T3)) (b : (Ty.den T3)) : Option (den1 [T4]) := evFn Γ d_impl_kAlike a_impl_kAlike Try.f106 [.val T3, .val T3] [T4] k (a, b, ())
theorem impl_kAlike_eq (k : Nat) (a : (Ty.den T3)) (b : (Ty.den T3)) : impl_kAlike k a b = br (a == b) (some true) (bnd (impl_kNumber k a) (fun y1 => br (y1) (bnd (impl_kNumber k b) (fun y2 => some y2)) (some false))) := by kernel_rfl
noncomputable def c_impl_kAlike : Con := ⟨[.val T3, .val T3], [T4], fun k x => impl_kAlike k x.1 x.2.1⟩
theorem del_impl_kAlike {w0 : World} (hS : Stops w0) : DelOk Try.prog w0 d_impl_kAlike := .cons (ok_impl_kNumber hS) ent_impl_kNumber (.nil)
theorem ok_impl_kAlike {w0 : World} (hS : Stops w0) : ConOk Try.prog w0 106 c_impl_kAlike := fn_sound (A := a_impl_kAlike) tab_ok (del_impl_kAlike hS) (draws (del_impl_kAlike hS)) Try.func106 (by kernel_rfl) fun _ _ => rfl
theorem ent_impl_kAlike : Enters' Try.prog 106 := enters' Try.func106 (by kernel_rfl)
attribute [irreducible] impl_kAlike

/-! ### impl_FlatOK: function 33 -/
def a_impl_FlatOK : Ann := ⟨[(0, [.var 3 T74 [], .el 5 T172, .clo 7 104 [T172], .val 54 T71, .val 55 T3, .val 56 T3], ⟨[.var 3 T74 [], .el 5 T172, .clo 7 104 [T172]], false⟩), (3, [.var 3 T74 [], .el 5 T172, .clo 7 104 [T172], .val 161 T25, .val 162 T3, .val 163 T3], ⟨[.var 3 T74 [], .el 5 T172, .clo 7 104 [T172]], false⟩), (5, [.var 3 T74 [], .el 5 T172, .clo 7 104 [T172], .val 173 T72, .val 174 T3, .val 175 T3], ⟨[], false⟩)], [(25, ⟨[.var 3 T74 [], .el 5 T172, .clo 7 104 [T172]], false⟩)]⟩
noncomputable def d_impl_FlatOK : List (Nat × Con) := [(51, c_impl_kWithin), (52, c_impl_ValueOK), (81, c_impl_CatalogOK), (103, c_impl_kFlatCols), (104, c_impl_FlatOK_1), (105, c_impl_kRel), (106, c_impl_kAlike), (107, c_impl_kTwice_int), (108, c_slices_Contains_int_int), (109, c_impl_kNumber)]
noncomputable def impl_FlatOK (k : Nat) (a : (Ty.den T57)) (b : (Ty.den T74)) : Option (den1 [T4]) := evFn Γ d_impl_FlatOK a_impl_FlatOK Try.f33 [.val T57, .val T74] [T4] k (a, b, ())
noncomputable def impl_FlatOK_l0 (k : Nat) (v3 : (Ty.den T74)) (v5 : (Ty.den T172)) (v7 : (dens [T172])) (v54 : (Ty.den T71)) (v55 : (Ty.den T3)) (v56 : (Ty.den T3)) : Option ((Items.den [.var 3 T74 [], .el 5 T172, .clo 7 104 [T172]]) ⊕ (den1 [T4])) := loopR (ρ := (den1 [T4])) 0 [.var 3 T74 [], .el 5 T172, .clo 7 104 [T172], .val 54 T71, .val 55 T3, .val 56 T3] [.var 3 T74 [], .el 5 T172, .clo 7 104 [T172]] (runOf Γ d_impl_FlatOK a_impl_FlatOK Try.f33 [T4] 0) k (v3, v5, v7, v54, v55, v56)
noncomputable def impl_FlatOK_l3 (k : Nat) (v3 : (Ty.den T74)) (v5 : (Ty.den T172)) (v7 : (dens [T172])) (v161 : (Ty.den T25)) (v162 : (Ty.den T3)) (v163 : (Ty.den T3)) : Option ((Items.den [.var 3 T74 [], .el 5 T172, .clo 7 104 [T172]]) ⊕ (den1 [T4])) := loopR (ρ := (den1 [T4])) 3 [.var 3 T74 [], .el 5 T172, .clo 7 104 [T172], .val 161 T25, .val 162 T3, .val 163 T3] [.var 3 T74 [], .el 5 T172, .clo 7 104 [T172]] (runOf Γ d_impl_FlatOK a_impl_FlatOK Try.f33 [T4] 3) k (v3, v5, v7, v161, v162, v163)
noncomputable def impl_FlatOK_l5 (k : Nat) (v3 : (Ty.den T74)) (v5 : (Ty.den T172)) (v7 : (dens [T172])) (v173 : (Ty.den T72)) (v174 : (Ty.den T3)) (v175 : (Ty.den T3)) : Option ((Items.den []) ⊕ (den1 [T4])) := loopR (ρ := (den1 [T4])) 5 [.var 3 T74 [], .el 5 T172, .clo 7 104 [T172], .val 173 T72, .val 174 T3, .val 175 T3] [] (runOf Γ d_impl_FlatOK a_impl_FlatOK Try.f33 [T4] 5) k (v3, v5, v7, v173, v174, v175)
theorem impl_FlatOK_eq (k : Nat) (a : (Ty.den T57)) (b : (Ty.den T74)) : impl_FlatOK k a b = bnd (impl_CatalogOK k a) (fun y1 => br (!y1) (some false) (bnd (impl_kWithin k (↑(List.length b.1) : Int) 1 4) (fun y2 => br (!y2) (some false) (br (decide ((↑(List.length b.2.1) : Int) > 30)) (some false) (bnd (impl_kWithin k (↑(List.length b.2.2.2.1) : Int) 1 16) (fun y3 => br (!y3) (some false) (br (decide ((↑(List.length b.2.2.1) : Int) > 16)) (some false) (bnd (impl_kFlatCols k a b.1) (fun y4 => br (!y4.2) (some false) (bnd (impl_FlatOK_l0 k b y4.1 (y4.1, ()) b.2.1 ((↑(List.length b.2.1) : Int)) 0) (fun y5 => onSum y5 (fun y6 => bnd (bnd (impl_kTwice_int k y6.1.2.2.1) (fun y7 => br (y7) (some (Sum.inr false)) (br (!y6.1.2.2.2.2.1) (br (decide ((↑(List.length y6.1.2.2.1) : Int) > 0)) (some (Sum.inr false)) (some (Sum.inl y6))) (some (Sum.inl y6))))) (fun y7 => onSum y7 (fun y8 => bnd (impl_FlatOK_l3 k y8.1 y8.2.1 (y8.2.2.1, ()) y8.1.2.2.1 ((↑(List.length y8.1.2.2.1) : Int)) 0) (fun y9 => onSum y9 (fun y10 => bnd (impl_FlatOK_l5 k y10.1 y10.2.1 (y10.2.2.1, ()) y10.1.2.2.2.1 ((↑(List.length y10.1.2.2.2.1) : Int)) 0) (fun y11 => onSum y11 (fun y12 => some true) (fun y12 => some y12))) (fun y10 => some y10))) (fun y8 => some y8))) (fun y6 => some y6)))))))))))) := by kernel_rfl
theorem impl_FlatOK_l0_zero (v3 : (Ty.den T74)) (v5 : (Ty.den T172)) (v7 : (dens [T172])) (v54 : (Ty.den T71)) (v55 : (Ty.den T3)) (v56 : (Ty.den T3)) : impl_FlatOK_l0 0 v3 v5 v7 v54 v55 v56 = none := by kernel_rfl
theorem impl_FlatOK_l0_succ (k : Nat) (v3 : (Ty.den T74)) (v5 : (Ty.den T172)) (v7 : (dens [T172])) (v54 : (Ty.den T71)) (v55 : (Ty.den T3)) (v56 : (Ty.den T3)) : impl_FlatOK_l0 (k + 1) v3 v5 v7 v54 v55 v56 = br (decide (v56 < v55)) (br (decide (0 ≤ v56)) (br (decide (v56 < (↑(List.length v54) : Int))) (bnd (impl_FlatOK_1 k (List.getD v54 (Int.toNat v56) T162.zero).2.1 v7.1) (fun y1 => br (!y1) (some (Sum.inr false)) (bnd (impl_ValueOK k (List.getD v54 (Int.toNat v56) T162.zero).2.2.2.1) (fun y2 => br (!y2) (some (Sum.inr false)) (br ((List.getD v54 (Int.toNat v56) T162.zero).1 == [110, 117, 108, 108]) (br ((List.getD v54 (Int.toNat v56) T162.zero).2.2.1 != -1) (some (Sum.inr false)) (br (!andB (eqI (List.getD v54 (Int.toNat v56) T162.zero).2.2.2.1.1 0) (andB (eqI (List.getD v54 (Int.toNat v56) T162.zero).2.2.2.1.2.1 0) (andB (eqI (List.getD v54 (Int.toNat v56) T162.zero).2.2.2.1.2.2.1 0) (andB (eqS (List.getD v54 (Int.toNat v56) T162.zero).2.2.2.1.2.2.2.1 []) true)))) (some (Sum.inr false)) (impl_FlatOK_l0 k v3 v5 (v7.1, ()) v54 v55 (IntKind.i64.wrap (v56 + 1))))) (br ((List.getD v54 (Int.toNat v56) T162.zero).1 == [115, 111, 109, 101]) (br ((List.getD v54 (Int.toNat v56) T162.zero).2.2.1 != -1) (some (Sum.inr false)) (br (!andB (eqI (List.getD v54 (Int.toNat v56) T162.zero).2.2.2.1.1 0) (andB (eqI (List.getD v54 (Int.toNat v56) T162.zero).2.2.2.1.2.1 0) (andB (eqI (List.getD v54 (Int.toNat v56) T162.zero).2.2.2.1.2.2.1 0) (andB (eqS (List.getD v54 (Int.toNat v56) T162.zero).2.2.2.1.2.2.2.1 []) true)))) (some (Sum.inr false)) (impl_FlatOK_l0 k v3 v5 (v7.1, ()) v54 v55 (IntKind.i64.wrap (v56 + 1))))) (bnd (impl_kRel k (List.getD v54 (Int.toNat v56) T162.zero).1) (fun y3 => br (!y3) (some (Sum.inr false)) (br ((List.getD v54 (Int.toNat v56) T162.zero).2.2.1 == -1) (br ((List.getD v54 (Int.toNat v56) T162.zero).2.2.2.1.1 == 0) (some (Sum.inr false)) (br (decide (0 ≤ (List.getD v54 (Int.toNat v56) T162.zero).2.1)) (br (decide ((List.getD v54 (Int.toNat v56) T162.zero).2.1 < (↑(List.length v5) : Int))) (bnd (impl_kAlike k (List.getD v5 (Int.toNat (List.getD v54 (Int.toNat v56) T162.zero).2.1) T178.zero).2.2.1.2.2.1 (List.getD v54 (Int.toNat v56) T162.zero).2.2.2.1.1) (fun y4 => br (!y4) (some (Sum.inr false)) (impl_FlatOK_l0 k v3 v5 (v7.1, ()) v54 v55 (IntKind.i64.wrap (v56 + 1))))) (none)) (none))) (br (!andB (eqI (List.getD v54 (Int.toNat v56) T162.zero).2.2.2.1.1 0) (andB (eqI (List.getD v54 (Int.toNat v56) T162.zero).2.2.2.1.2.1 0) (andB (eqI (List.getD v54 (Int.toNat v56) T162.zero).2.2.2.1.2.2.1 0) (andB (eqS (List.getD v54 (Int.toNat v56) T162.zero).2.2.2.1.2.2.2.1 []) true)))) (some (Sum.inr false)) (bnd (impl_FlatOK_1 k (List.getD v54 (Int.toNat v56) T162.zero).2.2.1 v7.1) (fun y4 => br (!y4) (some (Sum.inr false)) (br (decide (0 ≤ (List.getD v54 (Int.toNat v56) T162.zero).2.1)) (br (decide ((List.getD v54 (Int.toNat v56) T162.zero).2.1 < (↑(List.length v5) : Int))) (br (decide (0 ≤ (List.getD v54 (Int.toNat v56) T162.zero).2.2.1)) (br (decide ((List.getD v54 (Int.toNat v56) T162.zero).2.2.1 < (↑(List.length v5) : Int))) (bnd (impl_kAlike k (List.getD v5 (Int.toNat (List.getD v54 (Int.toNat v56) T162.zero).2.1) T178.zero).2.2.1.2.2.1 (List.getD v5 (Int.toNat (List.getD v54 (Int.toNat v56) T162.zero).2.2.1) T178.zero).2.2.1.2.2.1) (fun y5 => br (!y5) (some (Sum.inr false)) (impl_FlatOK_l0 k v3 v5 (v7.1, ()) v54 v55 (IntKind.i64.wrap (v56 + 1))))) (none)) (none)) (none)) (none)))))))))))))) (none)) (none)) (some (Sum.inl (v3, v5, v7.1, ()))) := by kernel_rfl
theorem impl_FlatOK_l3_zero (v3 : (Ty.den T74)) (v5 : (Ty.den T172)) (v7 : (dens [T172])) (v161 : (Ty.den T25)) (v162 : (Ty.den T3)) (v163 : (Ty.den T3)) : impl_FlatOK_l3 0 v3 v5 v7 v161 v162 v163 = none := by kernel_rfl
theorem impl_FlatOK_l3_succ (k : Nat) (v3 : (Ty.den T74)) (v5 : (Ty.den T172)) (v7 : (dens [T172])) (v161 : (Ty.den T25)) (v162 : (Ty.den T3)) (v163 : (Ty.den T3)) : impl_FlatOK_l3 (k + 1) v3 v5 v7 v161 v162 v163 = br (decide (v163 < v162)) (br (decide (0 ≤ v163)) (br (decide (v163 < (↑(List.length v161) : Int))) (bnd (impl_FlatOK_1 k (List.getD v161 (Int.toNat v163) T3.zero) v7.1) (fun y1 => br (!y1) (some (Sum.inr false)) (impl_FlatOK_l3 k v3 v5 (v7.1, ()) v161 v162 (IntKind.i64.wrap (v163 + 1))))) (none)) (none)) (some (Sum.inl (v3, v5, v7.1, ()))) := by kernel_rfl
theorem impl_FlatOK_l5_zero (v3 : (Ty.den T74)) (v5 : (Ty.den T172)) (v7 : (dens [T172])) (v173 : (Ty.den T72)) (v174 : (Ty.den T3)) (v175 : (Ty.den T3)) : impl_FlatOK_l5 0 v3 v5 v7 v173 v174 v175 = none := by kernel_rfl
theorem impl_FlatOK_l5_succ (k : Nat) (v3 : (Ty.den T74)) (v5 : (Ty.den T172)) (v7 : (dens [T172])) (v173 : (Ty.den T72)) (v174 : (Ty.den T3)) (v175 : (Ty.den T3)) : impl_FlatOK_l5 (k + 1) v3 v5 v7 v173 v174 v175 = br (decide (v175 < v174)) (br (decide (0 ≤ v175)) (br (decide (v175 < (↑(List.length v173) : Int))) (br ((List.getD v173 (Int.toNat v175) T164.zero).1 == []) (bnd (impl_FlatOK_1 k (List.getD v173 (Int.toNat v175) T164.zero).2.1 v7.1) (fun y1 => br (!y1) (some (Sum.inr false)) (br (v3.2.2.2.2.1) (bnd (slices_Contains_int_int k v3.2.2.1 (List.getD v173 (Int.toNat v175) T164.zero).2.1) (fun y2 => br (!y2) (some (Sum.inr false)) (impl_FlatOK_l5 k v3 v5 (v7.1, ()) v173 v174 (IntKind.i64.wrap (v175 + 1))))) (impl_FlatOK_l5 k v3 v5 (v7.1, ()) v173 v174 (IntKind.i64.wrap (v175 + 1)))))) (br (!v3.2.2.2.2.1) (some (Sum.inr false)) (br ((List.getD v173 (Int.toNat v175) T164.zero).1 == [99, 111, 117, 110, 116]) (br ((List.getD v173 (Int.toNat v175) T164.zero).2.1 != -1) (bnd (impl_FlatOK_1 k (List.getD v173 (Int.toNat v175) T164.zero).2.1 v7.1) (fun y1 => br (!y1) (some (Sum.inr false)) (impl_FlatOK_l5 k v3 v5 (v7.1, ()) v173 v174 (IntKind.i64.wrap (v175 + 1))))) (impl_FlatOK_l5 k v3 v5 (v7.1, ()) v173 v174 (IntKind.i64.wrap (v175 + 1)))) (br ((List.getD v173 (Int.toNat v175) T164.zero).1 == [115, 117, 109]) (bnd (impl_FlatOK_1 k (List.getD v173 (Int.toNat v175) T164.zero).2.1 v7.1) (fun y1 => br (!y1) (some (Sum.inr false)) (br (decide (0 ≤ (List.getD v173 (Int.toNat v175) T164.zero).2.1)) (br (decide ((List.getD v173 (Int.toNat v175) T164.zero).2.1 < (↑(List.length v5) : Int))) (bnd (impl_kNumber k (List.getD v5 (Int.toNat (List.getD v173 (Int.toNat v175) T164.zero).2.1) T178.zero).2.2.1.2.2.1) (fun y2 => br (!y2) (some (Sum.inr false)) (impl_FlatOK_l5 k v3 v5 (v7.1, ()) v173 v174 (IntKind.i64.wrap (v175 + 1))))) (none)) (none)))) (br ((List.getD v173 (Int.toNat v175) T164.zero).1 == [109, 105, 110]) (br ((List.getD v173 (Int.toNat v175) T164.zero).1 == [109, 105, 110]) (bnd (impl_FlatOK_1 k (List.getD v173 (Int.toNat v175) T164.zero).2.1 v7.1) (fun y1 => br (!y1) (some (Sum.inr false)) (impl_FlatOK_l5 k v3 v5 (v7.1, ()) v173 v174 (IntKind.i64.wrap (v175 + 1))))) (some (Sum.inr false))) (br ((List.getD v173 (Int.toNat v175) T164.zero).1 == [109, 97, 120]) (bnd (impl_FlatOK_1 k (List.getD v173 (Int.toNat v175) T164.zero).2.1 v7.1) (fun y1 => br (!y1) (some (Sum.inr false)) (impl_FlatOK_l5 k v3 v5 (v7.1, ()) v173 v174 (IntKind.i64.wrap (v175 + 1))))) (some (Sum.inr false)))))))) (none)) (none)) (some (Sum.inl ())) := by kernel_rfl
noncomputable def c_impl_FlatOK : Con := ⟨[.val T57, .val T74], [T4], fun k x => impl_FlatOK k x.1 x.2.1⟩
theorem del_impl_FlatOK {w0 : World} (hS : Stops w0) : DelOk Try.prog w0 d_impl_FlatOK := .cons (ok_impl_kWithin hS) ent_impl_kWithin (.cons (ok_impl_ValueOK hS) ent_impl_ValueOK (.cons (ok_impl_CatalogOK hS) ent_impl_CatalogOK (.cons (ok_impl_kFlatCols hS) ent_impl_kFlatCols (.cons (ok_impl_FlatOK_1 hS) ent_impl_FlatOK_1 (.cons (ok_impl_kRel hS) ent_impl_kRel (.cons (ok_impl_kAlike hS) ent_impl_kAlike (.cons (ok_impl_kTwice_int hS) ent_impl_kTwice_int (.cons (ok_slices_Contains_int_int hS) ent_slices_Contains_int_int (.cons (ok_impl_kNumber hS) ent_impl_kNumber (.nil))))))))))
theorem ok_impl_FlatOK {w0 : World} (hS : Stops w0) : ConOk Try.prog w0 33 c_impl_FlatOK := fn_sound (A := a_impl_FlatOK) tab_ok (del_impl_FlatOK hS) (draws (del_impl_FlatOK hS)) Try.func33 (by kernel_rfl) fun _ _ => rfl
theorem ent_impl_FlatOK : Enters' Try.prog 33 := enters' Try.func33 (by kernel_rfl)
attribute [irreducible] impl_FlatOK impl_FlatOK_l0 impl_FlatOK_l3 impl_FlatOK_l5

/-! ### laws_eqStringS: function 110 -/
def a_laws_eqStringS : Ann := ⟨[(0, [.val 0 T64, .val 1 T64, .val 5 T3], ⟨[], false⟩)], []⟩
noncomputable def d_laws_eqStringS : List (Nat × Con) := []
noncomputable def laws_eqStringS (k : Nat) (a : (Ty.den T64)) (b : (Ty.den T64)) : Option (den1 [T4]) := evFn Γ d_laws_eqStringS a_laws_eqStringS Try.f110 [.val T64, .val T64] [T4] k (a, b, ())
noncomputable def laws_eqStringS_l0 (k : Nat) (v0 : (Ty.den T64)) (v1 : (Ty.den T64)) (v5 : (Ty.den T3)) : Option ((Items.den []) ⊕ (den1 [T4])) := loopR (ρ := (den1 [T4])) 0 [.val 0 T64, .val 1 T64, .val 5 T3] [] (runOf Γ d_laws_eqStringS a_laws_eqStringS Try.f110 [T4] 0) k (v0, v1, v5)
theorem laws_eqStringS_eq (k : Nat) (a : (Ty.den T64)) (b : (Ty.den T64)) : laws_eqStringS k a b = br ((↑(List.length a) : Int) != (↑(List.length b) : Int)) (some false) (bnd (laws_eqStringS_l0 k a b 0) (fun y1 => onSum y1 (fun y2 => some true) (fun y2 => some y2))) := by kernel_rfl
theorem laws_eqStringS_l0_zero (v0 : (Ty.den T64)) (v1 : (Ty.den T64)) (v5 : (Ty.den T3)) : laws_eqStringS_l0 0 v0 v1 v5 = none := by kernel_rfl
theorem laws_eqStringS_l0_succ (k : Nat) (v0 : (Ty.den T64)) (v1 : (Ty.den T64)) (v5 : (Ty.den T3)) : laws_eqStringS_l0 (k + 1) v0 v1 v5 = br (decide (v5 < (↑(List.length v0) : Int))) (br (decide (0 ≤ v5)) (br (decide (v5 < (↑(List.length v0) : Int))) (br (decide (0 ≤ v5)) (br (decide (v5 < (↑(List.length v1) : Int))) (br (!List.getD v0 (Int.toNat v5) T9.zero == List.getD v1 (Int.toNat v5) T9.zero) (some (Sum.inr false)) (laws_eqStringS_l0 k v0 v1 (IntKind.i64.wrap (v5 + 1)))) (none)) (none)) (none)) (none)) (some (Sum.inl ())) := by kernel_rfl
noncomputable def c_laws_eqStringS : Con := ⟨[.val T64, .val T64], [T4], fun k x => laws_eqStringS k x.1 x.2.1⟩
theorem del_laws_eqStringS {w0 : World} (hS : Stops w0) : DelOk Try.prog w0 d_laws_eqStringS := .nil
theorem ok_laws_eqStringS {w0 : World} (hS : Stops w0) : ConOk Try.prog w0 110 c_laws_eqStringS := fn_sound (A := a_laws_eqStringS) tab_ok (del_laws_eqStringS hS) (draws (del_laws_eqStringS hS)) Try.func110 (by kernel_rfl) fun _ _ => rfl
theorem ent_laws_eqStringS : Enters' Try.prog 110 := enters' Try.func110 (by kernel_rfl)
attribute [irreducible] laws_eqStringS laws_eqStringS_l0

/-! ### laws_eqValue: function 129 -/
def a_laws_eqValue : Ann := ⟨[], []⟩
noncomputable def d_laws_eqValue : List (Nat × Con) := []
noncomputable def laws_eqValue (k : Nat) (a : (Ty.den T108)) (b : (Ty.den T108)) : Option (den1 [T4]) := evFn Γ d_laws_eqValue a_laws_eqValue Try.f129 [.val T108, .val T108] [T4] k (a, b, ())
theorem laws_eqValue_eq (k : Nat) (a : (Ty.den T108)) (b : (Ty.den T108)) : laws_eqValue k a b = br (a.1 != b.1) (some false) (br (a.2.1 != b.2.1) (some false) (br (a.2.2.1 != b.2.2.1) (some false) (br (!a.2.2.2.1 == b.2.2.2.1) (some false) (some true)))) := by kernel_rfl
noncomputable def c_laws_eqValue : Con := ⟨[.val T108, .val T108], [T4], fun k x => laws_eqValue k x.1 x.2.1⟩
theorem del_laws_eqValue {w0 : World} (hS : Stops w0) : DelOk Try.prog w0 d_laws_eqValue := .nil
theorem ok_laws_eqValue {w0 : World} (hS : Stops w0) : ConOk Try.prog w0 129 c_laws_eqValue := fn_sound (A := a_laws_eqValue) tab_ok (del_laws_eqValue hS) (draws (del_laws_eqValue hS)) Try.func129 (by kernel_rfl) fun _ _ => rfl
theorem ent_laws_eqValue : Enters' Try.prog 129 := enters' Try.func129 (by kernel_rfl)
attribute [irreducible] laws_eqValue

/-! ### laws_eqPred: function 187 -/
def a_laws_eqPred : Ann := ⟨[], []⟩
noncomputable def d_laws_eqPred : List (Nat × Con) := [(129, c_laws_eqValue)]
noncomputable def laws_eqPred (k : Nat) (a : (Ty.den T162)) (b : (Ty.den T162)) : Option (den1 [T4]) := evFn Γ d_laws_eqPred a_laws_eqPred Try.f187 [.val T162, .val T162] [T4] k (a, b, ())
theorem laws_eqPred_eq (k : Nat) (a : (Ty.den T162)) (b : (Ty.den T162)) : laws_eqPred k a b = br (!a.1 == b.1) (some false) (br (a.2.1 != b.2.1) (some false) (br (a.2.2.1 != b.2.2.1) (some false) (bnd (laws_eqValue k a.2.2.2.1 b.2.2.2.1) (fun y1 => br (!y1) (some false) (some true))))) := by kernel_rfl
noncomputable def c_laws_eqPred : Con := ⟨[.val T162, .val T162], [T4], fun k x => laws_eqPred k x.1 x.2.1⟩
theorem del_laws_eqPred {w0 : World} (hS : Stops w0) : DelOk Try.prog w0 d_laws_eqPred := .cons (ok_laws_eqValue hS) ent_laws_eqValue (.nil)
theorem ok_laws_eqPred {w0 : World} (hS : Stops w0) : ConOk Try.prog w0 187 c_laws_eqPred := fn_sound (A := a_laws_eqPred) tab_ok (del_laws_eqPred hS) (draws (del_laws_eqPred hS)) Try.func187 (by kernel_rfl) fun _ _ => rfl
theorem ent_laws_eqPred : Enters' Try.prog 187 := enters' Try.func187 (by kernel_rfl)
attribute [irreducible] laws_eqPred

/-! ### laws_eqPredS: function 111 -/
def a_laws_eqPredS : Ann := ⟨[(0, [.val 0 T71, .val 1 T71, .val 5 T3], ⟨[], false⟩)], []⟩
noncomputable def d_laws_eqPredS : List (Nat × Con) := [(187, c_laws_eqPred)]
noncomputable def laws_eqPredS (k : Nat) (a : (Ty.den T71)) (b : (Ty.den T71)) : Option (den1 [T4]) := evFn Γ d_laws_eqPredS a_laws_eqPredS Try.f111 [.val T71, .val T71] [T4] k (a, b, ())
noncomputable def laws_eqPredS_l0 (k : Nat) (v0 : (Ty.den T71)) (v1 : (Ty.den T71)) (v5 : (Ty.den T3)) : Option ((Items.den []) ⊕ (den1 [T4])) := loopR (ρ := (den1 [T4])) 0 [.val 0 T71, .val 1 T71, .val 5 T3] [] (runOf Γ d_laws_eqPredS a_laws_eqPredS Try.f111 [T4] 0) k (v0, v1, v5)
theorem laws_eqPredS_eq (k : Nat) (a : (Ty.den T71)) (b : (Ty.den T71)) : laws_eqPredS k a b = br ((↑(List.length a) : Int) != (↑(List.length b) : Int)) (some false) (bnd (laws_eqPredS_l0 k a b 0) (fun y1 => onSum y1 (fun y2 => some true) (fun y2 => some y2))) := by kernel_rfl
theorem laws_eqPredS_l0_zero (v0 : (Ty.den T71)) (v1 : (Ty.den T71)) (v5 : (Ty.den T3)) : laws_eqPredS_l0 0 v0 v1 v5 = none := by kernel_rfl
theorem laws_eqPredS_l0_succ (k : Nat) (v0 : (Ty.den T71)) (v1 : (Ty.den T71)) (v5 : (Ty.den T3)) : laws_eqPredS_l0 (k + 1) v0 v1 v5 = br (decide (v5 < (↑(List.length v0) : Int))) (br (decide (0 ≤ v5)) (br (decide (v5 < (↑(List.length v0) : Int))) (br (decide (0 ≤ v5)) (br (decide (v5 < (↑(List.length v1) : Int))) (bnd (laws_eqPred k (List.getD v0 (Int.toNat v5) T162.zero) (List.getD v1 (Int.toNat v5) T162.zero)) (fun y1 => br (!y1) (some (Sum.inr false)) (laws_eqPredS_l0 k v0 v1 (IntKind.i64.wrap (v5 + 1))))) (none)) (none)) (none)) (none)) (some (Sum.inl ())) := by kernel_rfl
noncomputable def c_laws_eqPredS : Con := ⟨[.val T71, .val T71], [T4], fun k x => laws_eqPredS k x.1 x.2.1⟩
theorem del_laws_eqPredS {w0 : World} (hS : Stops w0) : DelOk Try.prog w0 d_laws_eqPredS := .cons (ok_laws_eqPred hS) ent_laws_eqPred (.nil)
theorem ok_laws_eqPredS {w0 : World} (hS : Stops w0) : ConOk Try.prog w0 111 c_laws_eqPredS := fn_sound (A := a_laws_eqPredS) tab_ok (del_laws_eqPredS hS) (draws (del_laws_eqPredS hS)) Try.func111 (by kernel_rfl) fun _ _ => rfl
theorem ent_laws_eqPredS : Enters' Try.prog 111 := enters' Try.func111 (by kernel_rfl)
attribute [irreducible] laws_eqPredS laws_eqPredS_l0

/-! ### laws_eqOut: function 188 -/
def a_laws_eqOut : Ann := ⟨[], []⟩
noncomputable def d_laws_eqOut : List (Nat × Con) := []
noncomputable def laws_eqOut (k : Nat) (a : (Ty.den T164)) (b : (Ty.den T164)) : Option (den1 [T4]) := evFn Γ d_laws_eqOut a_laws_eqOut Try.f188 [.val T164, .val T164] [T4] k (a, b, ())
theorem laws_eqOut_eq (k : Nat) (a : (Ty.den T164)) (b : (Ty.den T164)) : laws_eqOut k a b = br (!a.1 == b.1) (some false) (br (a.2.1 != b.2.1) (some false) (some true)) := by kernel_rfl
noncomputable def c_laws_eqOut : Con := ⟨[.val T164, .val T164], [T4], fun k x => laws_eqOut k x.1 x.2.1⟩
theorem del_laws_eqOut {w0 : World} (hS : Stops w0) : DelOk Try.prog w0 d_laws_eqOut := .nil
theorem ok_laws_eqOut {w0 : World} (hS : Stops w0) : ConOk Try.prog w0 188 c_laws_eqOut := fn_sound (A := a_laws_eqOut) tab_ok (del_laws_eqOut hS) (draws (del_laws_eqOut hS)) Try.func188 (by kernel_rfl) fun _ _ => rfl
theorem ent_laws_eqOut : Enters' Try.prog 188 := enters' Try.func188 (by kernel_rfl)
attribute [irreducible] laws_eqOut

/-! ### laws_eqOutS: function 112 -/
def a_laws_eqOutS : Ann := ⟨[(0, [.val 0 T72, .val 1 T72, .val 5 T3], ⟨[], false⟩)], []⟩
noncomputable def d_laws_eqOutS : List (Nat × Con) := [(188, c_laws_eqOut)]
noncomputable def laws_eqOutS (k : Nat) (a : (Ty.den T72)) (b : (Ty.den T72)) : Option (den1 [T4]) := evFn Γ d_laws_eqOutS a_laws_eqOutS Try.f112 [.val T72, .val T72] [T4] k (a, b, ())
noncomputable def laws_eqOutS_l0 (k : Nat) (v0 : (Ty.den T72)) (v1 : (Ty.den T72)) (v5 : (Ty.den T3)) : Option ((Items.den []) ⊕ (den1 [T4])) := loopR (ρ := (den1 [T4])) 0 [.val 0 T72, .val 1 T72, .val 5 T3] [] (runOf Γ d_laws_eqOutS a_laws_eqOutS Try.f112 [T4] 0) k (v0, v1, v5)
theorem laws_eqOutS_eq (k : Nat) (a : (Ty.den T72)) (b : (Ty.den T72)) : laws_eqOutS k a b = br ((↑(List.length a) : Int) != (↑(List.length b) : Int)) (some false) (bnd (laws_eqOutS_l0 k a b 0) (fun y1 => onSum y1 (fun y2 => some true) (fun y2 => some y2))) := by kernel_rfl
theorem laws_eqOutS_l0_zero (v0 : (Ty.den T72)) (v1 : (Ty.den T72)) (v5 : (Ty.den T3)) : laws_eqOutS_l0 0 v0 v1 v5 = none := by kernel_rfl
theorem laws_eqOutS_l0_succ (k : Nat) (v0 : (Ty.den T72)) (v1 : (Ty.den T72)) (v5 : (Ty.den T3)) : laws_eqOutS_l0 (k + 1) v0 v1 v5 = br (decide (v5 < (↑(List.length v0) : Int))) (br (decide (0 ≤ v5)) (br (decide (v5 < (↑(List.length v0) : Int))) (br (decide (0 ≤ v5)) (br (decide (v5 < (↑(List.length v1) : Int))) (bnd (laws_eqOut k (List.getD v0 (Int.toNat v5) T164.zero) (List.getD v1 (Int.toNat v5) T164.zero)) (fun y1 => br (!y1) (some (Sum.inr false)) (laws_eqOutS_l0 k v0 v1 (IntKind.i64.wrap (v5 + 1))))) (none)) (none)) (none)) (none)) (some (Sum.inl ())) := by kernel_rfl
noncomputable def c_laws_eqOutS : Con := ⟨[.val T72, .val T72], [T4], fun k x => laws_eqOutS k x.1 x.2.1⟩
theorem del_laws_eqOutS {w0 : World} (hS : Stops w0) : DelOk Try.prog w0 d_laws_eqOutS := .cons (ok_laws_eqOut hS) ent_laws_eqOut (.nil)
theorem ok_laws_eqOutS {w0 : World} (hS : Stops w0) : ConOk Try.prog w0 112 c_laws_eqOutS := fn_sound (A := a_laws_eqOutS) tab_ok (del_laws_eqOutS hS) (draws (del_laws_eqOutS hS)) Try.func112 (by kernel_rfl) fun _ _ => rfl
theorem ent_laws_eqOutS : Enters' Try.prog 112 := enters' Try.func112 (by kernel_rfl)
attribute [irreducible] laws_eqOutS laws_eqOutS_l0

/-! ### laws_eqFlat: function 34 -/
def a_laws_eqFlat : Ann := ⟨[], []⟩
noncomputable def d_laws_eqFlat : List (Nat × Con) := [(58, c_laws_eqIntS), (110, c_laws_eqStringS), (111, c_laws_eqPredS), (112, c_laws_eqOutS)]
noncomputable def laws_eqFlat (k : Nat) (a : (Ty.den T74)) (b : (Ty.den T74)) : Option (den1 [T4]) := evFn Γ d_laws_eqFlat a_laws_eqFlat Try.f34 [.val T74, .val T74] [T4] k (a, b, ())
theorem laws_eqFlat_eq (k : Nat) (a : (Ty.den T74)) (b : (Ty.den T74)) : laws_eqFlat k a b = bnd (laws_eqStringS k a.1 b.1) (fun y1 => br (!y1) (some false) (bnd (laws_eqPredS k a.2.1 b.2.1) (fun y2 => br (!y2) (some false) (bnd (laws_eqIntS k a.2.2.1 b.2.2.1) (fun y3 => br (!y3) (some false) (bnd (laws_eqOutS k a.2.2.2.1 b.2.2.2.1) (fun y4 => br (!y4) (some false) (br (!a.2.2.2.2.1 == b.2.2.2.2.1) (some false) (some true))))))))) := by kernel_rfl
noncomputable def c_laws_eqFlat : Con := ⟨[.val T74, .val T74], [T4], fun k x => laws_eqFlat k x.1 x.2.1⟩
theorem del_laws_eqFlat {w0 : World} (hS : Stops w0) : DelOk Try.prog w0 d_laws_eqFlat := .cons (ok_laws_eqIntS hS) ent_laws_eqIntS (.cons (ok_laws_eqStringS hS) ent_laws_eqStringS (.cons (ok_laws_eqPredS hS) ent_laws_eqPredS (.cons (ok_laws_eqOutS hS) ent_laws_eqOutS (.nil))))
theorem ok_laws_eqFlat {w0 : World} (hS : Stops w0) : ConOk Try.prog w0 34 c_laws_eqFlat := fn_sound (A := a_laws_eqFlat) tab_ok (del_laws_eqFlat hS) (draws (del_laws_eqFlat hS)) Try.func34 (by kernel_rfl) fun _ _ => rfl
theorem ent_laws_eqFlat : Enters' Try.prog 34 := enters' Try.func34 (by kernel_rfl)
attribute [irreducible] laws_eqFlat

/-! ### laws_FnExactFlatOK: function 6 -/
def a_laws_FnExactFlatOK : Ann := ⟨[], []⟩
noncomputable def d_laws_FnExactFlatOK : List (Nat × Con) := [(23, c_laws_szTableS), (25, c_laws_toTableS), (27, c_laws_eqTableS), (30, c_laws_szFlat), (31, c_spec_FlatOK), (32, c_laws_toFlat), (33, c_impl_FlatOK), (34, c_laws_eqFlat)]
noncomputable def laws_FnExactFlatOK (k : Nat) (a : (Ty.den T55)) (b : (Ty.den T68)) : Option (den1 [T4]) := evFn Γ d_laws_FnExactFlatOK a_laws_FnExactFlatOK Try.f6 [.val T55, .val T68] [T4] k (a, b, ())
theorem laws_FnExactFlatOK_eq (k : Nat) (a : (Ty.den T55)) (b : (Ty.den T68)) : laws_FnExactFlatOK k a b = bnd (laws_szTableS k a 1048576) (fun y1 => br (decide (y1 < 0)) (some true) (bnd (laws_szFlat k b y1) (fun y2 => br (decide (y2 < 0)) (some true) (bnd (laws_toTableS k a) (fun y3 => bnd (laws_toFlat k b) (fun y4 => bnd (spec_FlatOK k y3 y4) (fun y5 => bnd (laws_toTableS k a) (fun y6 => bnd (laws_toFlat k b) (fun y7 => bnd (impl_FlatOK k y6 y7) (fun y8 => br (!y8 == y5) (some false) (bnd (laws_toTableS k a) (fun y9 => bnd (laws_eqTableS k y6 y9) (fun y10 => br (!y10) (some false) (bnd (laws_toFlat k b) (fun y11 => bnd (laws_eqFlat k y7 y11) (fun y12 => br (!y12) (some false) (some true))))))))))))))))) := by kernel_rfl
noncomputable def c_laws_FnExactFlatOK : Con := ⟨[.val T55, .val T68], [T4], fun k x => laws_FnExactFlatOK k x.1 x.2.1⟩
theorem del_laws_FnExactFlatOK {w0 : World} (hS : Stops w0) : DelOk Try.prog w0 d_laws_FnExactFlatOK := .cons (ok_laws_szTableS hS) ent_laws_szTableS (.cons (ok_laws_toTableS hS) ent_laws_toTableS (.cons (ok_laws_eqTableS hS) ent_laws_eqTableS (.cons (ok_laws_szFlat hS) ent_laws_szFlat (.cons (ok_spec_FlatOK hS) ent_spec_FlatOK (.cons (ok_laws_toFlat hS) ent_laws_toFlat (.cons (ok_impl_FlatOK hS) ent_impl_FlatOK (.cons (ok_laws_eqFlat hS) ent_laws_eqFlat (.nil))))))))
theorem ok_laws_FnExactFlatOK {w0 : World} (hS : Stops w0) : ConOk Try.prog w0 6 c_laws_FnExactFlatOK := fn_sound (A := a_laws_FnExactFlatOK) tab_ok (del_laws_FnExactFlatOK hS) (draws (del_laws_FnExactFlatOK hS)) Try.func6 (by kernel_rfl) fun _ _ => rfl
theorem ent_laws_FnExactFlatOK : Enters' Try.prog 6 := enters' Try.func6 (by kernel_rfl)
attribute [irreducible] laws_FnExactFlatOK

end Go.Ev.T1
