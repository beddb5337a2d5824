import Derived.Test.YtfdmjgmipnohkaaAnTab6
import Derived.Test.YtfdmjgmipnohkaaAnEvG
import Derived.Lib.IndexMore
import Derived.Lib.Bytealg
set_option linter.unusedVariables false
namespace Go.Ev.T1
open Go.Proofs Go
set_option maxRecDepth 100000
def strings_Compare (k : Nat) (a : List UInt8) (b : List UInt8) : Option (Int) := some (Go.Lib.compareBytes a b)
noncomputable def c_strings_Compare : Con := ⟨[.val T9, .val T9], [T3], fun k x => strings_Compare k x.1 x.2.1⟩
noncomputable def c_sort_SliceStable : Con := ⟨[.srt [24]], [], fun _ _ => none⟩
structure Stops (w0 : World) : Prop where
  sort_SliceStable : Keeps Try.prog w0 31 c_sort_SliceStable ∧ Enters' Try.prog 31 ∧ SrtCon Try.prog 31 c_sort_SliceStable
  strings_Compare : Keeps Try.prog w0 71 c_strings_Compare ∧ Enters' Try.prog 71
theorem tab_ok : TabOk Try.prog Γ := tab_of (by kernel_rfl)
theorem tab_oko : TabOk Try.prog Γo := tab_of (by kernel_rfl)
theorem drawso {w0 : World} {Δ : List (Nat × Con)} (h : DelOk Try.prog w0 Δ) {w : World} (hb : Go.RowKit.Below w0.heap.size w0 w) : DrawSound Try.prog w Γo Δ := draws_of tab_oko h (by kernel_rfl) hb
theorem draws {w0 : World} {Δ : List (Nat × Con)} (h : DelOk Try.prog w0 Δ) {w : World} (hb : Go.RowKit.Below w0.heap.size w0 w) : DrawSound Try.prog w Γ Δ := draws_of tab_ok h (by kernel_rfl) hb

/-! ### laws_szValue: function 104 -/
def a_laws_szValue : Ann := ⟨[], []⟩
noncomputable def d_laws_szValue : List (Nat × Con) := []
noncomputable def laws_szValue (k : Nat) (a : (Ty.den T159)) (b : (Ty.den T3)) : Option (den1 [T3]) := evFn Γ d_laws_szValue a_laws_szValue Try.f104 [.val T159, .val T3] [T3] k (a, b, ())
theorem laws_szValue_eq (k : Nat) (a : (Ty.den T159)) (b : (Ty.den T3)) : laws_szValue k a b = br (decide (IntKind.i64.wrap (b - (↑(List.length a.2.2.2.1) : Int)) < 0)) (some (-1)) (some (IntKind.i64.wrap (b - (↑(List.length a.2.2.2.1) : Int)))) := by kernel_rfl
noncomputable def c_laws_szValue : Con := ⟨[.val T159, .val T3], [T3], fun k x => laws_szValue k x.1 x.2.1⟩
theorem del_laws_szValue {w0 : World} (hS : Stops w0) : DelOk Try.prog w0 d_laws_szValue := .nil
theorem ok_laws_szValue {w0 : World} (hS : Stops w0) : Keeps Try.prog w0 104 c_laws_szValue := .con (fn_sound (A := a_laws_szValue) tab_ok (del_laws_szValue hS) (draws (del_laws_szValue hS)) Try.func104 (by kernel_rfl) (fun k x => by kernel_rfl) (by kernel_rfl)) (by kernel_rfl)
theorem ent_laws_szValue : Enters' Try.prog 104 := enters' Try.func104 (by kernel_rfl)
attribute [irreducible] laws_szValue

/-! ### laws_szValueS: function 56 -/
def a_laws_szValueS : Ann := ⟨[(0, [.val 0 T50, .val 1 T3, .val 5 T3], ⟨[.val 1 T3], false⟩)], []⟩
noncomputable def d_laws_szValueS : List (Nat × Con) := [(104, c_laws_szValue)]
noncomputable def laws_szValueS (k : Nat) (a : (Ty.den T50)) (b : (Ty.den T3)) : Option (den1 [T3]) := evFn Γ d_laws_szValueS a_laws_szValueS Try.f56 [.val T50, .val T3] [T3] k (a, b, ())
noncomputable def laws_szValueS_l0 (k : Nat) (v0 : (Ty.den T50)) (v1 : (Ty.den T3)) (v5 : (Ty.den T3)) : Option ((Items.den [.val 1 T3]) ⊕ (den1 [T3])) := loopR (ρ := (den1 [T3])) 0 [.val 0 T50, .val 1 T3, .val 5 T3] [.val 1 T3] (runOf Γ d_laws_szValueS a_laws_szValueS Try.f56 [.val T50, .val T3] [T3] 0) k (v0, v1, v5)
theorem laws_szValueS_eq (k : Nat) (a : (Ty.den T50)) (b : (Ty.den T3)) : laws_szValueS k a b = br (decide (IntKind.i64.wrap (b - (↑(List.length a) : Int)) < 0)) (some (-1)) (bnd (laws_szValueS_l0 k a (IntKind.i64.wrap (b - (↑(List.length a) : Int))) 0) (fun y1 => onSum y1 (fun y2 => some y2) (fun y2 => some y2))) := by kernel_rfl
theorem laws_szValueS_l0_zero (v0 : (Ty.den T50)) (v1 : (Ty.den T3)) (v5 : (Ty.den T3)) : laws_szValueS_l0 0 v0 v1 v5 = none := by kernel_rfl
theorem laws_szValueS_l0_succ (k : Nat) (v0 : (Ty.den T50)) (v1 : (Ty.den T3)) (v5 : (Ty.den T3)) : laws_szValueS_l0 (k + 1) v0 v1 v5 = br (decide (v5 < (↑(List.length v0) : Int))) (br (decide (0 ≤ v5)) (br (decide (v5 < (↑(List.length v0) : Int))) (bnd (laws_szValue k (List.getD v0 (Int.toNat v5) T159.zero) v1) (fun y1 => br (decide (y1 < 0)) (some (Sum.inr (-1))) (laws_szValueS_l0 k v0 y1 (IntKind.i64.wrap (v5 + 1))))) (none)) (none)) (some (Sum.inl v1)) := by kernel_rfl
noncomputable def c_laws_szValueS : Con := ⟨[.val T50, .val T3], [T3], fun k x => laws_szValueS k x.1 x.2.1⟩
theorem del_laws_szValueS {w0 : World} (hS : Stops w0) : DelOk Try.prog w0 d_laws_szValueS := .cons (ok_laws_szValue hS) ent_laws_szValue (.nil)
theorem ok_laws_szValueS {w0 : World} (hS : Stops w0) : Keeps Try.prog w0 56 c_laws_szValueS := .con (fn_sound (A := a_laws_szValueS) tab_ok (del_laws_szValueS hS) (draws (del_laws_szValueS hS)) Try.func56 (by kernel_rfl) (fun k x => by kernel_rfl) (by kernel_rfl)) (by kernel_rfl)
theorem ent_laws_szValueS : Enters' Try.prog 56 := enters' Try.func56 (by kernel_rfl)
attribute [irreducible] laws_szValueS laws_szValueS_l0

/-! ### laws_szRow: function 23 -/
def a_laws_szRow : Ann := ⟨[], []⟩
noncomputable def d_laws_szRow : List (Nat × Con) := [(56, c_laws_szValueS)]
noncomputable def laws_szRow (k : Nat) (a : (Ty.den T52)) (b : (Ty.den T3)) : Option (den1 [T3]) := evFn Γ d_laws_szRow a_laws_szRow Try.f23 [.val T52, .val T3] [T3] k (a, b, ())
theorem laws_szRow_eq (k : Nat) (a : (Ty.den T52)) (b : (Ty.den T3)) : laws_szRow k a b = bnd (laws_szValueS k a.1 b) (fun y1 => br (decide (y1 < 0)) (some (-1)) (some y1)) := by kernel_rfl
noncomputable def c_laws_szRow : Con := ⟨[.val T52, .val T3], [T3], fun k x => laws_szRow k x.1 x.2.1⟩
theorem del_laws_szRow {w0 : World} (hS : Stops w0) : DelOk Try.prog w0 d_laws_szRow := .cons (ok_laws_szValueS hS) ent_laws_szValueS (.nil)
theorem ok_laws_szRow {w0 : World} (hS : Stops w0) : Keeps Try.prog w0 23 c_laws_szRow := .con (fn_sound (A := a_laws_szRow) tab_ok (del_laws_szRow hS) (draws (del_laws_szRow hS)) Try.func23 (by kernel_rfl) (fun k x => by kernel_rfl) (by kernel_rfl)) (by kernel_rfl)
theorem ent_laws_szRow : Enters' Try.prog 23 := enters' Try.func23 (by kernel_rfl)
attribute [irreducible] laws_szRow

/-! ### laws_szRowS: function 5 -/
def a_laws_szRowS : Ann := ⟨[(0, [.val 0 T22, .val 1 T3, .val 5 T3], ⟨[.val 1 T3], false⟩)], []⟩
noncomputable def d_laws_szRowS : List (Nat × Con) := [(23, c_laws_szRow)]
noncomputable def laws_szRowS (k : Nat) (a : (Ty.den T22)) (b : (Ty.den T3)) : Option (den1 [T3]) := evFn Γ d_laws_szRowS a_laws_szRowS Try.f5 [.val T22, .val T3] [T3] k (a, b, ())
noncomputable def laws_szRowS_l0 (k : Nat) (v0 : (Ty.den T22)) (v1 : (Ty.den T3)) (v5 : (Ty.den T3)) : Option ((Items.den [.val 1 T3]) ⊕ (den1 [T3])) := loopR (ρ := (den1 [T3])) 0 [.val 0 T22, .val 1 T3, .val 5 T3] [.val 1 T3] (runOf Γ d_laws_szRowS a_laws_szRowS Try.f5 [.val T22, .val T3] [T3] 0) k (v0, v1, v5)
theorem laws_szRowS_eq (k : Nat) (a : (Ty.den T22)) (b : (Ty.den T3)) : laws_szRowS k a b = br (decide (IntKind.i64.wrap (b - (↑(List.length a) : Int)) < 0)) (some (-1)) (bnd (laws_szRowS_l0 k a (IntKind.i64.wrap (b - (↑(List.length a) : Int))) 0) (fun y1 => onSum y1 (fun y2 => some y2) (fun y2 => some y2))) := by kernel_rfl
theorem laws_szRowS_l0_zero (v0 : (Ty.den T22)) (v1 : (Ty.den T3)) (v5 : (Ty.den T3)) : laws_szRowS_l0 0 v0 v1 v5 = none := by kernel_rfl
theorem laws_szRowS_l0_succ (k : Nat) (v0 : (Ty.den T22)) (v1 : (Ty.den T3)) (v5 : (Ty.den T3)) : laws_szRowS_l0 (k + 1) v0 v1 v5 = br (decide (v5 < (↑(List.length v0) : Int))) (br (decide (0 ≤ v5)) (br (decide (v5 < (↑(List.length v0) : Int))) (bnd (laws_szRow k ((List.getD v0 (Int.toNat v5) T52.zero).1, ()) v1) (fun y1 => br (decide (y1 < 0)) (some (Sum.inr (-1))) (laws_szRowS_l0 k v0 y1 (IntKind.i64.wrap (v5 + 1))))) (none)) (none)) (some (Sum.inl v1)) := by kernel_rfl
noncomputable def c_laws_szRowS : Con := ⟨[.val T22, .val T3], [T3], fun k x => laws_szRowS k x.1 x.2.1⟩
theorem del_laws_szRowS {w0 : World} (hS : Stops w0) : DelOk Try.prog w0 d_laws_szRowS := .cons (ok_laws_szRow hS) ent_laws_szRow (.nil)
theorem ok_laws_szRowS {w0 : World} (hS : Stops w0) : Keeps Try.prog w0 5 c_laws_szRowS := .con (fn_sound (A := a_laws_szRowS) tab_ok (del_laws_szRowS hS) (draws (del_laws_szRowS hS)) Try.func5 (by kernel_rfl) (fun k x => by kernel_rfl) (by kernel_rfl)) (by kernel_rfl)
theorem ent_laws_szRowS : Enters' Try.prog 5 := enters' Try.func5 (by kernel_rfl)
attribute [irreducible] laws_szRowS laws_szRowS_l0

/-! ### spec_l01Printable: function 57 -/
def a_spec_l01Printable : Ann := ⟨[(0, [.val 0 T9, .val 3 T3], ⟨[], false⟩)], []⟩
noncomputable def d_spec_l01Printable : List (Nat × Con) := []
noncomputable def spec_l01Printable (k : Nat) (a : (Ty.den T9)) : Option (den1 [T4]) := evFn Γ d_spec_l01Printable a_spec_l01Printable Try.f57 [.val T9] [T4] k (a, ())
noncomputable def spec_l01Printable_l0 (k : Nat) (v0 : (Ty.den T9)) (v3 : (Ty.den T3)) : Option ((Items.den []) ⊕ (den1 [T4])) := loopR (ρ := (den1 [T4])) 0 [.val 0 T9, .val 3 T3] [] (runOf Γ d_spec_l01Printable a_spec_l01Printable Try.f57 [.val T9] [T4] 0) k (v0, v3)
theorem spec_l01Printable_eq (k : Nat) (a : (Ty.den T9)) : spec_l01Printable k a = bnd (spec_l01Printable_l0 k a 0) (fun y1 => onSum y1 (fun y2 => some true) (fun y2 => some y2)) := by kernel_rfl
theorem spec_l01Printable_l0_zero (v0 : (Ty.den T9)) (v3 : (Ty.den T3)) : spec_l01Printable_l0 0 v0 v3 = none := by kernel_rfl
theorem spec_l01Printable_l0_succ (k : Nat) (v0 : (Ty.den T9)) (v3 : (Ty.den T3)) : spec_l01Printable_l0 (k + 1) v0 v3 = br (decide (v3 < (↑(List.length v0) : Int))) (br (decide (0 ≤ v3)) (br (decide (v3 < (↑(List.length v0) : Int))) (br (decide ((↑(List.getD v0 (Int.toNat v3) 0).toNat : Int) < 32)) (some (Sum.inr false)) (br (decide (0 ≤ v3)) (br (decide (v3 < (↑(List.length v0) : Int))) (br (decide ((↑(List.getD v0 (Int.toNat v3) 0).toNat : Int) > 126)) (some (Sum.inr false)) (spec_l01Printable_l0 k v0 (IntKind.i64.wrap (v3 + 1)))) (none)) (none))) (none)) (none)) (some (Sum.inl ())) := by kernel_rfl
noncomputable def c_spec_l01Printable : Con := ⟨[.val T9], [T4], fun k x => spec_l01Printable k x.1⟩
theorem del_spec_l01Printable {w0 : World} (hS : Stops w0) : DelOk Try.prog w0 d_spec_l01Printable := .nil
theorem ok_spec_l01Printable {w0 : World} (hS : Stops w0) : Keeps Try.prog w0 57 c_spec_l01Printable := .con (fn_sound (A := a_spec_l01Printable) tab_ok (del_spec_l01Printable hS) (draws (del_spec_l01Printable hS)) Try.func57 (by kernel_rfl) (fun k x => by kernel_rfl) (by kernel_rfl)) (by kernel_rfl)
theorem ent_spec_l01Printable : Enters' Try.prog 57 := enters' Try.func57 (by kernel_rfl)
attribute [irreducible] spec_l01Printable spec_l01Printable_l0

/-! ### spec_ValueOK: function 24 -/
def a_spec_ValueOK : Ann := ⟨[], [(3, ⟨[.var 1 T57], false⟩)]⟩
noncomputable def d_spec_ValueOK : List (Nat × Con) := [(57, c_spec_l01Printable)]
noncomputable def spec_ValueOK (k : Nat) (a : (Ty.den T57)) : Option (den1 [T4]) := evFn Γ d_spec_ValueOK a_spec_ValueOK Try.f24 [.val T57] [T4] k (a, ())
theorem spec_ValueOK_eq (k : Nat) (a : (Ty.den T57)) : spec_ValueOK k a = bnd (br (a.1 != 4) (br (decide ((↑(List.length a.2.2.2.1) : Int) > 0)) (some (Sum.inr false)) (br (a.1 != 3) (br (a.2.2.1 != 0) (some (Sum.inr false)) (some (Sum.inl a))) (some (Sum.inl a)))) (br (a.1 != 3) (br (a.2.2.1 != 0) (some (Sum.inr false)) (some (Sum.inl a))) (some (Sum.inl a)))) (fun y1 => onSum y1 (fun y2 => br (y2.1 == 0) (some (y2.2.1 == 0)) (br (y2.1 == 1) (br (y2.2.1 == 0) (some true) (some (y2.2.1 == 1))) (br (y2.1 == 2) (br (decide (y2.2.1 ≥ -1000000000000000)) (some (decide (y2.2.1 ≤ 1000000000000000))) (some false)) (br (y2.1 == 3) (br (decide (y2.2.1 ≥ -1000000000)) (br (decide (y2.2.1 ≤ 1000000000)) (br (decide (y2.2.2.1 ≥ 0)) (br (decide (y2.2.2.1 ≤ 6)) (br (y2.2.2.1 == 0) (some true) (br (!10 == 0) (some (Int.tmod y2.2.1 10 != 0)) (none))) (some false)) (some false)) (some false)) (some false)) (br (y2.1 == 5) (br (decide (y2.2.1 ≥ 0)) (some (decide (y2.2.1 ≤ 3652058))) (some false)) (br (y2.1 == 4) (br (y2.2.1 == 0) (bnd (spec_l01Printable k y2.2.2.2.1) (fun y3 => br (y3) (some (decide ((↑(List.length y2.2.2.2.1) : Int) ≤ 200))) (some false))) (some false)) (some false))))))) (fun y2 => some y2)) := by kernel_rfl
noncomputable def c_spec_ValueOK : Con := ⟨[.val T57], [T4], fun k x => spec_ValueOK k x.1⟩
theorem del_spec_ValueOK {w0 : World} (hS : Stops w0) : DelOk Try.prog w0 d_spec_ValueOK := .cons (ok_spec_l01Printable hS) ent_spec_l01Printable (.nil)
theorem ok_spec_ValueOK {w0 : World} (hS : Stops w0) : Keeps Try.prog w0 24 c_spec_ValueOK := .con (fn_sound (A := a_spec_ValueOK) tab_ok (del_spec_ValueOK hS) (draws (del_spec_ValueOK hS)) Try.func24 (by kernel_rfl) (fun k x => by kernel_rfl) (by kernel_rfl)) (by kernel_rfl)
theorem ent_spec_ValueOK : Enters' Try.prog 24 := enters' Try.func24 (by kernel_rfl)
attribute [irreducible] spec_ValueOK

/-! ### spec_l01Number: function 63 -/
def a_spec_l01Number : Ann := ⟨[], []⟩
noncomputable def d_spec_l01Number : List (Nat × Con) := []
noncomputable def spec_l01Number (k : Nat) (a : (Ty.den T57)) : Option (den1 [T4]) := evFn Γ d_spec_l01Number a_spec_l01Number Try.f63 [.val T57] [T4] k (a, ())
theorem spec_l01Number_eq (k : Nat) (a : (Ty.den T57)) : spec_l01Number k a = br (a.1 == 2) (some true) (some (a.1 == 3)) := by kernel_rfl
noncomputable def c_spec_l01Number : Con := ⟨[.val T57], [T4], fun k x => spec_l01Number k x.1⟩
theorem del_spec_l01Number {w0 : World} (hS : Stops w0) : DelOk Try.prog w0 d_spec_l01Number := .nil
theorem ok_spec_l01Number {w0 : World} (hS : Stops w0) : Keeps Try.prog w0 63 c_spec_l01Number := .con (fn_sound (A := a_spec_l01Number) tab_ok (del_spec_l01Number hS) (draws (del_spec_l01Number hS)) Try.func63 (by kernel_rfl) (fun k x => by kernel_rfl) (by kernel_rfl)) (by kernel_rfl)
theorem ent_spec_l01Number : Enters' Try.prog 63 := enters' Try.func63 (by kernel_rfl)
attribute [irreducible] spec_l01Number

/-! ### spec_l01Like: function 58 -/
def a_spec_l01Like : Ann := ⟨[], []⟩
noncomputable def d_spec_l01Like : List (Nat × Con) := [(63, c_spec_l01Number)]
noncomputable def spec_l01Like (k : Nat) (a : (Ty.den T57)) (b : (Ty.den T57)) : Option (den1 [T4]) := evFn Γ d_spec_l01Like a_spec_l01Like Try.f58 [.val T57, .val T57] [T4] k (a, b, ())
theorem spec_l01Like_eq (k : Nat) (a : (Ty.den T57)) (b : (Ty.den T57)) : spec_l01Like k a b = br (a.1 == 0) (some true) (br (b.1 == 0) (some true) (br (a.1 == b.1) (some true) (bnd (spec_l01Number k a) (fun y1 => br (y1) (bnd (spec_l01Number k b) (fun y2 => some y2)) (some false))))) := by kernel_rfl
noncomputable def c_spec_l01Like : Con := ⟨[.val T57, .val T57], [T4], fun k x => spec_l01Like k x.1 x.2.1⟩
theorem del_spec_l01Like {w0 : World} (hS : Stops w0) : DelOk Try.prog w0 d_spec_l01Like := .cons (ok_spec_l01Number hS) ent_spec_l01Number (.nil)
theorem ok_spec_l01Like {w0 : World} (hS : Stops w0) : Keeps Try.prog w0 58 c_spec_l01Like := .con (fn_sound (A := a_spec_l01Like) tab_ok (del_spec_l01Like hS) (draws (del_spec_l01Like hS)) Try.func58 (by kernel_rfl) (fun k x => by kernel_rfl) (by kernel_rfl)) (by kernel_rfl)
theorem ent_spec_l01Like : Enters' Try.prog 58 := enters' Try.func58 (by kernel_rfl)
attribute [irreducible] spec_l01Like

/-! ### spec_l10Alike: function 25 -/
def a_spec_l10Alike : Ann := ⟨[(0, [.val 0 T24, .val 3 T3], ⟨[], false⟩), (2, [.val 0 T24, .val 3 T3, .val 4 T3], ⟨[.val 0 T24, .val 3 T3], false⟩)], []⟩
noncomputable def d_spec_l10Alike : List (Nat × Con) := [(58, c_spec_l01Like)]
noncomputable def spec_l10Alike (k : Nat) (a : (Ty.den T24)) : Option (den1 [T4]) := evFn Γ d_spec_l10Alike a_spec_l10Alike Try.f25 [.val T24] [T4] k (a, ())
noncomputable def spec_l10Alike_l0 (k : Nat) (v0 : (Ty.den T24)) (v3 : (Ty.den T3)) : Option ((Items.den []) ⊕ (den1 [T4])) := loopR (ρ := (den1 [T4])) 0 [.val 0 T24, .val 3 T3] [] (runOf Γ d_spec_l10Alike a_spec_l10Alike Try.f25 [.val T24] [T4] 0) k (v0, v3)
noncomputable def spec_l10Alike_l2 (k : Nat) (v0 : (Ty.den T24)) (v3 : (Ty.den T3)) (v4 : (Ty.den T3)) : Option ((Items.den [.val 0 T24, .val 3 T3]) ⊕ (den1 [T4])) := loopR (ρ := (den1 [T4])) 2 [.val 0 T24, .val 3 T3, .val 4 T3] [.val 0 T24, .val 3 T3] (runOf Γ d_spec_l10Alike a_spec_l10Alike Try.f25 [.val T24] [T4] 2) k (v0, v3, v4)
theorem spec_l10Alike_eq (k : Nat) (a : (Ty.den T24)) : spec_l10Alike k a = bnd (spec_l10Alike_l0 k a 0) (fun y1 => onSum y1 (fun y2 => some true) (fun y2 => some y2)) := by kernel_rfl
theorem spec_l10Alike_l0_zero (v0 : (Ty.den T24)) (v3 : (Ty.den T3)) : spec_l10Alike_l0 0 v0 v3 = none := by kernel_rfl
theorem spec_l10Alike_l0_succ (k : Nat) (v0 : (Ty.den T24)) (v3 : (Ty.den T3)) : spec_l10Alike_l0 (k + 1) v0 v3 = br (decide (v3 < (↑(List.length v0) : Int))) (bnd (spec_l10Alike_l2 k v0 v3 0) (fun y1 => onSum y1 (fun y2 => spec_l10Alike_l0 k y2.1 (IntKind.i64.wrap (y2.2 + 1))) (fun y2 => some (Sum.inr y2)))) (some (Sum.inl ())) := by kernel_rfl
theorem spec_l10Alike_l2_zero (v0 : (Ty.den T24)) (v3 : (Ty.den T3)) (v4 : (Ty.den T3)) : spec_l10Alike_l2 0 v0 v3 v4 = none := by kernel_rfl
theorem spec_l10Alike_l2_succ (k : Nat) (v0 : (Ty.den T24)) (v3 : (Ty.den T3)) (v4 : (Ty.den T3)) : spec_l10Alike_l2 (k + 1) v0 v3 v4 = br (decide (v4 < v3)) (br (decide (0 ≤ v3)) (br (decide (v3 < (↑(List.length v0) : Int))) (br (decide (0 ≤ v4)) (br (decide (v4 < (↑(List.length v0) : Int))) (bnd (spec_l01Like k (List.getD v0 (Int.toNat v3) T57.zero) (List.getD v0 (Int.toNat v4) T57.zero)) (fun y1 => br (!y1) (some (Sum.inr false)) (spec_l10Alike_l2 k v0 v3 (IntKind.i64.wrap (v4 + 1))))) (none)) (none)) (none)) (none)) (some (Sum.inl (v0, v3))) := by kernel_rfl
noncomputable def c_spec_l10Alike : Con := ⟨[.val T24], [T4], fun k x => spec_l10Alike k x.1⟩
theorem del_spec_l10Alike {w0 : World} (hS : Stops w0) : DelOk Try.prog w0 d_spec_l10Alike := .cons (ok_spec_l01Like hS) ent_spec_l01Like (.nil)
theorem ok_spec_l10Alike {w0 : World} (hS : Stops w0) : Keeps Try.prog w0 25 c_spec_l10Alike := .con (fn_sound (A := a_spec_l10Alike) tab_ok (del_spec_l10Alike hS) (draws (del_spec_l10Alike hS)) Try.func25 (by kernel_rfl) (fun k x => by kernel_rfl) (by kernel_rfl)) (by kernel_rfl)
theorem ent_spec_l10Alike : Enters' Try.prog 25 := enters' Try.func25 (by kernel_rfl)
attribute [irreducible] spec_l10Alike spec_l10Alike_l0 spec_l10Alike_l2

/-! ### spec_l01Sign: function 59 -/
def a_spec_l01Sign : Ann := ⟨[], []⟩
noncomputable def d_spec_l01Sign : List (Nat × Con) := []
noncomputable def spec_l01Sign (k : Nat) (a : (Ty.den T3)) (b : (Ty.den T3)) : Option (den1 [T3]) := evFn Γ d_spec_l01Sign a_spec_l01Sign Try.f59 [.val T3, .val T3] [T3] k (a, b, ())
theorem spec_l01Sign_eq (k : Nat) (a : (Ty.den T3)) (b : (Ty.den T3)) : spec_l01Sign k a b = br (decide (a < b)) (some (-1)) (br (decide (a > b)) (some 1) (some 0)) := by kernel_rfl
noncomputable def c_spec_l01Sign : Con := ⟨[.val T3, .val T3], [T3], fun k x => spec_l01Sign k x.1 x.2.1⟩
theorem del_spec_l01Sign {w0 : World} (hS : Stops w0) : DelOk Try.prog w0 d_spec_l01Sign := .nil
theorem ok_spec_l01Sign {w0 : World} (hS : Stops w0) : Keeps Try.prog w0 59 c_spec_l01Sign := .con (fn_sound (A := a_spec_l01Sign) tab_ok (del_spec_l01Sign hS) (draws (del_spec_l01Sign hS)) Try.func59 (by kernel_rfl) (fun k x => by kernel_rfl) (by kernel_rfl)) (by kernel_rfl)
theorem ent_spec_l01Sign : Enters' Try.prog 59 := enters' Try.func59 (by kernel_rfl)
attribute [irreducible] spec_l01Sign

/-! ### spec_l01Flag: function 60 -/
def a_spec_l01Flag : Ann := ⟨[], []⟩
noncomputable def d_spec_l01Flag : List (Nat × Con) := []
noncomputable def spec_l01Flag (k : Nat) (a : (Ty.den T4)) : Option (den1 [T3]) := evFn Γ d_spec_l01Flag a_spec_l01Flag Try.f60 [.val T4] [T3] k (a, ())
theorem spec_l01Flag_eq (k : Nat) (a : (Ty.den T4)) : spec_l01Flag k a = br (a) (some 1) (some 0) := by kernel_rfl
noncomputable def c_spec_l01Flag : Con := ⟨[.val T4], [T3], fun k x => spec_l01Flag k x.1⟩
theorem del_spec_l01Flag {w0 : World} (hS : Stops w0) : DelOk Try.prog w0 d_spec_l01Flag := .nil
theorem ok_spec_l01Flag {w0 : World} (hS : Stops w0) : Keeps Try.prog w0 60 c_spec_l01Flag := .con (fn_sound (A := a_spec_l01Flag) tab_ok (del_spec_l01Flag hS) (draws (del_spec_l01Flag hS)) Try.func60 (by kernel_rfl) (fun k x => by kernel_rfl) (by kernel_rfl)) (by kernel_rfl)
theorem ent_spec_l01Flag : Enters' Try.prog 60 := enters' Try.func60 (by kernel_rfl)
attribute [irreducible] spec_l01Flag

/-! ### spec_l01Order: function 61 -/
def a_spec_l01Order : Ann := ⟨[], []⟩
noncomputable def d_spec_l01Order : List (Nat × Con) := []
noncomputable def spec_l01Order (k : Nat) (a : (Ty.den T9)) (b : (Ty.den T9)) : Option (den1 [T3]) := evFn Γ d_spec_l01Order a_spec_l01Order Try.f61 [.val T9, .val T9] [T3] k (a, b, ())
theorem spec_l01Order_eq (k : Nat) (a : (Ty.den T9)) (b : (Ty.den T9)) : spec_l01Order k a b = br (Op.bytesLess a b) (some (-1)) (br (!(Op.bytesLess a b || a == b)) (some 1) (some 0)) := by kernel_rfl
noncomputable def c_spec_l01Order : Con := ⟨[.val T9, .val T9], [T3], fun k x => spec_l01Order k x.1 x.2.1⟩
theorem del_spec_l01Order {w0 : World} (hS : Stops w0) : DelOk Try.prog w0 d_spec_l01Order := .nil
theorem ok_spec_l01Order {w0 : World} (hS : Stops w0) : Keeps Try.prog w0 61 c_spec_l01Order := .con (fn_sound (A := a_spec_l01Order) tab_ok (del_spec_l01Order hS) (draws (del_spec_l01Order hS)) Try.func61 (by kernel_rfl) (fun k x => by kernel_rfl) (by kernel_rfl)) (by kernel_rfl)
theorem ent_spec_l01Order : Enters' Try.prog 61 := enters' Try.func61 (by kernel_rfl)
attribute [irreducible] spec_l01Order

/-! ### spec_l01Weighed: function 62 -/
def a_spec_l01Weighed : Ann := ⟨[(0, [.val 1 T9, .var 2 T61, .val 5 T157, .val 6 T3], ⟨[.val 5 T157], true⟩)], []⟩
noncomputable def d_spec_l01Weighed : List (Nat × Con) := []
noncomputable def spec_l01Weighed (k : Nat) (a : (Ty.den T61)) (b : (Ty.den T9)) : Option (den1 [T9]) := evFn Γ d_spec_l01Weighed a_spec_l01Weighed Try.f62 [.val T61, .val T9] [T9] k (a, b, ())
noncomputable def spec_l01Weighed_l0 (k : Nat) (v1 : (Ty.den T9)) (v2 : (Ty.den T61)) (v5 : (Ty.den T157)) (v6 : (Ty.den T3)) : Option (Items.den [.val 5 T157]) := loopQ (ρ := (den1 [T9])) 0 [.val 1 T9, .var 2 T61, .val 5 T157, .val 6 T3] [.val 5 T157] (runOf Γ d_spec_l01Weighed a_spec_l01Weighed Try.f62 [.val T61, .val T9] [T9] 0) k (v1, v2, v5, v6)
theorem spec_l01Weighed_eq (k : Nat) (a : (Ty.den T61)) (b : (Ty.den T9)) : spec_l01Weighed k a b = br ((↑(List.length a.1) : Int) != 95) (some b) (bnd (spec_l01Weighed_l0 k b (a.1, ()) [] 0) (fun y1 => some (List.map (fun n => UInt8.ofNat n.toNat) y1))) := by kernel_rfl
theorem spec_l01Weighed_l0_zero (v1 : (Ty.den T9)) (v2 : (Ty.den T61)) (v5 : (Ty.den T157)) (v6 : (Ty.den T3)) : spec_l01Weighed_l0 0 v1 v2 v5 v6 = none := by kernel_rfl
theorem spec_l01Weighed_l0_succ (k : Nat) (v1 : (Ty.den T9)) (v2 : (Ty.den T61)) (v5 : (Ty.den T157)) (v6 : (Ty.den T3)) : spec_l01Weighed_l0 (k + 1) v1 v2 v5 v6 = br (decide (v6 < (↑(List.length v1) : Int))) (br (decide (0 ≤ v6)) (br (decide (v6 < (↑(List.length v1) : Int))) (br (decide (0 ≤ IntKind.i64.wrap (IntKind.i64.wrap (↑(List.getD v1 (Int.toNat v6) 0).toNat : Int) - 32))) (br (decide (IntKind.i64.wrap (IntKind.i64.wrap (↑(List.getD v1 (Int.toNat v6) 0).toNat : Int) - 32) < (↑(List.length v2.1) : Int))) (br ((↑(List.getD v2.1 (IntKind.i64.wrap (IntKind.i64.wrap (↑(List.getD v1 (Int.toNat v6) 0).toNat : Int) - 32)).toNat 0).toNat : Int) != 32) (none) (spec_l01Weighed_l0 k v1 (v2.1, ()) v5 (IntKind.i64.wrap (v6 + 1)))) (none)) (none)) (none)) (none)) (some v5) := by kernel_rfl
noncomputable def c_spec_l01Weighed : Con := ⟨[.val T61, .val T9], [T9], fun k x => spec_l01Weighed k x.1 x.2.1⟩
theorem del_spec_l01Weighed {w0 : World} (hS : Stops w0) : DelOk Try.prog w0 d_spec_l01Weighed := .nil
theorem ok_spec_l01Weighed {w0 : World} (hS : Stops w0) : Keeps Try.prog w0 62 c_spec_l01Weighed := .con (fn_sound (A := a_spec_l01Weighed) tab_ok (del_spec_l01Weighed hS) (draws (del_spec_l01Weighed hS)) Try.func62 (by kernel_rfl) (fun k x => by kernel_rfl) (by kernel_rfl)) (by kernel_rfl)
theorem ent_spec_l01Weighed : Enters' Try.prog 62 := enters' Try.func62 (by kernel_rfl)
attribute [irreducible] spec_l01Weighed spec_l01Weighed_l0

/-! ### spec_l01Power: function 105 -/
def a_spec_l01Power : Ann := ⟨[(0, [.val 0 T3, .val 3 T3, .val 4 T3], ⟨[.val 3 T3], true⟩)], []⟩
noncomputable def d_spec_l01Power : List (Nat × Con) := []
noncomputable def spec_l01Power (k : Nat) (a : (Ty.den T3)) : Option (den1 [T3]) := evFn Γ d_spec_l01Power a_spec_l01Power Try.f105 [.val T3] [T3] k (a, ())
noncomputable def spec_l01Power_l0 (k : Nat) (v0 : (Ty.den T3)) (v3 : (Ty.den T3)) (v4 : (Ty.den T3)) : Option (Items.den [.val 3 T3]) := loopQ (ρ := (den1 [T3])) 0 [.val 0 T3, .val 3 T3, .val 4 T3] [.val 3 T3] (runOf Γ d_spec_l01Power a_spec_l01Power Try.f105 [.val T3] [T3] 0) k (v0, v3, v4)
theorem spec_l01Power_eq (k : Nat) (a : (Ty.den T3)) : spec_l01Power k a = bnd (spec_l01Power_l0 k a 1 0) (fun y1 => some y1) := by kernel_rfl
theorem spec_l01Power_l0_zero (v0 : (Ty.den T3)) (v3 : (Ty.den T3)) (v4 : (Ty.den T3)) : spec_l01Power_l0 0 v0 v3 v4 = none := by kernel_rfl
theorem spec_l01Power_l0_succ (k : Nat) (v0 : (Ty.den T3)) (v3 : (Ty.den T3)) (v4 : (Ty.den T3)) : spec_l01Power_l0 (k + 1) v0 v3 v4 = br (decide (v4 < v0)) (spec_l01Power_l0 k v0 (IntKind.i64.wrap (v3 * 10)) (IntKind.i64.wrap (v4 + 1))) (some v3) := by kernel_rfl
noncomputable def c_spec_l01Power : Con := ⟨[.val T3], [T3], fun k x => spec_l01Power k x.1⟩
theorem del_spec_l01Power {w0 : World} (hS : Stops w0) : DelOk Try.prog w0 d_spec_l01Power := .nil
theorem ok_spec_l01Power {w0 : World} (hS : Stops w0) : Keeps Try.prog w0 105 c_spec_l01Power := .con (fn_sound (A := a_spec_l01Power) tab_ok (del_spec_l01Power hS) (draws (del_spec_l01Power hS)) Try.func105 (by kernel_rfl) (fun k x => by kernel_rfl) (by kernel_rfl)) (by kernel_rfl)
theorem ent_spec_l01Power : Enters' Try.prog 105 := enters' Try.func105 (by kernel_rfl)
attribute [irreducible] spec_l01Power spec_l01Power_l0

/-! ### spec_l01Split: function 64 -/
def a_spec_l01Split : Ann := ⟨[], [(9, ⟨[.var 1 T57, .val 5 T3, .val 6 T3], true⟩)]⟩
noncomputable def d_spec_l01Split : List (Nat × Con) := [(105, c_spec_l01Power)]
noncomputable def spec_l01Split (k : Nat) (a : (Ty.den T57)) : Option (den1 [T3, T3]) := evFn Γ d_spec_l01Split a_spec_l01Split Try.f64 [.val T57] [T3, T3] k (a, ())
theorem spec_l01Split_eq (k : Nat) (a : (Ty.den T57)) : spec_l01Split k a = br (a.1 == 2) (some (a.2.1, 0)) (bnd (spec_l01Power k a.2.2.1) (fun y1 => br (!y1 == 0) (br (!y1 == 0) (bnd (br (decide (Int.tmod a.2.1 y1 < 0)) (some (a, IntKind.i64.wrap (IntKind.i64.wrap (Int.tdiv a.2.1 y1) - 1), IntKind.i64.wrap (Int.tmod a.2.1 y1 + y1))) (some (a, IntKind.i64.wrap (Int.tdiv a.2.1 y1), Int.tmod a.2.1 y1))) (fun y2 => bnd (spec_l01Power k (IntKind.i64.wrap (6 - y2.1.2.2.1))) (fun y3 => some (y2.2.1, IntKind.i64.wrap (y2.2.2 * y3))))) (none)) (none))) := by kernel_rfl
noncomputable def c_spec_l01Split : Con := ⟨[.val T57], [T3, T3], fun k x => spec_l01Split k x.1⟩
theorem del_spec_l01Split {w0 : World} (hS : Stops w0) : DelOk Try.prog w0 d_spec_l01Split := .cons (ok_spec_l01Power hS) ent_spec_l01Power (.nil)
theorem ok_spec_l01Split {w0 : World} (hS : Stops w0) : Keeps Try.prog w0 64 c_spec_l01Split := .con (fn_sound (A := a_spec_l01Split) tab_ok (del_spec_l01Split hS) (draws (del_spec_l01Split hS)) Try.func64 (by kernel_rfl) (fun k x => by kernel_rfl) (by kernel_rfl)) (by kernel_rfl)
theorem ent_spec_l01Split : Enters' Try.prog 64 := enters' Try.func64 (by kernel_rfl)
attribute [irreducible] spec_l01Split

/-! ### spec_l01Cmp: function 26 -/
def a_spec_l01Cmp : Ann := ⟨[], []⟩
noncomputable def d_spec_l01Cmp : List (Nat × Con) := [(59, c_spec_l01Sign), (60, c_spec_l01Flag), (61, c_spec_l01Order), (62, c_spec_l01Weighed), (63, c_spec_l01Number), (64, c_spec_l01Split)]
noncomputable def spec_l01Cmp (k : Nat) (a : (Ty.den T61)) (b : (Ty.den T57)) (c : (Ty.den T57)) : Option (den1 [T3]) := evFn Γ d_spec_l01Cmp a_spec_l01Cmp Try.f26 [.val T61, .val T57, .val T57] [T3] k (a, b, c, ())
theorem spec_l01Cmp_eq (k : Nat) (a : (Ty.den T61)) (b : (Ty.den T57)) (c : (Ty.den T57)) : spec_l01Cmp k a b c = br (b.1 == 0) (bnd (spec_l01Flag k (b.1 != 0)) (fun y1 => bnd (spec_l01Flag k (c.1 != 0)) (fun y2 => bnd (spec_l01Sign k y1 y2) (fun y3 => some y3)))) (br (c.1 == 0) (bnd (spec_l01Flag k (b.1 != 0)) (fun y1 => bnd (spec_l01Flag k (c.1 != 0)) (fun y2 => bnd (spec_l01Sign k y1 y2) (fun y3 => some y3)))) (br (b.1 == 4) (bnd (spec_l01Weighed k (a.1, ()) b.2.2.2.1) (fun y1 => bnd (spec_l01Weighed k (a.1, ()) c.2.2.2.1) (fun y2 => bnd (spec_l01Order k y1 y2) (fun y3 => some y3)))) (bnd (spec_l01Number k b) (fun y1 => br (y1) (bnd (spec_l01Split k b) (fun y2 => bnd (spec_l01Split k c) (fun y3 => br (y2.1 != y3.1) (bnd (spec_l01Sign k y2.1 y3.1) (fun y4 => some y4)) (bnd (spec_l01Sign k y2.2 y3.2) (fun y4 => some y4))))) (bnd (spec_l01Sign k b.2.1 c.2.1) (fun y2 => some y2)))))) := by kernel_rfl
noncomputable def c_spec_l01Cmp : Con := ⟨[.val T61, .val T57, .val T57], [T3], fun k x => spec_l01Cmp k x.1 x.2.1 x.2.2.1⟩
theorem del_spec_l01Cmp {w0 : World} (hS : Stops w0) : DelOk Try.prog w0 d_spec_l01Cmp := .cons (ok_spec_l01Sign hS) ent_spec_l01Sign (.cons (ok_spec_l01Flag hS) ent_spec_l01Flag (.cons (ok_spec_l01Order hS) ent_spec_l01Order (.cons (ok_spec_l01Weighed hS) ent_spec_l01Weighed (.cons (ok_spec_l01Number hS) ent_spec_l01Number (.cons (ok_spec_l01Split hS) ent_spec_l01Split (.nil))))))
theorem ok_spec_l01Cmp {w0 : World} (hS : Stops w0) : Keeps Try.prog w0 26 c_spec_l01Cmp := .con (fn_sound (A := a_spec_l01Cmp) tab_ok (del_spec_l01Cmp hS) (draws (del_spec_l01Cmp hS)) Try.func26 (by kernel_rfl) (fun k x => by kernel_rfl) (by kernel_rfl)) (by kernel_rfl)
theorem ent_spec_l01Cmp : Enters' Try.prog 26 := enters' Try.func26 (by kernel_rfl)
attribute [irreducible] spec_l01Cmp

/-! ### spec_Analyze: function 6 -/
def a_spec_Analyze : Ann := ⟨[(0, [.val 0 T30, .val 1 T3, .val 2 T3, .var 6 O27, .var 8 O27, .val 9 O24, .var 10 O27, .val 11 T3], ⟨[.val 2 T3, .var 6 O27, .var 8 O27, .val 9 O24, .var 10 O27], false⟩), (2, [.val 2 T3, .var 6 O27, .val 9 O24, .var 10 O27, .val 12 O24, .val 13 T3], ⟨[.val 2 T3, .var 6 O27, .var 10 O27, .val 12 O24], true⟩), (4, [.val 2 T3, .var 6 O27, .val 9 O24, .var 10 O27, .val 12 O24, .val 13 T3, .val 14 T3], ⟨[.val 2 T3, .var 6 O27, .val 9 O24, .var 10 O27, .val 12 O24, .val 13 T3, .val 14 T3], true⟩), (6, [.var 6 O27, .var 10 O27, .val 12 O24, .val 16 T3, .val 17 T3], ⟨[.var 6 O27, .var 10 O27, .val 12 O24], true⟩), (8, [.var 6 O27, .var 10 O27, .val 12 O24, .val 19 T3], ⟨[.var 6 O27, .var 10 O27], true⟩), (10, [.var 6 O27, .var 10 O27, .val 12 O24, .val 19 T3, .val 20 T3, .val 21 T3], ⟨[.var 6 O27, .var 10 O27, .val 12 O24, .val 19 T3, .val 20 T3], true⟩)], [(31, ⟨[.var 6 O27, .var 10 O27, .val 12 O24, .val 16 T3, .val 17 T3], true⟩)]⟩
noncomputable def d_spec_Analyze : List (Nat × Con) := [(24, c_spec_ValueOK), (25, c_spec_l10Alike), (26, c_spec_l01Cmp)]
noncomputable def spec_Analyze (k : Nat) (a : (Ty.den T30)) (b : (Ty.den T3)) (c : (Ty.den T3)) : Option (den1 [T27, T3]) := evFn Γ d_spec_Analyze a_spec_Analyze Try.f6 [.val T30, .val T3, .val T3] [T27, T3] k (a, b, c, ())
noncomputable def spec_Analyze_l0 (k : Nat) (v0 : (Ty.den T30)) (v1 : (Ty.den T3)) (v2 : (Ty.den T3)) (v6 : (Ty.den O27)) (v8 : (Ty.den O27)) (v9 : (Ty.den O24)) (v10 : (Ty.den O27)) (v11 : (Ty.den T3)) : Option ((Items.den [.val 2 T3, .var 6 O27, .var 8 O27, .val 9 O24, .var 10 O27]) ⊕ (den1 [T27, T3])) := loopR (ρ := (den1 [T27, T3])) 0 [.val 0 T30, .val 1 T3, .val 2 T3, .var 6 O27, .var 8 O27, .val 9 O24, .var 10 O27, .val 11 T3] [.val 2 T3, .var 6 O27, .var 8 O27, .val 9 O24, .var 10 O27] (runOf Γ d_spec_Analyze a_spec_Analyze Try.f6 [.val T30, .val T3, .val T3] [T27, T3] 0) k (v0, v1, v2, v6, v8, v9, v10, v11)
noncomputable def spec_Analyze_l2 (k : Nat) (v2 : (Ty.den T3)) (v6 : (Ty.den O27)) (v9 : (Ty.den O24)) (v10 : (Ty.den O27)) (v12 : (Ty.den O24)) (v13 : (Ty.den T3)) : Option (Items.den [.val 2 T3, .var 6 O27, .var 10 O27, .val 12 O24]) := loopQ (ρ := (den1 [T27, T3])) 2 [.val 2 T3, .var 6 O27, .val 9 O24, .var 10 O27, .val 12 O24, .val 13 T3] [.val 2 T3, .var 6 O27, .var 10 O27, .val 12 O24] (runOf Γ d_spec_Analyze a_spec_Analyze Try.f6 [.val T30, .val T3, .val T3] [T27, T3] 2) k (v2, v6, v9, v10, v12, v13)
noncomputable def spec_Analyze_l4 (k : Nat) (v2 : (Ty.den T3)) (v6 : (Ty.den O27)) (v9 : (Ty.den O24)) (v10 : (Ty.den O27)) (v12 : (Ty.den O24)) (v13 : (Ty.den T3)) (v14 : (Ty.den T3)) : Option (Items.den [.val 2 T3, .var 6 O27, .val 9 O24, .var 10 O27, .val 12 O24, .val 13 T3, .val 14 T3]) := loopQ (ρ := (den1 [T27, T3])) 4 [.val 2 T3, .var 6 O27, .val 9 O24, .var 10 O27, .val 12 O24, .val 13 T3, .val 14 T3] [.val 2 T3, .var 6 O27, .val 9 O24, .var 10 O27, .val 12 O24, .val 13 T3, .val 14 T3] (runOf Γ d_spec_Analyze a_spec_Analyze Try.f6 [.val T30, .val T3, .val T3] [T27, T3] 4) k (v2, v6, v9, v10, v12, v13, v14)
noncomputable def spec_Analyze_l6 (k : Nat) (v6 : (Ty.den O27)) (v10 : (Ty.den O27)) (v12 : (Ty.den O24)) (v16 : (Ty.den T3)) (v17 : (Ty.den T3)) : Option (Items.den [.var 6 O27, .var 10 O27, .val 12 O24]) := loopQ (ρ := (den1 [T27, T3])) 6 [.var 6 O27, .var 10 O27, .val 12 O24, .val 16 T3, .val 17 T3] [.var 6 O27, .var 10 O27, .val 12 O24] (runOf Γ d_spec_Analyze a_spec_Analyze Try.f6 [.val T30, .val T3, .val T3] [T27, T3] 6) k (v6, v10, v12, v16, v17)
noncomputable def spec_Analyze_l8 (k : Nat) (v6 : (Ty.den O27)) (v10 : (Ty.den O27)) (v12 : (Ty.den O24)) (v19 : (Ty.den T3)) : Option (Items.den [.var 6 O27, .var 10 O27]) := loopQ (ρ := (den1 [T27, T3])) 8 [.var 6 O27, .var 10 O27, .val 12 O24, .val 19 T3] [.var 6 O27, .var 10 O27] (runOf Γ d_spec_Analyze a_spec_Analyze Try.f6 [.val T30, .val T3, .val T3] [T27, T3] 8) k (v6, v10, v12, v19)
noncomputable def spec_Analyze_l10 (k : Nat) (v6 : (Ty.den O27)) (v10 : (Ty.den O27)) (v12 : (Ty.den O24)) (v19 : (Ty.den T3)) (v20 : (Ty.den T3)) (v21 : (Ty.den T3)) : Option (Items.den [.var 6 O27, .var 10 O27, .val 12 O24, .val 19 T3, .val 20 T3]) := loopQ (ρ := (den1 [T27, T3])) 10 [.var 6 O27, .var 10 O27, .val 12 O24, .val 19 T3, .val 20 T3, .val 21 T3] [.var 6 O27, .var 10 O27, .val 12 O24, .val 19 T3, .val 20 T3] (runOf Γ d_spec_Analyze a_spec_Analyze Try.f6 [.val T30, .val T3, .val T3] [T27, T3] 10) k (v6, v10, v12, v19, v20, v21)
theorem spec_Analyze_eq (k : Nat) (a : (Ty.den T30)) (b : (Ty.den T3)) (c : (Ty.den T3)) : spec_Analyze k a b c = br (decide ((↑(List.length a) : Int) > 2000)) (some (((0, 0, 0, [], [], ()) : T27.den), 1)) (br (decide (b < 0)) (some (((0, 0, 0, [], [], ()) : T27.den), 1)) (br (decide (c < 1)) (some (((0, 0, 0, [], [], ()) : T27.den), 1)) (br (decide (c > 20)) (some (((0, 0, 0, [], [], ()) : T27.den), 1)) (bnd (spec_Analyze_l0 k a b c ((0, 0, 0, [], [], ()) : T27.den) ((0, 0, 0, [], [], ()) : T27.den) [] ((↑(List.length a) : Int), 0, 0, [], [], ()) 0) (fun y1 => onSum y1 (fun y2 => bnd (spec_l10Alike k y2.2.2.2.1) (fun y3 => br (!y3) (some (y2.2.2.1, 2)) (bnd (spec_Analyze_l2 k y2.1 y2.2.1 y2.2.2.2.1 y2.2.2.2.2 [] 0) (fun y4 => br (!y4.1 == 0) (bnd (spec_Analyze_l6 k y4.2.1 y4.2.2.1 y4.2.2.2 (IntKind.i64.wrap ((IntKind.i64.wrap (IntKind.i64.wrap ((↑(List.length y4.2.2.2) : Int) + y4.1) - 1)).tdiv y4.1)) 0) (fun y5 => bnd (spec_Analyze_l8 k y5.1 y5.2.1 y5.2.2 0) (fun y6 => some (y6.2, 0)))) (none))))) (fun y2 => some y2)))))) := by kernel_rfl
theorem spec_Analyze_l0_zero (v0 : (Ty.den T30)) (v1 : (Ty.den T3)) (v2 : (Ty.den T3)) (v6 : (Ty.den O27)) (v8 : (Ty.den O27)) (v9 : (Ty.den O24)) (v10 : (Ty.den O27)) (v11 : (Ty.den T3)) : spec_Analyze_l0 0 v0 v1 v2 v6 v8 v9 v10 v11 = none := by kernel_rfl
theorem spec_Analyze_l0_succ (k : Nat) (v0 : (Ty.den T30)) (v1 : (Ty.den T3)) (v2 : (Ty.den T3)) (v6 : (Ty.den O27)) (v8 : (Ty.den O27)) (v9 : (Ty.den O24)) (v10 : (Ty.den O27)) (v11 : (Ty.den T3)) : spec_Analyze_l0 (k + 1) v0 v1 v2 v6 v8 v9 v10 v11 = br (decide (v11 < (↑(List.length v0) : Int))) (br (decide (0 ≤ v11)) (br (decide (v11 < (↑(List.length v0) : Int))) (br (decide (v1 ≥ (↑(List.length (List.getD v0 (Int.toNat v11) T54.zero).1) : Int))) (some (Sum.inr (v8, 1))) (br (decide (0 ≤ v11)) (br (decide (v11 < (↑(List.length v0) : Int))) (br (decide (0 ≤ v1)) (br (decide (v1 < (↑(List.length (List.getD v0 (Int.toNat v11) T54.zero).1) : Int))) (bnd (spec_ValueOK k (List.getD (List.getD v0 (Int.toNat v11) T54.zero).1 (Int.toNat v1) T57.zero)) (fun y1 => br (!y1) (some (Sum.inr (v8, 1))) (br (decide (0 ≤ v11)) (br (decide (v11 < (↑(List.length v0) : Int))) (br (decide (0 ≤ v1)) (br (decide (v1 < (↑(List.length (List.getD v0 (Int.toNat v11) T54.zero).1) : Int))) (br ((List.getD (List.getD v0 (Int.toNat v11) T54.zero).1 (Int.toNat v1) T57.zero).1 == 0) (spec_Analyze_l0 k v0 v1 v2 v6 v8 v9 (v10.1, IntKind.i64.wrap (v10.2.1 + 1), v10.2.2.1, v10.2.2.2.1, v10.2.2.2.2.1, ()) (IntKind.i64.wrap (v11 + 1))) (br (decide (0 ≤ v11)) (br (decide (v11 < (↑(List.length v0) : Int))) (br (decide (0 ≤ v1)) (br (decide (v1 < (↑(List.length (List.getD v0 (Int.toNat v11) T54.zero).1) : Int))) (br (decide (List.length v9 + [(List.getD (List.getD v0 (Int.toNat v11) T54.zero).1 (Int.toNat v1) T57.zero)].length ≤ capN)) (spec_Analyze_l0 k v0 v1 v2 v6 v8 (v9 ++ [(List.getD (List.getD v0 (Int.toNat v11) T54.zero).1 (Int.toNat v1) T57.zero)]) v10 (IntKind.i64.wrap (v11 + 1))) (none)) (none)) (none)) (none)) (none))) (none)) (none)) (none)) (none)))) (none)) (none)) (none)) (none))) (none)) (none)) (some (Sum.inl (v2, v6, v8, v9, v10.1, v10.2.1, v10.2.2.1, v10.2.2.2.1, v10.2.2.2.2.1, ()))) := by kernel_rfl
theorem spec_Analyze_l2_zero (v2 : (Ty.den T3)) (v6 : (Ty.den O27)) (v9 : (Ty.den O24)) (v10 : (Ty.den O27)) (v12 : (Ty.den O24)) (v13 : (Ty.den T3)) : spec_Analyze_l2 0 v2 v6 v9 v10 v12 v13 = none := by kernel_rfl
theorem spec_Analyze_l2_succ (k : Nat) (v2 : (Ty.den T3)) (v6 : (Ty.den O27)) (v9 : (Ty.den O24)) (v10 : (Ty.den O27)) (v12 : (Ty.den O24)) (v13 : (Ty.den T3)) : spec_Analyze_l2 (k + 1) v2 v6 v9 v10 v12 v13 = br (decide (v13 < (↑(List.length v9) : Int))) (bnd (spec_Analyze_l4 k v2 v6 v9 v10 v12 v13 ((↑(List.length v12) : Int))) (fun y1 => br (decide (0 ≤ y1.2.2.2.2.2.2)) (br (decide (y1.2.2.2.2.2.2 ≤ (↑(List.length y1.2.2.2.2.1) : Int))) (br (decide (0 + (List.drop (0 + Int.toNat y1.2.2.2.2.2.2) (List.take (0 + List.length y1.2.2.2.2.1) y1.2.2.2.2.1)).length ≤ capN)) (br (decide (0 ≤ y1.2.2.2.2.2.2)) (br (decide (y1.2.2.2.2.2.2 ≤ (↑(List.length y1.2.2.2.2.1) : Int))) (br (decide (0 ≤ y1.2.2.2.2.2.1)) (br (decide (y1.2.2.2.2.2.1 < (↑(List.length y1.2.2.1) : Int))) (br (decide (0 = 0)) (br (decide (0 + Int.toNat y1.2.2.2.2.2.2 + [(List.getD y1.2.2.1 (Int.toNat y1.2.2.2.2.2.1) T57.zero)].length ≤ capN)) (br (decide ((List.take (0 + Int.toNat y1.2.2.2.2.2.2) y1.2.2.2.2.1 ++ [(List.getD y1.2.2.1 (Int.toNat y1.2.2.2.2.2.1) T57.zero)]).length + List.length ([] ++ List.drop (0 + Int.toNat y1.2.2.2.2.2.2) (List.take (0 + List.length y1.2.2.2.2.1) y1.2.2.2.2.1)) ≤ capN)) (spec_Analyze_l2 k y1.1 y1.2.1 y1.2.2.1 y1.2.2.2.1 (List.take (0 + Int.toNat y1.2.2.2.2.2.2) y1.2.2.2.2.1 ++ [(List.getD y1.2.2.1 (Int.toNat y1.2.2.2.2.2.1) T57.zero)] ++ ([] ++ List.drop (0 + Int.toNat y1.2.2.2.2.2.2) (List.take (0 + List.length y1.2.2.2.2.1) y1.2.2.2.2.1))) (IntKind.i64.wrap (y1.2.2.2.2.2.1 + 1))) (none)) (none)) (none)) (none)) (none)) (none)) (none)) (none)) (none)) (none))) (some (v2, v6, v10, v12)) := by kernel_rfl
theorem spec_Analyze_l4_zero (v2 : (Ty.den T3)) (v6 : (Ty.den O27)) (v9 : (Ty.den O24)) (v10 : (Ty.den O27)) (v12 : (Ty.den O24)) (v13 : (Ty.den T3)) (v14 : (Ty.den T3)) : spec_Analyze_l4 0 v2 v6 v9 v10 v12 v13 v14 = none := by kernel_rfl
theorem spec_Analyze_l4_succ (k : Nat) (v2 : (Ty.den T3)) (v6 : (Ty.den O27)) (v9 : (Ty.den O24)) (v10 : (Ty.den O27)) (v12 : (Ty.den O24)) (v13 : (Ty.den T3)) (v14 : (Ty.den T3)) : spec_Analyze_l4 (k + 1) v2 v6 v9 v10 v12 v13 v14 = br (decide (v14 > 0)) (br (decide (0 ≤ IntKind.i64.wrap (v14 - 1))) (br (decide (IntKind.i64.wrap (v14 - 1) < (↑(List.length v12) : Int))) (br (decide (0 ≤ v13)) (br (decide (v13 < (↑(List.length v9) : Int))) (bnd (spec_l01Cmp k ([], ()) (List.getD v12 (IntKind.i64.wrap (v14 - 1)).toNat T57.zero) (List.getD v9 (Int.toNat v13) T57.zero)) (fun y1 => br (decide (y1 > 0)) (spec_Analyze_l4 k v2 v6 v9 v10 v12 v13 (IntKind.i64.wrap (v14 - 1))) (some (v2, v6, v9, v10, v12, v13, v14)))) (none)) (none)) (none)) (none)) (some (v2, v6, v9, v10, v12, v13, v14)) := by kernel_rfl
theorem spec_Analyze_l6_zero (v6 : (Ty.den O27)) (v10 : (Ty.den O27)) (v12 : (Ty.den O24)) (v16 : (Ty.den T3)) (v17 : (Ty.den T3)) : spec_Analyze_l6 0 v6 v10 v12 v16 v17 = none := by kernel_rfl
theorem spec_Analyze_l6_succ (k : Nat) (v6 : (Ty.den O27)) (v10 : (Ty.den O27)) (v12 : (Ty.den O24)) (v16 : (Ty.den T3)) (v17 : (Ty.den T3)) : spec_Analyze_l6 (k + 1) v6 v10 v12 v16 v17 = br (decide (v17 < (↑(List.length v12) : Int))) (bnd (br (v17 == 0) (some (v6, (v10.1, v10.2.1, IntKind.i64.wrap (v10.2.2.1 + 1), v10.2.2.2.1, v10.2.2.2.2.1, ()), v12, v16, v17)) (br (decide (0 ≤ IntKind.i64.wrap (v17 - 1))) (br (decide (IntKind.i64.wrap (v17 - 1) < (↑(List.length v12) : Int))) (br (decide (0 ≤ v17)) (br (decide (v17 < (↑(List.length v12) : Int))) (bnd (spec_l01Cmp k ([], ()) (List.getD v12 (IntKind.i64.wrap (v17 - 1)).toNat T57.zero) (List.getD v12 (Int.toNat v17) T57.zero)) (fun y1 => br (y1 != 0) (some (v6, (v10.1, v10.2.1, IntKind.i64.wrap (v10.2.2.1 + 1), v10.2.2.2.1, v10.2.2.2.2.1, ()), v12, v16, v17)) (some (v6, v10, v12, v16, v17)))) (none)) (none)) (none)) (none))) (fun y1 => br (!y1.2.2.2.1 == 0) (br ((IntKind.i64.wrap (y1.2.2.2.2 + 1)).tmod y1.2.2.2.1 != 0) (br (y1.2.2.2.2 != IntKind.i64.wrap ((↑(List.length y1.2.2.1) : Int) - 1)) (spec_Analyze_l6 k y1.1 y1.2.1 y1.2.2.1 y1.2.2.2.1 (IntKind.i64.wrap (y1.2.2.2.2 + 1))) (br ((↑(List.length y1.2.1.2.2.2.1) : Int) == 0) (br (decide (0 ≤ y1.2.2.2.2)) (br (decide (y1.2.2.2.2 < (↑(List.length y1.2.2.1) : Int))) (br (decide (List.length y1.2.1.2.2.2.1 + [(List.getD y1.2.2.1 (Int.toNat y1.2.2.2.2) T57.zero)].length ≤ capN)) (spec_Analyze_l6 k y1.1 (y1.2.1.1, y1.2.1.2.1, y1.2.1.2.2.1, y1.2.1.2.2.2.1 ++ [(List.getD y1.2.2.1 (Int.toNat y1.2.2.2.2) T57.zero)], y1.2.1.2.2.2.2.1, ()) y1.2.2.1 y1.2.2.2.1 (IntKind.i64.wrap (y1.2.2.2.2 + 1))) (none)) (none)) (none)) (br (decide (0 ≤ IntKind.i64.wrap ((↑(List.length y1.2.1.2.2.2.1) : Int) - 1))) (br (decide (IntKind.i64.wrap ((↑(List.length y1.2.1.2.2.2.1) : Int) - 1) < (↑(List.length y1.2.1.2.2.2.1) : Int))) (br (decide (0 ≤ y1.2.2.2.2)) (br (decide (y1.2.2.2.2 < (↑(List.length y1.2.2.1) : Int))) (bnd (spec_l01Cmp k ([], ()) (List.getD y1.2.1.2.2.2.1 (IntKind.i64.wrap ((↑(List.length y1.2.1.2.2.2.1) : Int) - 1)).toNat T57.zero) (List.getD y1.2.2.1 (Int.toNat y1.2.2.2.2) T57.zero)) (fun y2 => br (y2 != 0) (br (decide (0 ≤ y1.2.2.2.2)) (br (decide (y1.2.2.2.2 < (↑(List.length y1.2.2.1) : Int))) (br (decide (List.length y1.2.1.2.2.2.1 + [(List.getD y1.2.2.1 (Int.toNat y1.2.2.2.2) T57.zero)].length ≤ capN)) (spec_Analyze_l6 k y1.1 (y1.2.1.1, y1.2.1.2.1, y1.2.1.2.2.1, y1.2.1.2.2.2.1 ++ [(List.getD y1.2.2.1 (Int.toNat y1.2.2.2.2) T57.zero)], y1.2.1.2.2.2.2.1, ()) y1.2.2.1 y1.2.2.2.1 (IntKind.i64.wrap (y1.2.2.2.2 + 1))) (none)) (none)) (none)) (spec_Analyze_l6 k y1.1 y1.2.1 y1.2.2.1 y1.2.2.2.1 (IntKind.i64.wrap (y1.2.2.2.2 + 1))))) (none)) (none)) (none)) (none)))) (br ((↑(List.length y1.2.1.2.2.2.1) : Int) == 0) (br (decide (0 ≤ y1.2.2.2.2)) (br (decide (y1.2.2.2.2 < (↑(List.length y1.2.2.1) : Int))) (br (decide (List.length y1.2.1.2.2.2.1 + [(List.getD y1.2.2.1 (Int.toNat y1.2.2.2.2) T57.zero)].length ≤ capN)) (spec_Analyze_l6 k y1.1 (y1.2.1.1, y1.2.1.2.1, y1.2.1.2.2.1, y1.2.1.2.2.2.1 ++ [(List.getD y1.2.2.1 (Int.toNat y1.2.2.2.2) T57.zero)], y1.2.1.2.2.2.2.1, ()) y1.2.2.1 y1.2.2.2.1 (IntKind.i64.wrap (y1.2.2.2.2 + 1))) (none)) (none)) (none)) (br (decide (0 ≤ IntKind.i64.wrap ((↑(List.length y1.2.1.2.2.2.1) : Int) - 1))) (br (decide (IntKind.i64.wrap ((↑(List.length y1.2.1.2.2.2.1) : Int) - 1) < (↑(List.length y1.2.1.2.2.2.1) : Int))) (br (decide (0 ≤ y1.2.2.2.2)) (br (decide (y1.2.2.2.2 < (↑(List.length y1.2.2.1) : Int))) (bnd (spec_l01Cmp k ([], ()) (List.getD y1.2.1.2.2.2.1 (IntKind.i64.wrap ((↑(List.length y1.2.1.2.2.2.1) : Int) - 1)).toNat T57.zero) (List.getD y1.2.2.1 (Int.toNat y1.2.2.2.2) T57.zero)) (fun y2 => br (y2 != 0) (br (decide (0 ≤ y1.2.2.2.2)) (br (decide (y1.2.2.2.2 < (↑(List.length y1.2.2.1) : Int))) (br (decide (List.length y1.2.1.2.2.2.1 + [(List.getD y1.2.2.1 (Int.toNat y1.2.2.2.2) T57.zero)].length ≤ capN)) (spec_Analyze_l6 k y1.1 (y1.2.1.1, y1.2.1.2.1, y1.2.1.2.2.1, y1.2.1.2.2.2.1 ++ [(List.getD y1.2.2.1 (Int.toNat y1.2.2.2.2) T57.zero)], y1.2.1.2.2.2.2.1, ()) y1.2.2.1 y1.2.2.2.1 (IntKind.i64.wrap (y1.2.2.2.2 + 1))) (none)) (none)) (none)) (spec_Analyze_l6 k y1.1 y1.2.1 y1.2.2.1 y1.2.2.2.1 (IntKind.i64.wrap (y1.2.2.2.2 + 1))))) (none)) (none)) (none)) (none)))) (none))) (some (v6, v10, v12)) := by kernel_rfl
theorem spec_Analyze_l8_zero (v6 : (Ty.den O27)) (v10 : (Ty.den O27)) (v12 : (Ty.den O24)) (v19 : (Ty.den T3)) : spec_Analyze_l8 0 v6 v10 v12 v19 = none := by kernel_rfl
theorem spec_Analyze_l8_succ (k : Nat) (v6 : (Ty.den O27)) (v10 : (Ty.den O27)) (v12 : (Ty.den O24)) (v19 : (Ty.den T3)) : spec_Analyze_l8 (k + 1) v6 v10 v12 v19 = br (decide (v19 < (↑(List.length v10.2.2.2.1) : Int))) (bnd (spec_Analyze_l10 k v6 v10 v12 v19 0 0) (fun y1 => br (decide (List.length y1.2.1.2.2.2.2.1 + [y1.2.2.2.2].length ≤ capN)) (spec_Analyze_l8 k y1.1 (y1.2.1.1, y1.2.1.2.1, y1.2.1.2.2.1, y1.2.1.2.2.2.1, y1.2.1.2.2.2.2.1 ++ [y1.2.2.2.2], ()) y1.2.2.1 (IntKind.i64.wrap (y1.2.2.2.1 + 1))) (none))) (some (v6, v10.1, v10.2.1, v10.2.2.1, v10.2.2.2.1, v10.2.2.2.2.1, ())) := by kernel_rfl
theorem spec_Analyze_l10_zero (v6 : (Ty.den O27)) (v10 : (Ty.den O27)) (v12 : (Ty.den O24)) (v19 : (Ty.den T3)) (v20 : (Ty.den T3)) (v21 : (Ty.den T3)) : spec_Analyze_l10 0 v6 v10 v12 v19 v20 v21 = none := by kernel_rfl
theorem spec_Analyze_l10_succ (k : Nat) (v6 : (Ty.den O27)) (v10 : (Ty.den O27)) (v12 : (Ty.den O24)) (v19 : (Ty.den T3)) (v20 : (Ty.den T3)) (v21 : (Ty.den T3)) : spec_Analyze_l10 (k + 1) v6 v10 v12 v19 v20 v21 = br (decide (v21 < (↑(List.length v12) : Int))) (br (decide (0 ≤ v21)) (br (decide (v21 < (↑(List.length v12) : Int))) (br (decide (0 ≤ v19)) (br (decide (v19 < (↑(List.length v10.2.2.2.1) : Int))) (bnd (spec_l01Cmp k ([], ()) (List.getD v12 (Int.toNat v21) T57.zero) (List.getD v10.2.2.2.1 (Int.toNat v19) T57.zero)) (fun y1 => br (decide (y1 ≤ 0)) (br (v19 == 0) (spec_Analyze_l10 k v6 v10 v12 v19 (IntKind.i64.wrap (v20 + 1)) (IntKind.i64.wrap (v21 + 1))) (br (decide (0 ≤ v21)) (br (decide (v21 < (↑(List.length v12) : Int))) (br (decide (0 ≤ IntKind.i64.wrap (v19 - 1))) (br (decide (IntKind.i64.wrap (v19 - 1) < (↑(List.length v10.2.2.2.1) : Int))) (bnd (spec_l01Cmp k ([], ()) (List.getD v12 (Int.toNat v21) T57.zero) (List.getD v10.2.2.2.1 (IntKind.i64.wrap (v19 - 1)).toNat T57.zero)) (fun y2 => br (decide (y2 > 0)) (spec_Analyze_l10 k v6 v10 v12 v19 (IntKind.i64.wrap (v20 + 1)) (IntKind.i64.wrap (v21 + 1))) (spec_Analyze_l10 k v6 v10 v12 v19 v20 (IntKind.i64.wrap (v21 + 1))))) (none)) (none)) (none)) (none))) (spec_Analyze_l10 k v6 v10 v12 v19 v20 (IntKind.i64.wrap (v21 + 1))))) (none)) (none)) (none)) (none)) (some (v6, v10, v12, v19, v20)) := by kernel_rfl
noncomputable def c_spec_Analyze : Con := ⟨[.val T30, .val T3, .val T3], [T27, T3], fun k x => spec_Analyze k x.1 x.2.1 x.2.2.1⟩
theorem del_spec_Analyze {w0 : World} (hS : Stops w0) : DelOk Try.prog w0 d_spec_Analyze := .cons (ok_spec_ValueOK hS) ent_spec_ValueOK (.cons (ok_spec_l10Alike hS) ent_spec_l10Alike (.cons (ok_spec_l01Cmp hS) ent_spec_l01Cmp (.nil)))
theorem ok_spec_Analyze {w0 : World} (hS : Stops w0) : Keeps Try.prog w0 6 c_spec_Analyze := .con (fn_sound (A := a_spec_Analyze) tab_ok (del_spec_Analyze hS) (draws (del_spec_Analyze hS)) Try.func6 (by kernel_rfl) (fun k x => by kernel_rfl) (by kernel_rfl)) (by kernel_rfl)
theorem ent_spec_Analyze : Enters' Try.prog 6 := enters' Try.func6 (by kernel_rfl)
attribute [irreducible] spec_Analyze spec_Analyze_l0 spec_Analyze_l2 spec_Analyze_l4 spec_Analyze_l6 spec_Analyze_l8 spec_Analyze_l10

/-! ### laws_toValue: function 106 -/
def a_laws_toValue : Ann := ⟨[], []⟩
noncomputable def d_laws_toValue : List (Nat × Con) := []
noncomputable def laws_toValue (k : Nat) (a : (Ty.den T159)) : Option (den1 [T57]) := evFn Γo d_laws_toValue a_laws_toValue Try.f106 [.val T159] [T57] k (a, ())
theorem laws_toValue_eq (k : Nat) (a : (Ty.den T159)) : laws_toValue k a = some a := by kernel_rfl
noncomputable def c_laws_toValue : Con := ⟨[.val T159], [T57], fun k x => laws_toValue k x.1⟩
theorem del_laws_toValue {w0 : World} (hS : Stops w0) : DelOk Try.prog w0 d_laws_toValue := .nil
theorem ok_laws_toValue {w0 : World} (hS : Stops w0) : Keeps Try.prog w0 106 c_laws_toValue := .con (fn_sound (A := a_laws_toValue) tab_oko (del_laws_toValue hS) (drawso (del_laws_toValue hS)) Try.func106 (by kernel_rfl) (fun k x => by kernel_rfl) (by kernel_rfl)) (by kernel_rfl)
theorem ent_laws_toValue : Enters' Try.prog 106 := enters' Try.func106 (by kernel_rfl)
attribute [irreducible] laws_toValue

/-! ### laws_toValueS: function 65 -/
def a_laws_toValueS : Ann := ⟨[(0, [.val 0 T50, .val 3 O24, .val 4 T3], ⟨[.val 3 O24], true⟩)], []⟩
noncomputable def d_laws_toValueS : List (Nat × Con) := [(106, c_laws_toValue)]
noncomputable def laws_toValueS (k : Nat) (a : (Ty.den T50)) : Option (den1 [O24]) := evFn Γo d_laws_toValueS a_laws_toValueS Try.f65 [.val T50] [O24] k (a, ())
noncomputable def laws_toValueS_l0 (k : Nat) (v0 : (Ty.den T50)) (v3 : (Ty.den O24)) (v4 : (Ty.den T3)) : Option (Items.den [.val 3 O24]) := loopQ (ρ := (den1 [O24])) 0 [.val 0 T50, .val 3 O24, .val 4 T3] [.val 3 O24] (runOf Γo d_laws_toValueS a_laws_toValueS Try.f65 [.val T50] [O24] 0) k (v0, v3, v4)
theorem laws_toValueS_eq (k : Nat) (a : (Ty.den T50)) : laws_toValueS k a = br ((↑(List.length a) : Int) == (↑(List.length a) : Int)) (br (decide (0 ≤ (↑(List.length a) : Int))) (br (decide ((↑(List.length a) : Int) ≤ (↑capN : Int))) (bnd (laws_toValueS_l0 k a (List.replicate (↑(List.length a) : Int).toNat (T3.pair (T3.pair (T3.pair (T9.pair Ty.unit)))).zero) 0) (fun y1 => some y1)) (none)) (none)) (none) := by kernel_rfl
theorem laws_toValueS_l0_zero (v0 : (Ty.den T50)) (v3 : (Ty.den O24)) (v4 : (Ty.den T3)) : laws_toValueS_l0 0 v0 v3 v4 = none := by kernel_rfl
theorem laws_toValueS_l0_succ (k : Nat) (v0 : (Ty.den T50)) (v3 : (Ty.den O24)) (v4 : (Ty.den T3)) : laws_toValueS_l0 (k + 1) v0 v3 v4 = br (decide (v4 < (↑(List.length v0) : Int))) (br (decide (0 ≤ v4)) (br (decide (v4 < (↑(List.length v0) : Int))) (bnd (laws_toValue k (List.getD v0 (Int.toNat v4) T159.zero)) (fun y1 => br (decide (0 ≤ v4)) (br (decide (v4 < (↑(List.length v3) : Int))) (laws_toValueS_l0 k v0 (List.set v3 (Int.toNat v4) y1) (IntKind.i64.wrap (v4 + 1))) (none)) (none))) (none)) (none)) (some v3) := by kernel_rfl
noncomputable def c_laws_toValueS : Con := ⟨[.val T50], [O24], fun k x => laws_toValueS k x.1⟩
theorem del_laws_toValueS {w0 : World} (hS : Stops w0) : DelOk Try.prog w0 d_laws_toValueS := .cons (ok_laws_toValue hS) ent_laws_toValue (.nil)
theorem ok_laws_toValueS {w0 : World} (hS : Stops w0) : Keeps Try.prog w0 65 c_laws_toValueS := .gn (gen_sound (A := a_laws_toValueS) tab_oko (del_laws_toValueS hS) (drawso (del_laws_toValueS hS)) Try.func65 (by kernel_rfl) (fun k x => by kernel_rfl) (by kernel_rfl)) (by kernel_rfl)
theorem ent_laws_toValueS : Enters' Try.prog 65 := enters' Try.func65 (by kernel_rfl)
attribute [irreducible] laws_toValueS laws_toValueS_l0

/-! ### laws_toRow: function 27 -/
def a_laws_toRow : Ann := ⟨[], []⟩
noncomputable def d_laws_toRow : List (Nat × Con) := [(65, c_laws_toValueS)]
noncomputable def laws_toRow (k : Nat) (a : (Ty.den T52)) : Option (den1 [O54]) := evFn Γo d_laws_toRow a_laws_toRow Try.f27 [.val T52] [O54] k (a, ())
theorem laws_toRow_eq (k : Nat) (a : (Ty.den T52)) : laws_toRow k a = bnd (laws_toValueS k a.1) (fun y1 => some (y1, ())) := by kernel_rfl
noncomputable def c_laws_toRow : Con := ⟨[.val T52], [O54], fun k x => laws_toRow k x.1⟩
theorem del_laws_toRow {w0 : World} (hS : Stops w0) : DelOk Try.prog w0 d_laws_toRow := .cons (ok_laws_toValueS hS) ent_laws_toValueS (.nil)
theorem ok_laws_toRow {w0 : World} (hS : Stops w0) : Keeps Try.prog w0 27 c_laws_toRow := .gn (gen_sound (A := a_laws_toRow) tab_oko (del_laws_toRow hS) (drawso (del_laws_toRow hS)) Try.func27 (by kernel_rfl) (fun k x => by kernel_rfl) (by kernel_rfl)) (by kernel_rfl)
theorem ent_laws_toRow : Enters' Try.prog 27 := enters' Try.func27 (by kernel_rfl)
attribute [irreducible] laws_toRow

/-! ### laws_toRowS: function 7 -/
def a_laws_toRowS : Ann := ⟨[(0, [.val 0 T22, .val 3 O30, .val 4 T3], ⟨[.val 3 O30], true⟩)], []⟩
noncomputable def d_laws_toRowS : List (Nat × Con) := [(27, c_laws_toRow)]
noncomputable def laws_toRowS (k : Nat) (a : (Ty.den T22)) : Option (den1 [O30]) := evFn Γo d_laws_toRowS a_laws_toRowS Try.f7 [.val T22] [O30] k (a, ())
noncomputable def laws_toRowS_l0 (k : Nat) (v0 : (Ty.den T22)) (v3 : (Ty.den O30)) (v4 : (Ty.den T3)) : Option (Items.den [.val 3 O30]) := loopQ (ρ := (den1 [O30])) 0 [.val 0 T22, .val 3 O30, .val 4 T3] [.val 3 O30] (runOf Γo d_laws_toRowS a_laws_toRowS Try.f7 [.val T22] [O30] 0) k (v0, v3, v4)
theorem laws_toRowS_eq (k : Nat) (a : (Ty.den T22)) : laws_toRowS k a = br ((↑(List.length a) : Int) == (↑(List.length a) : Int)) (br (decide (0 ≤ (↑(List.length a) : Int))) (br (decide ((↑(List.length a) : Int) ≤ (↑capN : Int))) (bnd (laws_toRowS_l0 k a (List.replicate (↑(List.length a) : Int).toNat (O24.pair Ty.unit).zero) 0) (fun y1 => some y1)) (none)) (none)) (none) := by kernel_rfl
theorem laws_toRowS_l0_zero (v0 : (Ty.den T22)) (v3 : (Ty.den O30)) (v4 : (Ty.den T3)) : laws_toRowS_l0 0 v0 v3 v4 = none := by kernel_rfl
theorem laws_toRowS_l0_succ (k : Nat) (v0 : (Ty.den T22)) (v3 : (Ty.den O30)) (v4 : (Ty.den T3)) : laws_toRowS_l0 (k + 1) v0 v3 v4 = br (decide (v4 < (↑(List.length v0) : Int))) (br (decide (0 ≤ v4)) (br (decide (v4 < (↑(List.length v0) : Int))) (bnd (laws_toRow k ((List.getD v0 (Int.toNat v4) T52.zero).1, ())) (fun y1 => br (decide (0 ≤ v4)) (br (decide (v4 < (↑(List.length v3) : Int))) (laws_toRowS_l0 k v0 (List.set v3 (Int.toNat v4) (y1.1, ())) (IntKind.i64.wrap (v4 + 1))) (none)) (none))) (none)) (none)) (some v3) := by kernel_rfl
noncomputable def c_laws_toRowS : Con := ⟨[.val T22], [O30], fun k x => laws_toRowS k x.1⟩
theorem del_laws_toRowS {w0 : World} (hS : Stops w0) : DelOk Try.prog w0 d_laws_toRowS := .cons (ok_laws_toRow hS) ent_laws_toRow (.nil)
theorem ok_laws_toRowS {w0 : World} (hS : Stops w0) : Keeps Try.prog w0 7 c_laws_toRowS := .gn (gen_sound (A := a_laws_toRowS) tab_oko (del_laws_toRowS hS) (drawso (del_laws_toRowS hS)) Try.func7 (by kernel_rfl) (fun k x => by kernel_rfl) (by kernel_rfl)) (by kernel_rfl)
theorem ent_laws_toRowS : Enters' Try.prog 7 := enters' Try.func7 (by kernel_rfl)
attribute [irreducible] laws_toRowS laws_toRowS_l0

/-! ### impl_kWithin: function 28 -/
def a_impl_kWithin : Ann := ⟨[], []⟩
noncomputable def d_impl_kWithin : List (Nat × Con) := []
noncomputable def impl_kWithin (k : Nat) (a : (Ty.den T3)) (b : (Ty.den T3)) (c : (Ty.den T3)) : Option (den1 [T4]) := evFn Γ d_impl_kWithin a_impl_kWithin Try.f28 [.val T3, .val T3, .val T3] [T4] k (a, b, c, ())
theorem impl_kWithin_eq (k : Nat) (a : (Ty.den T3)) (b : (Ty.den T3)) (c : (Ty.den T3)) : impl_kWithin k a b c = br (decide (a ≥ b)) (some (decide (a ≤ c))) (some false) := by kernel_rfl
noncomputable def c_impl_kWithin : Con := ⟨[.val T3, .val T3, .val T3], [T4], fun k x => impl_kWithin k x.1 x.2.1 x.2.2.1⟩
theorem del_impl_kWithin {w0 : World} (hS : Stops w0) : DelOk Try.prog w0 d_impl_kWithin := .nil
theorem ok_impl_kWithin {w0 : World} (hS : Stops w0) : Keeps Try.prog w0 28 c_impl_kWithin := .con (fn_sound (A := a_impl_kWithin) tab_ok (del_impl_kWithin hS) (draws (del_impl_kWithin hS)) Try.func28 (by kernel_rfl) (fun k x => by kernel_rfl) (by kernel_rfl)) (by kernel_rfl)
theorem ent_impl_kWithin : Enters' Try.prog 28 := enters' Try.func28 (by kernel_rfl)
attribute [irreducible] impl_kWithin

/-! ### impl_printable: function 66 -/
def a_impl_printable : Ann := ⟨[(0, [.val 0 T9, .val 3 T3], ⟨[], false⟩)], []⟩
noncomputable def d_impl_printable : List (Nat × Con) := []
noncomputable def impl_printable (k : Nat) (a : (Ty.den T9)) : Option (den1 [T4]) := evFn Γ d_impl_printable a_impl_printable Try.f66 [.val T9] [T4] k (a, ())
noncomputable def impl_printable_l0 (k : Nat) (v0 : (Ty.den T9)) (v3 : (Ty.den T3)) : Option ((Items.den []) ⊕ (den1 [T4])) := loopR (ρ := (den1 [T4])) 0 [.val 0 T9, .val 3 T3] [] (runOf Γ d_impl_printable a_impl_printable Try.f66 [.val T9] [T4] 0) k (v0, v3)
theorem impl_printable_eq (k : Nat) (a : (Ty.den T9)) : impl_printable k a = bnd (impl_printable_l0 k a 0) (fun y1 => onSum y1 (fun y2 => some true) (fun y2 => some y2)) := by kernel_rfl
theorem impl_printable_l0_zero (v0 : (Ty.den T9)) (v3 : (Ty.den T3)) : impl_printable_l0 0 v0 v3 = none := by kernel_rfl
theorem impl_printable_l0_succ (k : Nat) (v0 : (Ty.den T9)) (v3 : (Ty.den T3)) : impl_printable_l0 (k + 1) v0 v3 = br (decide (v3 < (↑(List.length v0) : Int))) (br (decide (0 ≤ v3)) (br (decide (v3 < (↑(List.length v0) : Int))) (br (decide ((↑(List.getD v0 (Int.toNat v3) 0).toNat : Int) < 32)) (some (Sum.inr false)) (br (decide (0 ≤ v3)) (br (decide (v3 < (↑(List.length v0) : Int))) (br (decide ((↑(List.getD v0 (Int.toNat v3) 0).toNat : Int) > 126)) (some (Sum.inr false)) (impl_printable_l0 k v0 (IntKind.i64.wrap (v3 + 1)))) (none)) (none))) (none)) (none)) (some (Sum.inl ())) := by kernel_rfl
noncomputable def c_impl_printable : Con := ⟨[.val T9], [T4], fun k x => impl_printable k x.1⟩
theorem del_impl_printable {w0 : World} (hS : Stops w0) : DelOk Try.prog w0 d_impl_printable := .nil
theorem ok_impl_printable {w0 : World} (hS : Stops w0) : Keeps Try.prog w0 66 c_impl_printable := .con (fn_sound (A := a_impl_printable) tab_ok (del_impl_printable hS) (draws (del_impl_printable hS)) Try.func66 (by kernel_rfl) (fun k x => by kernel_rfl) (by kernel_rfl)) (by kernel_rfl)
theorem ent_impl_printable : Enters' Try.prog 66 := enters' Try.func66 (by kernel_rfl)
attribute [irreducible] impl_printable impl_printable_l0

/-! ### impl_ValueOK: function 29 -/
def a_impl_ValueOK : Ann := ⟨[], []⟩
noncomputable def d_impl_ValueOK : List (Nat × Con) := [(66, c_impl_printable)]
noncomputable def impl_ValueOK (k : Nat) (a : (Ty.den T57)) : Option (den1 [T4]) := evFn Γ d_impl_ValueOK a_impl_ValueOK Try.f29 [.val T57] [T4] k (a, ())
theorem impl_ValueOK_eq (k : Nat) (a : (Ty.den T57)) : impl_ValueOK k a = br (a.1 == 0) (some (andB (eqI a.1 a.1) (andB (eqI a.2.1 0) (andB (eqI a.2.2.1 0) (andB (eqS a.2.2.2.1 []) true))))) (br (a.1 == 1) (br (decide (a.2.1 < 0)) (some false) (br (decide (a.2.1 > 1)) (some false) (some (andB (eqI a.1 a.1) (andB (eqI 0 0) (andB (eqI a.2.2.1 0) (andB (eqS a.2.2.2.1 []) true))))))) (br (a.1 == 2) (br (decide (a.2.1 < -1000000000000000)) (some false) (br (decide (a.2.1 > 1000000000000000)) (some false) (some (andB (eqI a.1 a.1) (andB (eqI 0 0) (andB (eqI a.2.2.1 0) (andB (eqS a.2.2.2.1 []) true))))))) (br (a.1 == 3) (br (decide (a.2.1 < -1000000000)) (some false) (br (decide (a.2.1 > 1000000000)) (some false) (br (decide (a.2.2.1 < 0)) (some false) (br (decide (a.2.2.1 > 6)) (some false) (br (decide (a.2.2.1 > 0)) (br (!10 == 0) (br (Int.tmod a.2.1 10 == 0) (some false) (some (andB (eqI a.1 a.1) (andB (eqI 0 0) (andB (eqI 0 0) (andB (eqS a.2.2.2.1 []) true)))))) (none)) (some (andB (eqI a.1 a.1) (andB (eqI 0 0) (andB (eqI 0 0) (andB (eqS a.2.2.2.1 []) true)))))))))) (br (a.1 == 4) (br (decide ((↑(List.length a.2.2.2.1) : Int) > 200)) (some false) (bnd (impl_printable k a.2.2.2.1) (fun y1 => br (!y1) (some false) (some (andB (eqI a.1 a.1) (andB (eqI a.2.1 0) (andB (eqI a.2.2.1 0) (andB (eqS [] []) true)))))))) (br (a.1 == 5) (br (decide (a.2.1 < 0)) (some false) (br (decide (a.2.1 > 3652058)) (some false) (some (andB (eqI a.1 a.1) (andB (eqI 0 0) (andB (eqI a.2.2.1 0) (andB (eqS a.2.2.2.1 []) true))))))) (some false)))))) := by kernel_rfl
noncomputable def c_impl_ValueOK : Con := ⟨[.val T57], [T4], fun k x => impl_ValueOK k x.1⟩
theorem del_impl_ValueOK {w0 : World} (hS : Stops w0) : DelOk Try.prog w0 d_impl_ValueOK := .cons (ok_impl_printable hS) ent_impl_printable (.nil)
theorem ok_impl_ValueOK {w0 : World} (hS : Stops w0) : Keeps Try.prog w0 29 c_impl_ValueOK := .con (fn_sound (A := a_impl_ValueOK) tab_ok (del_impl_ValueOK hS) (draws (del_impl_ValueOK hS)) Try.func29 (by kernel_rfl) (fun k x => by kernel_rfl) (by kernel_rfl)) (by kernel_rfl)
theorem ent_impl_ValueOK : Enters' Try.prog 29 := enters' Try.func29 (by kernel_rfl)
attribute [irreducible] impl_ValueOK

/-! ### impl_CollOK: function 67 -/
def a_impl_CollOK : Ann := ⟨[], []⟩
noncomputable def d_impl_CollOK : List (Nat × Con) := [(66, c_impl_printable)]
noncomputable def impl_CollOK (k : Nat) (a : (Ty.den T61)) : Option (den1 [T4]) := evFn Γ d_impl_CollOK a_impl_CollOK Try.f67 [.val T61] [T4] k (a, ())
theorem impl_CollOK_eq (k : Nat) (a : (Ty.den T61)) : impl_CollOK k a = br (a.1 == []) (some true) (br ((↑(List.length a.1) : Int) == 95) (bnd (impl_printable k a.1) (fun y1 => some y1)) (some false)) := by kernel_rfl
noncomputable def c_impl_CollOK : Con := ⟨[.val T61], [T4], fun k x => impl_CollOK k x.1⟩
theorem del_impl_CollOK {w0 : World} (hS : Stops w0) : DelOk Try.prog w0 d_impl_CollOK := .cons (ok_impl_printable hS) ent_impl_printable (.nil)
theorem ok_impl_CollOK {w0 : World} (hS : Stops w0) : Keeps Try.prog w0 67 c_impl_CollOK := .con (fn_sound (A := a_impl_CollOK) tab_ok (del_impl_CollOK hS) (draws (del_impl_CollOK hS)) Try.func67 (by kernel_rfl) (fun k x => by kernel_rfl) (by kernel_rfl)) (by kernel_rfl)
theorem ent_impl_CollOK : Enters' Try.prog 67 := enters' Try.func67 (by kernel_rfl)
attribute [irreducible] impl_CollOK

/-! ### impl_cmpInt: function 68 -/
def a_impl_cmpInt : Ann := ⟨[], []⟩
noncomputable def d_impl_cmpInt : List (Nat × Con) := []
noncomputable def impl_cmpInt (k : Nat) (a : (Ty.den T3)) (b : (Ty.den T3)) : Option (den1 [T3]) := evFn Γ d_impl_cmpInt a_impl_cmpInt Try.f68 [.val T3, .val T3] [T3] k (a, b, ())
theorem impl_cmpInt_eq (k : Nat) (a : (Ty.den T3)) (b : (Ty.den T3)) : impl_cmpInt k a b = br (decide (a < b)) (some (-1)) (br (decide (a > b)) (some 1) (some 0)) := by kernel_rfl
noncomputable def c_impl_cmpInt : Con := ⟨[.val T3, .val T3], [T3], fun k x => impl_cmpInt k x.1 x.2.1⟩
theorem del_impl_cmpInt {w0 : World} (hS : Stops w0) : DelOk Try.prog w0 d_impl_cmpInt := .nil
theorem ok_impl_cmpInt {w0 : World} (hS : Stops w0) : Keeps Try.prog w0 68 c_impl_cmpInt := .con (fn_sound (A := a_impl_cmpInt) tab_ok (del_impl_cmpInt hS) (draws (del_impl_cmpInt hS)) Try.func68 (by kernel_rfl) (fun k x => by kernel_rfl) (by kernel_rfl)) (by kernel_rfl)
theorem ent_impl_cmpInt : Enters' Try.prog 68 := enters' Try.func68 (by kernel_rfl)
attribute [irreducible] impl_cmpInt

/-! ### impl_isNum: function 69 -/
def a_impl_isNum : Ann := ⟨[], []⟩
noncomputable def d_impl_isNum : List (Nat × Con) := []
noncomputable def impl_isNum (k : Nat) (a : (Ty.den T57)) : Option (den1 [T4]) := evFn Γ d_impl_isNum a_impl_isNum Try.f69 [.val T57] [T4] k (a, ())
theorem impl_isNum_eq (k : Nat) (a : (Ty.den T57)) : impl_isNum k a = br (a.1 == 2) (some true) (some (a.1 == 3)) := by kernel_rfl
noncomputable def c_impl_isNum : Con := ⟨[.val T57], [T4], fun k x => impl_isNum k x.1⟩
theorem del_impl_isNum {w0 : World} (hS : Stops w0) : DelOk Try.prog w0 d_impl_isNum := .nil
theorem ok_impl_isNum {w0 : World} (hS : Stops w0) : Keeps Try.prog w0 69 c_impl_isNum := .con (fn_sound (A := a_impl_isNum) tab_ok (del_impl_isNum hS) (draws (del_impl_isNum hS)) Try.func69 (by kernel_rfl) (fun k x => by kernel_rfl) (by kernel_rfl)) (by kernel_rfl)
theorem ent_impl_isNum : Enters' Try.prog 69 := enters' Try.func69 (by kernel_rfl)
attribute [irreducible] impl_isNum

/-! ### impl_p10: function 107 -/
def a_impl_p10 : Ann := ⟨[(0, [.val 0 T3, .val 3 T3], ⟨[.val 3 T3], true⟩)], []⟩
noncomputable def d_impl_p10 : List (Nat × Con) := []
noncomputable def impl_p10 (k : Nat) (a : (Ty.den T3)) : Option (den1 [T3]) := evFn Γ d_impl_p10 a_impl_p10 Try.f107 [.val T3] [T3] k (a, ())
noncomputable def impl_p10_l0 (k : Nat) (v0 : (Ty.den T3)) (v3 : (Ty.den T3)) : Option (Items.den [.val 3 T3]) := loopQ (ρ := (den1 [T3])) 0 [.val 0 T3, .val 3 T3] [.val 3 T3] (runOf Γ d_impl_p10 a_impl_p10 Try.f107 [.val T3] [T3] 0) k (v0, v3)
theorem impl_p10_eq (k : Nat) (a : (Ty.den T3)) : impl_p10 k a = bnd (impl_p10_l0 k a 1) (fun y1 => some y1) := by kernel_rfl
theorem impl_p10_l0_zero (v0 : (Ty.den T3)) (v3 : (Ty.den T3)) : impl_p10_l0 0 v0 v3 = none := by kernel_rfl
theorem impl_p10_l0_succ (k : Nat) (v0 : (Ty.den T3)) (v3 : (Ty.den T3)) : impl_p10_l0 (k + 1) v0 v3 = br (decide (v0 > 0)) (impl_p10_l0 k (IntKind.i64.wrap (v0 - 1)) (IntKind.i64.wrap (v3 * 10))) (some v3) := by kernel_rfl
noncomputable def c_impl_p10 : Con := ⟨[.val T3], [T3], fun k x => impl_p10 k x.1⟩
theorem del_impl_p10 {w0 : World} (hS : Stops w0) : DelOk Try.prog w0 d_impl_p10 := .nil
theorem ok_impl_p10 {w0 : World} (hS : Stops w0) : Keeps Try.prog w0 107 c_impl_p10 := .con (fn_sound (A := a_impl_p10) tab_ok (del_impl_p10 hS) (draws (del_impl_p10 hS)) Try.func107 (by kernel_rfl) (fun k x => by kernel_rfl) (by kernel_rfl)) (by kernel_rfl)
theorem ent_impl_p10 : Enters' Try.prog 107 := enters' Try.func107 (by kernel_rfl)
attribute [irreducible] impl_p10 impl_p10_l0

/-! ### impl_cmpNum: function 70 -/
def a_impl_cmpNum : Ann := ⟨[], [(3, ⟨[.var 2 T57, .var 3 T57], false⟩), (5, ⟨[.var 2 T57, .var 3 T57], false⟩), (7, ⟨[.var 2 T57, .var 3 T57], false⟩)]⟩
noncomputable def d_impl_cmpNum : List (Nat × Con) := [(68, c_impl_cmpInt), (107, c_impl_p10)]
noncomputable def impl_cmpNum (k : Nat) (a : (Ty.den T57)) (b : (Ty.den T57)) : Option (den1 [T3]) := evFn Γ d_impl_cmpNum a_impl_cmpNum Try.f70 [.val T57, .val T57] [T3] k (a, b, ())
theorem impl_cmpNum_eq (k : Nat) (a : (Ty.den T57)) (b : (Ty.den T57)) : impl_cmpNum k a b = bnd (br (a.1 == 2) (br (b.1 == 2) (bnd (impl_cmpInt k a.2.1 b.2.1) (fun y1 => some (Sum.inr y1))) (some (Sum.inl (a, b.1, b.2.1, b.2.2.1, b.2.2.2.1, ())))) (some (Sum.inl (a, b.1, b.2.1, b.2.2.1, b.2.2.2.1, ())))) (fun y1 => onSum y1 (fun y2 => bnd (br (y2.1.1 == 2) (br (decide (y2.1.2.1 > 1000000000)) (some (Sum.inr 1)) (br (y2.2.1 == 2) (br (decide (y2.2.2.1 < -1000000000)) (some (Sum.inr 1)) (some (Sum.inl y2))) (some (Sum.inl y2)))) (br (y2.2.1 == 2) (br (decide (y2.2.2.1 < -1000000000)) (some (Sum.inr 1)) (some (Sum.inl y2))) (some (Sum.inl y2)))) (fun y3 => onSum y3 (fun y4 => bnd (br (y4.1.1 == 2) (br (decide (y4.1.2.1 < -1000000000)) (some (Sum.inr (-1))) (br (y4.2.1 == 2) (br (decide (y4.2.2.1 > 1000000000)) (some (Sum.inr (-1))) (some (Sum.inl y4))) (some (Sum.inl y4)))) (br (y4.2.1 == 2) (br (decide (y4.2.2.1 > 1000000000)) (some (Sum.inr (-1))) (some (Sum.inl y4))) (some (Sum.inl y4)))) (fun y5 => onSum y5 (fun y6 => bnd (impl_p10 k (IntKind.i64.wrap (6 - y6.1.2.2.1))) (fun y7 => bnd (impl_p10 k (IntKind.i64.wrap (6 - y6.2.2.2.1))) (fun y8 => bnd (impl_cmpInt k (IntKind.i64.wrap (y6.1.2.1 * y7)) (IntKind.i64.wrap (y6.2.2.1 * y8))) (fun y9 => some y9)))) (fun y6 => some y6))) (fun y4 => some y4))) (fun y2 => some y2)) := by kernel_rfl
noncomputable def c_impl_cmpNum : Con := ⟨[.val T57, .val T57], [T3], fun k x => impl_cmpNum k x.1 x.2.1⟩
theorem del_impl_cmpNum {w0 : World} (hS : Stops w0) : DelOk Try.prog w0 d_impl_cmpNum := .cons (ok_impl_cmpInt hS) ent_impl_cmpInt (.cons (ok_impl_p10 hS) ent_impl_p10 (.nil))
theorem ok_impl_cmpNum {w0 : World} (hS : Stops w0) : Keeps Try.prog w0 70 c_impl_cmpNum := .con (fn_sound (A := a_impl_cmpNum) tab_ok (del_impl_cmpNum hS) (draws (del_impl_cmpNum hS)) Try.func70 (by kernel_rfl) (fun k x => by kernel_rfl) (by kernel_rfl)) (by kernel_rfl)
theorem ent_impl_cmpNum : Enters' Try.prog 70 := enters' Try.func70 (by kernel_rfl)
attribute [irreducible] impl_cmpNum

/-! ### impl_weighed: function 72 -/
def a_impl_weighed : Ann := ⟨[(0, [.val 1 T9, .var 2 T61, .val 5 T157, .val 6 T3], ⟨[.val 5 T157], true⟩)], []⟩
noncomputable def d_impl_weighed : List (Nat × Con) := []
noncomputable def impl_weighed (k : Nat) (a : (Ty.den T61)) (b : (Ty.den T9)) : Option (den1 [T9]) := evFn Γ d_impl_weighed a_impl_weighed Try.f72 [.val T61, .val T9] [T9] k (a, b, ())
noncomputable def impl_weighed_l0 (k : Nat) (v1 : (Ty.den T9)) (v2 : (Ty.den T61)) (v5 : (Ty.den T157)) (v6 : (Ty.den T3)) : Option (Items.den [.val 5 T157]) := loopQ (ρ := (den1 [T9])) 0 [.val 1 T9, .var 2 T61, .val 5 T157, .val 6 T3] [.val 5 T157] (runOf Γ d_impl_weighed a_impl_weighed Try.f72 [.val T61, .val T9] [T9] 0) k (v1, v2, v5, v6)
theorem impl_weighed_eq (k : Nat) (a : (Ty.den T61)) (b : (Ty.den T9)) : impl_weighed k a b = br (a.1 == []) (some b) (bnd (impl_weighed_l0 k b (a.1, ()) [] 0) (fun y1 => some (List.map (fun n => UInt8.ofNat n.toNat) y1))) := by kernel_rfl
theorem impl_weighed_l0_zero (v1 : (Ty.den T9)) (v2 : (Ty.den T61)) (v5 : (Ty.den T157)) (v6 : (Ty.den T3)) : impl_weighed_l0 0 v1 v2 v5 v6 = none := by kernel_rfl
theorem impl_weighed_l0_succ (k : Nat) (v1 : (Ty.den T9)) (v2 : (Ty.den T61)) (v5 : (Ty.den T157)) (v6 : (Ty.den T3)) : impl_weighed_l0 (k + 1) v1 v2 v5 v6 = br (decide (v6 < (↑(List.length v1) : Int))) (br (decide (0 ≤ v6)) (br (decide (v6 < (↑(List.length v1) : Int))) (br (decide (0 ≤ IntKind.u8.wrap ((↑(List.getD v1 (Int.toNat v6) 0).toNat : Int) - 32))) (br (decide (IntKind.u8.wrap ((↑(List.getD v1 (Int.toNat v6) 0).toNat : Int) - 32) < (↑(List.length v2.1) : Int))) (br ((↑(List.getD v2.1 (IntKind.u8.wrap ((↑(List.getD v1 (Int.toNat v6) 0).toNat : Int) - 32)).toNat 0).toNat : Int) != 32) (none) (impl_weighed_l0 k v1 (v2.1, ()) v5 (IntKind.i64.wrap (v6 + 1)))) (none)) (none)) (none)) (none)) (some v5) := by kernel_rfl
noncomputable def c_impl_weighed : Con := ⟨[.val T61, .val T9], [T9], fun k x => impl_weighed k x.1 x.2.1⟩
theorem del_impl_weighed {w0 : World} (hS : Stops w0) : DelOk Try.prog w0 d_impl_weighed := .nil
theorem ok_impl_weighed {w0 : World} (hS : Stops w0) : Keeps Try.prog w0 72 c_impl_weighed := .con (fn_sound (A := a_impl_weighed) tab_ok (del_impl_weighed hS) (draws (del_impl_weighed hS)) Try.func72 (by kernel_rfl) (fun k x => by kernel_rfl) (by kernel_rfl)) (by kernel_rfl)
theorem ent_impl_weighed : Enters' Try.prog 72 := enters' Try.func72 (by kernel_rfl)
attribute [irreducible] impl_weighed impl_weighed_l0

/-! ### impl_Compare: function 30 -/
def a_impl_Compare : Ann := ⟨[], []⟩
noncomputable def d_impl_Compare : List (Nat × Con) := [(29, c_impl_ValueOK), (67, c_impl_CollOK), (68, c_impl_cmpInt), (69, c_impl_isNum), (70, c_impl_cmpNum), (71, c_strings_Compare), (72, c_impl_weighed)]
noncomputable def impl_Compare (k : Nat) (a : (Ty.den T61)) (b : (Ty.den T57)) (c : (Ty.den T57)) : Option (den1 [T3, T3]) := evFn Γ d_impl_Compare a_impl_Compare Try.f30 [.val T61, .val T57, .val T57] [T3, T3] k (a, b, c, ())
theorem impl_Compare_eq (k : Nat) (a : (Ty.den T61)) (b : (Ty.den T57)) (c : (Ty.den T57)) : impl_Compare k a b c = bnd (impl_CollOK k (a.1, ())) (fun y1 => br (!y1) (some (0, 1)) (bnd (impl_ValueOK k b) (fun y2 => br (!y2) (some (0, 1)) (bnd (impl_ValueOK k c) (fun y3 => br (!y3) (some (0, 1)) (br (b.1 == 0) (bnd (impl_cmpInt k (min b.1 1) (min c.1 1)) (fun y4 => some (y4, 0))) (br (c.1 == 0) (bnd (impl_cmpInt k (min b.1 1) (min c.1 1)) (fun y4 => some (y4, 0))) (bnd (impl_isNum k b) (fun y4 => br (y4) (bnd (impl_isNum k c) (fun y5 => br (y5) (bnd (impl_cmpNum k b c) (fun y6 => some (y6, 0))) (br (b.1 != c.1) (some (0, 2)) (br (b.1 == 4) (bnd (impl_weighed k (a.1, ()) b.2.2.2.1) (fun y6 => bnd (impl_weighed k (a.1, ()) c.2.2.2.1) (fun y7 => bnd (strings_Compare k y6 y7) (fun y8 => some (y8, 0))))) (bnd (impl_cmpInt k b.2.1 c.2.1) (fun y6 => some (y6, 0))))))) (br (b.1 != c.1) (some (0, 2)) (br (b.1 == 4) (bnd (impl_weighed k (a.1, ()) b.2.2.2.1) (fun y5 => bnd (impl_weighed k (a.1, ()) c.2.2.2.1) (fun y6 => bnd (strings_Compare k y5 y6) (fun y7 => some (y7, 0))))) (bnd (impl_cmpInt k b.2.1 c.2.1) (fun y5 => some (y5, 0)))))))))))))) := by kernel_rfl
noncomputable def c_impl_Compare : Con := ⟨[.val T61, .val T57, .val T57], [T3, T3], fun k x => impl_Compare k x.1 x.2.1 x.2.2.1⟩
theorem del_impl_Compare {w0 : World} (hS : Stops w0) : DelOk Try.prog w0 d_impl_Compare := .cons (ok_impl_ValueOK hS) ent_impl_ValueOK (.cons (ok_impl_CollOK hS) ent_impl_CollOK (.cons (ok_impl_cmpInt hS) ent_impl_cmpInt (.cons (ok_impl_isNum hS) ent_impl_isNum (.cons (ok_impl_cmpNum hS) ent_impl_cmpNum (.cons (hS.strings_Compare.1) hS.strings_Compare.2 (.cons (ok_impl_weighed hS) ent_impl_weighed (.nil)))))))
theorem ok_impl_Compare {w0 : World} (hS : Stops w0) : Keeps Try.prog w0 30 c_impl_Compare := .con (fn_sound (A := a_impl_Compare) tab_ok (del_impl_Compare hS) (draws (del_impl_Compare hS)) Try.func30 (by kernel_rfl) (fun k x => by kernel_rfl) (by kernel_rfl)) (by kernel_rfl)
theorem ent_impl_Compare : Enters' Try.prog 30 := enters' Try.func30 (by kernel_rfl)
attribute [irreducible] impl_Compare

/-! ### impl_kFail: function 77 -/
def a_impl_kFail : Ann := ⟨[], []⟩
noncomputable def d_impl_kFail : List (Nat × Con) := []
noncomputable def impl_kFail (k : Nat) (a : (Ty.den T3)) : Option (den1 []) := evFn Γ d_impl_kFail a_impl_kFail Try.f77 [.val T3] [] k (a, ())
theorem impl_kFail_eq (k : Nat) (a : (Ty.den T3)) : impl_kFail k a = none := by kernel_rfl
noncomputable def c_impl_kFail : Con := ⟨[.val T3], [], fun k x => impl_kFail k x.1⟩
theorem del_impl_kFail {w0 : World} (hS : Stops w0) : DelOk Try.prog w0 d_impl_kFail := .nil
theorem ok_impl_kFail {w0 : World} (hS : Stops w0) : Keeps Try.prog w0 77 c_impl_kFail := .con (fn_sound (A := a_impl_kFail) tab_ok (del_impl_kFail hS) (draws (del_impl_kFail hS)) Try.func77 (by kernel_rfl) (fun k x => by kernel_rfl) (by kernel_rfl)) (by kernel_rfl)
theorem ent_impl_kFail : Enters' Try.prog 77 := enters' Try.func77 (by kernel_rfl)
attribute [irreducible] impl_kFail

/-! ### impl_kCompare: function 33 -/
def a_impl_kCompare : Ann := ⟨[], []⟩
noncomputable def d_impl_kCompare : List (Nat × Con) := [(30, c_impl_Compare), (77, c_impl_kFail)]
noncomputable def impl_kCompare (k : Nat) (a : (Ty.den T57)) (b : (Ty.den T57)) : Option (den1 [T3]) := evFn Γ d_impl_kCompare a_impl_kCompare Try.f33 [.val T57, .val T57] [T3] k (a, b, ())
theorem impl_kCompare_eq (k : Nat) (a : (Ty.den T57)) (b : (Ty.den T57)) : impl_kCompare k a b = bnd (impl_Compare k ([], ()) a b) (fun y1 => br (y1.2 != 0) (bnd (impl_kFail k y1.2) (fun y2 => some y1.1)) (some y1.1)) := by kernel_rfl
noncomputable def c_impl_kCompare : Con := ⟨[.val T57, .val T57], [T3], fun k x => impl_kCompare k x.1 x.2.1⟩
theorem del_impl_kCompare {w0 : World} (hS : Stops w0) : DelOk Try.prog w0 d_impl_kCompare := .cons (ok_impl_Compare hS) ent_impl_Compare (.cons (ok_impl_kFail hS) ent_impl_kFail (.nil))
theorem ok_impl_kCompare {w0 : World} (hS : Stops w0) : Keeps Try.prog w0 33 c_impl_kCompare := .con (fn_sound (A := a_impl_kCompare) tab_ok (del_impl_kCompare hS) (draws (del_impl_kCompare hS)) Try.func33 (by kernel_rfl) (fun k x => by kernel_rfl) (by kernel_rfl)) (by kernel_rfl)
theorem ent_impl_kCompare : Enters' Try.prog 33 := enters' Try.func33 (by kernel_rfl)
attribute [irreducible] impl_kCompare

/-! ### impl_Analyze_1: function 32 -/
def a_impl_Analyze_1 : Ann := ⟨[], []⟩
noncomputable def d_impl_Analyze_1 : List (Nat × Con) := [(33, c_impl_kCompare)]
noncomputable def impl_Analyze_1 (k : Nat) (a : (Ty.den T3)) (b : (Ty.den T3)) (c : (Ty.den T24)) : Option (den1 [T4]) := evFn Γ d_impl_Analyze_1 a_impl_Analyze_1 Try.f32 [.val T3, .val T3, .ptr T24] [T4] k (a, b, c, ())
theorem impl_Analyze_1_eq (k : Nat) (a : (Ty.den T3)) (b : (Ty.den T3)) (c : (Ty.den T24)) : impl_Analyze_1 k a b c = br (decide (0 ≤ a)) (br (decide (a < (↑(List.length c) : Int))) (br (decide (0 ≤ b)) (br (decide (b < (↑(List.length c) : Int))) (bnd (impl_kCompare k (List.getD c (Int.toNat a) T57.zero) (List.getD c (Int.toNat b) T57.zero)) (fun y1 => some (decide (y1 < 0)))) (none)) (none)) (none)) (none) := by kernel_rfl
noncomputable def c_impl_Analyze_1 : Con := ⟨[.val T3, .val T3, .ptr T24], [T4], fun k x => impl_Analyze_1 k x.1 x.2.1 x.2.2.1⟩
theorem del_impl_Analyze_1 {w0 : World} (hS : Stops w0) : DelOk Try.prog w0 d_impl_Analyze_1 := .cons (ok_impl_kCompare hS) ent_impl_kCompare (.nil)
theorem ok_impl_Analyze_1 {w0 : World} (hS : Stops w0) : Keeps Try.prog w0 32 c_impl_Analyze_1 := .con (fn_sound (A := a_impl_Analyze_1) tab_ok (del_impl_Analyze_1 hS) (draws (del_impl_Analyze_1 hS)) Try.func32 (by kernel_rfl) (fun k x => by kernel_rfl) (by kernel_rfl)) (by kernel_rfl)
theorem ent_impl_Analyze_1 : Enters' Try.prog 32 := enters' Try.func32 (by kernel_rfl)
attribute [irreducible] impl_Analyze_1

/-! ### impl_Analyze_2: function 34 -/
def a_impl_Analyze_2 : Ann := ⟨[], []⟩
noncomputable def d_impl_Analyze_2 : List (Nat × Con) := [(33, c_impl_kCompare)]
noncomputable def impl_Analyze_2 (k : Nat) (a : (Ty.den T57)) (b : (Ty.den O27)) : Option (den1 [O27]) := evFn Γo d_impl_Analyze_2 a_impl_Analyze_2 Try.f34 [.val T57, .var O27] [O27] k (a, b, ())
theorem impl_Analyze_2_eq (k : Nat) (a : (Ty.den T57)) (b : (Ty.den O27)) : impl_Analyze_2 k a b = br ((↑(List.length b.2.2.2.1) : Int) == 0) (br (decide (List.length b.2.2.2.1 + [a].length ≤ capN)) (some (b.1, b.2.1, b.2.2.1, b.2.2.2.1 ++ [a], b.2.2.2.2.1, ())) (none)) (br (decide (0 ≤ IntKind.i64.wrap ((↑(List.length b.2.2.2.1) : Int) - 1))) (br (decide (IntKind.i64.wrap ((↑(List.length b.2.2.2.1) : Int) - 1) < (↑(List.length b.2.2.2.1) : Int))) (bnd (impl_kCompare k (List.getD b.2.2.2.1 (IntKind.i64.wrap ((↑(List.length b.2.2.2.1) : Int) - 1)).toNat T57.zero) a) (fun y1 => br (y1 != 0) (br (decide (List.length b.2.2.2.1 + [a].length ≤ capN)) (some (b.1, b.2.1, b.2.2.1, b.2.2.2.1 ++ [a], b.2.2.2.2.1, ())) (none)) (some b))) (none)) (none)) := by kernel_rfl
noncomputable def c_impl_Analyze_2 : Con := ⟨[.val T57, .var O27], [O27], fun k x => impl_Analyze_2 k x.1 x.2.1⟩
theorem del_impl_Analyze_2 {w0 : World} (hS : Stops w0) : DelOk Try.prog w0 d_impl_Analyze_2 := .cons (ok_impl_kCompare hS) ent_impl_kCompare (.nil)
theorem ok_impl_Analyze_2 {w0 : World} (hS : Stops w0) : Keeps Try.prog w0 34 c_impl_Analyze_2 := .gn (gen_sound (A := a_impl_Analyze_2) tab_oko (del_impl_Analyze_2 hS) (drawso (del_impl_Analyze_2 hS)) Try.func34 (by kernel_rfl) (fun k x => by kernel_rfl) (by kernel_rfl)) (by kernel_rfl)
theorem ent_impl_Analyze_2 : Enters' Try.prog 34 := enters' Try.func34 (by kernel_rfl)
attribute [irreducible] impl_Analyze_2

/-! ### impl_Analyze: function 8 -/
def a_impl_Analyze : Ann := ⟨[(0, [.val 0 T30, .val 1 T3, .val 2 T3, .var 6 O27, .var 8 O24, .val 36 T30, .val 37 T3, .val 38 T3], ⟨[.val 0 T30, .val 2 T3, .var 6 O27, .var 8 O24], false⟩), (2, [.val 0 T30, .val 2 T3, .var 6 O27, .var 8 O24, .val 75 T3, .val 76 T3], ⟨[.val 0 T30, .val 2 T3, .var 6 O27, .var 8 O24], false⟩), (4, [.val 2 T3, .var 6 O27, .var 8 O24, .val 112 T3, .val 113 T3], ⟨[.val 2 T3, .var 6 O27, .var 8 O24], true⟩), (6, [.var 6 O27, .var 8 O24, .val 16 T3, .clov 17 34 [6], .val 18 T3], ⟨[.var 6 O27, .var 8 O24, .clov 17 34 [6]], true⟩), (8, [.var 6 O27, .var 8 O24, .val 19 T3, .ali 169 6 3, .val 170 T3, .val 171 T3], ⟨[.var 6 O27], true⟩), (10, [.var 6 O27, .var 8 O24, .val 19 T3, .var 21 T57, .val 22 T3, .ali 169 6 3, .val 170 T3, .val 171 T3], ⟨[.var 6 O27, .var 8 O24, .val 19 T3, .val 22 T3, .ali 169 6 3, .val 170 T3, .val 171 T3], true⟩)], []⟩
noncomputable def d_impl_Analyze : List (Nat × Con) := [(28, c_impl_kWithin), (29, c_impl_ValueOK), (30, c_impl_Compare), (31, c_sort_SliceStable), (32, c_impl_Analyze_1), (33, c_impl_kCompare), (34, c_impl_Analyze_2)]
noncomputable def impl_Analyze (k : Nat) (a : (Ty.den T30)) (b : (Ty.den T3)) (c : (Ty.den T3)) : Option (den1 [O27, T3]) := evFn Γo d_impl_Analyze a_impl_Analyze Try.f8 [.val T30, .val T3, .val T3] [O27, T3] k (a, b, c, ())
noncomputable def impl_Analyze_l0 (k : Nat) (v0 : (Ty.den T30)) (v1 : (Ty.den T3)) (v2 : (Ty.den T3)) (v6 : (Ty.den O27)) (v8 : (Ty.den O24)) (v36 : (Ty.den T30)) (v37 : (Ty.den T3)) (v38 : (Ty.den T3)) : Option ((Items.den [.val 0 T30, .val 2 T3, .var 6 O27, .var 8 O24]) ⊕ (den1 [O27, T3])) := loopR (ρ := (den1 [O27, T3])) 0 [.val 0 T30, .val 1 T3, .val 2 T3, .var 6 O27, .var 8 O24, .val 36 T30, .val 37 T3, .val 38 T3] [.val 0 T30, .val 2 T3, .var 6 O27, .var 8 O24] (runOf Γo d_impl_Analyze a_impl_Analyze Try.f8 [.val T30, .val T3, .val T3] [O27, T3] 0) k (v0, v1, v2, v6, v8, v36, v37, v38)
noncomputable def impl_Analyze_l2 (k : Nat) (v0 : (Ty.den T30)) (v2 : (Ty.den T3)) (v6 : (Ty.den O27)) (v8 : (Ty.den O24)) (v75 : (Ty.den T3)) (v76 : (Ty.den T3)) : Option ((Items.den [.val 0 T30, .val 2 T3, .var 6 O27, .var 8 O24]) ⊕ (den1 [O27, T3])) := loopR (ρ := (den1 [O27, T3])) 2 [.val 0 T30, .val 2 T3, .var 6 O27, .var 8 O24, .val 75 T3, .val 76 T3] [.val 0 T30, .val 2 T3, .var 6 O27, .var 8 O24] (runOf Γo d_impl_Analyze a_impl_Analyze Try.f8 [.val T30, .val T3, .val T3] [O27, T3] 2) k (v0, v2, v6, v8, v75, v76)
noncomputable def impl_Analyze_l4 (k : Nat) (v2 : (Ty.den T3)) (v6 : (Ty.den O27)) (v8 : (Ty.den O24)) (v112 : (Ty.den T3)) (v113 : (Ty.den T3)) : Option (Items.den [.val 2 T3, .var 6 O27, .var 8 O24]) := loopQ (ρ := (den1 [O27, T3])) 4 [.val 2 T3, .var 6 O27, .var 8 O24, .val 112 T3, .val 113 T3] [.val 2 T3, .var 6 O27, .var 8 O24] (runOf Γo d_impl_Analyze a_impl_Analyze Try.f8 [.val T30, .val T3, .val T3] [O27, T3] 4) k (v2, v6, v8, v112, v113)
noncomputable def impl_Analyze_l6 (k : Nat) (v6 : (Ty.den O27)) (v8 : (Ty.den O24)) (v16 : (Ty.den T3)) (v17 : Unit) (v18 : (Ty.den T3)) : Option (Items.den [.var 6 O27, .var 8 O24, .clov 17 34 [6]]) := loopQ (ρ := (den1 [O27, T3])) 6 [.var 6 O27, .var 8 O24, .val 16 T3, .clov 17 34 [6], .val 18 T3] [.var 6 O27, .var 8 O24, .clov 17 34 [6]] (runOf Γo d_impl_Analyze a_impl_Analyze Try.f8 [.val T30, .val T3, .val T3] [O27, T3] 6) k (v6, v8, v16, v17, v18)
noncomputable def impl_Analyze_l8 (k : Nat) (v6 : (Ty.den O27)) (v8 : (Ty.den O24)) (v19 : (Ty.den T3)) (v169 : Unit) (v170 : (Ty.den T3)) (v171 : (Ty.den T3)) : Option (Items.den [.var 6 O27]) := loopQ (ρ := (den1 [O27, T3])) 8 [.var 6 O27, .var 8 O24, .val 19 T3, .ali 169 6 3, .val 170 T3, .val 171 T3] [.var 6 O27] (runOf Γo d_impl_Analyze a_impl_Analyze Try.f8 [.val T30, .val T3, .val T3] [O27, T3] 8) k (v6, v8, v19, v169, v170, v171)
noncomputable def impl_Analyze_l10 (k : Nat) (v6 : (Ty.den O27)) (v8 : (Ty.den O24)) (v19 : (Ty.den T3)) (v21 : (Ty.den T57)) (v22 : (Ty.den T3)) (v169 : Unit) (v170 : (Ty.den T3)) (v171 : (Ty.den T3)) : Option (Items.den [.var 6 O27, .var 8 O24, .val 19 T3, .val 22 T3, .ali 169 6 3, .val 170 T3, .val 171 T3]) := loopQ (ρ := (den1 [O27, T3])) 10 [.var 6 O27, .var 8 O24, .val 19 T3, .var 21 T57, .val 22 T3, .ali 169 6 3, .val 170 T3, .val 171 T3] [.var 6 O27, .var 8 O24, .val 19 T3, .val 22 T3, .ali 169 6 3, .val 170 T3, .val 171 T3] (runOf Γo d_impl_Analyze a_impl_Analyze Try.f8 [.val T30, .val T3, .val T3] [O27, T3] 10) k (v6, v8, v19, v21, v22, v169, v170, v171)
theorem impl_Analyze_eq (k : Nat) (a : (Ty.den T30)) (b : (Ty.den T3)) (c : (Ty.den T3)) : impl_Analyze k a b c = br (decide (b < 0)) (some (((0, 0, 0, [], [], ()) : T27.den), 1)) (br (decide ((↑(List.length a) : Int) > 2000)) (some (((0, 0, 0, [], [], ()) : T27.den), 1)) (bnd (impl_kWithin k c 1 20) (fun y1 => br (!y1) (some (((0, 0, 0, [], [], ()) : T27.den), 1)) (bnd (impl_Analyze_l0 k a b c ((0, 0, 0, [], [], ()) : T27.den) [] a ((↑(List.length a) : Int)) 0) (fun y2 => onSum y2 (fun y3 => bnd (impl_Analyze_l2 k y3.1 y3.2.1 y3.2.2.1 y3.2.2.2 ((↑(List.length y3.2.2.2) : Int)) 0) (fun y4 => onSum y4 (fun y5 => br (decide (List.length y5.2.2.2 ≤ capN)) (bnd (srt T57.zero (fun ys i j => bnd (impl_Analyze_1 k i j ys) fun y => some y) y5.2.2.2) (fun y6 => br ((↑y6.length : Int) == 0) (some (((↑(List.length y5.1) : Int), IntKind.i64.wrap ((↑(List.length y5.1) : Int) - (↑y6.length : Int)), 0, [], [], ()), 0)) (bnd (impl_Analyze_l4 k y5.2.1 ((↑(List.length y5.1) : Int), IntKind.i64.wrap ((↑(List.length y5.1) : Int) - (↑y6.length : Int)), 0, [], [], ()) y6 ((↑y6.length : Int)) 0) (fun y7 => br (!y7.1 == 0) (bnd (impl_Analyze_l6 k y7.2.1 y7.2.2 (max 1 (IntKind.i64.wrap ((IntKind.i64.wrap (IntKind.i64.wrap ((↑(List.length y7.2.2) : Int) + y7.1) - 1)).tdiv y7.1))) () (max 1 (IntKind.i64.wrap ((IntKind.i64.wrap (IntKind.i64.wrap ((↑(List.length y7.2.2) : Int) + y7.1) - 1)).tdiv y7.1)))) (fun y8 => br (decide (0 ≤ IntKind.i64.wrap ((↑(List.length y8.2.1) : Int) - 1))) (br (decide (IntKind.i64.wrap ((↑(List.length y8.2.1) : Int) - 1) < (↑(List.length y8.2.1) : Int))) (bnd (impl_Analyze_2 k (List.getD y8.2.1 (IntKind.i64.wrap ((↑(List.length y8.2.1) : Int) - 1)).toNat T57.zero) y8.1) (fun y9 => bnd (impl_Analyze_l8 k y9 y8.2.1 0 () ((↑(List.length y9.2.2.2.1) : Int)) 0) (fun y10 => some (y10, 0)))) (none)) (none))) (none))))) (none)) (fun y5 => some y5))) (fun y3 => some y3)))))) := by kernel_rfl
theorem impl_Analyze_l0_zero (v0 : (Ty.den T30)) (v1 : (Ty.den T3)) (v2 : (Ty.den T3)) (v6 : (Ty.den O27)) (v8 : (Ty.den O24)) (v36 : (Ty.den T30)) (v37 : (Ty.den T3)) (v38 : (Ty.den T3)) : impl_Analyze_l0 0 v0 v1 v2 v6 v8 v36 v37 v38 = none := by kernel_rfl
theorem impl_Analyze_l0_succ (k : Nat) (v0 : (Ty.den T30)) (v1 : (Ty.den T3)) (v2 : (Ty.den T3)) (v6 : (Ty.den O27)) (v8 : (Ty.den O24)) (v36 : (Ty.den T30)) (v37 : (Ty.den T3)) (v38 : (Ty.den T3)) : impl_Analyze_l0 (k + 1) v0 v1 v2 v6 v8 v36 v37 v38 = br (decide (v38 < v37)) (br (decide (0 ≤ v38)) (br (decide (v38 < (↑(List.length v36) : Int))) (br (decide (v1 < 0)) (some (Sum.inr (((0, 0, 0, [], [], ()) : T27.den), 1))) (br (decide (v1 ≥ (↑(List.length (List.getD v36 (Int.toNat v38) T54.zero).1) : Int))) (some (Sum.inr (((0, 0, 0, [], [], ()) : T27.den), 1))) (br (decide (0 ≤ v1)) (br (decide (v1 < (↑(List.length (List.getD v36 (Int.toNat v38) T54.zero).1) : Int))) (bnd (impl_ValueOK k (List.getD (List.getD v36 (Int.toNat v38) T54.zero).1 (Int.toNat v1) T57.zero)) (fun y1 => br (!y1) (some (Sum.inr (((0, 0, 0, [], [], ()) : T27.den), 1))) (br (decide (0 ≤ v1)) (br (decide (v1 < (↑(List.length (List.getD v36 (Int.toNat v38) T54.zero).1) : Int))) (br ((List.getD (List.getD v36 (Int.toNat v38) T54.zero).1 (Int.toNat v1) T57.zero).1 != 0) (br (decide (List.length v8 + [(List.getD (List.getD v36 (Int.toNat v38) T54.zero).1 (Int.toNat v1) T57.zero)].length ≤ capN)) (impl_Analyze_l0 k v0 v1 v2 v6 (v8 ++ [(List.getD (List.getD v36 (Int.toNat v38) T54.zero).1 (Int.toNat v1) T57.zero)]) v36 v37 (IntKind.i64.wrap (v38 + 1))) (none)) (impl_Analyze_l0 k v0 v1 v2 v6 v8 v36 v37 (IntKind.i64.wrap (v38 + 1)))) (none)) (none)))) (none)) (none)))) (none)) (none)) (some (Sum.inl (v0, v2, v6, v8))) := by kernel_rfl
theorem impl_Analyze_l2_zero (v0 : (Ty.den T30)) (v2 : (Ty.den T3)) (v6 : (Ty.den O27)) (v8 : (Ty.den O24)) (v75 : (Ty.den T3)) (v76 : (Ty.den T3)) : impl_Analyze_l2 0 v0 v2 v6 v8 v75 v76 = none := by kernel_rfl
theorem impl_Analyze_l2_succ (k : Nat) (v0 : (Ty.den T30)) (v2 : (Ty.den T3)) (v6 : (Ty.den O27)) (v8 : (Ty.den O24)) (v75 : (Ty.den T3)) (v76 : (Ty.den T3)) : impl_Analyze_l2 (k + 1) v0 v2 v6 v8 v75 v76 = br (decide (v76 < v75)) (br (decide (0 ≤ 0)) (br (decide (0 < (↑(List.length v8) : Int))) (br (decide (0 ≤ v76)) (br (decide (v76 < (↑(List.length v8) : Int))) (bnd (impl_Compare k ([], ()) (List.getD v8 (Int.toNat 0) T57.zero) (List.getD v8 (Int.toNat v76) T57.zero)) (fun y1 => br (y1.2 != 0) (some (Sum.inr (((0, 0, 0, [], [], ()) : T27.den), 2))) (impl_Analyze_l2 k v0 v2 v6 v8 v75 (IntKind.i64.wrap (v76 + 1))))) (none)) (none)) (none)) (none)) (some (Sum.inl (v0, v2, v6, v8))) := by kernel_rfl
theorem impl_Analyze_l4_zero (v2 : (Ty.den T3)) (v6 : (Ty.den O27)) (v8 : (Ty.den O24)) (v112 : (Ty.den T3)) (v113 : (Ty.den T3)) : impl_Analyze_l4 0 v2 v6 v8 v112 v113 = none := by kernel_rfl
theorem impl_Analyze_l4_succ (k : Nat) (v2 : (Ty.den T3)) (v6 : (Ty.den O27)) (v8 : (Ty.den O24)) (v112 : (Ty.den T3)) (v113 : (Ty.den T3)) : impl_Analyze_l4 (k + 1) v2 v6 v8 v112 v113 = br (decide (v113 < v112)) (br (v113 == 0) (impl_Analyze_l4 k v2 (v6.1, v6.2.1, IntKind.i64.wrap (v6.2.2.1 + 1), v6.2.2.2.1, v6.2.2.2.2.1, ()) v8 v112 (IntKind.i64.wrap (v113 + 1))) (br (decide (0 ≤ IntKind.i64.wrap (v113 - 1))) (br (decide (IntKind.i64.wrap (v113 - 1) < (↑(List.length v8) : Int))) (br (decide (0 ≤ v113)) (br (decide (v113 < (↑(List.length v8) : Int))) (bnd (impl_kCompare k (List.getD v8 (IntKind.i64.wrap (v113 - 1)).toNat T57.zero) (List.getD v8 (Int.toNat v113) T57.zero)) (fun y1 => br (y1 != 0) (impl_Analyze_l4 k v2 (v6.1, v6.2.1, IntKind.i64.wrap (v6.2.2.1 + 1), v6.2.2.2.1, v6.2.2.2.2.1, ()) v8 v112 (IntKind.i64.wrap (v113 + 1))) (impl_Analyze_l4 k v2 v6 v8 v112 (IntKind.i64.wrap (v113 + 1))))) (none)) (none)) (none)) (none))) (some (v2, v6, v8)) := by kernel_rfl
theorem impl_Analyze_l6_zero (v6 : (Ty.den O27)) (v8 : (Ty.den O24)) (v16 : (Ty.den T3)) (v17 : Unit) (v18 : (Ty.den T3)) : impl_Analyze_l6 0 v6 v8 v16 v17 v18 = none := by kernel_rfl
theorem impl_Analyze_l6_succ (k : Nat) (v6 : (Ty.den O27)) (v8 : (Ty.den O24)) (v16 : (Ty.den T3)) (v17 : Unit) (v18 : (Ty.den T3)) : impl_Analyze_l6 (k + 1) v6 v8 v16 v17 v18 = br (decide (v18 ≤ (↑(List.length v8) : Int))) (br (decide (0 ≤ IntKind.i64.wrap (v18 - 1))) (br (decide (IntKind.i64.wrap (v18 - 1) < (↑(List.length v8) : Int))) (bnd (impl_Analyze_2 k (List.getD v8 (IntKind.i64.wrap (v18 - 1)).toNat T57.zero) v6) (fun y1 => impl_Analyze_l6 k y1 v8 v16 () (IntKind.i64.wrap (v18 + v16)))) (none)) (none)) (some (v6, v8, ())) := by kernel_rfl
theorem impl_Analyze_l8_zero (v6 : (Ty.den O27)) (v8 : (Ty.den O24)) (v19 : (Ty.den T3)) (v169 : Unit) (v170 : (Ty.den T3)) (v171 : (Ty.den T3)) : impl_Analyze_l8 0 v6 v8 v19 v169 v170 v171 = none := by kernel_rfl
theorem impl_Analyze_l8_succ (k : Nat) (v6 : (Ty.den O27)) (v8 : (Ty.den O24)) (v19 : (Ty.den T3)) (v169 : Unit) (v170 : (Ty.den T3)) (v171 : (Ty.den T3)) : impl_Analyze_l8 (k + 1) v6 v8 v19 v169 v170 v171 = br (decide (v171 < v170)) (br (decide (0 ≤ v171)) (br (decide (v171 < (↑(List.length v6.2.2.2.1) : Int))) (bnd (impl_Analyze_l10 k v6 v8 v19 (List.getD v6.2.2.2.1 (Int.toNat v171) T57.zero) 0 () v170 v171) (fun y1 => br (decide (List.length y1.1.2.2.2.2.1 + [y1.2.2.2.1].length ≤ capN)) (impl_Analyze_l8 k (y1.1.1, y1.1.2.1, y1.1.2.2.1, y1.1.2.2.2.1, y1.1.2.2.2.2.1 ++ [y1.2.2.2.1], ()) y1.2.1 y1.2.2.1 () y1.2.2.2.2.2.1 (IntKind.i64.wrap (y1.2.2.2.2.2.2 + 1))) (none))) (none)) (none)) (some v6) := by kernel_rfl
theorem impl_Analyze_l10_zero (v6 : (Ty.den O27)) (v8 : (Ty.den O24)) (v19 : (Ty.den T3)) (v21 : (Ty.den T57)) (v22 : (Ty.den T3)) (v169 : Unit) (v170 : (Ty.den T3)) (v171 : (Ty.den T3)) : impl_Analyze_l10 0 v6 v8 v19 v21 v22 v169 v170 v171 = none := by kernel_rfl
theorem impl_Analyze_l10_succ (k : Nat) (v6 : (Ty.den O27)) (v8 : (Ty.den O24)) (v19 : (Ty.den T3)) (v21 : (Ty.den T57)) (v22 : (Ty.den T3)) (v169 : Unit) (v170 : (Ty.den T3)) (v171 : (Ty.den T3)) : impl_Analyze_l10 (k + 1) v6 v8 v19 v21 v22 v169 v170 v171 = br (decide (v19 < (↑(List.length v8) : Int))) (br (decide (0 ≤ v19)) (br (decide (v19 < (↑(List.length v8) : Int))) (bnd (impl_kCompare k (List.getD v8 (Int.toNat v19) T57.zero) v21) (fun y1 => br (decide (y1 ≤ 0)) (impl_Analyze_l10 k v6 v8 (IntKind.i64.wrap (v19 + 1)) v21 (IntKind.i64.wrap (v22 + 1)) () v170 v171) (some (v6, v8, v19, v22, (), v170, v171)))) (none)) (none)) (some (v6, v8, v19, v22, (), v170, v171)) := by kernel_rfl
noncomputable def c_impl_Analyze : Con := ⟨[.val T30, .val T3, .val T3], [O27, T3], fun k x => impl_Analyze k x.1 x.2.1 x.2.2.1⟩
theorem del_impl_Analyze {w0 : World} (hS : Stops w0) : DelOk Try.prog w0 d_impl_Analyze := .cons (ok_impl_kWithin hS) ent_impl_kWithin (.cons (ok_impl_ValueOK hS) ent_impl_ValueOK (.cons (ok_impl_Compare hS) ent_impl_Compare (.cons (hS.sort_SliceStable.1) hS.sort_SliceStable.2.1 (.cons (ok_impl_Analyze_1 hS) ent_impl_Analyze_1 (.cons (ok_impl_kCompare hS) ent_impl_kCompare (.cons (ok_impl_Analyze_2 hS) ent_impl_Analyze_2 (.nil)))) hS.sort_SliceStable.2.2)))
theorem ok_impl_Analyze {w0 : World} (hS : Stops w0) : Keeps Try.prog w0 8 c_impl_Analyze := .gn (gen_sound (A := a_impl_Analyze) tab_oko (del_impl_Analyze hS) (drawso (del_impl_Analyze hS)) Try.func8 (by kernel_rfl) (fun k x => by kernel_rfl) (by kernel_rfl)) (by kernel_rfl)
theorem ent_impl_Analyze : Enters' Try.prog 8 := enters' Try.func8 (by kernel_rfl)
attribute [irreducible] impl_Analyze impl_Analyze_l0 impl_Analyze_l2 impl_Analyze_l4 impl_Analyze_l6 impl_Analyze_l8 impl_Analyze_l10

/-! ### laws_eqValue: function 78 -/
def a_laws_eqValue : Ann := ⟨[], []⟩
noncomputable def d_laws_eqValue : List (Nat × Con) := []
noncomputable def laws_eqValue (k : Nat) (a : (Ty.den T57)) (b : (Ty.den T57)) : Option (den1 [T4]) := evFn Γ d_laws_eqValue a_laws_eqValue Try.f78 [.val T57, .val T57] [T4] k (a, b, ())
theorem laws_eqValue_eq (k : Nat) (a : (Ty.den T57)) (b : (Ty.den T57)) : laws_eqValue k a b = br (a.1 != b.1) (some false) (br (a.2.1 != b.2.1) (some false) (br (a.2.2.1 != b.2.2.1) (some false) (br (!a.2.2.2.1 == b.2.2.2.1) (some false) (some true)))) := by kernel_rfl
noncomputable def c_laws_eqValue : Con := ⟨[.val T57, .val T57], [T4], fun k x => laws_eqValue k x.1 x.2.1⟩
theorem del_laws_eqValue {w0 : World} (hS : Stops w0) : DelOk Try.prog w0 d_laws_eqValue := .nil
theorem ok_laws_eqValue {w0 : World} (hS : Stops w0) : Keeps Try.prog w0 78 c_laws_eqValue := .con (fn_sound (A := a_laws_eqValue) tab_ok (del_laws_eqValue hS) (draws (del_laws_eqValue hS)) Try.func78 (by kernel_rfl) (fun k x => by kernel_rfl) (by kernel_rfl)) (by kernel_rfl)
theorem ent_laws_eqValue : Enters' Try.prog 78 := enters' Try.func78 (by kernel_rfl)
attribute [irreducible] laws_eqValue

/-! ### laws_eqValueS: function 35 -/
def a_laws_eqValueS : Ann := ⟨[(0, [.val 0 T24, .val 1 T24, .val 5 T3], ⟨[], false⟩)], []⟩
noncomputable def d_laws_eqValueS : List (Nat × Con) := [(78, c_laws_eqValue)]
noncomputable def laws_eqValueS (k : Nat) (a : (Ty.den T24)) (b : (Ty.den T24)) : Option (den1 [T4]) := evFn Γ d_laws_eqValueS a_laws_eqValueS Try.f35 [.val T24, .val T24] [T4] k (a, b, ())
noncomputable def laws_eqValueS_l0 (k : Nat) (v0 : (Ty.den T24)) (v1 : (Ty.den T24)) (v5 : (Ty.den T3)) : Option ((Items.den []) ⊕ (den1 [T4])) := loopR (ρ := (den1 [T4])) 0 [.val 0 T24, .val 1 T24, .val 5 T3] [] (runOf Γ d_laws_eqValueS a_laws_eqValueS Try.f35 [.val T24, .val T24] [T4] 0) k (v0, v1, v5)
theorem laws_eqValueS_eq (k : Nat) (a : (Ty.den T24)) (b : (Ty.den T24)) : laws_eqValueS k a b = br ((↑(List.length a) : Int) != (↑(List.length b) : Int)) (some false) (bnd (laws_eqValueS_l0 k a b 0) (fun y1 => onSum y1 (fun y2 => some true) (fun y2 => some y2))) := by kernel_rfl
theorem laws_eqValueS_l0_zero (v0 : (Ty.den T24)) (v1 : (Ty.den T24)) (v5 : (Ty.den T3)) : laws_eqValueS_l0 0 v0 v1 v5 = none := by kernel_rfl
theorem laws_eqValueS_l0_succ (k : Nat) (v0 : (Ty.den T24)) (v1 : (Ty.den T24)) (v5 : (Ty.den T3)) : laws_eqValueS_l0 (k + 1) v0 v1 v5 = br (decide (v5 < (↑(List.length v0) : Int))) (br (decide (0 ≤ v5)) (br (decide (v5 < (↑(List.length v0) : Int))) (br (decide (0 ≤ v5)) (br (decide (v5 < (↑(List.length v1) : Int))) (bnd (laws_eqValue k (List.getD v0 (Int.toNat v5) T57.zero) (List.getD v1 (Int.toNat v5) T57.zero)) (fun y1 => br (!y1) (some (Sum.inr false)) (laws_eqValueS_l0 k v0 v1 (IntKind.i64.wrap (v5 + 1))))) (none)) (none)) (none)) (none)) (some (Sum.inl ())) := by kernel_rfl
noncomputable def c_laws_eqValueS : Con := ⟨[.val T24, .val T24], [T4], fun k x => laws_eqValueS k x.1 x.2.1⟩
theorem del_laws_eqValueS {w0 : World} (hS : Stops w0) : DelOk Try.prog w0 d_laws_eqValueS := .cons (ok_laws_eqValue hS) ent_laws_eqValue (.nil)
theorem ok_laws_eqValueS {w0 : World} (hS : Stops w0) : Keeps Try.prog w0 35 c_laws_eqValueS := .con (fn_sound (A := a_laws_eqValueS) tab_ok (del_laws_eqValueS hS) (draws (del_laws_eqValueS hS)) Try.func35 (by kernel_rfl) (fun k x => by kernel_rfl) (by kernel_rfl)) (by kernel_rfl)
theorem ent_laws_eqValueS : Enters' Try.prog 35 := enters' Try.func35 (by kernel_rfl)
attribute [irreducible] laws_eqValueS laws_eqValueS_l0

/-! ### laws_eqIntS: function 36 -/
def a_laws_eqIntS : Ann := ⟨[(0, [.val 0 T25, .val 1 T25, .val 5 T3], ⟨[], false⟩)], []⟩
noncomputable def d_laws_eqIntS : List (Nat × Con) := []
noncomputable def laws_eqIntS (k : Nat) (a : (Ty.den T25)) (b : (Ty.den T25)) : Option (den1 [T4]) := evFn Γ d_laws_eqIntS a_laws_eqIntS Try.f36 [.val T25, .val T25] [T4] k (a, b, ())
noncomputable def laws_eqIntS_l0 (k : Nat) (v0 : (Ty.den T25)) (v1 : (Ty.den T25)) (v5 : (Ty.den T3)) : Option ((Items.den []) ⊕ (den1 [T4])) := loopR (ρ := (den1 [T4])) 0 [.val 0 T25, .val 1 T25, .val 5 T3] [] (runOf Γ d_laws_eqIntS a_laws_eqIntS Try.f36 [.val T25, .val T25] [T4] 0) k (v0, v1, v5)
theorem laws_eqIntS_eq (k : Nat) (a : (Ty.den T25)) (b : (Ty.den T25)) : laws_eqIntS k a b = br ((↑(List.length a) : Int) != (↑(List.length b) : Int)) (some false) (bnd (laws_eqIntS_l0 k a b 0) (fun y1 => onSum y1 (fun y2 => some true) (fun y2 => some y2))) := by kernel_rfl
theorem laws_eqIntS_l0_zero (v0 : (Ty.den T25)) (v1 : (Ty.den T25)) (v5 : (Ty.den T3)) : laws_eqIntS_l0 0 v0 v1 v5 = none := by kernel_rfl
theorem laws_eqIntS_l0_succ (k : Nat) (v0 : (Ty.den T25)) (v1 : (Ty.den T25)) (v5 : (Ty.den T3)) : laws_eqIntS_l0 (k + 1) v0 v1 v5 = br (decide (v5 < (↑(List.length v0) : Int))) (br (decide (0 ≤ v5)) (br (decide (v5 < (↑(List.length v0) : Int))) (br (decide (0 ≤ v5)) (br (decide (v5 < (↑(List.length v1) : Int))) (br (List.getD v0 (Int.toNat v5) T3.zero != List.getD v1 (Int.toNat v5) T3.zero) (some (Sum.inr false)) (laws_eqIntS_l0 k v0 v1 (IntKind.i64.wrap (v5 + 1)))) (none)) (none)) (none)) (none)) (some (Sum.inl ())) := by kernel_rfl
noncomputable def c_laws_eqIntS : Con := ⟨[.val T25, .val T25], [T4], fun k x => laws_eqIntS k x.1 x.2.1⟩
theorem del_laws_eqIntS {w0 : World} (hS : Stops w0) : DelOk Try.prog w0 d_laws_eqIntS := .nil
theorem ok_laws_eqIntS {w0 : World} (hS : Stops w0) : Keeps Try.prog w0 36 c_laws_eqIntS := .con (fn_sound (A := a_laws_eqIntS) tab_ok (del_laws_eqIntS hS) (draws (del_laws_eqIntS hS)) Try.func36 (by kernel_rfl) (fun k x => by kernel_rfl) (by kernel_rfl)) (by kernel_rfl)
theorem ent_laws_eqIntS : Enters' Try.prog 36 := enters' Try.func36 (by kernel_rfl)
attribute [irreducible] laws_eqIntS laws_eqIntS_l0

/-! ### laws_eqHist: function 9 -/
def a_laws_eqHist : Ann := ⟨[], []⟩
noncomputable def d_laws_eqHist : List (Nat × Con) := [(35, c_laws_eqValueS), (36, c_laws_eqIntS)]
noncomputable def laws_eqHist (k : Nat) (a : (Ty.den T27)) (b : (Ty.den T27)) : Option (den1 [T4]) := evFn Γ d_laws_eqHist a_laws_eqHist Try.f9 [.val T27, .val T27] [T4] k (a, b, ())
theorem laws_eqHist_eq (k : Nat) (a : (Ty.den T27)) (b : (Ty.den T27)) : laws_eqHist k a b = br (a.1 != b.1) (some false) (br (a.2.1 != b.2.1) (some false) (br (a.2.2.1 != b.2.2.1) (some false) (bnd (laws_eqValueS k a.2.2.2.1 b.2.2.2.1) (fun y1 => br (!y1) (some false) (bnd (laws_eqIntS k a.2.2.2.2.1 b.2.2.2.2.1) (fun y2 => br (!y2) (some false) (some true))))))) := by kernel_rfl
noncomputable def c_laws_eqHist : Con := ⟨[.val T27, .val T27], [T4], fun k x => laws_eqHist k x.1 x.2.1⟩
theorem del_laws_eqHist {w0 : World} (hS : Stops w0) : DelOk Try.prog w0 d_laws_eqHist := .cons (ok_laws_eqValueS hS) ent_laws_eqValueS (.cons (ok_laws_eqIntS hS) ent_laws_eqIntS (.nil))
theorem ok_laws_eqHist {w0 : World} (hS : Stops w0) : Keeps Try.prog w0 9 c_laws_eqHist := .con (fn_sound (A := a_laws_eqHist) tab_ok (del_laws_eqHist hS) (draws (del_laws_eqHist hS)) Try.func9 (by kernel_rfl) (fun k x => by kernel_rfl) (by kernel_rfl)) (by kernel_rfl)
theorem ent_laws_eqHist : Enters' Try.prog 9 := enters' Try.func9 (by kernel_rfl)
attribute [irreducible] laws_eqHist

/-! ### laws_eqRow: function 37 -/
def a_laws_eqRow : Ann := ⟨[], []⟩
noncomputable def d_laws_eqRow : List (Nat × Con) := [(35, c_laws_eqValueS)]
noncomputable def laws_eqRow (k : Nat) (a : (Ty.den T54)) (b : (Ty.den T54)) : Option (den1 [T4]) := evFn Γ d_laws_eqRow a_laws_eqRow Try.f37 [.val T54, .val T54] [T4] k (a, b, ())
theorem laws_eqRow_eq (k : Nat) (a : (Ty.den T54)) (b : (Ty.den T54)) : laws_eqRow k a b = bnd (laws_eqValueS k a.1 b.1) (fun y1 => br (!y1) (some false) (some true)) := by kernel_rfl
noncomputable def c_laws_eqRow : Con := ⟨[.val T54, .val T54], [T4], fun k x => laws_eqRow k x.1 x.2.1⟩
theorem del_laws_eqRow {w0 : World} (hS : Stops w0) : DelOk Try.prog w0 d_laws_eqRow := .cons (ok_laws_eqValueS hS) ent_laws_eqValueS (.nil)
theorem ok_laws_eqRow {w0 : World} (hS : Stops w0) : Keeps Try.prog w0 37 c_laws_eqRow := .con (fn_sound (A := a_laws_eqRow) tab_ok (del_laws_eqRow hS) (draws (del_laws_eqRow hS)) Try.func37 (by kernel_rfl) (fun k x => by kernel_rfl) (by kernel_rfl)) (by kernel_rfl)
theorem ent_laws_eqRow : Enters' Try.prog 37 := enters' Try.func37 (by kernel_rfl)
attribute [irreducible] laws_eqRow

/-! ### laws_eqRowS: function 10 -/
def a_laws_eqRowS : Ann := ⟨[(0, [.val 0 T30, .val 1 T30, .val 5 T3], ⟨[], false⟩)], []⟩
noncomputable def d_laws_eqRowS : List (Nat × Con) := [(37, c_laws_eqRow)]
noncomputable def laws_eqRowS (k : Nat) (a : (Ty.den T30)) (b : (Ty.den T30)) : Option (den1 [T4]) := evFn Γ d_laws_eqRowS a_laws_eqRowS Try.f10 [.val T30, .val T30] [T4] k (a, b, ())
noncomputable def laws_eqRowS_l0 (k : Nat) (v0 : (Ty.den T30)) (v1 : (Ty.den T30)) (v5 : (Ty.den T3)) : Option ((Items.den []) ⊕ (den1 [T4])) := loopR (ρ := (den1 [T4])) 0 [.val 0 T30, .val 1 T30, .val 5 T3] [] (runOf Γ d_laws_eqRowS a_laws_eqRowS Try.f10 [.val T30, .val T30] [T4] 0) k (v0, v1, v5)
theorem laws_eqRowS_eq (k : Nat) (a : (Ty.den T30)) (b : (Ty.den T30)) : laws_eqRowS k a b = br ((↑(List.length a) : Int) != (↑(List.length b) : Int)) (some false) (bnd (laws_eqRowS_l0 k a b 0) (fun y1 => onSum y1 (fun y2 => some true) (fun y2 => some y2))) := by kernel_rfl
theorem laws_eqRowS_l0_zero (v0 : (Ty.den T30)) (v1 : (Ty.den T30)) (v5 : (Ty.den T3)) : laws_eqRowS_l0 0 v0 v1 v5 = none := by kernel_rfl
theorem laws_eqRowS_l0_succ (k : Nat) (v0 : (Ty.den T30)) (v1 : (Ty.den T30)) (v5 : (Ty.den T3)) : laws_eqRowS_l0 (k + 1) v0 v1 v5 = br (decide (v5 < (↑(List.length v0) : Int))) (br (decide (0 ≤ v5)) (br (decide (v5 < (↑(List.length v0) : Int))) (br (decide (0 ≤ v5)) (br (decide (v5 < (↑(List.length v1) : Int))) (bnd (laws_eqRow k ((List.getD v0 (Int.toNat v5) T54.zero).1, ()) ((List.getD v1 (Int.toNat v5) T54.zero).1, ())) (fun y1 => br (!y1) (some (Sum.inr false)) (laws_eqRowS_l0 k v0 v1 (IntKind.i64.wrap (v5 + 1))))) (none)) (none)) (none)) (none)) (some (Sum.inl ())) := by kernel_rfl
noncomputable def c_laws_eqRowS : Con := ⟨[.val T30, .val T30], [T4], fun k x => laws_eqRowS k x.1 x.2.1⟩
theorem del_laws_eqRowS {w0 : World} (hS : Stops w0) : DelOk Try.prog w0 d_laws_eqRowS := .cons (ok_laws_eqRow hS) ent_laws_eqRow (.nil)
theorem ok_laws_eqRowS {w0 : World} (hS : Stops w0) : Keeps Try.prog w0 10 c_laws_eqRowS := .con (fn_sound (A := a_laws_eqRowS) tab_ok (del_laws_eqRowS hS) (draws (del_laws_eqRowS hS)) Try.func10 (by kernel_rfl) (fun k x => by kernel_rfl) (by kernel_rfl)) (by kernel_rfl)
theorem ent_laws_eqRowS : Enters' Try.prog 10 := enters' Try.func10 (by kernel_rfl)
attribute [irreducible] laws_eqRowS laws_eqRowS_l0

/-! ### laws_markText: function 53 -/
def a_laws_markText : Ann := ⟨[(0, [.val 0 T3, .val 3 T9], ⟨[.val 3 T9], true⟩)], []⟩
noncomputable def d_laws_markText : List (Nat × Con) := []
noncomputable def laws_markText (k : Nat) (a : (Ty.den T3)) : Option (den1 [T9]) := evFn Γ d_laws_markText a_laws_markText Try.f53 [.val T3] [T9] k (a, ())
noncomputable def laws_markText_l0 (k : Nat) (v0 : (Ty.den T3)) (v3 : (Ty.den T9)) : Option (Items.den [.val 3 T9]) := loopQ (ρ := (den1 [T9])) 0 [.val 0 T3, .val 3 T9] [.val 3 T9] (runOf Γ d_laws_markText a_laws_markText Try.f53 [.val T3] [T9] 0) k (v0, v3)
theorem laws_markText_eq (k : Nat) (a : (Ty.den T3)) : laws_markText k a = br (decide (a ≤ 0)) (some [109, 48]) (bnd (laws_markText_l0 k a []) (fun y1 => br (decide ([109].length + List.length y1 ≤ capN)) (some ([109] ++ y1)) (none))) := by kernel_rfl
theorem laws_markText_l0_zero (v0 : (Ty.den T3)) (v3 : (Ty.den T9)) : laws_markText_l0 0 v0 v3 = none := by kernel_rfl
theorem laws_markText_l0_succ (k : Nat) (v0 : (Ty.den T3)) (v3 : (Ty.den T9)) : laws_markText_l0 (k + 1) v0 v3 = br (decide (v0 > 0)) (br (!10 == 0) (br (decide ((List.map (fun n => UInt8.ofNat n.toNat) [IntKind.u8.wrap (IntKind.i64.wrap (48 + Int.tmod v0 10))]).length + List.length v3 ≤ capN)) (br (!10 == 0) (laws_markText_l0 k (IntKind.i64.wrap (Int.tdiv v0 10)) (List.map (fun n => UInt8.ofNat n.toNat) [IntKind.u8.wrap (IntKind.i64.wrap (48 + Int.tmod v0 10))] ++ v3)) (none)) (none)) (none)) (some v3) := by kernel_rfl
noncomputable def c_laws_markText : Con := ⟨[.val T3], [T9], fun k x => laws_markText k x.1⟩
theorem del_laws_markText {w0 : World} (hS : Stops w0) : DelOk Try.prog w0 d_laws_markText := .nil
theorem ok_laws_markText {w0 : World} (hS : Stops w0) : Keeps Try.prog w0 53 c_laws_markText := .con (fn_sound (A := a_laws_markText) tab_ok (del_laws_markText hS) (draws (del_laws_markText hS)) Try.func53 (by kernel_rfl) (fun k x => by kernel_rfl) (by kernel_rfl)) (by kernel_rfl)
theorem ent_laws_markText : Enters' Try.prog 53 := enters' Try.func53 (by kernel_rfl)
attribute [irreducible] laws_markText laws_markText_l0

/-! ### laws_markValueS: function 38 -/
def a_laws_markValueS : Ann := ⟨[(0, [.val 0 O24, .val 1 T3, .val 5 T3], ⟨[.val 0 O24, .val 1 T3], true⟩)], []⟩
noncomputable def d_laws_markValueS : List (Nat × Con) := [(53, c_laws_markText)]
noncomputable def laws_markValueS (k : Nat) (a : (Ty.den O24)) (b : (Ty.den T3)) : Option (den1 [T3, O24]) := evFn Γo d_laws_markValueS a_laws_markValueS Try.f38 [.io O24, .val T3] [T3, O24] k (a, b, ())
noncomputable def laws_markValueS_l0 (k : Nat) (v0 : (Ty.den O24)) (v1 : (Ty.den T3)) (v5 : (Ty.den T3)) : Option (Items.den [.val 0 O24, .val 1 T3]) := loopQ (ρ := (den1 [T3, O24])) 0 [.val 0 O24, .val 1 T3, .val 5 T3] [.val 0 O24, .val 1 T3] (runOf Γo d_laws_markValueS a_laws_markValueS Try.f38 [.io O24, .val T3] [T3, O24] 0) k (v0, v1, v5)
theorem laws_markValueS_eq (k : Nat) (a : (Ty.den O24)) (b : (Ty.den T3)) : laws_markValueS k a b = bnd (laws_markValueS_l0 k a b 0) (fun y1 => some (y1.2, y1.1)) := by kernel_rfl
theorem laws_markValueS_l0_zero (v0 : (Ty.den O24)) (v1 : (Ty.den T3)) (v5 : (Ty.den T3)) : laws_markValueS_l0 0 v0 v1 v5 = none := by kernel_rfl
theorem laws_markValueS_l0_succ (k : Nat) (v0 : (Ty.den O24)) (v1 : (Ty.den T3)) (v5 : (Ty.den T3)) : laws_markValueS_l0 (k + 1) v0 v1 v5 = br (decide (v5 < (↑(List.length v0) : Int))) (br (decide (0 ≤ v5)) (br (decide (v5 < (↑(List.length v0) : Int))) (bnd (some (List.getD v0 (Int.toNat v5) T57.zero)) (fun y1 => bnd (some (List.set v0 (Int.toNat v5) (v1, y1.2.1, y1.2.2.1, y1.2.2.2.1, ()))) (fun y2 => br (decide (0 ≤ v5)) (br (decide (v5 < (↑y2.length : Int))) (bnd (some (y2.getD (Int.toNat v5) T57.zero)) (fun y3 => bnd (some (y2.set (Int.toNat v5) (y3.1, IntKind.i64.wrap (v1 + 1), y3.2.2.1, y3.2.2.2.1, ()))) (fun y4 => br (decide (0 ≤ v5)) (br (decide (v5 < (↑y4.length : Int))) (bnd (some (y4.getD (Int.toNat v5) T57.zero)) (fun y5 => bnd (some (y4.set (Int.toNat v5) (y5.1, y5.2.1, IntKind.i64.wrap (IntKind.i64.wrap (v1 + 1) + 1), y5.2.2.2.1, ()))) (fun y6 => bnd (laws_markText k (IntKind.i64.wrap (IntKind.i64.wrap (IntKind.i64.wrap (v1 + 1) + 1) + 1))) (fun y7 => br (decide (0 ≤ v5)) (br (decide (v5 < (↑y6.length : Int))) (bnd (some (y6.getD (Int.toNat v5) T57.zero)) (fun y8 => bnd (some (y6.set (Int.toNat v5) (y8.1, y8.2.1, y8.2.2.1, y7, ()))) (fun y9 => laws_markValueS_l0 k y9 (IntKind.i64.wrap (IntKind.i64.wrap (IntKind.i64.wrap (IntKind.i64.wrap (v1 + 1) + 1) + 1) + 1)) (IntKind.i64.wrap (v5 + 1))))) (none)) (none))))) (none)) (none)))) (none)) (none)))) (none)) (none)) (some (v0, v1)) := by kernel_rfl
noncomputable def c_laws_markValueS : Con := ⟨[.io O24, .val T3], [T3, O24], fun k x => laws_markValueS k x.1 x.2.1⟩
theorem del_laws_markValueS {w0 : World} (hS : Stops w0) : DelOk Try.prog w0 d_laws_markValueS := .cons (ok_laws_markText hS) ent_laws_markText (.nil)
theorem ok_laws_markValueS {w0 : World} (hS : Stops w0) : Keeps Try.prog w0 38 c_laws_markValueS := .gn (gen_sound (A := a_laws_markValueS) tab_oko (del_laws_markValueS hS) (drawso (del_laws_markValueS hS)) Try.func38 (by kernel_rfl) (fun k x => by kernel_rfl) (by kernel_rfl)) (by kernel_rfl)
theorem ent_laws_markValueS : Enters' Try.prog 38 := enters' Try.func38 (by kernel_rfl)
attribute [irreducible] laws_markValueS laws_markValueS_l0

/-! ### laws_markRowS: function 11 -/
def a_laws_markRowS : Ann := ⟨[(0, [.val 0 O30, .val 1 T3, .val 5 T3], ⟨[.val 0 O30, .val 1 T3], true⟩)], []⟩
noncomputable def d_laws_markRowS : List (Nat × Con) := [(38, c_laws_markValueS)]
noncomputable def laws_markRowS (k : Nat) (a : (Ty.den O30)) (b : (Ty.den T3)) : Option (den1 [T3, O30]) := evFn Γo d_laws_markRowS a_laws_markRowS Try.f11 [.io O30, .val T3] [T3, O30] k (a, b, ())
noncomputable def laws_markRowS_l0 (k : Nat) (v0 : (Ty.den O30)) (v1 : (Ty.den T3)) (v5 : (Ty.den T3)) : Option (Items.den [.val 0 O30, .val 1 T3]) := loopQ (ρ := (den1 [T3, O30])) 0 [.val 0 O30, .val 1 T3, .val 5 T3] [.val 0 O30, .val 1 T3] (runOf Γo d_laws_markRowS a_laws_markRowS Try.f11 [.io O30, .val T3] [T3, O30] 0) k (v0, v1, v5)
theorem laws_markRowS_eq (k : Nat) (a : (Ty.den O30)) (b : (Ty.den T3)) : laws_markRowS k a b = bnd (laws_markRowS_l0 k a b 0) (fun y1 => some (y1.2, y1.1)) := by kernel_rfl
theorem laws_markRowS_l0_zero (v0 : (Ty.den O30)) (v1 : (Ty.den T3)) (v5 : (Ty.den T3)) : laws_markRowS_l0 0 v0 v1 v5 = none := by kernel_rfl
theorem laws_markRowS_l0_succ (k : Nat) (v0 : (Ty.den O30)) (v1 : (Ty.den T3)) (v5 : (Ty.den T3)) : laws_markRowS_l0 (k + 1) v0 v1 v5 = br (decide (v5 < (↑(List.length v0) : Int))) (br (decide (0 ≤ v5)) (br (decide (v5 < (↑(List.length v0) : Int))) (bnd (laws_markValueS k (List.getD v0 (Int.toNat v5) O54.zero).1 v1) (fun y1 => laws_markRowS_l0 k (List.set v0 (Int.toNat v5) (y1.2, (List.getD v0 (Int.toNat v5) O54.zero).2)) y1.1 (IntKind.i64.wrap (v5 + 1)))) (none)) (none)) (some (v0, v1)) := by kernel_rfl
noncomputable def c_laws_markRowS : Con := ⟨[.io O30, .val T3], [T3, O30], fun k x => laws_markRowS k x.1 x.2.1⟩
theorem del_laws_markRowS {w0 : World} (hS : Stops w0) : DelOk Try.prog w0 d_laws_markRowS := .cons (ok_laws_markValueS hS) ent_laws_markValueS (.nil)
theorem ok_laws_markRowS {w0 : World} (hS : Stops w0) : Keeps Try.prog w0 11 c_laws_markRowS := .gn (gen_sound (A := a_laws_markRowS) tab_oko (del_laws_markRowS hS) (drawso (del_laws_markRowS hS)) Try.func11 (by kernel_rfl) (fun k x => by kernel_rfl) (by kernel_rfl)) (by kernel_rfl)
theorem ent_laws_markRowS : Enters' Try.prog 11 := enters' Try.func11 (by kernel_rfl)
attribute [irreducible] laws_markRowS laws_markRowS_l0

/-! ### laws_markIntS: function 39 -/
def a_laws_markIntS : Ann := ⟨[(0, [.val 0 O25, .val 1 T3, .val 5 T3], ⟨[.val 0 O25, .val 1 T3], true⟩)], []⟩
noncomputable def d_laws_markIntS : List (Nat × Con) := []
noncomputable def laws_markIntS (k : Nat) (a : (Ty.den O25)) (b : (Ty.den T3)) : Option (den1 [T3, O25]) := evFn Γo d_laws_markIntS a_laws_markIntS Try.f39 [.io O25, .val T3] [T3, O25] k (a, b, ())
noncomputable def laws_markIntS_l0 (k : Nat) (v0 : (Ty.den O25)) (v1 : (Ty.den T3)) (v5 : (Ty.den T3)) : Option (Items.den [.val 0 O25, .val 1 T3]) := loopQ (ρ := (den1 [T3, O25])) 0 [.val 0 O25, .val 1 T3, .val 5 T3] [.val 0 O25, .val 1 T3] (runOf Γo d_laws_markIntS a_laws_markIntS Try.f39 [.io O25, .val T3] [T3, O25] 0) k (v0, v1, v5)
theorem laws_markIntS_eq (k : Nat) (a : (Ty.den O25)) (b : (Ty.den T3)) : laws_markIntS k a b = bnd (laws_markIntS_l0 k a b 0) (fun y1 => some (y1.2, y1.1)) := by kernel_rfl
theorem laws_markIntS_l0_zero (v0 : (Ty.den O25)) (v1 : (Ty.den T3)) (v5 : (Ty.den T3)) : laws_markIntS_l0 0 v0 v1 v5 = none := by kernel_rfl
theorem laws_markIntS_l0_succ (k : Nat) (v0 : (Ty.den O25)) (v1 : (Ty.den T3)) (v5 : (Ty.den T3)) : laws_markIntS_l0 (k + 1) v0 v1 v5 = br (decide (v5 < (↑(List.length v0) : Int))) (br (decide (0 ≤ v5)) (br (decide (v5 < (↑(List.length v0) : Int))) (laws_markIntS_l0 k (List.set v0 (Int.toNat v5) v1) (IntKind.i64.wrap (v1 + 1)) (IntKind.i64.wrap (v5 + 1))) (none)) (none)) (some (v0, v1)) := by kernel_rfl
noncomputable def c_laws_markIntS : Con := ⟨[.io O25, .val T3], [T3, O25], fun k x => laws_markIntS k x.1 x.2.1⟩
theorem del_laws_markIntS {w0 : World} (hS : Stops w0) : DelOk Try.prog w0 d_laws_markIntS := .nil
theorem ok_laws_markIntS {w0 : World} (hS : Stops w0) : Keeps Try.prog w0 39 c_laws_markIntS := .gn (gen_sound (A := a_laws_markIntS) tab_oko (del_laws_markIntS hS) (drawso (del_laws_markIntS hS)) Try.func39 (by kernel_rfl) (fun k x => by kernel_rfl) (by kernel_rfl)) (by kernel_rfl)
theorem ent_laws_markIntS : Enters' Try.prog 39 := enters' Try.func39 (by kernel_rfl)
attribute [irreducible] laws_markIntS laws_markIntS_l0

/-! ### laws_markHist: function 12 -/
def a_laws_markHist : Ann := ⟨[], []⟩
noncomputable def d_laws_markHist : List (Nat × Con) := [(38, c_laws_markValueS), (39, c_laws_markIntS)]
noncomputable def laws_markHist (k : Nat) (a : (Ty.den O27)) (b : (Ty.den T3)) : Option (den1 [T3, O27]) := evFn Γo d_laws_markHist a_laws_markHist Try.f12 [.io O27, .val T3] [T3, O27] k (a, b, ())
theorem laws_markHist_eq (k : Nat) (a : (Ty.den O27)) (b : (Ty.den T3)) : laws_markHist k a b = bnd (laws_markValueS k a.2.2.2.1 b) (fun y1 => bnd (laws_markIntS k a.2.2.2.2.1 y1.1) (fun y2 => some (y2.1, a.1, a.2.1, a.2.2.1, y1.2, y2.2, ()))) := by kernel_rfl
noncomputable def c_laws_markHist : Con := ⟨[.io O27, .val T3], [T3, O27], fun k x => laws_markHist k x.1 x.2.1⟩
theorem del_laws_markHist {w0 : World} (hS : Stops w0) : DelOk Try.prog w0 d_laws_markHist := .cons (ok_laws_markValueS hS) ent_laws_markValueS (.cons (ok_laws_markIntS hS) ent_laws_markIntS (.nil))
theorem ok_laws_markHist {w0 : World} (hS : Stops w0) : Keeps Try.prog w0 12 c_laws_markHist := .gn (gen_sound (A := a_laws_markHist) tab_oko (del_laws_markHist hS) (drawso (del_laws_markHist hS)) Try.func12 (by kernel_rfl) (fun k x => by kernel_rfl) (by kernel_rfl)) (by kernel_rfl)
theorem ent_laws_markHist : Enters' Try.prog 12 := enters' Try.func12 (by kernel_rfl)
attribute [irreducible] laws_markHist

/-! ### laws_heldValueS: function 40 -/
def a_laws_heldValueS : Ann := ⟨[(0, [.val 0 T24, .val 1 T3, .val 5 T3], ⟨[.val 1 T3], false⟩)], []⟩
noncomputable def d_laws_heldValueS : List (Nat × Con) := [(53, c_laws_markText)]
noncomputable def laws_heldValueS (k : Nat) (a : (Ty.den T24)) (b : (Ty.den T3)) : Option (den1 [T3]) := evFn Γ d_laws_heldValueS a_laws_heldValueS Try.f40 [.val T24, .val T3] [T3] k (a, b, ())
noncomputable def laws_heldValueS_l0 (k : Nat) (v0 : (Ty.den T24)) (v1 : (Ty.den T3)) (v5 : (Ty.den T3)) : Option ((Items.den [.val 1 T3]) ⊕ (den1 [T3])) := loopR (ρ := (den1 [T3])) 0 [.val 0 T24, .val 1 T3, .val 5 T3] [.val 1 T3] (runOf Γ d_laws_heldValueS a_laws_heldValueS Try.f40 [.val T24, .val T3] [T3] 0) k (v0, v1, v5)
theorem laws_heldValueS_eq (k : Nat) (a : (Ty.den T24)) (b : (Ty.den T3)) : laws_heldValueS k a b = bnd (laws_heldValueS_l0 k a b 0) (fun y1 => onSum y1 (fun y2 => some y2) (fun y2 => some y2)) := by kernel_rfl
theorem laws_heldValueS_l0_zero (v0 : (Ty.den T24)) (v1 : (Ty.den T3)) (v5 : (Ty.den T3)) : laws_heldValueS_l0 0 v0 v1 v5 = none := by kernel_rfl
theorem laws_heldValueS_l0_succ (k : Nat) (v0 : (Ty.den T24)) (v1 : (Ty.den T3)) (v5 : (Ty.den T3)) : laws_heldValueS_l0 (k + 1) v0 v1 v5 = br (decide (v5 < (↑(List.length v0) : Int))) (br (decide (0 ≤ v5)) (br (decide (v5 < (↑(List.length v0) : Int))) (br ((List.getD v0 (Int.toNat v5) T57.zero).1 != v1) (some (Sum.inr (-1))) (br (decide (0 ≤ v5)) (br (decide (v5 < (↑(List.length v0) : Int))) (br ((List.getD v0 (Int.toNat v5) T57.zero).2.1 != IntKind.i64.wrap (v1 + 1)) (some (Sum.inr (-1))) (br (decide (0 ≤ v5)) (br (decide (v5 < (↑(List.length v0) : Int))) (br ((List.getD v0 (Int.toNat v5) T57.zero).2.2.1 != IntKind.i64.wrap (IntKind.i64.wrap (v1 + 1) + 1)) (some (Sum.inr (-1))) (br (decide (0 ≤ v5)) (br (decide (v5 < (↑(List.length v0) : Int))) (bnd (laws_markText k (IntKind.i64.wrap (IntKind.i64.wrap (IntKind.i64.wrap (v1 + 1) + 1) + 1))) (fun y1 => br (!(List.getD v0 (Int.toNat v5) T57.zero).2.2.2.1 == y1) (some (Sum.inr (-1))) (laws_heldValueS_l0 k v0 (IntKind.i64.wrap (IntKind.i64.wrap (IntKind.i64.wrap (IntKind.i64.wrap (v1 + 1) + 1) + 1) + 1)) (IntKind.i64.wrap (v5 + 1))))) (none)) (none))) (none)) (none))) (none)) (none))) (none)) (none)) (some (Sum.inl v1)) := by kernel_rfl
noncomputable def c_laws_heldValueS : Con := ⟨[.val T24, .val T3], [T3], fun k x => laws_heldValueS k x.1 x.2.1⟩
theorem del_laws_heldValueS {w0 : World} (hS : Stops w0) : DelOk Try.prog w0 d_laws_heldValueS := .cons (ok_laws_markText hS) ent_laws_markText (.nil)
theorem ok_laws_heldValueS {w0 : World} (hS : Stops w0) : Keeps Try.prog w0 40 c_laws_heldValueS := .con (fn_sound (A := a_laws_heldValueS) tab_ok (del_laws_heldValueS hS) (draws (del_laws_heldValueS hS)) Try.func40 (by kernel_rfl) (fun k x => by kernel_rfl) (by kernel_rfl)) (by kernel_rfl)
theorem ent_laws_heldValueS : Enters' Try.prog 40 := enters' Try.func40 (by kernel_rfl)
attribute [irreducible] laws_heldValueS laws_heldValueS_l0

/-! ### laws_heldIntS: function 41 -/
def a_laws_heldIntS : Ann := ⟨[(0, [.val 0 T25, .val 1 T3, .val 5 T3], ⟨[.val 1 T3], false⟩)], []⟩
noncomputable def d_laws_heldIntS : List (Nat × Con) := []
noncomputable def laws_heldIntS (k : Nat) (a : (Ty.den T25)) (b : (Ty.den T3)) : Option (den1 [T3]) := evFn Γ d_laws_heldIntS a_laws_heldIntS Try.f41 [.val T25, .val T3] [T3] k (a, b, ())
noncomputable def laws_heldIntS_l0 (k : Nat) (v0 : (Ty.den T25)) (v1 : (Ty.den T3)) (v5 : (Ty.den T3)) : Option ((Items.den [.val 1 T3]) ⊕ (den1 [T3])) := loopR (ρ := (den1 [T3])) 0 [.val 0 T25, .val 1 T3, .val 5 T3] [.val 1 T3] (runOf Γ d_laws_heldIntS a_laws_heldIntS Try.f41 [.val T25, .val T3] [T3] 0) k (v0, v1, v5)
theorem laws_heldIntS_eq (k : Nat) (a : (Ty.den T25)) (b : (Ty.den T3)) : laws_heldIntS k a b = bnd (laws_heldIntS_l0 k a b 0) (fun y1 => onSum y1 (fun y2 => some y2) (fun y2 => some y2)) := by kernel_rfl
theorem laws_heldIntS_l0_zero (v0 : (Ty.den T25)) (v1 : (Ty.den T3)) (v5 : (Ty.den T3)) : laws_heldIntS_l0 0 v0 v1 v5 = none := by kernel_rfl
theorem laws_heldIntS_l0_succ (k : Nat) (v0 : (Ty.den T25)) (v1 : (Ty.den T3)) (v5 : (Ty.den T3)) : laws_heldIntS_l0 (k + 1) v0 v1 v5 = br (decide (v5 < (↑(List.length v0) : Int))) (br (decide (0 ≤ v5)) (br (decide (v5 < (↑(List.length v0) : Int))) (br (List.getD v0 (Int.toNat v5) T3.zero != v1) (some (Sum.inr (-1))) (laws_heldIntS_l0 k v0 (IntKind.i64.wrap (v1 + 1)) (IntKind.i64.wrap (v5 + 1)))) (none)) (none)) (some (Sum.inl v1)) := by kernel_rfl
noncomputable def c_laws_heldIntS : Con := ⟨[.val T25, .val T3], [T3], fun k x => laws_heldIntS k x.1 x.2.1⟩
theorem del_laws_heldIntS {w0 : World} (hS : Stops w0) : DelOk Try.prog w0 d_laws_heldIntS := .nil
theorem ok_laws_heldIntS {w0 : World} (hS : Stops w0) : Keeps Try.prog w0 41 c_laws_heldIntS := .con (fn_sound (A := a_laws_heldIntS) tab_ok (del_laws_heldIntS hS) (draws (del_laws_heldIntS hS)) Try.func41 (by kernel_rfl) (fun k x => by kernel_rfl) (by kernel_rfl)) (by kernel_rfl)
theorem ent_laws_heldIntS : Enters' Try.prog 41 := enters' Try.func41 (by kernel_rfl)
attribute [irreducible] laws_heldIntS laws_heldIntS_l0

/-! ### laws_heldHist: function 13 -/
def a_laws_heldHist : Ann := ⟨[], []⟩
noncomputable def d_laws_heldHist : List (Nat × Con) := [(40, c_laws_heldValueS), (41, c_laws_heldIntS)]
noncomputable def laws_heldHist (k : Nat) (a : (Ty.den T27)) (b : (Ty.den T3)) : Option (den1 [T3]) := evFn Γ d_laws_heldHist a_laws_heldHist Try.f13 [.val T27, .val T3] [T3] k (a, b, ())
theorem laws_heldHist_eq (k : Nat) (a : (Ty.den T27)) (b : (Ty.den T3)) : laws_heldHist k a b = bnd (laws_heldValueS k a.2.2.2.1 b) (fun y1 => br (decide (y1 < 0)) (some (-1)) (bnd (laws_heldIntS k a.2.2.2.2.1 y1) (fun y2 => br (decide (y2 < 0)) (some (-1)) (some y2)))) := by kernel_rfl
noncomputable def c_laws_heldHist : Con := ⟨[.val T27, .val T3], [T3], fun k x => laws_heldHist k x.1 x.2.1⟩
theorem del_laws_heldHist {w0 : World} (hS : Stops w0) : DelOk Try.prog w0 d_laws_heldHist := .cons (ok_laws_heldValueS hS) ent_laws_heldValueS (.cons (ok_laws_heldIntS hS) ent_laws_heldIntS (.nil))
theorem ok_laws_heldHist {w0 : World} (hS : Stops w0) : Keeps Try.prog w0 13 c_laws_heldHist := .con (fn_sound (A := a_laws_heldHist) tab_ok (del_laws_heldHist hS) (draws (del_laws_heldHist hS)) Try.func13 (by kernel_rfl) (fun k x => by kernel_rfl) (by kernel_rfl)) (by kernel_rfl)
theorem ent_laws_heldHist : Enters' Try.prog 13 := enters' Try.func13 (by kernel_rfl)
attribute [irreducible] laws_heldHist

/-! ### laws_FnExactAnalyze: function 3 -/
def a_laws_FnExactAnalyze : Ann := ⟨[], []⟩
noncomputable def d_laws_FnExactAnalyze : List (Nat × Con) := [(5, c_laws_szRowS), (6, c_spec_Analyze), (7, c_laws_toRowS), (8, c_impl_Analyze), (9, c_laws_eqHist), (10, c_laws_eqRowS), (11, c_laws_markRowS), (12, c_laws_markHist), (13, c_laws_heldHist)]
noncomputable def laws_FnExactAnalyze (k : Nat) (a : (Ty.den T22)) (b : (Ty.den T3)) (c : (Ty.den T3)) : Option (den1 [T4]) := evFn Γo d_laws_FnExactAnalyze a_laws_FnExactAnalyze Try.f3 [.val T22, .val T3, .val T3] [T4] k (a, b, c, ())
theorem laws_FnExactAnalyze_eq (k : Nat) (a : (Ty.den T22)) (b : (Ty.den T3)) (c : (Ty.den T3)) : laws_FnExactAnalyze k a b c = bnd (laws_szRowS k a 1048576) (fun y1 => br (decide (y1 < 0)) (some true) (bnd (laws_toRowS k a) (fun y2 => bnd (spec_Analyze k y2 b c) (fun y3 => bnd (laws_toRowS k a) (fun y4 => bnd (impl_Analyze k y4 b c) (fun y5 => bnd (laws_eqHist k y5.1 y3.1) (fun y6 => br (!y6) (some false) (br (y5.2 != y3.2) (some false) (bnd (laws_toRowS k a) (fun y7 => bnd (laws_eqRowS k y4 y7) (fun y8 => br (!y8) (some false) (bnd (laws_markRowS k y4 1) (fun y9 => br (decide (y9.1 < 0)) (some false) (bnd (laws_eqHist k y5.1 y3.1) (fun y10 => br (!y10) (some false) (br (y5.2 != y3.2) (some false) (bnd (laws_markHist k y5.1 1) (fun y11 => bnd (laws_heldHist k (y5.1.1, y5.1.2.1, y5.1.2.2.1, y11.2.2.2.2.1, y11.2.2.2.2.2.1, ()) 1) (fun y12 => br (decide (y12 < 0)) (some false) (br (y12 != y11.1) (some false) (bnd (laws_toRowS k a) (fun y13 => bnd (impl_Analyze k y13 b c) (fun y14 => bnd (laws_eqHist k y14.1 y3.1) (fun y15 => br (!y15) (some false) (br (y14.2 != y3.2) (some false) (bnd (laws_heldHist k (y5.1.1, y5.1.2.1, y5.1.2.2.1, y11.2.2.2.2.1, y11.2.2.2.2.2.1, ()) 1) (fun y16 => br (decide (y16 < 0)) (some false) (br (y16 != y11.1) (some false) (some true))))))))))))))))))))))))))))) := by kernel_rfl
noncomputable def c_laws_FnExactAnalyze : Con := ⟨[.val T22, .val T3, .val T3], [T4], fun k x => laws_FnExactAnalyze k x.1 x.2.1 x.2.2.1⟩
theorem del_laws_FnExactAnalyze {w0 : World} (hS : Stops w0) : DelOk Try.prog w0 d_laws_FnExactAnalyze := .cons (ok_laws_szRowS hS) ent_laws_szRowS (.cons (ok_spec_Analyze hS) ent_spec_Analyze (.cons (ok_laws_toRowS hS) ent_laws_toRowS (.cons (ok_impl_Analyze hS) ent_impl_Analyze (.cons (ok_laws_eqHist hS) ent_laws_eqHist (.cons (ok_laws_eqRowS hS) ent_laws_eqRowS (.cons (ok_laws_markRowS hS) ent_laws_markRowS (.cons (ok_laws_markHist hS) ent_laws_markHist (.cons (ok_laws_heldHist hS) ent_laws_heldHist (.nil)))))))))
theorem ok_laws_FnExactAnalyze {w0 : World} (hS : Stops w0) : Keeps Try.prog w0 3 c_laws_FnExactAnalyze := .con (fn_sound (A := a_laws_FnExactAnalyze) tab_oko (del_laws_FnExactAnalyze hS) (drawso (del_laws_FnExactAnalyze hS)) Try.func3 (by kernel_rfl) (fun k x => by kernel_rfl) (by kernel_rfl)) (by kernel_rfl)
theorem ent_laws_FnExactAnalyze : Enters' Try.prog 3 := enters' Try.func3 (by kernel_rfl)
attribute [irreducible] laws_FnExactAnalyze

end Go.Ev.T1
