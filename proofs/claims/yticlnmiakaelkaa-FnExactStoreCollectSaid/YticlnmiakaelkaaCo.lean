import Derived.Test.YticlnmiakaelkaaCoTab1
import Derived.Test.YticlnmiakaelkaaCoEvG
import Derived.Lib.IndexMore
set_option linter.unusedVariables false
namespace Go.Ev.T1
open Go.Proofs Go
set_option maxRecDepth 100000
noncomputable def c_sort_SliceStable : Con := ⟨[.srt [35]], [], fun _ _ => none⟩
structure Stops (w0 : World) : Prop where
  sort_SliceStable : Keeps Try.prog w0 84 c_sort_SliceStable ∧ Enters' Try.prog 84 ∧ SrtCon Try.prog 84 c_sort_SliceStable
theorem tab_ok : TabOk Try.prog Γ := tab_of (by kernel_rfl)
theorem tab_oko : TabOk Try.prog Γo := tab_of (by kernel_rfl)
theorem drawso {w0 : World} {Δ : List (Nat × Con)} (h : DelOk Try.prog w0 Δ) {w : World} (hb : Go.RowKit.Below w0.heap.size w0 w) : DrawSound Try.prog w Γo Δ := draws_of tab_oko h (by kernel_rfl) hb
theorem draws {w0 : World} {Δ : List (Nat × Con)} (h : DelOk Try.prog w0 Δ) {w : World} (hb : Go.RowKit.Below w0.heap.size w0 w) : DrawSound Try.prog w Γ Δ := draws_of tab_ok h (by kernel_rfl) hb
abbrev X22_v_0 : Ty := .osl 5 T5
abbrev X60_v_1 : Ty := .pair T35 (.pair (.osl 106 T106) (.pair T33 (.unit)))
/-! ### laws_szVersion: function 56 -/
def a_laws_szVersion : Ann := ⟨[], []⟩
noncomputable def d_laws_szVersion : List (Nat × Con) := []
noncomputable def laws_szVersion (k : Nat) (a : (Ty.den T93)) (b : (Ty.den T3)) : Option (den1 [T3]) := evFn Γ d_laws_szVersion a_laws_szVersion Try.f56 [.val T93, .val T3] [T3] k (a, b, ())
theorem laws_szVersion_eq (k : Nat) (a : (Ty.den T93)) (b : (Ty.den T3)) : laws_szVersion k a b = br (decide (IntKind.i64.wrap (b - (↑(List.length a.1) : Int)) < 0)) (some (-1)) (br (decide (IntKind.i64.wrap (IntKind.i64.wrap (b - (↑(List.length a.1) : Int)) - (↑(List.length a.2.2.2.1) : Int)) < 0)) (some (-1)) (some (IntKind.i64.wrap (IntKind.i64.wrap (b - (↑(List.length a.1) : Int)) - (↑(List.length a.2.2.2.1) : Int))))) := by kernel_rfl
noncomputable def c_laws_szVersion : Con := ⟨[.val T93, .val T3], [T3], fun k x => laws_szVersion k x.1 x.2.1⟩
theorem del_laws_szVersion {w0 : World} (hS : Stops w0) : DelOk Try.prog w0 d_laws_szVersion := .nil
theorem ok_laws_szVersion {w0 : World} (hS : Stops w0) : Keeps Try.prog w0 56 c_laws_szVersion := .con (fn_sound (A := a_laws_szVersion) tab_ok (del_laws_szVersion hS) (draws (del_laws_szVersion hS)) Try.func56 (by kernel_rfl) (fun k x => by kernel_rfl) (by kernel_rfl)) (by kernel_rfl)
theorem ent_laws_szVersion : Enters' Try.prog 56 := enters' Try.func56 (by kernel_rfl)
attribute [irreducible] laws_szVersion

/-! ### laws_szVersionS: function 98 -/
def a_laws_szVersionS : Ann := ⟨[(0, [.val 0 T50, .val 1 T3, .val 5 T3], ⟨[.val 1 T3], false⟩)], []⟩
noncomputable def d_laws_szVersionS : List (Nat × Con) := [(56, c_laws_szVersion)]
noncomputable def laws_szVersionS (k : Nat) (a : (Ty.den T50)) (b : (Ty.den T3)) : Option (den1 [T3]) := evFn Γ d_laws_szVersionS a_laws_szVersionS Try.f98 [.val T50, .val T3] [T3] k (a, b, ())
noncomputable def laws_szVersionS_l0 (k : Nat) (v0 : (Ty.den T50)) (v1 : (Ty.den T3)) (v5 : (Ty.den T3)) : Option ((Items.den [.val 1 T3]) ⊕ (den1 [T3])) := loopR (ρ := (den1 [T3])) 0 [.val 0 T50, .val 1 T3, .val 5 T3] [.val 1 T3] (runOf Γ d_laws_szVersionS a_laws_szVersionS Try.f98 [.val T50, .val T3] [T3] 0) k (v0, v1, v5)
theorem laws_szVersionS_eq (k : Nat) (a : (Ty.den T50)) (b : (Ty.den T3)) : laws_szVersionS k a b = br (decide (IntKind.i64.wrap (b - (↑(List.length a) : Int)) < 0)) (some (-1)) (bnd (laws_szVersionS_l0 k a (IntKind.i64.wrap (b - (↑(List.length a) : Int))) 0) (fun y1 => onSum y1 (fun y2 => some y2) (fun y2 => some y2))) := by kernel_rfl
theorem laws_szVersionS_l0_zero (v0 : (Ty.den T50)) (v1 : (Ty.den T3)) (v5 : (Ty.den T3)) : laws_szVersionS_l0 0 v0 v1 v5 = none := by kernel_rfl
theorem laws_szVersionS_l0_succ (k : Nat) (v0 : (Ty.den T50)) (v1 : (Ty.den T3)) (v5 : (Ty.den T3)) : laws_szVersionS_l0 (k + 1) v0 v1 v5 = br (decide (v5 < (↑(List.length v0) : Int))) (br (decide (0 ≤ v5)) (br (decide (v5 < (↑(List.length v0) : Int))) (bnd (laws_szVersion k (List.getD v0 (Int.toNat v5) T93.zero) v1) (fun y1 => br (decide (y1 < 0)) (some (Sum.inr (-1))) (laws_szVersionS_l0 k v0 y1 (IntKind.i64.wrap (v5 + 1))))) (none)) (none)) (some (Sum.inl v1)) := by kernel_rfl
noncomputable def c_laws_szVersionS : Con := ⟨[.val T50, .val T3], [T3], fun k x => laws_szVersionS k x.1 x.2.1⟩
theorem del_laws_szVersionS {w0 : World} (hS : Stops w0) : DelOk Try.prog w0 d_laws_szVersionS := .cons (ok_laws_szVersion hS) ent_laws_szVersion (.nil)
theorem ok_laws_szVersionS {w0 : World} (hS : Stops w0) : Keeps Try.prog w0 98 c_laws_szVersionS := .con (fn_sound (A := a_laws_szVersionS) tab_ok (del_laws_szVersionS hS) (draws (del_laws_szVersionS hS)) Try.func98 (by kernel_rfl) (fun k x => by kernel_rfl) (by kernel_rfl)) (by kernel_rfl)
theorem ent_laws_szVersionS : Enters' Try.prog 98 := enters' Try.func98 (by kernel_rfl)
attribute [irreducible] laws_szVersionS laws_szVersionS_l0

/-! ### laws_szRun: function 175 -/
def a_laws_szRun : Ann := ⟨[], []⟩
noncomputable def d_laws_szRun : List (Nat × Con) := [(98, c_laws_szVersionS)]
noncomputable def laws_szRun (k : Nat) (a : (Ty.den T238)) (b : (Ty.den T3)) : Option (den1 [T3]) := evFn Γ d_laws_szRun a_laws_szRun Try.f175 [.val T238, .val T3] [T3] k (a, b, ())
theorem laws_szRun_eq (k : Nat) (a : (Ty.den T238)) (b : (Ty.den T3)) : laws_szRun k a b = bnd (laws_szVersionS k a.1 b) (fun y1 => br (decide (y1 < 0)) (some (-1)) (br (decide (IntKind.i64.wrap (y1 - (↑(List.length a.2.1) : Int)) < 0)) (some (-1)) (some (IntKind.i64.wrap (y1 - (↑(List.length a.2.1) : Int)))))) := by kernel_rfl
noncomputable def c_laws_szRun : Con := ⟨[.val T238, .val T3], [T3], fun k x => laws_szRun k x.1 x.2.1⟩
theorem del_laws_szRun {w0 : World} (hS : Stops w0) : DelOk Try.prog w0 d_laws_szRun := .cons (ok_laws_szVersionS hS) ent_laws_szVersionS (.nil)
theorem ok_laws_szRun {w0 : World} (hS : Stops w0) : Keeps Try.prog w0 175 c_laws_szRun := .con (fn_sound (A := a_laws_szRun) tab_ok (del_laws_szRun hS) (draws (del_laws_szRun hS)) Try.func175 (by kernel_rfl) (fun k x => by kernel_rfl) (by kernel_rfl)) (by kernel_rfl)
theorem ent_laws_szRun : Enters' Try.prog 175 := enters' Try.func175 (by kernel_rfl)
attribute [irreducible] laws_szRun

/-! ### laws_szRunS: function 99 -/
def a_laws_szRunS : Ann := ⟨[(0, [.val 0 T51, .val 1 T3, .val 5 T3], ⟨[.val 1 T3], false⟩)], []⟩
noncomputable def d_laws_szRunS : List (Nat × Con) := [(175, c_laws_szRun)]
noncomputable def laws_szRunS (k : Nat) (a : (Ty.den T51)) (b : (Ty.den T3)) : Option (den1 [T3]) := evFn Γ d_laws_szRunS a_laws_szRunS Try.f99 [.val T51, .val T3] [T3] k (a, b, ())
noncomputable def laws_szRunS_l0 (k : Nat) (v0 : (Ty.den T51)) (v1 : (Ty.den T3)) (v5 : (Ty.den T3)) : Option ((Items.den [.val 1 T3]) ⊕ (den1 [T3])) := loopR (ρ := (den1 [T3])) 0 [.val 0 T51, .val 1 T3, .val 5 T3] [.val 1 T3] (runOf Γ d_laws_szRunS a_laws_szRunS Try.f99 [.val T51, .val T3] [T3] 0) k (v0, v1, v5)
theorem laws_szRunS_eq (k : Nat) (a : (Ty.den T51)) (b : (Ty.den T3)) : laws_szRunS k a b = br (decide (IntKind.i64.wrap (b - (↑(List.length a) : Int)) < 0)) (some (-1)) (bnd (laws_szRunS_l0 k a (IntKind.i64.wrap (b - (↑(List.length a) : Int))) 0) (fun y1 => onSum y1 (fun y2 => some y2) (fun y2 => some y2))) := by kernel_rfl
theorem laws_szRunS_l0_zero (v0 : (Ty.den T51)) (v1 : (Ty.den T3)) (v5 : (Ty.den T3)) : laws_szRunS_l0 0 v0 v1 v5 = none := by kernel_rfl
theorem laws_szRunS_l0_succ (k : Nat) (v0 : (Ty.den T51)) (v1 : (Ty.den T3)) (v5 : (Ty.den T3)) : laws_szRunS_l0 (k + 1) v0 v1 v5 = br (decide (v5 < (↑(List.length v0) : Int))) (br (decide (0 ≤ v5)) (br (decide (v5 < (↑(List.length v0) : Int))) (bnd (laws_szRun k (List.getD v0 (Int.toNat v5) T238.zero) v1) (fun y1 => br (decide (y1 < 0)) (some (Sum.inr (-1))) (laws_szRunS_l0 k v0 y1 (IntKind.i64.wrap (v5 + 1))))) (none)) (none)) (some (Sum.inl v1)) := by kernel_rfl
noncomputable def c_laws_szRunS : Con := ⟨[.val T51, .val T3], [T3], fun k x => laws_szRunS k x.1 x.2.1⟩
theorem del_laws_szRunS {w0 : World} (hS : Stops w0) : DelOk Try.prog w0 d_laws_szRunS := .cons (ok_laws_szRun hS) ent_laws_szRun (.nil)
theorem ok_laws_szRunS {w0 : World} (hS : Stops w0) : Keeps Try.prog w0 99 c_laws_szRunS := .con (fn_sound (A := a_laws_szRunS) tab_ok (del_laws_szRunS hS) (draws (del_laws_szRunS hS)) Try.func99 (by kernel_rfl) (fun k x => by kernel_rfl) (by kernel_rfl)) (by kernel_rfl)
theorem ent_laws_szRunS : Enters' Try.prog 99 := enters' Try.func99 (by kernel_rfl)
attribute [irreducible] laws_szRunS laws_szRunS_l0

/-! ### laws_szStore: function 26 -/
def a_laws_szStore : Ann := ⟨[], []⟩
noncomputable def d_laws_szStore : List (Nat × Con) := [(98, c_laws_szVersionS), (99, c_laws_szRunS)]
noncomputable def laws_szStore (k : Nat) (a : (Ty.den T54)) (b : (Ty.den T3)) : Option (den1 [T3]) := evFn Γ d_laws_szStore a_laws_szStore Try.f26 [.val T54, .val T3] [T3] k (a, b, ())
theorem laws_szStore_eq (k : Nat) (a : (Ty.den T54)) (b : (Ty.den T3)) : laws_szStore k a b = bnd (laws_szVersionS k a.1 b) (fun y1 => br (decide (y1 < 0)) (some (-1)) (bnd (laws_szRunS k a.2.1 y1) (fun y2 => br (decide (y2 < 0)) (some (-1)) (some y2)))) := by kernel_rfl
noncomputable def c_laws_szStore : Con := ⟨[.val T54, .val T3], [T3], fun k x => laws_szStore k x.1 x.2.1⟩
theorem del_laws_szStore {w0 : World} (hS : Stops w0) : DelOk Try.prog w0 d_laws_szStore := .cons (ok_laws_szVersionS hS) ent_laws_szVersionS (.cons (ok_laws_szRunS hS) ent_laws_szRunS (.nil))
theorem ok_laws_szStore {w0 : World} (hS : Stops w0) : Keeps Try.prog w0 26 c_laws_szStore := .con (fn_sound (A := a_laws_szStore) tab_ok (del_laws_szStore hS) (draws (del_laws_szStore hS)) Try.func26 (by kernel_rfl) (fun k x => by kernel_rfl) (by kernel_rfl)) (by kernel_rfl)
theorem ent_laws_szStore : Enters' Try.prog 26 := enters' Try.func26 (by kernel_rfl)
attribute [irreducible] laws_szStore

/-! ### laws_toTime: function 29 -/
def a_laws_toTime : Ann := ⟨[], []⟩
noncomputable def d_laws_toTime : List (Nat × Con) := []
noncomputable def laws_toTime (k : Nat) (a : (Ty.den T52)) : Option (den1 [T33]) := evFn Γo d_laws_toTime a_laws_toTime Try.f29 [.val T52] [T33] k (a, ())
theorem laws_toTime_eq (k : Nat) (a : (Ty.den T52)) : laws_toTime k a = some a := by kernel_rfl
noncomputable def c_laws_toTime : Con := ⟨[.val T52], [T33], fun k x => laws_toTime k x.1⟩
theorem del_laws_toTime {w0 : World} (hS : Stops w0) : DelOk Try.prog w0 d_laws_toTime := .nil
theorem ok_laws_toTime {w0 : World} (hS : Stops w0) : Keeps Try.prog w0 29 c_laws_toTime := .con (fn_sound (A := a_laws_toTime) tab_oko (del_laws_toTime hS) (drawso (del_laws_toTime hS)) Try.func29 (by kernel_rfl) (fun k x => by kernel_rfl) (by kernel_rfl)) (by kernel_rfl)
theorem ent_laws_toTime : Enters' Try.prog 29 := enters' Try.func29 (by kernel_rfl)
attribute [irreducible] laws_toTime

/-! ### laws_toVersion: function 58 -/
def a_laws_toVersion : Ann := ⟨[], []⟩
noncomputable def d_laws_toVersion : List (Nat × Con) := [(29, c_laws_toTime)]
noncomputable def laws_toVersion (k : Nat) (a : (Ty.den T93)) : Option (den1 [T42]) := evFn Γo d_laws_toVersion a_laws_toVersion Try.f58 [.val T93] [T42] k (a, ())
theorem laws_toVersion_eq (k : Nat) (a : (Ty.den T93)) : laws_toVersion k a = bnd (laws_toTime k a.2.1) (fun y1 => some (a.1, y1, a.2.2.1, a.2.2.2.1, ())) := by kernel_rfl
noncomputable def c_laws_toVersion : Con := ⟨[.val T93], [T42], fun k x => laws_toVersion k x.1⟩
theorem del_laws_toVersion {w0 : World} (hS : Stops w0) : DelOk Try.prog w0 d_laws_toVersion := .cons (ok_laws_toTime hS) ent_laws_toTime (.nil)
theorem ok_laws_toVersion {w0 : World} (hS : Stops w0) : Keeps Try.prog w0 58 c_laws_toVersion := .con (fn_sound (A := a_laws_toVersion) tab_oko (del_laws_toVersion hS) (drawso (del_laws_toVersion hS)) Try.func58 (by kernel_rfl) (fun k x => by kernel_rfl) (by kernel_rfl)) (by kernel_rfl)
theorem ent_laws_toVersion : Enters' Try.prog 58 := enters' Try.func58 (by kernel_rfl)
attribute [irreducible] laws_toVersion

/-! ### laws_toVersionS: function 101 -/
def a_laws_toVersionS : Ann := ⟨[(0, [.val 0 T50, .val 3 O35, .val 4 T3], ⟨[.val 3 O35], true⟩)], []⟩
noncomputable def d_laws_toVersionS : List (Nat × Con) := [(58, c_laws_toVersion)]
noncomputable def laws_toVersionS (k : Nat) (a : (Ty.den T50)) : Option (den1 [O35]) := evFn Γo d_laws_toVersionS a_laws_toVersionS Try.f101 [.val T50] [O35] k (a, ())
noncomputable def laws_toVersionS_l0 (k : Nat) (v0 : (Ty.den T50)) (v3 : (Ty.den O35)) (v4 : (Ty.den T3)) : Option (Items.den [.val 3 O35]) := loopQ (ρ := (den1 [O35])) 0 [.val 0 T50, .val 3 O35, .val 4 T3] [.val 3 O35] (runOf Γo d_laws_toVersionS a_laws_toVersionS Try.f101 [.val T50] [O35] 0) k (v0, v3, v4)
theorem laws_toVersionS_eq (k : Nat) (a : (Ty.den T50)) : laws_toVersionS k a = br ((↑(List.length a) : Int) == (↑(List.length a) : Int)) (br (decide (0 ≤ (↑(List.length a) : Int))) (br (decide ((↑(List.length a) : Int) ≤ (↑capN : Int))) (bnd (laws_toVersionS_l0 k a (List.replicate (↑(List.length a) : Int).toNat (T9.pair (T33.pair (T4.pair (T9.pair Ty.unit)))).zero) 0) (fun y1 => some y1)) (none)) (none)) (none) := by kernel_rfl
theorem laws_toVersionS_l0_zero (v0 : (Ty.den T50)) (v3 : (Ty.den O35)) (v4 : (Ty.den T3)) : laws_toVersionS_l0 0 v0 v3 v4 = none := by kernel_rfl
theorem laws_toVersionS_l0_succ (k : Nat) (v0 : (Ty.den T50)) (v3 : (Ty.den O35)) (v4 : (Ty.den T3)) : laws_toVersionS_l0 (k + 1) v0 v3 v4 = br (decide (v4 < (↑(List.length v0) : Int))) (br (decide (0 ≤ v4)) (br (decide (v4 < (↑(List.length v0) : Int))) (bnd (laws_toVersion k (List.getD v0 (Int.toNat v4) T93.zero)) (fun y1 => br (decide (0 ≤ v4)) (br (decide (v4 < (↑(List.length v3) : Int))) (laws_toVersionS_l0 k v0 (List.set v3 (Int.toNat v4) y1) (IntKind.i64.wrap (v4 + 1))) (none)) (none))) (none)) (none)) (some v3) := by kernel_rfl
noncomputable def c_laws_toVersionS : Con := ⟨[.val T50], [O35], fun k x => laws_toVersionS k x.1⟩
theorem del_laws_toVersionS {w0 : World} (hS : Stops w0) : DelOk Try.prog w0 d_laws_toVersionS := .cons (ok_laws_toVersion hS) ent_laws_toVersion (.nil)
theorem ok_laws_toVersionS {w0 : World} (hS : Stops w0) : Keeps Try.prog w0 101 c_laws_toVersionS := .gn (gen_sound (A := a_laws_toVersionS) tab_oko (del_laws_toVersionS hS) (drawso (del_laws_toVersionS hS)) Try.func101 (by kernel_rfl) (fun k x => by kernel_rfl) (by kernel_rfl)) (by kernel_rfl)
theorem ent_laws_toVersionS : Enters' Try.prog 101 := enters' Try.func101 (by kernel_rfl)
attribute [irreducible] laws_toVersionS laws_toVersionS_l0

/-! ### laws_toRun: function 176 -/
def a_laws_toRun : Ann := ⟨[], []⟩
noncomputable def d_laws_toRun : List (Nat × Con) := [(101, c_laws_toVersionS)]
noncomputable def laws_toRun (k : Nat) (a : (Ty.den T238)) : Option (den1 [O106]) := evFn Γo d_laws_toRun a_laws_toRun Try.f176 [.val T238] [O106] k (a, ())
theorem laws_toRun_eq (k : Nat) (a : (Ty.den T238)) : laws_toRun k a = bnd (laws_toVersionS k a.1) (fun y1 => some (y1, a.2.1, ())) := by kernel_rfl
noncomputable def c_laws_toRun : Con := ⟨[.val T238], [O106], fun k x => laws_toRun k x.1⟩
theorem del_laws_toRun {w0 : World} (hS : Stops w0) : DelOk Try.prog w0 d_laws_toRun := .cons (ok_laws_toVersionS hS) ent_laws_toVersionS (.nil)
theorem ok_laws_toRun {w0 : World} (hS : Stops w0) : Keeps Try.prog w0 176 c_laws_toRun := .gn (gen_sound (A := a_laws_toRun) tab_oko (del_laws_toRun hS) (drawso (del_laws_toRun hS)) Try.func176 (by kernel_rfl) (fun k x => by kernel_rfl) (by kernel_rfl)) (by kernel_rfl)
theorem ent_laws_toRun : Enters' Try.prog 176 := enters' Try.func176 (by kernel_rfl)
attribute [irreducible] laws_toRun

/-! ### laws_toRunS: function 102 -/
def a_laws_toRunS : Ann := ⟨[(0, [.val 0 T51, .val 3 O58, .val 4 T3], ⟨[.val 3 O58], true⟩)], []⟩
noncomputable def d_laws_toRunS : List (Nat × Con) := [(176, c_laws_toRun)]
noncomputable def laws_toRunS (k : Nat) (a : (Ty.den T51)) : Option (den1 [O58]) := evFn Γo d_laws_toRunS a_laws_toRunS Try.f102 [.val T51] [O58] k (a, ())
noncomputable def laws_toRunS_l0 (k : Nat) (v0 : (Ty.den T51)) (v3 : (Ty.den O58)) (v4 : (Ty.den T3)) : Option (Items.den [.val 3 O58]) := loopQ (ρ := (den1 [O58])) 0 [.val 0 T51, .val 3 O58, .val 4 T3] [.val 3 O58] (runOf Γo d_laws_toRunS a_laws_toRunS Try.f102 [.val T51] [O58] 0) k (v0, v3, v4)
theorem laws_toRunS_eq (k : Nat) (a : (Ty.den T51)) : laws_toRunS k a = br ((↑(List.length a) : Int) == (↑(List.length a) : Int)) (br (decide (0 ≤ (↑(List.length a) : Int))) (br (decide ((↑(List.length a) : Int) ≤ (↑capN : Int))) (bnd (laws_toRunS_l0 k a (List.replicate (↑(List.length a) : Int).toNat (O35.pair (T9.pair Ty.unit)).zero) 0) (fun y1 => some y1)) (none)) (none)) (none) := by kernel_rfl
theorem laws_toRunS_l0_zero (v0 : (Ty.den T51)) (v3 : (Ty.den O58)) (v4 : (Ty.den T3)) : laws_toRunS_l0 0 v0 v3 v4 = none := by kernel_rfl
theorem laws_toRunS_l0_succ (k : Nat) (v0 : (Ty.den T51)) (v3 : (Ty.den O58)) (v4 : (Ty.den T3)) : laws_toRunS_l0 (k + 1) v0 v3 v4 = br (decide (v4 < (↑(List.length v0) : Int))) (br (decide (0 ≤ v4)) (br (decide (v4 < (↑(List.length v0) : Int))) (bnd (laws_toRun k (List.getD v0 (Int.toNat v4) T238.zero)) (fun y1 => br (decide (0 ≤ v4)) (br (decide (v4 < (↑(List.length v3) : Int))) (laws_toRunS_l0 k v0 (List.set v3 (Int.toNat v4) y1) (IntKind.i64.wrap (v4 + 1))) (none)) (none))) (none)) (none)) (some v3) := by kernel_rfl
noncomputable def c_laws_toRunS : Con := ⟨[.val T51], [O58], fun k x => laws_toRunS k x.1⟩
theorem del_laws_toRunS {w0 : World} (hS : Stops w0) : DelOk Try.prog w0 d_laws_toRunS := .cons (ok_laws_toRun hS) ent_laws_toRun (.nil)
theorem ok_laws_toRunS {w0 : World} (hS : Stops w0) : Keeps Try.prog w0 102 c_laws_toRunS := .gn (gen_sound (A := a_laws_toRunS) tab_oko (del_laws_toRunS hS) (drawso (del_laws_toRunS hS)) Try.func102 (by kernel_rfl) (fun k x => by kernel_rfl) (by kernel_rfl)) (by kernel_rfl)
theorem ent_laws_toRunS : Enters' Try.prog 102 := enters' Try.func102 (by kernel_rfl)
attribute [irreducible] laws_toRunS laws_toRunS_l0

/-! ### laws_toStore: function 28 -/
def a_laws_toStore : Ann := ⟨[], []⟩
noncomputable def d_laws_toStore : List (Nat × Con) := [(29, c_laws_toTime), (101, c_laws_toVersionS), (102, c_laws_toRunS)]
noncomputable def laws_toStore (k : Nat) (a : (Ty.den T54)) : Option (den1 [O60]) := evFn Γo d_laws_toStore a_laws_toStore Try.f28 [.val T54] [O60] k (a, ())
theorem laws_toStore_eq (k : Nat) (a : (Ty.den T54)) : laws_toStore k a = bnd (laws_toVersionS k a.1) (fun y1 => bnd (laws_toRunS k a.2.1) (fun y2 => bnd (laws_toTime k a.2.2.1) (fun y3 => some (y1, y2, y3, ())))) := by kernel_rfl
noncomputable def c_laws_toStore : Con := ⟨[.val T54], [O60], fun k x => laws_toStore k x.1⟩
theorem del_laws_toStore {w0 : World} (hS : Stops w0) : DelOk Try.prog w0 d_laws_toStore := .cons (ok_laws_toTime hS) ent_laws_toTime (.cons (ok_laws_toVersionS hS) ent_laws_toVersionS (.cons (ok_laws_toRunS hS) ent_laws_toRunS (.nil)))
theorem ok_laws_toStore {w0 : World} (hS : Stops w0) : Keeps Try.prog w0 28 c_laws_toStore := .gn (gen_sound (A := a_laws_toStore) tab_oko (del_laws_toStore hS) (drawso (del_laws_toStore hS)) Try.func28 (by kernel_rfl) (fun k x => by kernel_rfl) (by kernel_rfl)) (by kernel_rfl)
theorem ent_laws_toStore : Enters' Try.prog 28 := enters' Try.func28 (by kernel_rfl)
attribute [irreducible] laws_toStore

/-! ### laws_eqTime: function 106 -/
def a_laws_eqTime : Ann := ⟨[], []⟩
noncomputable def d_laws_eqTime : List (Nat × Con) := []
noncomputable def laws_eqTime (k : Nat) (a : (Ty.den T33)) (b : (Ty.den T33)) : Option (den1 [T4]) := evFn Γ d_laws_eqTime a_laws_eqTime Try.f106 [.val T33, .val T33] [T4] k (a, b, ())
theorem laws_eqTime_eq (k : Nat) (a : (Ty.den T33)) (b : (Ty.den T33)) : laws_eqTime k a b = br (a.1 != b.1) (some false) (br (a.2.1 != b.2.1) (some false) (some true)) := by kernel_rfl
noncomputable def c_laws_eqTime : Con := ⟨[.val T33, .val T33], [T4], fun k x => laws_eqTime k x.1 x.2.1⟩
theorem del_laws_eqTime {w0 : World} (hS : Stops w0) : DelOk Try.prog w0 d_laws_eqTime := .nil
theorem ok_laws_eqTime {w0 : World} (hS : Stops w0) : Keeps Try.prog w0 106 c_laws_eqTime := .con (fn_sound (A := a_laws_eqTime) tab_ok (del_laws_eqTime hS) (draws (del_laws_eqTime hS)) Try.func106 (by kernel_rfl) (fun k x => by kernel_rfl) (by kernel_rfl)) (by kernel_rfl)
theorem ent_laws_eqTime : Enters' Try.prog 106 := enters' Try.func106 (by kernel_rfl)
attribute [irreducible] laws_eqTime

/-! ### laws_eqVersion: function 31 -/
def a_laws_eqVersion : Ann := ⟨[], []⟩
noncomputable def d_laws_eqVersion : List (Nat × Con) := [(106, c_laws_eqTime)]
noncomputable def laws_eqVersion (k : Nat) (a : (Ty.den T42)) (b : (Ty.den T42)) : Option (den1 [T4]) := evFn Γ d_laws_eqVersion a_laws_eqVersion Try.f31 [.val T42, .val T42] [T4] k (a, b, ())
theorem laws_eqVersion_eq (k : Nat) (a : (Ty.den T42)) (b : (Ty.den T42)) : laws_eqVersion k a b = br (!a.1 == b.1) (some false) (bnd (laws_eqTime k a.2.1 b.2.1) (fun y1 => br (!y1) (some false) (br (!a.2.2.1 == b.2.2.1) (some false) (br (!a.2.2.2.1 == b.2.2.2.1) (some false) (some true))))) := by kernel_rfl
noncomputable def c_laws_eqVersion : Con := ⟨[.val T42, .val T42], [T4], fun k x => laws_eqVersion k x.1 x.2.1⟩
theorem del_laws_eqVersion {w0 : World} (hS : Stops w0) : DelOk Try.prog w0 d_laws_eqVersion := .cons (ok_laws_eqTime hS) ent_laws_eqTime (.nil)
theorem ok_laws_eqVersion {w0 : World} (hS : Stops w0) : Keeps Try.prog w0 31 c_laws_eqVersion := .con (fn_sound (A := a_laws_eqVersion) tab_ok (del_laws_eqVersion hS) (draws (del_laws_eqVersion hS)) Try.func31 (by kernel_rfl) (fun k x => by kernel_rfl) (by kernel_rfl)) (by kernel_rfl)
theorem ent_laws_eqVersion : Enters' Try.prog 31 := enters' Try.func31 (by kernel_rfl)
attribute [irreducible] laws_eqVersion

/-! ### laws_eqVersionS: function 42 -/
def a_laws_eqVersionS : Ann := ⟨[(0, [.val 0 T35, .val 1 T35, .val 5 T3], ⟨[], false⟩)], []⟩
noncomputable def d_laws_eqVersionS : List (Nat × Con) := [(31, c_laws_eqVersion)]
noncomputable def laws_eqVersionS (k : Nat) (a : (Ty.den T35)) (b : (Ty.den T35)) : Option (den1 [T4]) := evFn Γ d_laws_eqVersionS a_laws_eqVersionS Try.f42 [.val T35, .val T35] [T4] k (a, b, ())
noncomputable def laws_eqVersionS_l0 (k : Nat) (v0 : (Ty.den T35)) (v1 : (Ty.den T35)) (v5 : (Ty.den T3)) : Option ((Items.den []) ⊕ (den1 [T4])) := loopR (ρ := (den1 [T4])) 0 [.val 0 T35, .val 1 T35, .val 5 T3] [] (runOf Γ d_laws_eqVersionS a_laws_eqVersionS Try.f42 [.val T35, .val T35] [T4] 0) k (v0, v1, v5)
theorem laws_eqVersionS_eq (k : Nat) (a : (Ty.den T35)) (b : (Ty.den T35)) : laws_eqVersionS k a b = br ((↑(List.length a) : Int) != (↑(List.length b) : Int)) (some false) (bnd (laws_eqVersionS_l0 k a b 0) (fun y1 => onSum y1 (fun y2 => some true) (fun y2 => some y2))) := by kernel_rfl
theorem laws_eqVersionS_l0_zero (v0 : (Ty.den T35)) (v1 : (Ty.den T35)) (v5 : (Ty.den T3)) : laws_eqVersionS_l0 0 v0 v1 v5 = none := by kernel_rfl
theorem laws_eqVersionS_l0_succ (k : Nat) (v0 : (Ty.den T35)) (v1 : (Ty.den T35)) (v5 : (Ty.den T3)) : laws_eqVersionS_l0 (k + 1) v0 v1 v5 = br (decide (v5 < (↑(List.length v0) : Int))) (br (decide (0 ≤ v5)) (br (decide (v5 < (↑(List.length v0) : Int))) (br (decide (0 ≤ v5)) (br (decide (v5 < (↑(List.length v1) : Int))) (bnd (laws_eqVersion k (List.getD v0 (Int.toNat v5) T42.zero) (List.getD v1 (Int.toNat v5) T42.zero)) (fun y1 => br (!y1) (some (Sum.inr false)) (laws_eqVersionS_l0 k v0 v1 (IntKind.i64.wrap (v5 + 1))))) (none)) (none)) (none)) (none)) (some (Sum.inl ())) := by kernel_rfl
noncomputable def c_laws_eqVersionS : Con := ⟨[.val T35, .val T35], [T4], fun k x => laws_eqVersionS k x.1 x.2.1⟩
theorem del_laws_eqVersionS {w0 : World} (hS : Stops w0) : DelOk Try.prog w0 d_laws_eqVersionS := .cons (ok_laws_eqVersion hS) ent_laws_eqVersion (.nil)
theorem ok_laws_eqVersionS {w0 : World} (hS : Stops w0) : Keeps Try.prog w0 42 c_laws_eqVersionS := .con (fn_sound (A := a_laws_eqVersionS) tab_ok (del_laws_eqVersionS hS) (draws (del_laws_eqVersionS hS)) Try.func42 (by kernel_rfl) (fun k x => by kernel_rfl) (by kernel_rfl)) (by kernel_rfl)
theorem ent_laws_eqVersionS : Enters' Try.prog 42 := enters' Try.func42 (by kernel_rfl)
attribute [irreducible] laws_eqVersionS laws_eqVersionS_l0

/-! ### laws_eqRun: function 179 -/
def a_laws_eqRun : Ann := ⟨[], []⟩
noncomputable def d_laws_eqRun : List (Nat × Con) := [(42, c_laws_eqVersionS)]
noncomputable def laws_eqRun (k : Nat) (a : (Ty.den T106)) (b : (Ty.den T106)) : Option (den1 [T4]) := evFn Γ d_laws_eqRun a_laws_eqRun Try.f179 [.val T106, .val T106] [T4] k (a, b, ())
theorem laws_eqRun_eq (k : Nat) (a : (Ty.den T106)) (b : (Ty.den T106)) : laws_eqRun k a b = bnd (laws_eqVersionS k a.1 b.1) (fun y1 => br (!y1) (some false) (br (!a.2.1 == b.2.1) (some false) (some true))) := by kernel_rfl
noncomputable def c_laws_eqRun : Con := ⟨[.val T106, .val T106], [T4], fun k x => laws_eqRun k x.1 x.2.1⟩
theorem del_laws_eqRun {w0 : World} (hS : Stops w0) : DelOk Try.prog w0 d_laws_eqRun := .cons (ok_laws_eqVersionS hS) ent_laws_eqVersionS (.nil)
theorem ok_laws_eqRun {w0 : World} (hS : Stops w0) : Keeps Try.prog w0 179 c_laws_eqRun := .con (fn_sound (A := a_laws_eqRun) tab_ok (del_laws_eqRun hS) (draws (del_laws_eqRun hS)) Try.func179 (by kernel_rfl) (fun k x => by kernel_rfl) (by kernel_rfl)) (by kernel_rfl)
theorem ent_laws_eqRun : Enters' Try.prog 179 := enters' Try.func179 (by kernel_rfl)
attribute [irreducible] laws_eqRun

/-! ### laws_eqRunS: function 107 -/
def a_laws_eqRunS : Ann := ⟨[(0, [.val 0 T58, .val 1 T58, .val 5 T3], ⟨[], false⟩)], []⟩
noncomputable def d_laws_eqRunS : List (Nat × Con) := [(179, c_laws_eqRun)]
noncomputable def laws_eqRunS (k : Nat) (a : (Ty.den T58)) (b : (Ty.den T58)) : Option (den1 [T4]) := evFn Γ d_laws_eqRunS a_laws_eqRunS Try.f107 [.val T58, .val T58] [T4] k (a, b, ())
noncomputable def laws_eqRunS_l0 (k : Nat) (v0 : (Ty.den T58)) (v1 : (Ty.den T58)) (v5 : (Ty.den T3)) : Option ((Items.den []) ⊕ (den1 [T4])) := loopR (ρ := (den1 [T4])) 0 [.val 0 T58, .val 1 T58, .val 5 T3] [] (runOf Γ d_laws_eqRunS a_laws_eqRunS Try.f107 [.val T58, .val T58] [T4] 0) k (v0, v1, v5)
theorem laws_eqRunS_eq (k : Nat) (a : (Ty.den T58)) (b : (Ty.den T58)) : laws_eqRunS k a b = br ((↑(List.length a) : Int) != (↑(List.length b) : Int)) (some false) (bnd (laws_eqRunS_l0 k a b 0) (fun y1 => onSum y1 (fun y2 => some true) (fun y2 => some y2))) := by kernel_rfl
theorem laws_eqRunS_l0_zero (v0 : (Ty.den T58)) (v1 : (Ty.den T58)) (v5 : (Ty.den T3)) : laws_eqRunS_l0 0 v0 v1 v5 = none := by kernel_rfl
theorem laws_eqRunS_l0_succ (k : Nat) (v0 : (Ty.den T58)) (v1 : (Ty.den T58)) (v5 : (Ty.den T3)) : laws_eqRunS_l0 (k + 1) v0 v1 v5 = br (decide (v5 < (↑(List.length v0) : Int))) (br (decide (0 ≤ v5)) (br (decide (v5 < (↑(List.length v0) : Int))) (br (decide (0 ≤ v5)) (br (decide (v5 < (↑(List.length v1) : Int))) (bnd (laws_eqRun k (List.getD v0 (Int.toNat v5) T106.zero) (List.getD v1 (Int.toNat v5) T106.zero)) (fun y1 => br (!y1) (some (Sum.inr false)) (laws_eqRunS_l0 k v0 v1 (IntKind.i64.wrap (v5 + 1))))) (none)) (none)) (none)) (none)) (some (Sum.inl ())) := by kernel_rfl
noncomputable def c_laws_eqRunS : Con := ⟨[.val T58, .val T58], [T4], fun k x => laws_eqRunS k x.1 x.2.1⟩
theorem del_laws_eqRunS {w0 : World} (hS : Stops w0) : DelOk Try.prog w0 d_laws_eqRunS := .cons (ok_laws_eqRun hS) ent_laws_eqRun (.nil)
theorem ok_laws_eqRunS {w0 : World} (hS : Stops w0) : Keeps Try.prog w0 107 c_laws_eqRunS := .con (fn_sound (A := a_laws_eqRunS) tab_ok (del_laws_eqRunS hS) (draws (del_laws_eqRunS hS)) Try.func107 (by kernel_rfl) (fun k x => by kernel_rfl) (by kernel_rfl)) (by kernel_rfl)
theorem ent_laws_eqRunS : Enters' Try.prog 107 := enters' Try.func107 (by kernel_rfl)
attribute [irreducible] laws_eqRunS laws_eqRunS_l0

/-! ### laws_eqStore: function 32 -/
def a_laws_eqStore : Ann := ⟨[], []⟩
noncomputable def d_laws_eqStore : List (Nat × Con) := [(42, c_laws_eqVersionS), (106, c_laws_eqTime), (107, c_laws_eqRunS)]
noncomputable def laws_eqStore (k : Nat) (a : (Ty.den T60)) (b : (Ty.den T60)) : Option (den1 [T4]) := evFn Γ d_laws_eqStore a_laws_eqStore Try.f32 [.val T60, .val T60] [T4] k (a, b, ())
theorem laws_eqStore_eq (k : Nat) (a : (Ty.den T60)) (b : (Ty.den T60)) : laws_eqStore k a b = bnd (laws_eqVersionS k a.1 b.1) (fun y1 => br (!y1) (some false) (bnd (laws_eqRunS k a.2.1 b.2.1) (fun y2 => br (!y2) (some false) (bnd (laws_eqTime k a.2.2.1 b.2.2.1) (fun y3 => br (!y3) (some false) (some true)))))) := by kernel_rfl
noncomputable def c_laws_eqStore : Con := ⟨[.val T60, .val T60], [T4], fun k x => laws_eqStore k x.1 x.2.1⟩
theorem del_laws_eqStore {w0 : World} (hS : Stops w0) : DelOk Try.prog w0 d_laws_eqStore := .cons (ok_laws_eqVersionS hS) ent_laws_eqVersionS (.cons (ok_laws_eqTime hS) ent_laws_eqTime (.cons (ok_laws_eqRunS hS) ent_laws_eqRunS (.nil)))
theorem ok_laws_eqStore {w0 : World} (hS : Stops w0) : Keeps Try.prog w0 32 c_laws_eqStore := .con (fn_sound (A := a_laws_eqStore) tab_ok (del_laws_eqStore hS) (draws (del_laws_eqStore hS)) Try.func32 (by kernel_rfl) (fun k x => by kernel_rfl) (by kernel_rfl)) (by kernel_rfl)
theorem ent_laws_eqStore : Enters' Try.prog 32 := enters' Try.func32 (by kernel_rfl)
attribute [irreducible] laws_eqStore

/-! ### laws_markText: function 112 -/
def a_laws_markText : Ann := ⟨[(0, [.val 0 T3, .val 3 T9], ⟨[.val 3 T9], true⟩)], []⟩
noncomputable def d_laws_markText : List (Nat × Con) := []
noncomputable def laws_markText (k : Nat) (a : (Ty.den T3)) : Option (den1 [T9]) := evFn Γ d_laws_markText a_laws_markText Try.f112 [.val T3] [T9] k (a, ())
noncomputable def laws_markText_l0 (k : Nat) (v0 : (Ty.den T3)) (v3 : (Ty.den T9)) : Option (Items.den [.val 3 T9]) := loopQ (ρ := (den1 [T9])) 0 [.val 0 T3, .val 3 T9] [.val 3 T9] (runOf Γ d_laws_markText a_laws_markText Try.f112 [.val T3] [T9] 0) k (v0, v3)
theorem laws_markText_eq (k : Nat) (a : (Ty.den T3)) : laws_markText k a = br (decide (a ≤ 0)) (some [109, 48]) (bnd (laws_markText_l0 k a []) (fun y1 => br (decide ([109].length + List.length y1 ≤ capN)) (some ([109] ++ y1)) (none))) := by kernel_rfl
theorem laws_markText_l0_zero (v0 : (Ty.den T3)) (v3 : (Ty.den T9)) : laws_markText_l0 0 v0 v3 = none := by kernel_rfl
theorem laws_markText_l0_succ (k : Nat) (v0 : (Ty.den T3)) (v3 : (Ty.den T9)) : laws_markText_l0 (k + 1) v0 v3 = br (decide (v0 > 0)) (br (!10 == 0) (br (decide ((List.map (fun n => UInt8.ofNat n.toNat) [IntKind.u8.wrap (IntKind.i64.wrap (48 + Int.tmod v0 10))]).length + List.length v3 ≤ capN)) (br (!10 == 0) (laws_markText_l0 k (IntKind.i64.wrap (Int.tdiv v0 10)) (List.map (fun n => UInt8.ofNat n.toNat) [IntKind.u8.wrap (IntKind.i64.wrap (48 + Int.tmod v0 10))] ++ v3)) (none)) (none)) (none)) (some v3) := by kernel_rfl
noncomputable def c_laws_markText : Con := ⟨[.val T3], [T9], fun k x => laws_markText k x.1⟩
theorem del_laws_markText {w0 : World} (hS : Stops w0) : DelOk Try.prog w0 d_laws_markText := .nil
theorem ok_laws_markText {w0 : World} (hS : Stops w0) : Keeps Try.prog w0 112 c_laws_markText := .con (fn_sound (A := a_laws_markText) tab_ok (del_laws_markText hS) (draws (del_laws_markText hS)) Try.func112 (by kernel_rfl) (fun k x => by kernel_rfl) (by kernel_rfl)) (by kernel_rfl)
theorem ent_laws_markText : Enters' Try.prog 112 := enters' Try.func112 (by kernel_rfl)
attribute [irreducible] laws_markText laws_markText_l0

/-! ### laws_markVersionS: function 44 -/
def a_laws_markVersionS : Ann := ⟨[(0, [.val 0 O35, .val 1 T3, .val 5 T3], ⟨[.val 0 O35, .val 1 T3], true⟩)], []⟩
noncomputable def d_laws_markVersionS : List (Nat × Con) := [(112, c_laws_markText)]
noncomputable def laws_markVersionS (k : Nat) (a : (Ty.den O35)) (b : (Ty.den T3)) : Option (den1 [T3, O35]) := evFn Γo d_laws_markVersionS a_laws_markVersionS Try.f44 [.io O35, .val T3] [T3, O35] k (a, b, ())
noncomputable def laws_markVersionS_l0 (k : Nat) (v0 : (Ty.den O35)) (v1 : (Ty.den T3)) (v5 : (Ty.den T3)) : Option (Items.den [.val 0 O35, .val 1 T3]) := loopQ (ρ := (den1 [T3, O35])) 0 [.val 0 O35, .val 1 T3, .val 5 T3] [.val 0 O35, .val 1 T3] (runOf Γo d_laws_markVersionS a_laws_markVersionS Try.f44 [.io O35, .val T3] [T3, O35] 0) k (v0, v1, v5)
theorem laws_markVersionS_eq (k : Nat) (a : (Ty.den O35)) (b : (Ty.den T3)) : laws_markVersionS k a b = bnd (laws_markVersionS_l0 k a b 0) (fun y1 => some (y1.2, y1.1)) := by kernel_rfl
theorem laws_markVersionS_l0_zero (v0 : (Ty.den O35)) (v1 : (Ty.den T3)) (v5 : (Ty.den T3)) : laws_markVersionS_l0 0 v0 v1 v5 = none := by kernel_rfl
theorem laws_markVersionS_l0_succ (k : Nat) (v0 : (Ty.den O35)) (v1 : (Ty.den T3)) (v5 : (Ty.den T3)) : laws_markVersionS_l0 (k + 1) v0 v1 v5 = br (decide (v5 < (↑(List.length v0) : Int))) (bnd (laws_markText k v1) (fun y1 => br (decide (0 ≤ v5)) (br (decide (v5 < (↑(List.length v0) : Int))) (bnd (some (List.getD v0 (Int.toNat v5) T42.zero)) (fun y2 => bnd (some (List.set v0 (Int.toNat v5) (y1, y2.2.1, y2.2.2.1, y2.2.2.2.1, ()))) (fun y3 => br (decide (0 ≤ v5)) (br (decide (v5 < (↑y3.length : Int))) (bnd (some (y3.getD (Int.toNat v5) T42.zero)) (fun y4 => bnd (some (y3.set (Int.toNat v5) (y4.1, (IntKind.i64.wrap (v1 + 1), y4.2.1.2.1, ()), y4.2.2.1, y4.2.2.2.1, ()))) (fun y5 => br (decide (0 ≤ v5)) (br (decide (v5 < (↑y5.length : Int))) (bnd (some (y5.getD (Int.toNat v5) T42.zero)) (fun y6 => bnd (some (y5.set (Int.toNat v5) (y6.1, (y6.2.1.1, IntKind.i64.wrap (IntKind.i64.wrap (v1 + 1) + 1), ()), y6.2.2.1, y6.2.2.2.1, ()))) (fun y7 => br (!3 == 0) (br (decide (0 ≤ v5)) (br (decide (v5 < (↑y7.length : Int))) (bnd (some (y7.getD (Int.toNat v5) T42.zero)) (fun y8 => bnd (some (y7.set (Int.toNat v5) (y8.1, y8.2.1, (IntKind.i64.wrap (IntKind.i64.wrap (IntKind.i64.wrap (v1 + 1) + 1) + 1)).tmod 3 == 0, y8.2.2.2.1, ()))) (fun y9 => bnd (laws_markText k (IntKind.i64.wrap (IntKind.i64.wrap (IntKind.i64.wrap (IntKind.i64.wrap (v1 + 1) + 1) + 1) + 1))) (fun y10 => br (decide (0 ≤ v5)) (br (decide (v5 < (↑y9.length : Int))) (bnd (some (y9.getD (Int.toNat v5) T42.zero)) (fun y11 => bnd (some (y9.set (Int.toNat v5) (y11.1, y11.2.1, y11.2.2.1, y10, ()))) (fun y12 => laws_markVersionS_l0 k y12 (IntKind.i64.wrap (IntKind.i64.wrap (IntKind.i64.wrap (IntKind.i64.wrap (IntKind.i64.wrap (v1 + 1) + 1) + 1) + 1) + 1)) (IntKind.i64.wrap (v5 + 1))))) (none)) (none))))) (none)) (none)) (none)))) (none)) (none)))) (none)) (none)))) (none)) (none))) (some (v0, v1)) := by kernel_rfl
noncomputable def c_laws_markVersionS : Con := ⟨[.io O35, .val T3], [T3, O35], fun k x => laws_markVersionS k x.1 x.2.1⟩
theorem del_laws_markVersionS {w0 : World} (hS : Stops w0) : DelOk Try.prog w0 d_laws_markVersionS := .cons (ok_laws_markText hS) ent_laws_markText (.nil)
theorem ok_laws_markVersionS {w0 : World} (hS : Stops w0) : Keeps Try.prog w0 44 c_laws_markVersionS := .gn (gen_sound (A := a_laws_markVersionS) tab_oko (del_laws_markVersionS hS) (drawso (del_laws_markVersionS hS)) Try.func44 (by kernel_rfl) (fun k x => by kernel_rfl) (by kernel_rfl)) (by kernel_rfl)
theorem ent_laws_markVersionS : Enters' Try.prog 44 := enters' Try.func44 (by kernel_rfl)
attribute [irreducible] laws_markVersionS laws_markVersionS_l0

/-! ### laws_markRunS: function 115 -/
def a_laws_markRunS : Ann := ⟨[(0, [.val 0 O58, .val 1 T3, .val 5 T3], ⟨[.val 0 O58, .val 1 T3], true⟩)], []⟩
noncomputable def d_laws_markRunS : List (Nat × Con) := [(44, c_laws_markVersionS), (112, c_laws_markText)]
noncomputable def laws_markRunS (k : Nat) (a : (Ty.den O58)) (b : (Ty.den T3)) : Option (den1 [T3, O58]) := evFn Γo d_laws_markRunS a_laws_markRunS Try.f115 [.io O58, .val T3] [T3, O58] k (a, b, ())
noncomputable def laws_markRunS_l0 (k : Nat) (v0 : (Ty.den O58)) (v1 : (Ty.den T3)) (v5 : (Ty.den T3)) : Option (Items.den [.val 0 O58, .val 1 T3]) := loopQ (ρ := (den1 [T3, O58])) 0 [.val 0 O58, .val 1 T3, .val 5 T3] [.val 0 O58, .val 1 T3] (runOf Γo d_laws_markRunS a_laws_markRunS Try.f115 [.io O58, .val T3] [T3, O58] 0) k (v0, v1, v5)
theorem laws_markRunS_eq (k : Nat) (a : (Ty.den O58)) (b : (Ty.den T3)) : laws_markRunS k a b = bnd (laws_markRunS_l0 k a b 0) (fun y1 => some (y1.2, y1.1)) := by kernel_rfl
theorem laws_markRunS_l0_zero (v0 : (Ty.den O58)) (v1 : (Ty.den T3)) (v5 : (Ty.den T3)) : laws_markRunS_l0 0 v0 v1 v5 = none := by kernel_rfl
theorem laws_markRunS_l0_succ (k : Nat) (v0 : (Ty.den O58)) (v1 : (Ty.den T3)) (v5 : (Ty.den T3)) : laws_markRunS_l0 (k + 1) v0 v1 v5 = br (decide (v5 < (↑(List.length v0) : Int))) (br (decide (0 ≤ v5)) (br (decide (v5 < (↑(List.length v0) : Int))) (bnd (laws_markVersionS k (List.getD v0 (Int.toNat v5) O106.zero).1 v1) (fun y1 => bnd (laws_markText k y1.1) (fun y2 => br (decide (0 ≤ v5)) (br (decide (v5 < (↑(List.set v0 (Int.toNat v5) (y1.2, (List.getD v0 (Int.toNat v5) O106.zero).2)).length : Int))) (bnd (some ((List.set v0 (Int.toNat v5) (y1.2, (List.getD v0 (Int.toNat v5) O106.zero).2)).getD (Int.toNat v5) O106.zero)) (fun y3 => bnd (some ((List.set v0 (Int.toNat v5) (y1.2, (List.getD v0 (Int.toNat v5) O106.zero).2)).set (Int.toNat v5) (y3.1, y2, y3.2.2))) (fun y4 => laws_markRunS_l0 k y4 (IntKind.i64.wrap (y1.1 + 1)) (IntKind.i64.wrap (v5 + 1))))) (none)) (none)))) (none)) (none)) (some (v0, v1)) := by kernel_rfl
noncomputable def c_laws_markRunS : Con := ⟨[.io O58, .val T3], [T3, O58], fun k x => laws_markRunS k x.1 x.2.1⟩
theorem del_laws_markRunS {w0 : World} (hS : Stops w0) : DelOk Try.prog w0 d_laws_markRunS := .cons (ok_laws_markVersionS hS) ent_laws_markVersionS (.cons (ok_laws_markText hS) ent_laws_markText (.nil))
theorem ok_laws_markRunS {w0 : World} (hS : Stops w0) : Keeps Try.prog w0 115 c_laws_markRunS := .gn (gen_sound (A := a_laws_markRunS) tab_oko (del_laws_markRunS hS) (drawso (del_laws_markRunS hS)) Try.func115 (by kernel_rfl) (fun k x => by kernel_rfl) (by kernel_rfl)) (by kernel_rfl)
theorem ent_laws_markRunS : Enters' Try.prog 115 := enters' Try.func115 (by kernel_rfl)
attribute [irreducible] laws_markRunS laws_markRunS_l0

/-! ### laws_markStore: function 43 -/
def a_laws_markStore : Ann := ⟨[], []⟩
noncomputable def d_laws_markStore : List (Nat × Con) := [(44, c_laws_markVersionS), (115, c_laws_markRunS)]
noncomputable def laws_markStore (k : Nat) (a : (Ty.den O60)) (b : (Ty.den T3)) : Option (den1 [T3, O60]) := evFn Γo d_laws_markStore a_laws_markStore Try.f43 [.io O60, .val T3] [T3, O60] k (a, b, ())
theorem laws_markStore_eq (k : Nat) (a : (Ty.den O60)) (b : (Ty.den T3)) : laws_markStore k a b = bnd (laws_markVersionS k a.1 b) (fun y1 => bnd (laws_markRunS k a.2.1 y1.1) (fun y2 => some (y2.1, y1.2, y2.2, a.2.2.1, ()))) := by kernel_rfl
noncomputable def c_laws_markStore : Con := ⟨[.io O60, .val T3], [T3, O60], fun k x => laws_markStore k x.1 x.2.1⟩
theorem del_laws_markStore {w0 : World} (hS : Stops w0) : DelOk Try.prog w0 d_laws_markStore := .cons (ok_laws_markVersionS hS) ent_laws_markVersionS (.cons (ok_laws_markRunS hS) ent_laws_markRunS (.nil))
theorem ok_laws_markStore {w0 : World} (hS : Stops w0) : Keeps Try.prog w0 43 c_laws_markStore := .gn (gen_sound (A := a_laws_markStore) tab_oko (del_laws_markStore hS) (drawso (del_laws_markStore hS)) Try.func43 (by kernel_rfl) (fun k x => by kernel_rfl) (by kernel_rfl)) (by kernel_rfl)
theorem ent_laws_markStore : Enters' Try.prog 43 := enters' Try.func43 (by kernel_rfl)
attribute [irreducible] laws_markStore

/-! ### laws_heldVersionS: function 45 -/
def a_laws_heldVersionS : Ann := ⟨[(0, [.val 0 T35, .val 1 T3, .val 5 T3], ⟨[.val 1 T3], false⟩)], []⟩
noncomputable def d_laws_heldVersionS : List (Nat × Con) := [(112, c_laws_markText)]
noncomputable def laws_heldVersionS (k : Nat) (a : (Ty.den T35)) (b : (Ty.den T3)) : Option (den1 [T3]) := evFn Γ d_laws_heldVersionS a_laws_heldVersionS Try.f45 [.val T35, .val T3] [T3] k (a, b, ())
noncomputable def laws_heldVersionS_l0 (k : Nat) (v0 : (Ty.den T35)) (v1 : (Ty.den T3)) (v5 : (Ty.den T3)) : Option ((Items.den [.val 1 T3]) ⊕ (den1 [T3])) := loopR (ρ := (den1 [T3])) 0 [.val 0 T35, .val 1 T3, .val 5 T3] [.val 1 T3] (runOf Γ d_laws_heldVersionS a_laws_heldVersionS Try.f45 [.val T35, .val T3] [T3] 0) k (v0, v1, v5)
theorem laws_heldVersionS_eq (k : Nat) (a : (Ty.den T35)) (b : (Ty.den T3)) : laws_heldVersionS k a b = bnd (laws_heldVersionS_l0 k a b 0) (fun y1 => onSum y1 (fun y2 => some y2) (fun y2 => some y2)) := by kernel_rfl
theorem laws_heldVersionS_l0_zero (v0 : (Ty.den T35)) (v1 : (Ty.den T3)) (v5 : (Ty.den T3)) : laws_heldVersionS_l0 0 v0 v1 v5 = none := by kernel_rfl
theorem laws_heldVersionS_l0_succ (k : Nat) (v0 : (Ty.den T35)) (v1 : (Ty.den T3)) (v5 : (Ty.den T3)) : laws_heldVersionS_l0 (k + 1) v0 v1 v5 = br (decide (v5 < (↑(List.length v0) : Int))) (br (decide (0 ≤ v5)) (br (decide (v5 < (↑(List.length v0) : Int))) (bnd (laws_markText k v1) (fun y1 => br (!(List.getD v0 (Int.toNat v5) T42.zero).1 == y1) (some (Sum.inr (-1))) (br (decide (0 ≤ v5)) (br (decide (v5 < (↑(List.length v0) : Int))) (br ((List.getD v0 (Int.toNat v5) T42.zero).2.1.1 != IntKind.i64.wrap (v1 + 1)) (some (Sum.inr (-1))) (br (decide (0 ≤ v5)) (br (decide (v5 < (↑(List.length v0) : Int))) (br ((List.getD v0 (Int.toNat v5) T42.zero).2.1.2.1 != IntKind.i64.wrap (IntKind.i64.wrap (v1 + 1) + 1)) (some (Sum.inr (-1))) (br (decide (0 ≤ v5)) (br (decide (v5 < (↑(List.length v0) : Int))) (br (!3 == 0) (br (!(List.getD v0 (Int.toNat v5) T42.zero).2.2.1 == ((IntKind.i64.wrap (IntKind.i64.wrap (IntKind.i64.wrap (v1 + 1) + 1) + 1)).tmod 3 == 0)) (some (Sum.inr (-1))) (br (decide (0 ≤ v5)) (br (decide (v5 < (↑(List.length v0) : Int))) (bnd (laws_markText k (IntKind.i64.wrap (IntKind.i64.wrap (IntKind.i64.wrap (IntKind.i64.wrap (v1 + 1) + 1) + 1) + 1))) (fun y2 => br (!(List.getD v0 (Int.toNat v5) T42.zero).2.2.2.1 == y2) (some (Sum.inr (-1))) (laws_heldVersionS_l0 k v0 (IntKind.i64.wrap (IntKind.i64.wrap (IntKind.i64.wrap (IntKind.i64.wrap (IntKind.i64.wrap (v1 + 1) + 1) + 1) + 1) + 1)) (IntKind.i64.wrap (v5 + 1))))) (none)) (none))) (none)) (none)) (none))) (none)) (none))) (none)) (none)))) (none)) (none)) (some (Sum.inl v1)) := by kernel_rfl
noncomputable def c_laws_heldVersionS : Con := ⟨[.val T35, .val T3], [T3], fun k x => laws_heldVersionS k x.1 x.2.1⟩
theorem del_laws_heldVersionS {w0 : World} (hS : Stops w0) : DelOk Try.prog w0 d_laws_heldVersionS := .cons (ok_laws_markText hS) ent_laws_markText (.nil)
theorem ok_laws_heldVersionS {w0 : World} (hS : Stops w0) : Keeps Try.prog w0 45 c_laws_heldVersionS := .con (fn_sound (A := a_laws_heldVersionS) tab_ok (del_laws_heldVersionS hS) (draws (del_laws_heldVersionS hS)) Try.func45 (by kernel_rfl) (fun k x => by kernel_rfl) (by kernel_rfl)) (by kernel_rfl)
theorem ent_laws_heldVersionS : Enters' Try.prog 45 := enters' Try.func45 (by kernel_rfl)
attribute [irreducible] laws_heldVersionS laws_heldVersionS_l0

/-! ### laws_heldRunS: function 120 -/
def a_laws_heldRunS : Ann := ⟨[(0, [.val 0 T58, .val 1 T3, .val 5 T3], ⟨[.val 1 T3], false⟩)], []⟩
noncomputable def d_laws_heldRunS : List (Nat × Con) := [(45, c_laws_heldVersionS), (112, c_laws_markText)]
noncomputable def laws_heldRunS (k : Nat) (a : (Ty.den T58)) (b : (Ty.den T3)) : Option (den1 [T3]) := evFn Γ d_laws_heldRunS a_laws_heldRunS Try.f120 [.val T58, .val T3] [T3] k (a, b, ())
noncomputable def laws_heldRunS_l0 (k : Nat) (v0 : (Ty.den T58)) (v1 : (Ty.den T3)) (v5 : (Ty.den T3)) : Option ((Items.den [.val 1 T3]) ⊕ (den1 [T3])) := loopR (ρ := (den1 [T3])) 0 [.val 0 T58, .val 1 T3, .val 5 T3] [.val 1 T3] (runOf Γ d_laws_heldRunS a_laws_heldRunS Try.f120 [.val T58, .val T3] [T3] 0) k (v0, v1, v5)
theorem laws_heldRunS_eq (k : Nat) (a : (Ty.den T58)) (b : (Ty.den T3)) : laws_heldRunS k a b = bnd (laws_heldRunS_l0 k a b 0) (fun y1 => onSum y1 (fun y2 => some y2) (fun y2 => some y2)) := by kernel_rfl
theorem laws_heldRunS_l0_zero (v0 : (Ty.den T58)) (v1 : (Ty.den T3)) (v5 : (Ty.den T3)) : laws_heldRunS_l0 0 v0 v1 v5 = none := by kernel_rfl
theorem laws_heldRunS_l0_succ (k : Nat) (v0 : (Ty.den T58)) (v1 : (Ty.den T3)) (v5 : (Ty.den T3)) : laws_heldRunS_l0 (k + 1) v0 v1 v5 = br (decide (v5 < (↑(List.length v0) : Int))) (br (decide (0 ≤ v5)) (br (decide (v5 < (↑(List.length v0) : Int))) (bnd (laws_heldVersionS k (List.getD v0 (Int.toNat v5) T106.zero).1 v1) (fun y1 => br (decide (y1 < 0)) (some (Sum.inr (-1))) (br (decide (0 ≤ v5)) (br (decide (v5 < (↑(List.length v0) : Int))) (bnd (laws_markText k y1) (fun y2 => br (!(List.getD v0 (Int.toNat v5) T106.zero).2.1 == y2) (some (Sum.inr (-1))) (laws_heldRunS_l0 k v0 (IntKind.i64.wrap (y1 + 1)) (IntKind.i64.wrap (v5 + 1))))) (none)) (none)))) (none)) (none)) (some (Sum.inl v1)) := by kernel_rfl
noncomputable def c_laws_heldRunS : Con := ⟨[.val T58, .val T3], [T3], fun k x => laws_heldRunS k x.1 x.2.1⟩
theorem del_laws_heldRunS {w0 : World} (hS : Stops w0) : DelOk Try.prog w0 d_laws_heldRunS := .cons (ok_laws_heldVersionS hS) ent_laws_heldVersionS (.cons (ok_laws_markText hS) ent_laws_markText (.nil))
theorem ok_laws_heldRunS {w0 : World} (hS : Stops w0) : Keeps Try.prog w0 120 c_laws_heldRunS := .con (fn_sound (A := a_laws_heldRunS) tab_ok (del_laws_heldRunS hS) (draws (del_laws_heldRunS hS)) Try.func120 (by kernel_rfl) (fun k x => by kernel_rfl) (by kernel_rfl)) (by kernel_rfl)
theorem ent_laws_heldRunS : Enters' Try.prog 120 := enters' Try.func120 (by kernel_rfl)
attribute [irreducible] laws_heldRunS laws_heldRunS_l0

/-! ### laws_heldStore: function 48 -/
def a_laws_heldStore : Ann := ⟨[], []⟩
noncomputable def d_laws_heldStore : List (Nat × Con) := [(45, c_laws_heldVersionS), (120, c_laws_heldRunS)]
noncomputable def laws_heldStore (k : Nat) (a : (Ty.den T60)) (b : (Ty.den T3)) : Option (den1 [T3]) := evFn Γ d_laws_heldStore a_laws_heldStore Try.f48 [.val T60, .val T3] [T3] k (a, b, ())
theorem laws_heldStore_eq (k : Nat) (a : (Ty.den T60)) (b : (Ty.den T3)) : laws_heldStore k a b = bnd (laws_heldVersionS k a.1 b) (fun y1 => br (decide (y1 < 0)) (some (-1)) (bnd (laws_heldRunS k a.2.1 y1) (fun y2 => br (decide (y2 < 0)) (some (-1)) (some y2)))) := by kernel_rfl
noncomputable def c_laws_heldStore : Con := ⟨[.val T60, .val T3], [T3], fun k x => laws_heldStore k x.1 x.2.1⟩
theorem del_laws_heldStore {w0 : World} (hS : Stops w0) : DelOk Try.prog w0 d_laws_heldStore := .cons (ok_laws_heldVersionS hS) ent_laws_heldVersionS (.cons (ok_laws_heldRunS hS) ent_laws_heldRunS (.nil))
theorem ok_laws_heldStore {w0 : World} (hS : Stops w0) : Keeps Try.prog w0 48 c_laws_heldStore := .con (fn_sound (A := a_laws_heldStore) tab_ok (del_laws_heldStore hS) (draws (del_laws_heldStore hS)) Try.func48 (by kernel_rfl) (fun k x => by kernel_rfl) (by kernel_rfl)) (by kernel_rfl)
theorem ent_laws_heldStore : Enters' Try.prog 48 := enters' Try.func48 (by kernel_rfl)
attribute [irreducible] laws_heldStore

/-! ### spec_l01Sign: function 89 -/
def a_spec_l01Sign : Ann := ⟨[], []⟩
noncomputable def d_spec_l01Sign : List (Nat × Con) := []
noncomputable def spec_l01Sign (k : Nat) (a : (Ty.den T3)) (b : (Ty.den T3)) : Option (den1 [T3]) := evFn Γ d_spec_l01Sign a_spec_l01Sign Try.f89 [.val T3, .val T3] [T3] k (a, b, ())
theorem spec_l01Sign_eq (k : Nat) (a : (Ty.den T3)) (b : (Ty.den T3)) : spec_l01Sign k a b = br (decide (a < b)) (some (-1)) (br (decide (a > b)) (some 1) (some 0)) := by kernel_rfl
noncomputable def c_spec_l01Sign : Con := ⟨[.val T3, .val T3], [T3], fun k x => spec_l01Sign k x.1 x.2.1⟩
theorem del_spec_l01Sign {w0 : World} (hS : Stops w0) : DelOk Try.prog w0 d_spec_l01Sign := .nil
theorem ok_spec_l01Sign {w0 : World} (hS : Stops w0) : Keeps Try.prog w0 89 c_spec_l01Sign := .con (fn_sound (A := a_spec_l01Sign) tab_ok (del_spec_l01Sign hS) (draws (del_spec_l01Sign hS)) Try.func89 (by kernel_rfl) (fun k x => by kernel_rfl) (by kernel_rfl)) (by kernel_rfl)
theorem ent_spec_l01Sign : Enters' Try.prog 89 := enters' Try.func89 (by kernel_rfl)
attribute [irreducible] spec_l01Sign

/-! ### spec_TimeCompare: function 20 -/
def a_spec_TimeCompare : Ann := ⟨[], []⟩
noncomputable def d_spec_TimeCompare : List (Nat × Con) := [(89, c_spec_l01Sign)]
noncomputable def spec_TimeCompare (k : Nat) (a : (Ty.den T33)) (b : (Ty.den T33)) : Option (den1 [T3]) := evFn Γ d_spec_TimeCompare a_spec_TimeCompare Try.f20 [.val T33, .val T33] [T3] k (a, b, ())
theorem spec_TimeCompare_eq (k : Nat) (a : (Ty.den T33)) (b : (Ty.den T33)) : spec_TimeCompare k a b = br (a.1 != b.1) (bnd (spec_l01Sign k a.1 b.1) (fun y1 => some y1)) (bnd (spec_l01Sign k a.2.1 b.2.1) (fun y1 => some y1)) := by kernel_rfl
noncomputable def c_spec_TimeCompare : Con := ⟨[.val T33, .val T33], [T3], fun k x => spec_TimeCompare k x.1 x.2.1⟩
theorem del_spec_TimeCompare {w0 : World} (hS : Stops w0) : DelOk Try.prog w0 d_spec_TimeCompare := .cons (ok_spec_l01Sign hS) ent_spec_l01Sign (.nil)
theorem ok_spec_TimeCompare {w0 : World} (hS : Stops w0) : Keeps Try.prog w0 20 c_spec_TimeCompare := .con (fn_sound (A := a_spec_TimeCompare) tab_ok (del_spec_TimeCompare hS) (draws (del_spec_TimeCompare hS)) Try.func20 (by kernel_rfl) (fun k x => by kernel_rfl) (by kernel_rfl)) (by kernel_rfl)
theorem ent_spec_TimeCompare : Enters' Try.prog 20 := enters' Try.func20 (by kernel_rfl)
attribute [irreducible] spec_TimeCompare

/-! ### spec_TimeOK: function 72 -/
def a_spec_TimeOK : Ann := ⟨[], []⟩
noncomputable def d_spec_TimeOK : List (Nat × Con) := []
noncomputable def spec_TimeOK (k : Nat) (a : (Ty.den T33)) : Option (den1 [T4]) := evFn Γ d_spec_TimeOK a_spec_TimeOK Try.f72 [.val T33] [T4] k (a, ())
theorem spec_TimeOK_eq (k : Nat) (a : (Ty.den T33)) : spec_TimeOK k a = br (decide (a.1 ≥ 0)) (br (decide (a.1 ≤ 1000000000000)) (br (decide (a.2.1 ≥ 0)) (some (decide (a.2.1 ≤ 1000000))) (some false)) (some false)) (some false) := by kernel_rfl
noncomputable def c_spec_TimeOK : Con := ⟨[.val T33], [T4], fun k x => spec_TimeOK k x.1⟩
theorem del_spec_TimeOK {w0 : World} (hS : Stops w0) : DelOk Try.prog w0 d_spec_TimeOK := .nil
theorem ok_spec_TimeOK {w0 : World} (hS : Stops w0) : Keeps Try.prog w0 72 c_spec_TimeOK := .con (fn_sound (A := a_spec_TimeOK) tab_ok (del_spec_TimeOK hS) (draws (del_spec_TimeOK hS)) Try.func72 (by kernel_rfl) (fun k x => by kernel_rfl) (by kernel_rfl)) (by kernel_rfl)
theorem ent_spec_TimeOK : Enters' Try.prog 72 := enters' Try.func72 (by kernel_rfl)
attribute [irreducible] spec_TimeOK

/-! ### spec_l03Ahead: function 150 -/
def a_spec_l03Ahead : Ann := ⟨[], []⟩
noncomputable def d_spec_l03Ahead : List (Nat × Con) := [(20, c_spec_TimeCompare)]
noncomputable def spec_l03Ahead (k : Nat) (a : (Ty.den T42)) (b : (Ty.den T42)) : Option (den1 [T4]) := evFn Γ d_spec_l03Ahead a_spec_l03Ahead Try.f150 [.val T42, .val T42] [T4] k (a, b, ())
theorem spec_l03Ahead_eq (k : Nat) (a : (Ty.den T42)) (b : (Ty.den T42)) : spec_l03Ahead k a b = br (!a.1 == b.1) (some (Op.bytesLess a.1 b.1)) (bnd (spec_TimeCompare k a.2.1 b.2.1) (fun y1 => some (decide (y1 > 0)))) := by kernel_rfl
noncomputable def c_spec_l03Ahead : Con := ⟨[.val T42, .val T42], [T4], fun k x => spec_l03Ahead k x.1 x.2.1⟩
theorem del_spec_l03Ahead {w0 : World} (hS : Stops w0) : DelOk Try.prog w0 d_spec_l03Ahead := .cons (ok_spec_TimeCompare hS) ent_spec_TimeCompare (.nil)
theorem ok_spec_l03Ahead {w0 : World} (hS : Stops w0) : Keeps Try.prog w0 150 c_spec_l03Ahead := .con (fn_sound (A := a_spec_l03Ahead) tab_ok (del_spec_l03Ahead hS) (draws (del_spec_l03Ahead hS)) Try.func150 (by kernel_rfl) (fun k x => by kernel_rfl) (by kernel_rfl)) (by kernel_rfl)
theorem ent_spec_l03Ahead : Enters' Try.prog 150 := enters' Try.func150 (by kernel_rfl)
attribute [irreducible] spec_l03Ahead

/-! ### spec_l03Join: function 81 -/
def a_spec_l03Join : Ann := ⟨[(0, [.val 0 T35, .val 1 T35, .val 5 O35, .val 6 T3, .val 7 T3], ⟨[.val 5 O35], true⟩)], []⟩
noncomputable def d_spec_l03Join : List (Nat × Con) := [(150, c_spec_l03Ahead)]
noncomputable def spec_l03Join (k : Nat) (a : (Ty.den T35)) (b : (Ty.den T35)) : Option (den1 [T35]) := evFn Γ d_spec_l03Join a_spec_l03Join Try.f81 [.val T35, .val T35] [T35] k (a, b, ())
noncomputable def spec_l03Join_l0 (k : Nat) (v0 : (Ty.den T35)) (v1 : (Ty.den T35)) (v5 : (Ty.den O35)) (v6 : (Ty.den T3)) (v7 : (Ty.den T3)) : Option (Items.den [.val 5 O35]) := loopQ (ρ := (den1 [T35])) 0 [.val 0 T35, .val 1 T35, .val 5 O35, .val 6 T3, .val 7 T3] [.val 5 O35] (runOf Γ d_spec_l03Join a_spec_l03Join Try.f81 [.val T35, .val T35] [T35] 0) k (v0, v1, v5, v6, v7)
theorem spec_l03Join_eq (k : Nat) (a : (Ty.den T35)) (b : (Ty.den T35)) : spec_l03Join k a b = bnd (spec_l03Join_l0 k a b [] 0 0) (fun y1 => some y1) := by kernel_rfl
theorem spec_l03Join_l0_zero (v0 : (Ty.den T35)) (v1 : (Ty.den T35)) (v5 : (Ty.den O35)) (v6 : (Ty.den T3)) (v7 : (Ty.den T3)) : spec_l03Join_l0 0 v0 v1 v5 v6 v7 = none := by kernel_rfl
theorem spec_l03Join_l0_succ (k : Nat) (v0 : (Ty.den T35)) (v1 : (Ty.den T35)) (v5 : (Ty.den O35)) (v6 : (Ty.den T3)) (v7 : (Ty.den T3)) : spec_l03Join_l0 (k + 1) v0 v1 v5 v6 v7 = br (decide (v6 < (↑(List.length v0) : Int))) (br (decide (v7 ≥ (↑(List.length v1) : Int))) (br (decide (0 ≤ v6)) (br (decide (v6 < (↑(List.length v0) : Int))) (br (decide (List.length v5 + [(List.getD v0 (Int.toNat v6) T42.zero)].length ≤ capN)) (spec_l03Join_l0 k v0 v1 (v5 ++ [(List.getD v0 (Int.toNat v6) T42.zero)]) (IntKind.i64.wrap (v6 + 1)) v7) (none)) (none)) (none)) (br (decide (v6 < (↑(List.length v0) : Int))) (br (decide (0 ≤ v6)) (br (decide (v6 < (↑(List.length v0) : Int))) (br (decide (0 ≤ v7)) (br (decide (v7 < (↑(List.length v1) : Int))) (bnd (spec_l03Ahead k (List.getD v0 (Int.toNat v6) T42.zero) (List.getD v1 (Int.toNat v7) T42.zero)) (fun y1 => br (y1) (br (decide (0 ≤ v6)) (br (decide (v6 < (↑(List.length v0) : Int))) (br (decide (List.length v5 + [(List.getD v0 (Int.toNat v6) T42.zero)].length ≤ capN)) (spec_l03Join_l0 k v0 v1 (v5 ++ [(List.getD v0 (Int.toNat v6) T42.zero)]) (IntKind.i64.wrap (v6 + 1)) v7) (none)) (none)) (none)) (br (decide (0 ≤ v7)) (br (decide (v7 < (↑(List.length v1) : Int))) (br (decide (List.length v5 + [(List.getD v1 (Int.toNat v7) T42.zero)].length ≤ capN)) (spec_l03Join_l0 k v0 v1 (v5 ++ [(List.getD v1 (Int.toNat v7) T42.zero)]) v6 (IntKind.i64.wrap (v7 + 1))) (none)) (none)) (none)))) (none)) (none)) (none)) (none)) (br (decide (0 ≤ v7)) (br (decide (v7 < (↑(List.length v1) : Int))) (br (decide (List.length v5 + [(List.getD v1 (Int.toNat v7) T42.zero)].length ≤ capN)) (spec_l03Join_l0 k v0 v1 (v5 ++ [(List.getD v1 (Int.toNat v7) T42.zero)]) v6 (IntKind.i64.wrap (v7 + 1))) (none)) (none)) (none)))) (br (decide (v7 < (↑(List.length v1) : Int))) (br (decide (v7 ≥ (↑(List.length v1) : Int))) (br (decide (0 ≤ v6)) (br (decide (v6 < (↑(List.length v0) : Int))) (br (decide (List.length v5 + [(List.getD v0 (Int.toNat v6) T42.zero)].length ≤ capN)) (spec_l03Join_l0 k v0 v1 (v5 ++ [(List.getD v0 (Int.toNat v6) T42.zero)]) (IntKind.i64.wrap (v6 + 1)) v7) (none)) (none)) (none)) (br (decide (v6 < (↑(List.length v0) : Int))) (br (decide (0 ≤ v6)) (br (decide (v6 < (↑(List.length v0) : Int))) (br (decide (0 ≤ v7)) (br (decide (v7 < (↑(List.length v1) : Int))) (bnd (spec_l03Ahead k (List.getD v0 (Int.toNat v6) T42.zero) (List.getD v1 (Int.toNat v7) T42.zero)) (fun y1 => br (y1) (br (decide (0 ≤ v6)) (br (decide (v6 < (↑(List.length v0) : Int))) (br (decide (List.length v5 + [(List.getD v0 (Int.toNat v6) T42.zero)].length ≤ capN)) (spec_l03Join_l0 k v0 v1 (v5 ++ [(List.getD v0 (Int.toNat v6) T42.zero)]) (IntKind.i64.wrap (v6 + 1)) v7) (none)) (none)) (none)) (br (decide (0 ≤ v7)) (br (decide (v7 < (↑(List.length v1) : Int))) (br (decide (List.length v5 + [(List.getD v1 (Int.toNat v7) T42.zero)].length ≤ capN)) (spec_l03Join_l0 k v0 v1 (v5 ++ [(List.getD v1 (Int.toNat v7) T42.zero)]) v6 (IntKind.i64.wrap (v7 + 1))) (none)) (none)) (none)))) (none)) (none)) (none)) (none)) (br (decide (0 ≤ v7)) (br (decide (v7 < (↑(List.length v1) : Int))) (br (decide (List.length v5 + [(List.getD v1 (Int.toNat v7) T42.zero)].length ≤ capN)) (spec_l03Join_l0 k v0 v1 (v5 ++ [(List.getD v1 (Int.toNat v7) T42.zero)]) v6 (IntKind.i64.wrap (v7 + 1))) (none)) (none)) (none)))) (some v5)) := by kernel_rfl
noncomputable def c_spec_l03Join : Con := ⟨[.val T35, .val T35], [T35], fun k x => spec_l03Join k x.1 x.2.1⟩
theorem del_spec_l03Join {w0 : World} (hS : Stops w0) : DelOk Try.prog w0 d_spec_l03Join := .cons (ok_spec_l03Ahead hS) ent_spec_l03Ahead (.nil)
theorem ok_spec_l03Join {w0 : World} (hS : Stops w0) : Keeps Try.prog w0 81 c_spec_l03Join := .con (fn_sound (A := a_spec_l03Join) tab_ok (del_spec_l03Join hS) (draws (del_spec_l03Join hS)) Try.func81 (by kernel_rfl) (fun k x => by kernel_rfl) (by kernel_rfl)) (by kernel_rfl)
theorem ent_spec_l03Join : Enters' Try.prog 81 := enters' Try.func81 (by kernel_rfl)
attribute [irreducible] spec_l03Join spec_l03Join_l0

/-! ### spec_l03All: function 139 -/
def a_spec_l03All : Ann := ⟨[(0, [.var 1 T60, .val 3 T35, .val 4 T3], ⟨[.val 3 T35], true⟩)], []⟩
noncomputable def d_spec_l03All : List (Nat × Con) := [(81, c_spec_l03Join)]
noncomputable def spec_l03All (k : Nat) (a : (Ty.den T60)) : Option (den1 [T35]) := evFn Γ d_spec_l03All a_spec_l03All Try.f139 [.val T60] [T35] k (a, ())
noncomputable def spec_l03All_l0 (k : Nat) (v1 : (Ty.den T60)) (v3 : (Ty.den T35)) (v4 : (Ty.den T3)) : Option (Items.den [.val 3 T35]) := loopQ (ρ := (den1 [T35])) 0 [.var 1 T60, .val 3 T35, .val 4 T3] [.val 3 T35] (runOf Γ d_spec_l03All a_spec_l03All Try.f139 [.val T60] [T35] 0) k (v1, v3, v4)
theorem spec_l03All_eq (k : Nat) (a : (Ty.den T60)) : spec_l03All k a = bnd (spec_l03Join k a.1 []) (fun y1 => bnd (spec_l03All_l0 k a y1 0) (fun y2 => some y2)) := by kernel_rfl
theorem spec_l03All_l0_zero (v1 : (Ty.den T60)) (v3 : (Ty.den T35)) (v4 : (Ty.den T3)) : spec_l03All_l0 0 v1 v3 v4 = none := by kernel_rfl
theorem spec_l03All_l0_succ (k : Nat) (v1 : (Ty.den T60)) (v3 : (Ty.den T35)) (v4 : (Ty.den T3)) : spec_l03All_l0 (k + 1) v1 v3 v4 = br (decide (v4 < (↑(List.length v1.2.1) : Int))) (br (decide (0 ≤ v4)) (br (decide (v4 < (↑(List.length v1.2.1) : Int))) (bnd (spec_l03Join k v3 (List.getD v1.2.1 (Int.toNat v4) T106.zero).1) (fun y1 => spec_l03All_l0 k v1 y1 (IntKind.i64.wrap (v4 + 1)))) (none)) (none)) (some v3) := by kernel_rfl
noncomputable def c_spec_l03All : Con := ⟨[.val T60], [T35], fun k x => spec_l03All k x.1⟩
theorem del_spec_l03All {w0 : World} (hS : Stops w0) : DelOk Try.prog w0 d_spec_l03All := .cons (ok_spec_l03Join hS) ent_spec_l03Join (.nil)
theorem ok_spec_l03All {w0 : World} (hS : Stops w0) : Keeps Try.prog w0 139 c_spec_l03All := .con (fn_sound (A := a_spec_l03All) tab_ok (del_spec_l03All hS) (draws (del_spec_l03All hS)) Try.func139 (by kernel_rfl) (fun k x => by kernel_rfl) (by kernel_rfl)) (by kernel_rfl)
theorem ent_spec_l03All : Enters' Try.prog 139 := enters' Try.func139 (by kernel_rfl)
attribute [irreducible] spec_l03All spec_l03All_l0

/-! ### spec_l03VersionOK: function 80 -/
def a_spec_l03VersionOK : Ann := ⟨[], []⟩
noncomputable def d_spec_l03VersionOK : List (Nat × Con) := [(72, c_spec_TimeOK)]
noncomputable def spec_l03VersionOK (k : Nat) (a : (Ty.den T42)) : Option (den1 [T4]) := evFn Γ d_spec_l03VersionOK a_spec_l03VersionOK Try.f80 [.val T42] [T4] k (a, ())
theorem spec_l03VersionOK_eq (k : Nat) (a : (Ty.den T42)) : spec_l03VersionOK k a = br (decide ((↑(List.length a.1) : Int) > 0)) (br (decide ((↑(List.length a.1) : Int) ≤ 4000)) (bnd (spec_TimeOK k a.2.1) (fun y1 => br (y1) (br (!andB (eqI a.2.1.1 0) (andB (eqI a.2.1.2.1 0) true)) (br (decide ((↑(List.length a.2.2.2.1) : Int) ≤ 4000)) (br (!a.2.2.1) (some true) (some ((↑(List.length a.2.2.2.1) : Int) == 0))) (some false)) (some false)) (some false))) (some false)) (some false) := by kernel_rfl
noncomputable def c_spec_l03VersionOK : Con := ⟨[.val T42], [T4], fun k x => spec_l03VersionOK k x.1⟩
theorem del_spec_l03VersionOK {w0 : World} (hS : Stops w0) : DelOk Try.prog w0 d_spec_l03VersionOK := .cons (ok_spec_TimeOK hS) ent_spec_TimeOK (.nil)
theorem ok_spec_l03VersionOK {w0 : World} (hS : Stops w0) : Keeps Try.prog w0 80 c_spec_l03VersionOK := .con (fn_sound (A := a_spec_l03VersionOK) tab_ok (del_spec_l03VersionOK hS) (draws (del_spec_l03VersionOK hS)) Try.func80 (by kernel_rfl) (fun k x => by kernel_rfl) (by kernel_rfl)) (by kernel_rfl)
theorem ent_spec_l03VersionOK : Enters' Try.prog 80 := enters' Try.func80 (by kernel_rfl)
attribute [irreducible] spec_l03VersionOK

/-! ### spec_l03InOrder: function 145 -/
def a_spec_l03InOrder : Ann := ⟨[(0, [.val 0 T35, .val 3 T3], ⟨[], false⟩)], []⟩
noncomputable def d_spec_l03InOrder : List (Nat × Con) := [(80, c_spec_l03VersionOK), (150, c_spec_l03Ahead)]
noncomputable def spec_l03InOrder (k : Nat) (a : (Ty.den T35)) : Option (den1 [T4]) := evFn Γ d_spec_l03InOrder a_spec_l03InOrder Try.f145 [.val T35] [T4] k (a, ())
noncomputable def spec_l03InOrder_l0 (k : Nat) (v0 : (Ty.den T35)) (v3 : (Ty.den T3)) : Option ((Items.den []) ⊕ (den1 [T4])) := loopR (ρ := (den1 [T4])) 0 [.val 0 T35, .val 3 T3] [] (runOf Γ d_spec_l03InOrder a_spec_l03InOrder Try.f145 [.val T35] [T4] 0) k (v0, v3)
theorem spec_l03InOrder_eq (k : Nat) (a : (Ty.den T35)) : spec_l03InOrder k a = bnd (spec_l03InOrder_l0 k a 0) (fun y1 => onSum y1 (fun y2 => some true) (fun y2 => some y2)) := by kernel_rfl
theorem spec_l03InOrder_l0_zero (v0 : (Ty.den T35)) (v3 : (Ty.den T3)) : spec_l03InOrder_l0 0 v0 v3 = none := by kernel_rfl
theorem spec_l03InOrder_l0_succ (k : Nat) (v0 : (Ty.den T35)) (v3 : (Ty.den T3)) : spec_l03InOrder_l0 (k + 1) v0 v3 = br (decide (v3 < (↑(List.length v0) : Int))) (br (decide (0 ≤ v3)) (br (decide (v3 < (↑(List.length v0) : Int))) (bnd (spec_l03VersionOK k (List.getD v0 (Int.toNat v3) T42.zero)) (fun y1 => br (!y1) (some (Sum.inr false)) (br (decide (v3 > 0)) (br (decide (0 ≤ IntKind.i64.wrap (v3 - 1))) (br (decide (IntKind.i64.wrap (v3 - 1) < (↑(List.length v0) : Int))) (br (decide (0 ≤ v3)) (br (decide (v3 < (↑(List.length v0) : Int))) (bnd (spec_l03Ahead k (List.getD v0 (IntKind.i64.wrap (v3 - 1)).toNat T42.zero) (List.getD v0 (Int.toNat v3) T42.zero)) (fun y2 => br (!y2) (some (Sum.inr false)) (spec_l03InOrder_l0 k v0 (IntKind.i64.wrap (v3 + 1))))) (none)) (none)) (none)) (none)) (spec_l03InOrder_l0 k v0 (IntKind.i64.wrap (v3 + 1)))))) (none)) (none)) (some (Sum.inl ())) := by kernel_rfl
noncomputable def c_spec_l03InOrder : Con := ⟨[.val T35], [T4], fun k x => spec_l03InOrder k x.1⟩
theorem del_spec_l03InOrder {w0 : World} (hS : Stops w0) : DelOk Try.prog w0 d_spec_l03InOrder := .cons (ok_spec_l03VersionOK hS) ent_spec_l03VersionOK (.cons (ok_spec_l03Ahead hS) ent_spec_l03Ahead (.nil))
theorem ok_spec_l03InOrder {w0 : World} (hS : Stops w0) : Keeps Try.prog w0 145 c_spec_l03InOrder := .con (fn_sound (A := a_spec_l03InOrder) tab_ok (del_spec_l03InOrder hS) (draws (del_spec_l03InOrder hS)) Try.func145 (by kernel_rfl) (fun k x => by kernel_rfl) (by kernel_rfl)) (by kernel_rfl)
theorem ent_spec_l03InOrder : Enters' Try.prog 145 := enters' Try.func145 (by kernel_rfl)
attribute [irreducible] spec_l03InOrder spec_l03InOrder_l0

/-! ### spec_l03Hash: function 245 -/
def a_spec_l03Hash : Ann := ⟨[(0, [.val 0 T9, .val 4 T3, .val 5 T3], ⟨[.val 4 T3], true⟩)], []⟩
noncomputable def d_spec_l03Hash : List (Nat × Con) := []
noncomputable def spec_l03Hash (k : Nat) (a : (Ty.den T9)) : Option (den1 [T3, T3]) := evFn Γ d_spec_l03Hash a_spec_l03Hash Try.f245 [.val T9] [T3, T3] k (a, ())
noncomputable def spec_l03Hash_l0 (k : Nat) (v0 : (Ty.den T9)) (v4 : (Ty.den T3)) (v5 : (Ty.den T3)) : Option (Items.den [.val 4 T3]) := loopQ (ρ := (den1 [T3, T3])) 0 [.val 0 T9, .val 4 T3, .val 5 T3] [.val 4 T3] (runOf Γ d_spec_l03Hash a_spec_l03Hash Try.f245 [.val T9] [T3, T3] 0) k (v0, v4, v5)
theorem spec_l03Hash_eq (k : Nat) (a : (Ty.den T9)) : spec_l03Hash k a = bnd (spec_l03Hash_l0 k a 2166136261 0) (fun y1 => br (!65536 == 0) (br (!65536 == 0) (some (Int.tmod y1 65536, IntKind.i64.wrap (IntKind.i64.wrap (Int.tdiv y1 65536) + 1))) (none)) (none)) := by kernel_rfl
theorem spec_l03Hash_l0_zero (v0 : (Ty.den T9)) (v4 : (Ty.den T3)) (v5 : (Ty.den T3)) : spec_l03Hash_l0 0 v0 v4 v5 = none := by kernel_rfl
theorem spec_l03Hash_l0_succ (k : Nat) (v0 : (Ty.den T9)) (v4 : (Ty.den T3)) (v5 : (Ty.den T3)) : spec_l03Hash_l0 (k + 1) v0 v4 v5 = br (decide (v5 < (↑(List.length v0) : Int))) (br (decide (0 ≤ v5)) (br (decide (v5 < (↑(List.length v0) : Int))) (br (!4294967296 == 0) (spec_l03Hash_l0 k v0 ((IntKind.i64.wrap (bits BinOp.xor IntKind.i64 v4 (IntKind.i64.wrap (↑(List.getD v0 (Int.toNat v5) 0).toNat : Int)) * 16777619)).tmod 4294967296) (IntKind.i64.wrap (v5 + 1))) (none)) (none)) (none)) (some v4) := by kernel_rfl
noncomputable def c_spec_l03Hash : Con := ⟨[.val T9], [T3, T3], fun k x => spec_l03Hash k x.1⟩
theorem del_spec_l03Hash {w0 : World} (hS : Stops w0) : DelOk Try.prog w0 d_spec_l03Hash := .nil
theorem ok_spec_l03Hash {w0 : World} (hS : Stops w0) : Keeps Try.prog w0 245 c_spec_l03Hash := .con (fn_sound (A := a_spec_l03Hash) tab_ok (del_spec_l03Hash hS) (draws (del_spec_l03Hash hS)) Try.func245 (by kernel_rfl) (fun k x => by kernel_rfl) (by kernel_rfl)) (by kernel_rfl)
theorem ent_spec_l03Hash : Enters' Try.prog 245 := enters' Try.func245 (by kernel_rfl)
attribute [irreducible] spec_l03Hash spec_l03Hash_l0

/-! ### spec_FilterMake: function 215 -/
def a_spec_FilterMake : Ann := ⟨[(0, [.val 0 T38, .val 3 T3, .val 4 X22_v_0, .val 5 T3], ⟨[.val 4 X22_v_0], true⟩), (2, [.val 0 T38, .val 3 T3, .val 4 X22_v_0, .val 5 T3, .val 6 T3, .val 7 T3, .val 8 T3], ⟨[.val 0 T38, .val 3 T3, .val 4 X22_v_0, .val 5 T3], true⟩)], [(4, ⟨[.val 0 T38, .val 3 T3], true⟩), (6, ⟨[.val 0 T38, .val 3 T3], true⟩)]⟩
noncomputable def d_spec_FilterMake : List (Nat × Con) := [(245, c_spec_l03Hash)]
noncomputable def spec_FilterMake (k : Nat) (a : (Ty.den T38)) : Option (den1 [T9]) := evFn Γ d_spec_FilterMake a_spec_FilterMake Try.f215 [.val T38] [T9] k (a, ())
noncomputable def spec_FilterMake_l0 (k : Nat) (v0 : (Ty.den T38)) (v3 : (Ty.den T3)) (v4 : (Ty.den X22_v_0)) (v5 : (Ty.den T3)) : Option (Items.den [.val 4 X22_v_0]) := loopQ (ρ := (den1 [T9])) 0 [.val 0 T38, .val 3 T3, .val 4 X22_v_0, .val 5 T3] [.val 4 X22_v_0] (runOf Γ d_spec_FilterMake a_spec_FilterMake Try.f215 [.val T38] [T9] 0) k (v0, v3, v4, v5)
noncomputable def spec_FilterMake_l2 (k : Nat) (v0 : (Ty.den T38)) (v3 : (Ty.den T3)) (v4 : (Ty.den X22_v_0)) (v5 : (Ty.den T3)) (v6 : (Ty.den T3)) (v7 : (Ty.den T3)) (v8 : (Ty.den T3)) : Option (Items.den [.val 0 T38, .val 3 T3, .val 4 X22_v_0, .val 5 T3]) := loopQ (ρ := (den1 [T9])) 2 [.val 0 T38, .val 3 T3, .val 4 X22_v_0, .val 5 T3, .val 6 T3, .val 7 T3, .val 8 T3] [.val 0 T38, .val 3 T3, .val 4 X22_v_0, .val 5 T3] (runOf Γ d_spec_FilterMake a_spec_FilterMake Try.f215 [.val T38] [T9] 2) k (v0, v3, v4, v5, v6, v7, v8)
theorem spec_FilterMake_eq (k : Nat) (a : (Ty.den T38)) : spec_FilterMake k a = br (!16 == 0) (bnd (br (decide (IntKind.i64.wrap (IntKind.i64.wrap ((IntKind.i64.wrap ((↑(List.length a) : Int) + 15)).tdiv 16) * 32) < 32)) (some (a, 32)) (some (a, IntKind.i64.wrap (IntKind.i64.wrap ((IntKind.i64.wrap ((↑(List.length a) : Int) + 15)).tdiv 16) * 32)))) (fun y1 => bnd (br (decide (y1.2 > 8192)) (some (y1.1, 8192)) (some (y1.1, y1.2))) (fun y2 => br (y2.2 == y2.2) (br (decide (0 ≤ y2.2)) (br (decide (y2.2 ≤ (↑capN : Int))) (bnd (spec_FilterMake_l0 k y2.1 y2.2 (List.replicate (Int.toNat y2.2) (Ty.int IntKind.u8).zero) 0) (fun y3 => some (List.map (fun n => UInt8.ofNat n.toNat) y3))) (none)) (none)) (none)))) (none) := by kernel_rfl
theorem spec_FilterMake_l0_zero (v0 : (Ty.den T38)) (v3 : (Ty.den T3)) (v4 : (Ty.den X22_v_0)) (v5 : (Ty.den T3)) : spec_FilterMake_l0 0 v0 v3 v4 v5 = none := by kernel_rfl
theorem spec_FilterMake_l0_succ (k : Nat) (v0 : (Ty.den T38)) (v3 : (Ty.den T3)) (v4 : (Ty.den X22_v_0)) (v5 : (Ty.den T3)) : spec_FilterMake_l0 (k + 1) v0 v3 v4 v5 = br (decide (v5 < (↑(List.length v0) : Int))) (br (decide (0 ≤ v5)) (br (decide (v5 < (↑(List.length v0) : Int))) (bnd (spec_l03Hash k (List.getD v0 (Int.toNat v5) T9.zero)) (fun y1 => bnd (spec_FilterMake_l2 k v0 v3 v4 v5 y1.1 y1.2 0) (fun y2 => spec_FilterMake_l0 k y2.1 y2.2.1 y2.2.2.1 (IntKind.i64.wrap (y2.2.2.2 + 1))))) (none)) (none)) (some v4) := by kernel_rfl
theorem spec_FilterMake_l2_zero (v0 : (Ty.den T38)) (v3 : (Ty.den T3)) (v4 : (Ty.den X22_v_0)) (v5 : (Ty.den T3)) (v6 : (Ty.den T3)) (v7 : (Ty.den T3)) (v8 : (Ty.den T3)) : spec_FilterMake_l2 0 v0 v3 v4 v5 v6 v7 v8 = none := by kernel_rfl
theorem spec_FilterMake_l2_succ (k : Nat) (v0 : (Ty.den T38)) (v3 : (Ty.den T3)) (v4 : (Ty.den X22_v_0)) (v5 : (Ty.den T3)) (v6 : (Ty.den T3)) (v7 : (Ty.den T3)) (v8 : (Ty.den T3)) : spec_FilterMake_l2 (k + 1) v0 v3 v4 v5 v6 v7 v8 = br (decide (v8 < 3)) (br (!IntKind.i64.wrap (8 * v3) == 0) (br (!8 == 0) (br (!8 == 0) (br (decide (0 ≤ IntKind.i64.wrap (((IntKind.i64.wrap (v6 + IntKind.i64.wrap (v8 * v7))).tmod (IntKind.i64.wrap (8 * v3))).tdiv 8))) (br (decide (IntKind.i64.wrap (((IntKind.i64.wrap (v6 + IntKind.i64.wrap (v8 * v7))).tmod (IntKind.i64.wrap (8 * v3))).tdiv 8) < (↑(List.length v4) : Int))) (br (!8 == 0) (br (decide (0 ≤ IntKind.u64.wrap (((IntKind.i64.wrap (v6 + IntKind.i64.wrap (v8 * v7))).tmod (IntKind.i64.wrap (8 * v3))).tmod 8))) (br (decide (0 ≤ IntKind.i64.wrap (((IntKind.i64.wrap (v6 + IntKind.i64.wrap (v8 * v7))).tmod (IntKind.i64.wrap (8 * v3))).tdiv 8))) (br (decide (IntKind.i64.wrap (((IntKind.i64.wrap (v6 + IntKind.i64.wrap (v8 * v7))).tmod (IntKind.i64.wrap (8 * v3))).tdiv 8) < (↑(List.length v4) : Int))) (spec_FilterMake_l2 k v0 v3 (List.set v4 (IntKind.i64.wrap (((IntKind.i64.wrap (v6 + IntKind.i64.wrap (v8 * v7))).tmod (IntKind.i64.wrap (8 * v3))).tdiv 8)).toNat (bits BinOp.or IntKind.u8 (List.getD v4 (IntKind.i64.wrap (((IntKind.i64.wrap (v6 + IntKind.i64.wrap (v8 * v7))).tmod (IntKind.i64.wrap (8 * v3))).tdiv 8)).toNat T5.zero) (IntKind.u8.wrap (1 * 2 ^ min (IntKind.u64.wrap (((IntKind.i64.wrap (v6 + IntKind.i64.wrap (v8 * v7))).tmod (IntKind.i64.wrap (8 * v3))).tmod 8)).toNat IntKind.u8.bits)))) v5 v6 v7 (IntKind.i64.wrap (v8 + 1))) (none)) (none)) (none)) (none)) (none)) (none)) (none)) (none)) (none)) (some (v0, v3, v4, v5)) := by kernel_rfl
noncomputable def c_spec_FilterMake : Con := ⟨[.val T38], [T9], fun k x => spec_FilterMake k x.1⟩
theorem del_spec_FilterMake {w0 : World} (hS : Stops w0) : DelOk Try.prog w0 d_spec_FilterMake := .cons (ok_spec_l03Hash hS) ent_spec_l03Hash (.nil)
theorem ok_spec_FilterMake {w0 : World} (hS : Stops w0) : Keeps Try.prog w0 215 c_spec_FilterMake := .con (fn_sound (A := a_spec_FilterMake) tab_ok (del_spec_FilterMake hS) (draws (del_spec_FilterMake hS)) Try.func215 (by kernel_rfl) (fun k x => by kernel_rfl) (by kernel_rfl)) (by kernel_rfl)
theorem ent_spec_FilterMake : Enters' Try.prog 215 := enters' Try.func215 (by kernel_rfl)
attribute [irreducible] spec_FilterMake spec_FilterMake_l0 spec_FilterMake_l2

/-! ### spec_l03Filter: function 146 -/
def a_spec_l03Filter : Ann := ⟨[(0, [.val 0 T35, .val 3 O38, .val 4 T3], ⟨[.val 3 O38], true⟩)], []⟩
noncomputable def d_spec_l03Filter : List (Nat × Con) := [(215, c_spec_FilterMake)]
noncomputable def spec_l03Filter (k : Nat) (a : (Ty.den T35)) : Option (den1 [T9]) := evFn Γ d_spec_l03Filter a_spec_l03Filter Try.f146 [.val T35] [T9] k (a, ())
noncomputable def spec_l03Filter_l0 (k : Nat) (v0 : (Ty.den T35)) (v3 : (Ty.den O38)) (v4 : (Ty.den T3)) : Option (Items.den [.val 3 O38]) := loopQ (ρ := (den1 [T9])) 0 [.val 0 T35, .val 3 O38, .val 4 T3] [.val 3 O38] (runOf Γ d_spec_l03Filter a_spec_l03Filter Try.f146 [.val T35] [T9] 0) k (v0, v3, v4)
theorem spec_l03Filter_eq (k : Nat) (a : (Ty.den T35)) : spec_l03Filter k a = bnd (spec_l03Filter_l0 k a [] 0) (fun y1 => bnd (spec_FilterMake k y1) (fun y2 => some y2)) := by kernel_rfl
theorem spec_l03Filter_l0_zero (v0 : (Ty.den T35)) (v3 : (Ty.den O38)) (v4 : (Ty.den T3)) : spec_l03Filter_l0 0 v0 v3 v4 = none := by kernel_rfl
theorem spec_l03Filter_l0_succ (k : Nat) (v0 : (Ty.den T35)) (v3 : (Ty.den O38)) (v4 : (Ty.den T3)) : spec_l03Filter_l0 (k + 1) v0 v3 v4 = br (decide (v4 < (↑(List.length v0) : Int))) (br (decide (0 ≤ v4)) (br (decide (v4 < (↑(List.length v0) : Int))) (br (decide (List.length v3 + [(List.getD v0 (Int.toNat v4) T42.zero).1].length ≤ capN)) (spec_l03Filter_l0 k v0 (v3 ++ [(List.getD v0 (Int.toNat v4) T42.zero).1]) (IntKind.i64.wrap (v4 + 1))) (none)) (none)) (none)) (some v3) := by kernel_rfl
noncomputable def c_spec_l03Filter : Con := ⟨[.val T35], [T9], fun k x => spec_l03Filter k x.1⟩
theorem del_spec_l03Filter {w0 : World} (hS : Stops w0) : DelOk Try.prog w0 d_spec_l03Filter := .cons (ok_spec_FilterMake hS) ent_spec_FilterMake (.nil)
theorem ok_spec_l03Filter {w0 : World} (hS : Stops w0) : Keeps Try.prog w0 146 c_spec_l03Filter := .con (fn_sound (A := a_spec_l03Filter) tab_ok (del_spec_l03Filter hS) (draws (del_spec_l03Filter hS)) Try.func146 (by kernel_rfl) (fun k x => by kernel_rfl) (by kernel_rfl)) (by kernel_rfl)
theorem ent_spec_l03Filter : Enters' Try.prog 146 := enters' Try.func146 (by kernel_rfl)
attribute [irreducible] spec_l03Filter spec_l03Filter_l0

/-! ### spec_StoreOK: function 66 -/
def a_spec_StoreOK : Ann := ⟨[(0, [.var 1 T60, .val 3 T3, .val 4 T3], ⟨[.var 1 T60, .val 3 T3], true⟩), (2, [.var 1 T60, .val 5 T3], ⟨[.var 1 T60], false⟩)], []⟩
noncomputable def d_spec_StoreOK : List (Nat × Con) := [(72, c_spec_TimeOK), (139, c_spec_l03All), (145, c_spec_l03InOrder), (146, c_spec_l03Filter)]
noncomputable def spec_StoreOK (k : Nat) (a : (Ty.den T60)) : Option (den1 [T4]) := evFn Γ d_spec_StoreOK a_spec_StoreOK Try.f66 [.val T60] [T4] k (a, ())
noncomputable def spec_StoreOK_l0 (k : Nat) (v1 : (Ty.den T60)) (v3 : (Ty.den T3)) (v4 : (Ty.den T3)) : Option (Items.den [.var 1 T60, .val 3 T3]) := loopQ (ρ := (den1 [T4])) 0 [.var 1 T60, .val 3 T3, .val 4 T3] [.var 1 T60, .val 3 T3] (runOf Γ d_spec_StoreOK a_spec_StoreOK Try.f66 [.val T60] [T4] 0) k (v1, v3, v4)
noncomputable def spec_StoreOK_l2 (k : Nat) (v1 : (Ty.den T60)) (v5 : (Ty.den T3)) : Option ((Items.den [.var 1 T60]) ⊕ (den1 [T4])) := loopR (ρ := (den1 [T4])) 2 [.var 1 T60, .val 5 T3] [.var 1 T60] (runOf Γ d_spec_StoreOK a_spec_StoreOK Try.f66 [.val T60] [T4] 2) k (v1, v5)
theorem spec_StoreOK_eq (k : Nat) (a : (Ty.den T60)) : spec_StoreOK k a = bnd (spec_TimeOK k a.2.2.1) (fun y1 => br (!y1) (some false) (br (decide ((↑(List.length a.2.1) : Int) > 12)) (some false) (bnd (spec_StoreOK_l0 k a ((↑(List.length a.1) : Int)) 0) (fun y2 => br (decide (y2.2 > 4000)) (some false) (bnd (spec_l03InOrder k y2.1.1) (fun y3 => br (!y3) (some false) (bnd (spec_StoreOK_l2 k y2.1 0) (fun y4 => onSum y4 (fun y5 => bnd (spec_l03All k y5) (fun y6 => bnd (spec_l03InOrder k y6) (fun y7 => some y7))) (fun y5 => some y5))))))))) := by kernel_rfl
theorem spec_StoreOK_l0_zero (v1 : (Ty.den T60)) (v3 : (Ty.den T3)) (v4 : (Ty.den T3)) : spec_StoreOK_l0 0 v1 v3 v4 = none := by kernel_rfl
theorem spec_StoreOK_l0_succ (k : Nat) (v1 : (Ty.den T60)) (v3 : (Ty.den T3)) (v4 : (Ty.den T3)) : spec_StoreOK_l0 (k + 1) v1 v3 v4 = br (decide (v4 < (↑(List.length v1.2.1) : Int))) (br (decide (0 ≤ v4)) (br (decide (v4 < (↑(List.length v1.2.1) : Int))) (spec_StoreOK_l0 k v1 (IntKind.i64.wrap (v3 + (↑(List.length (List.getD v1.2.1 (Int.toNat v4) T106.zero).1) : Int))) (IntKind.i64.wrap (v4 + 1))) (none)) (none)) (some (v1, v3)) := by kernel_rfl
theorem spec_StoreOK_l2_zero (v1 : (Ty.den T60)) (v5 : (Ty.den T3)) : spec_StoreOK_l2 0 v1 v5 = none := by kernel_rfl
theorem spec_StoreOK_l2_succ (k : Nat) (v1 : (Ty.den T60)) (v5 : (Ty.den T3)) : spec_StoreOK_l2 (k + 1) v1 v5 = br (decide (v5 < (↑(List.length v1.2.1) : Int))) (br (decide (0 ≤ v5)) (br (decide (v5 < (↑(List.length v1.2.1) : Int))) (br ((↑(List.length (List.getD v1.2.1 (Int.toNat v5) T106.zero).1) : Int) == 0) (some (Sum.inr false)) (br (decide (0 ≤ v5)) (br (decide (v5 < (↑(List.length v1.2.1) : Int))) (bnd (spec_l03InOrder k (List.getD v1.2.1 (Int.toNat v5) T106.zero).1) (fun y1 => br (!y1) (some (Sum.inr false)) (br (decide (0 ≤ v5)) (br (decide (v5 < (↑(List.length v1.2.1) : Int))) (br (decide (0 ≤ v5)) (br (decide (v5 < (↑(List.length v1.2.1) : Int))) (bnd (spec_l03Filter k (List.getD v1.2.1 (Int.toNat v5) T106.zero).1) (fun y2 => br (!(List.getD v1.2.1 (Int.toNat v5) T106.zero).2.1 == y2) (some (Sum.inr false)) (spec_StoreOK_l2 k v1 (IntKind.i64.wrap (v5 + 1))))) (none)) (none)) (none)) (none)))) (none)) (none))) (none)) (none)) (some (Sum.inl v1)) := by kernel_rfl
noncomputable def c_spec_StoreOK : Con := ⟨[.val T60], [T4], fun k x => spec_StoreOK k x.1⟩
theorem del_spec_StoreOK {w0 : World} (hS : Stops w0) : DelOk Try.prog w0 d_spec_StoreOK := .cons (ok_spec_TimeOK hS) ent_spec_TimeOK (.cons (ok_spec_l03All hS) ent_spec_l03All (.cons (ok_spec_l03InOrder hS) ent_spec_l03InOrder (.cons (ok_spec_l03Filter hS) ent_spec_l03Filter (.nil))))
theorem ok_spec_StoreOK {w0 : World} (hS : Stops w0) : Keeps Try.prog w0 66 c_spec_StoreOK := .con (fn_sound (A := a_spec_StoreOK) tab_ok (del_spec_StoreOK hS) (draws (del_spec_StoreOK hS)) Try.func66 (by kernel_rfl) (fun k x => by kernel_rfl) (by kernel_rfl)) (by kernel_rfl)
theorem ent_spec_StoreOK : Enters' Try.prog 66 := enters' Try.func66 (by kernel_rfl)
attribute [irreducible] spec_StoreOK spec_StoreOK_l0 spec_StoreOK_l2

/-! ### spec_l03RunOf: function 131 -/
def a_spec_l03RunOf : Ann := ⟨[], []⟩
noncomputable def d_spec_l03RunOf : List (Nat × Con) := [(146, c_spec_l03Filter)]
noncomputable def spec_l03RunOf (k : Nat) (a : (Ty.den T35)) : Option (den1 [T106]) := evFn Γ d_spec_l03RunOf a_spec_l03RunOf Try.f131 [.val T35] [T106] k (a, ())
theorem spec_l03RunOf_eq (k : Nat) (a : (Ty.den T35)) : spec_l03RunOf k a = bnd (spec_l03Filter k a) (fun y1 => some (a, y1, ())) := by kernel_rfl
noncomputable def c_spec_l03RunOf : Con := ⟨[.val T35], [T106], fun k x => spec_l03RunOf k x.1⟩
theorem del_spec_l03RunOf {w0 : World} (hS : Stops w0) : DelOk Try.prog w0 d_spec_l03RunOf := .cons (ok_spec_l03Filter hS) ent_spec_l03Filter (.nil)
theorem ok_spec_l03RunOf {w0 : World} (hS : Stops w0) : Keeps Try.prog w0 131 c_spec_l03RunOf := .con (fn_sound (A := a_spec_l03RunOf) tab_ok (del_spec_l03RunOf hS) (draws (del_spec_l03RunOf hS)) Try.func131 (by kernel_rfl) (fun k x => by kernel_rfl) (by kernel_rfl)) (by kernel_rfl)
theorem ent_spec_l03RunOf : Enters' Try.prog 131 := enters' Try.func131 (by kernel_rfl)
attribute [irreducible] spec_l03RunOf

/-! ### spec_l03Goes: function 138 -/
def a_spec_l03Goes : Ann := ⟨[(0, [.val 0 T35, .var 3 T33, .val 5 O35, .val 6 T9, .val 7 T4, .val 8 T3], ⟨[.val 5 O35], true⟩)], []⟩
noncomputable def d_spec_l03Goes : List (Nat × Con) := [(20, c_spec_TimeCompare)]
noncomputable def spec_l03Goes (k : Nat) (a : (Ty.den T35)) (b : (Ty.den T33)) : Option (den1 [T35]) := evFn Γ d_spec_l03Goes a_spec_l03Goes Try.f138 [.val T35, .val T33] [T35] k (a, b, ())
noncomputable def spec_l03Goes_l0 (k : Nat) (v0 : (Ty.den T35)) (v3 : (Ty.den T33)) (v5 : (Ty.den O35)) (v6 : (Ty.den T9)) (v7 : (Ty.den T4)) (v8 : (Ty.den T3)) : Option (Items.den [.val 5 O35]) := loopQ (ρ := (den1 [T35])) 0 [.val 0 T35, .var 3 T33, .val 5 O35, .val 6 T9, .val 7 T4, .val 8 T3] [.val 5 O35] (runOf Γ d_spec_l03Goes a_spec_l03Goes Try.f138 [.val T35, .val T33] [T35] 0) k (v0, v3, v5, v6, v7, v8)
theorem spec_l03Goes_eq (k : Nat) (a : (Ty.den T35)) (b : (Ty.den T33)) : spec_l03Goes k a b = bnd (spec_l03Goes_l0 k a b [] [] false 0) (fun y1 => some y1) := by kernel_rfl
theorem spec_l03Goes_l0_zero (v0 : (Ty.den T35)) (v3 : (Ty.den T33)) (v5 : (Ty.den O35)) (v6 : (Ty.den T9)) (v7 : (Ty.den T4)) (v8 : (Ty.den T3)) : spec_l03Goes_l0 0 v0 v3 v5 v6 v7 v8 = none := by kernel_rfl
theorem spec_l03Goes_l0_succ (k : Nat) (v0 : (Ty.den T35)) (v3 : (Ty.den T33)) (v5 : (Ty.den O35)) (v6 : (Ty.den T9)) (v7 : (Ty.den T4)) (v8 : (Ty.den T3)) : spec_l03Goes_l0 (k + 1) v0 v3 v5 v6 v7 v8 = br (decide (v8 < (↑(List.length v0) : Int))) (br (decide (0 ≤ v8)) (br (decide (v8 < (↑(List.length v0) : Int))) (bnd (spec_TimeCompare k (List.getD v0 (Int.toNat v8) T42.zero).2.1 v3) (fun y1 => br (decide (y1 > 0)) (spec_l03Goes_l0 k v0 v3 v5 v6 v7 (IntKind.i64.wrap (v8 + 1))) (br ((List.getD v0 (Int.toNat v8) T42.zero).2.2.1) (br (decide (List.length v5 + [(List.getD v0 (Int.toNat v8) T42.zero)].length ≤ capN)) (spec_l03Goes_l0 k v0 v3 (v5 ++ [(List.getD v0 (Int.toNat v8) T42.zero)]) (List.getD v0 (Int.toNat v8) T42.zero).1 true (IntKind.i64.wrap (v8 + 1))) (none)) (br (v7) (br (v6 == (List.getD v0 (Int.toNat v8) T42.zero).1) (br (decide (List.length v5 + [(List.getD v0 (Int.toNat v8) T42.zero)].length ≤ capN)) (spec_l03Goes_l0 k v0 v3 (v5 ++ [(List.getD v0 (Int.toNat v8) T42.zero)]) (List.getD v0 (Int.toNat v8) T42.zero).1 true (IntKind.i64.wrap (v8 + 1))) (none)) (spec_l03Goes_l0 k v0 v3 v5 (List.getD v0 (Int.toNat v8) T42.zero).1 true (IntKind.i64.wrap (v8 + 1)))) (spec_l03Goes_l0 k v0 v3 v5 (List.getD v0 (Int.toNat v8) T42.zero).1 true (IntKind.i64.wrap (v8 + 1))))))) (none)) (none)) (some v5) := by kernel_rfl
noncomputable def c_spec_l03Goes : Con := ⟨[.val T35, .val T33], [T35], fun k x => spec_l03Goes k x.1 x.2.1⟩
theorem del_spec_l03Goes {w0 : World} (hS : Stops w0) : DelOk Try.prog w0 d_spec_l03Goes := .cons (ok_spec_TimeCompare hS) ent_spec_TimeCompare (.nil)
theorem ok_spec_l03Goes {w0 : World} (hS : Stops w0) : Keeps Try.prog w0 138 c_spec_l03Goes := .con (fn_sound (A := a_spec_l03Goes) tab_ok (del_spec_l03Goes hS) (draws (del_spec_l03Goes hS)) Try.func138 (by kernel_rfl) (fun k x => by kernel_rfl) (by kernel_rfl)) (by kernel_rfl)
theorem ent_spec_l03Goes : Enters' Try.prog 138 := enters' Try.func138 (by kernel_rfl)
attribute [irreducible] spec_l03Goes spec_l03Goes_l0

/-! ### spec_l03Kept: function 140 -/
def a_spec_l03Kept : Ann := ⟨[(0, [.val 0 T35, .val 1 T35, .val 5 O35, .val 6 T3, .val 7 T3], ⟨[.val 5 O35], true⟩), (2, [.val 0 T35, .val 1 T35, .val 5 O35, .val 6 T3, .val 7 T3], ⟨[.val 0 T35, .val 1 T35, .val 5 O35, .val 6 T3, .val 7 T3], true⟩)], []⟩
noncomputable def d_spec_l03Kept : List (Nat × Con) := [(150, c_spec_l03Ahead)]
noncomputable def spec_l03Kept (k : Nat) (a : (Ty.den T35)) (b : (Ty.den T35)) : Option (den1 [T35]) := evFn Γ d_spec_l03Kept a_spec_l03Kept Try.f140 [.val T35, .val T35] [T35] k (a, b, ())
noncomputable def spec_l03Kept_l0 (k : Nat) (v0 : (Ty.den T35)) (v1 : (Ty.den T35)) (v5 : (Ty.den O35)) (v6 : (Ty.den T3)) (v7 : (Ty.den T3)) : Option (Items.den [.val 5 O35]) := loopQ (ρ := (den1 [T35])) 0 [.val 0 T35, .val 1 T35, .val 5 O35, .val 6 T3, .val 7 T3] [.val 5 O35] (runOf Γ d_spec_l03Kept a_spec_l03Kept Try.f140 [.val T35, .val T35] [T35] 0) k (v0, v1, v5, v6, v7)
noncomputable def spec_l03Kept_l2 (k : Nat) (v0 : (Ty.den T35)) (v1 : (Ty.den T35)) (v5 : (Ty.den O35)) (v6 : (Ty.den T3)) (v7 : (Ty.den T3)) : Option (Items.den [.val 0 T35, .val 1 T35, .val 5 O35, .val 6 T3, .val 7 T3]) := loopQ (ρ := (den1 [T35])) 2 [.val 0 T35, .val 1 T35, .val 5 O35, .val 6 T3, .val 7 T3] [.val 0 T35, .val 1 T35, .val 5 O35, .val 6 T3, .val 7 T3] (runOf Γ d_spec_l03Kept a_spec_l03Kept Try.f140 [.val T35, .val T35] [T35] 2) k (v0, v1, v5, v6, v7)
theorem spec_l03Kept_eq (k : Nat) (a : (Ty.den T35)) (b : (Ty.den T35)) : spec_l03Kept k a b = bnd (spec_l03Kept_l0 k a b [] 0 0) (fun y1 => some y1) := by kernel_rfl
theorem spec_l03Kept_l0_zero (v0 : (Ty.den T35)) (v1 : (Ty.den T35)) (v5 : (Ty.den O35)) (v6 : (Ty.den T3)) (v7 : (Ty.den T3)) : spec_l03Kept_l0 0 v0 v1 v5 v6 v7 = none := by kernel_rfl
theorem spec_l03Kept_l0_succ (k : Nat) (v0 : (Ty.den T35)) (v1 : (Ty.den T35)) (v5 : (Ty.den O35)) (v6 : (Ty.den T3)) (v7 : (Ty.den T3)) : spec_l03Kept_l0 (k + 1) v0 v1 v5 v6 v7 = br (decide (v7 < (↑(List.length v1) : Int))) (bnd (spec_l03Kept_l2 k v0 v1 v5 v6 v7) (fun y1 => br (decide (y1.2.2.2.1 ≥ (↑(List.length y1.1) : Int))) (br (decide (0 ≤ y1.2.2.2.2)) (br (decide (y1.2.2.2.2 < (↑(List.length y1.2.1) : Int))) (br (decide (List.length y1.2.2.1 + [(List.getD y1.2.1 (Int.toNat y1.2.2.2.2) T42.zero)].length ≤ capN)) (spec_l03Kept_l0 k y1.1 y1.2.1 (y1.2.2.1 ++ [(List.getD y1.2.1 (Int.toNat y1.2.2.2.2) T42.zero)]) y1.2.2.2.1 (IntKind.i64.wrap (y1.2.2.2.2 + 1))) (none)) (none)) (none)) (br (decide (0 ≤ y1.2.2.2.1)) (br (decide (y1.2.2.2.1 < (↑(List.length y1.1) : Int))) (br (decide (0 ≤ y1.2.2.2.2)) (br (decide (y1.2.2.2.2 < (↑(List.length y1.2.1) : Int))) (br (!andB (eqS (List.getD y1.1 (Int.toNat y1.2.2.2.1) T42.zero).1 (List.getD y1.2.1 (Int.toNat y1.2.2.2.2) T42.zero).1) (andB (andB (eqI (List.getD y1.1 (Int.toNat y1.2.2.2.1) T42.zero).2.1.1 (List.getD y1.2.1 (Int.toNat y1.2.2.2.2) T42.zero).2.1.1) (andB (eqI (List.getD y1.1 (Int.toNat y1.2.2.2.1) T42.zero).2.1.2.1 (List.getD y1.2.1 (Int.toNat y1.2.2.2.2) T42.zero).2.1.2.1) true)) (andB (eqB (List.getD y1.1 (Int.toNat y1.2.2.2.1) T42.zero).2.2.1 (List.getD y1.2.1 (Int.toNat y1.2.2.2.2) T42.zero).2.2.1) (andB (eqS (List.getD y1.1 (Int.toNat y1.2.2.2.1) T42.zero).2.2.2.1 (List.getD y1.2.1 (Int.toNat y1.2.2.2.2) T42.zero).2.2.2.1) true)))) (br (decide (0 ≤ y1.2.2.2.2)) (br (decide (y1.2.2.2.2 < (↑(List.length y1.2.1) : Int))) (br (decide (List.length y1.2.2.1 + [(List.getD y1.2.1 (Int.toNat y1.2.2.2.2) T42.zero)].length ≤ capN)) (spec_l03Kept_l0 k y1.1 y1.2.1 (y1.2.2.1 ++ [(List.getD y1.2.1 (Int.toNat y1.2.2.2.2) T42.zero)]) y1.2.2.2.1 (IntKind.i64.wrap (y1.2.2.2.2 + 1))) (none)) (none)) (none)) (spec_l03Kept_l0 k y1.1 y1.2.1 y1.2.2.1 y1.2.2.2.1 (IntKind.i64.wrap (y1.2.2.2.2 + 1)))) (none)) (none)) (none)) (none)))) (some v5) := by kernel_rfl
theorem spec_l03Kept_l2_zero (v0 : (Ty.den T35)) (v1 : (Ty.den T35)) (v5 : (Ty.den O35)) (v6 : (Ty.den T3)) (v7 : (Ty.den T3)) : spec_l03Kept_l2 0 v0 v1 v5 v6 v7 = none := by kernel_rfl
theorem spec_l03Kept_l2_succ (k : Nat) (v0 : (Ty.den T35)) (v1 : (Ty.den T35)) (v5 : (Ty.den O35)) (v6 : (Ty.den T3)) (v7 : (Ty.den T3)) : spec_l03Kept_l2 (k + 1) v0 v1 v5 v6 v7 = br (decide (v6 < (↑(List.length v0) : Int))) (br (decide (0 ≤ v6)) (br (decide (v6 < (↑(List.length v0) : Int))) (br (decide (0 ≤ v7)) (br (decide (v7 < (↑(List.length v1) : Int))) (bnd (spec_l03Ahead k (List.getD v0 (Int.toNat v6) T42.zero) (List.getD v1 (Int.toNat v7) T42.zero)) (fun y1 => br (y1) (spec_l03Kept_l2 k v0 v1 v5 (IntKind.i64.wrap (v6 + 1)) v7) (some (v0, v1, v5, v6, v7)))) (none)) (none)) (none)) (none)) (some (v0, v1, v5, v6, v7)) := by kernel_rfl
noncomputable def c_spec_l03Kept : Con := ⟨[.val T35, .val T35], [T35], fun k x => spec_l03Kept k x.1 x.2.1⟩
theorem del_spec_l03Kept {w0 : World} (hS : Stops w0) : DelOk Try.prog w0 d_spec_l03Kept := .cons (ok_spec_l03Ahead hS) ent_spec_l03Ahead (.nil)
theorem ok_spec_l03Kept {w0 : World} (hS : Stops w0) : Keeps Try.prog w0 140 c_spec_l03Kept := .con (fn_sound (A := a_spec_l03Kept) tab_ok (del_spec_l03Kept hS) (draws (del_spec_l03Kept hS)) Try.func140 (by kernel_rfl) (fun k x => by kernel_rfl) (by kernel_rfl)) (by kernel_rfl)
theorem ent_spec_l03Kept : Enters' Try.prog 140 := enters' Try.func140 (by kernel_rfl)
attribute [irreducible] spec_l03Kept spec_l03Kept_l0 spec_l03Kept_l2

/-! ### spec_StoreCollect: function 60 -/
def a_spec_StoreCollect : Ann := ⟨[(0, [.var 2 T60, .var 4 T60, .val 6 T35, .var 7 X60_v_1, .val 8 T3], ⟨[.var 4 T60, .var 7 X60_v_1], true⟩)], []⟩
noncomputable def d_spec_StoreCollect : List (Nat × Con) := [(20, c_spec_TimeCompare), (66, c_spec_StoreOK), (72, c_spec_TimeOK), (131, c_spec_l03RunOf), (138, c_spec_l03Goes), (139, c_spec_l03All), (140, c_spec_l03Kept)]
noncomputable def spec_StoreCollect (k : Nat) (a : (Ty.den T60)) (b : (Ty.den T33)) : Option (den1 [T60, T3]) := evFn Γ d_spec_StoreCollect a_spec_StoreCollect Try.f60 [.val T60, .val T33] [T60, T3] k (a, b, ())
noncomputable def spec_StoreCollect_l0 (k : Nat) (v2 : (Ty.den T60)) (v4 : (Ty.den T60)) (v6 : (Ty.den T35)) (v7 : (Ty.den X60_v_1)) (v8 : (Ty.den T3)) : Option (Items.den [.var 4 T60, .var 7 X60_v_1]) := loopQ (ρ := (den1 [T60, T3])) 0 [.var 2 T60, .var 4 T60, .val 6 T35, .var 7 X60_v_1, .val 8 T3] [.var 4 T60, .var 7 X60_v_1] (runOf Γ d_spec_StoreCollect a_spec_StoreCollect Try.f60 [.val T60, .val T33] [T60, T3] 0) k (v2, v4, v6, v7, v8)
theorem spec_StoreCollect_eq (k : Nat) (a : (Ty.den T60)) (b : (Ty.den T33)) : spec_StoreCollect k a b = bnd (spec_StoreOK k a) (fun y1 => br (!y1) (some (([], [], (0, 0, ()), ()), 1)) (bnd (spec_TimeOK k b) (fun y2 => br (!y2) (some (([], [], (0, 0, ()), ()), 1)) (bnd (spec_TimeCompare k b a.2.2.1) (fun y3 => br (decide (y3 < 0)) (some (([], [], (0, 0, ()), ()), 7)) (bnd (spec_l03All k a) (fun y4 => bnd (spec_l03Goes k y4 b) (fun y5 => bnd (spec_l03Kept k y5 a.1) (fun y6 => bnd (spec_StoreCollect_l0 k a ([], [], (0, 0, ()), ()) y5 (y6, [], b, ()) 0) (fun y7 => some (y7.2, 0))))))))))) := by kernel_rfl
theorem spec_StoreCollect_l0_zero (v2 : (Ty.den T60)) (v4 : (Ty.den T60)) (v6 : (Ty.den T35)) (v7 : (Ty.den X60_v_1)) (v8 : (Ty.den T3)) : spec_StoreCollect_l0 0 v2 v4 v6 v7 v8 = none := by kernel_rfl
theorem spec_StoreCollect_l0_succ (k : Nat) (v2 : (Ty.den T60)) (v4 : (Ty.den T60)) (v6 : (Ty.den T35)) (v7 : (Ty.den X60_v_1)) (v8 : (Ty.den T3)) : spec_StoreCollect_l0 (k + 1) v2 v4 v6 v7 v8 = br (decide (v8 < (↑(List.length v2.2.1) : Int))) (br (decide (0 ≤ v8)) (br (decide (v8 < (↑(List.length v2.2.1) : Int))) (bnd (spec_l03Kept k v6 (List.getD v2.2.1 (Int.toNat v8) T106.zero).1) (fun y1 => br (decide ((↑(List.length y1) : Int) > 0)) (bnd (spec_l03RunOf k y1) (fun y2 => br (decide (List.length v7.2.1 + [y2].length ≤ capN)) (spec_StoreCollect_l0 k v2 v4 v6 (v7.1, v7.2.1 ++ [y2], v7.2.2.1, ()) (IntKind.i64.wrap (v8 + 1))) (none))) (spec_StoreCollect_l0 k v2 v4 v6 v7 (IntKind.i64.wrap (v8 + 1))))) (none)) (none)) (some (v4, v7.1, v7.2.1, v7.2.2.1, ())) := by kernel_rfl
noncomputable def c_spec_StoreCollect : Con := ⟨[.val T60, .val T33], [T60, T3], fun k x => spec_StoreCollect k x.1 x.2.1⟩
theorem del_spec_StoreCollect {w0 : World} (hS : Stops w0) : DelOk Try.prog w0 d_spec_StoreCollect := .cons (ok_spec_TimeCompare hS) ent_spec_TimeCompare (.cons (ok_spec_StoreOK hS) ent_spec_StoreOK (.cons (ok_spec_TimeOK hS) ent_spec_TimeOK (.cons (ok_spec_l03RunOf hS) ent_spec_l03RunOf (.cons (ok_spec_l03Goes hS) ent_spec_l03Goes (.cons (ok_spec_l03All hS) ent_spec_l03All (.cons (ok_spec_l03Kept hS) ent_spec_l03Kept (.nil)))))))
theorem ok_spec_StoreCollect {w0 : World} (hS : Stops w0) : Keeps Try.prog w0 60 c_spec_StoreCollect := .con (fn_sound (A := a_spec_StoreCollect) tab_ok (del_spec_StoreCollect hS) (draws (del_spec_StoreCollect hS)) Try.func60 (by kernel_rfl) (fun k x => by kernel_rfl) (by kernel_rfl)) (by kernel_rfl)
theorem ent_spec_StoreCollect : Enters' Try.prog 60 := enters' Try.func60 (by kernel_rfl)
attribute [irreducible] spec_StoreCollect spec_StoreCollect_l0

/-! ### impl_places: function 142 -/
def a_impl_places : Ann := ⟨[(0, [.val 0 T9, .val 1 T3, .var 4 T200, .val 5 T252, .val 6 T3], ⟨[.val 1 T3, .var 4 T200, .val 5 T252], true⟩)], []⟩
noncomputable def d_impl_places : List (Nat × Con) := []
noncomputable def impl_places (k : Nat) (a : (Ty.den T9)) (b : (Ty.den T3)) : Option (den1 [T200]) := evFn Γ d_impl_places a_impl_places Try.f142 [.val T9, .val T3] [T200] k (a, b, ())
noncomputable def impl_places_l0 (k : Nat) (v0 : (Ty.den T9)) (v1 : (Ty.den T3)) (v4 : (Ty.den T200)) (v5 : (Ty.den T252)) (v6 : (Ty.den T3)) : Option (Items.den [.val 1 T3, .var 4 T200, .val 5 T252]) := loopQ (ρ := (den1 [T200])) 0 [.val 0 T9, .val 1 T3, .var 4 T200, .val 5 T252, .val 6 T3] [.val 1 T3, .var 4 T200, .val 5 T252] (runOf Γ d_impl_places a_impl_places Try.f142 [.val T9, .val T3] [T200] 0) k (v0, v1, v4, v5, v6)
theorem impl_places_eq (k : Nat) (a : (Ty.den T9)) (b : (Ty.den T3)) : impl_places k a b = bnd (impl_places_l0 k a b (0, 0, 0, ()) 2166136261 0) (fun y1 => br (decide (0 ≤ 16)) (br (!y1.1 == 0) (br (!y1.1 == 0) (br (!y1.1 == 0) (some ((IntKind.i64.wrap (bits BinOp.and IntKind.u32 y1.2.2 65535)).tmod y1.1, (IntKind.i64.wrap (IntKind.i64.wrap (bits BinOp.and IntKind.u32 y1.2.2 65535) + IntKind.i64.wrap (IntKind.i64.wrap (Int.fdiv y1.2.2 (2 ^ min (Int.toNat 16) IntKind.u32.bits)) + 1))).tmod y1.1, (IntKind.i64.wrap (IntKind.i64.wrap (bits BinOp.and IntKind.u32 y1.2.2 65535) + IntKind.i64.wrap (2 * IntKind.i64.wrap (IntKind.i64.wrap (Int.fdiv y1.2.2 (2 ^ min (Int.toNat 16) IntKind.u32.bits)) + 1)))).tmod y1.1, ())) (none)) (none)) (none)) (none)) := by kernel_rfl
theorem impl_places_l0_zero (v0 : (Ty.den T9)) (v1 : (Ty.den T3)) (v4 : (Ty.den T200)) (v5 : (Ty.den T252)) (v6 : (Ty.den T3)) : impl_places_l0 0 v0 v1 v4 v5 v6 = none := by kernel_rfl
theorem impl_places_l0_succ (k : Nat) (v0 : (Ty.den T9)) (v1 : (Ty.den T3)) (v4 : (Ty.den T200)) (v5 : (Ty.den T252)) (v6 : (Ty.den T3)) : impl_places_l0 (k + 1) v0 v1 v4 v5 v6 = br (decide (v6 < (↑(List.length v0) : Int))) (br (decide (0 ≤ v6)) (br (decide (v6 < (↑(List.length v0) : Int))) (impl_places_l0 k v0 v1 v4 (IntKind.u32.wrap (bits BinOp.xor IntKind.u32 v5 (IntKind.u32.wrap (↑(List.getD v0 (Int.toNat v6) 0).toNat : Int)) * 16777619)) (IntKind.i64.wrap (v6 + 1))) (none)) (none)) (some (v1, v4, v5)) := by kernel_rfl
noncomputable def c_impl_places : Con := ⟨[.val T9, .val T3], [T200], fun k x => impl_places k x.1 x.2.1⟩
theorem del_impl_places {w0 : World} (hS : Stops w0) : DelOk Try.prog w0 d_impl_places := .nil
theorem ok_impl_places {w0 : World} (hS : Stops w0) : Keeps Try.prog w0 142 c_impl_places := .con (fn_sound (A := a_impl_places) tab_ok (del_impl_places hS) (draws (del_impl_places hS)) Try.func142 (by kernel_rfl) (fun k x => by kernel_rfl) (by kernel_rfl)) (by kernel_rfl)
theorem ent_impl_places : Enters' Try.prog 142 := enters' Try.func142 (by kernel_rfl)
attribute [irreducible] impl_places impl_places_l0

/-! ### impl_FilterMake: function 63 -/
def a_impl_FilterMake : Ann := ⟨[(0, [.val 3 X22_v_0, .val 16 T38, .val 17 T3, .val 18 T3], ⟨[.val 3 X22_v_0], true⟩), (2, [.val 3 X22_v_0, .val 16 T38, .val 17 T3, .val 18 T3, .val 26 T200, .val 27 T3], ⟨[.val 3 X22_v_0, .val 16 T38, .val 17 T3, .val 18 T3], true⟩)], []⟩
noncomputable def d_impl_FilterMake : List (Nat × Con) := [(142, c_impl_places)]
noncomputable def impl_FilterMake (k : Nat) (a : (Ty.den T38)) : Option (den1 [T9]) := evFn Γ d_impl_FilterMake a_impl_FilterMake Try.f63 [.val T38] [T9] k (a, ())
noncomputable def impl_FilterMake_l0 (k : Nat) (v3 : (Ty.den X22_v_0)) (v16 : (Ty.den T38)) (v17 : (Ty.den T3)) (v18 : (Ty.den T3)) : Option (Items.den [.val 3 X22_v_0]) := loopQ (ρ := (den1 [T9])) 0 [.val 3 X22_v_0, .val 16 T38, .val 17 T3, .val 18 T3] [.val 3 X22_v_0] (runOf Γ d_impl_FilterMake a_impl_FilterMake Try.f63 [.val T38] [T9] 0) k (v3, v16, v17, v18)
noncomputable def impl_FilterMake_l2 (k : Nat) (v3 : (Ty.den X22_v_0)) (v16 : (Ty.den T38)) (v17 : (Ty.den T3)) (v18 : (Ty.den T3)) (v26 : (Ty.den T200)) (v27 : (Ty.den T3)) : Option (Items.den [.val 3 X22_v_0, .val 16 T38, .val 17 T3, .val 18 T3]) := loopQ (ρ := (den1 [T9])) 2 [.val 3 X22_v_0, .val 16 T38, .val 17 T3, .val 18 T3, .val 26 T200, .val 27 T3] [.val 3 X22_v_0, .val 16 T38, .val 17 T3, .val 18 T3] (runOf Γ d_impl_FilterMake a_impl_FilterMake Try.f63 [.val T38] [T9] 2) k (v3, v16, v17, v18, v26, v27)
theorem impl_FilterMake_eq (k : Nat) (a : (Ty.den T38)) : impl_FilterMake k a = br (!16 == 0) (br (min (max (IntKind.i64.wrap (IntKind.i64.wrap ((IntKind.i64.wrap ((↑(List.length a) : Int) + 15)).tdiv 16) * 32)) 32) 8192 == min (max (IntKind.i64.wrap (IntKind.i64.wrap ((IntKind.i64.wrap ((↑(List.length a) : Int) + 15)).tdiv 16) * 32)) 32) 8192) (br (decide (0 ≤ min (max (IntKind.i64.wrap (IntKind.i64.wrap ((IntKind.i64.wrap ((↑(List.length a) : Int) + 15)).tdiv 16) * 32)) 32) 8192)) (br (decide (min (max (IntKind.i64.wrap (IntKind.i64.wrap ((IntKind.i64.wrap ((↑(List.length a) : Int) + 15)).tdiv 16) * 32)) 32) 8192 ≤ (↑capN : Int))) (bnd (impl_FilterMake_l0 k (List.replicate (min (max (IntKind.i64.wrap (IntKind.i64.wrap ((IntKind.i64.wrap ((↑(List.length a) : Int) + 15)).tdiv 16) * 32)) 32) 8192).toNat (Ty.int IntKind.u8).zero) a ((↑(List.length a) : Int)) 0) (fun y1 => some (List.map (fun n => UInt8.ofNat n.toNat) y1))) (none)) (none)) (none)) (none) := by kernel_rfl
theorem impl_FilterMake_l0_zero (v3 : (Ty.den X22_v_0)) (v16 : (Ty.den T38)) (v17 : (Ty.den T3)) (v18 : (Ty.den T3)) : impl_FilterMake_l0 0 v3 v16 v17 v18 = none := by kernel_rfl
theorem impl_FilterMake_l0_succ (k : Nat) (v3 : (Ty.den X22_v_0)) (v16 : (Ty.den T38)) (v17 : (Ty.den T3)) (v18 : (Ty.den T3)) : impl_FilterMake_l0 (k + 1) v3 v16 v17 v18 = br (decide (v18 < v17)) (br (decide (0 ≤ v18)) (br (decide (v18 < (↑(List.length v16) : Int))) (bnd (impl_places k (List.getD v16 (Int.toNat v18) T9.zero) (IntKind.i64.wrap (8 * (↑(List.length v3) : Int)))) (fun y1 => bnd (impl_FilterMake_l2 k v3 v16 v17 v18 y1 0) (fun y2 => impl_FilterMake_l0 k y2.1 y2.2.1 y2.2.2.1 (IntKind.i64.wrap (y2.2.2.2 + 1))))) (none)) (none)) (some v3) := by kernel_rfl
theorem impl_FilterMake_l2_zero (v3 : (Ty.den X22_v_0)) (v16 : (Ty.den T38)) (v17 : (Ty.den T3)) (v18 : (Ty.den T3)) (v26 : (Ty.den T200)) (v27 : (Ty.den T3)) : impl_FilterMake_l2 0 v3 v16 v17 v18 v26 v27 = none := by kernel_rfl
theorem impl_FilterMake_l2_succ (k : Nat) (v3 : (Ty.den X22_v_0)) (v16 : (Ty.den T38)) (v17 : (Ty.den T3)) (v18 : (Ty.den T3)) (v26 : (Ty.den T200)) (v27 : (Ty.den T3)) : impl_FilterMake_l2 (k + 1) v3 v16 v17 v18 v26 v27 = br (decide (v27 < 3)) (br (decide (0 ≤ v27)) (br (decide (v27 < (↑[v26.1, v26.2.1, v26.2.2.1].length : Int))) (br (!8 == 0) (br (decide (0 ≤ IntKind.i64.wrap (([v26.1, v26.2.1, v26.2.2.1].getD (Int.toNat v27) 0).tdiv 8))) (br (decide (IntKind.i64.wrap (([v26.1, v26.2.1, v26.2.2.1].getD (Int.toNat v27) 0).tdiv 8) < (↑(List.length v3) : Int))) (br (!8 == 0) (br (decide (0 ≤ ([v26.1, v26.2.1, v26.2.2.1].getD (Int.toNat v27) 0).tmod 8)) (br (decide (0 ≤ IntKind.i64.wrap (([v26.1, v26.2.1, v26.2.2.1].getD (Int.toNat v27) 0).tdiv 8))) (br (decide (IntKind.i64.wrap (([v26.1, v26.2.1, v26.2.2.1].getD (Int.toNat v27) 0).tdiv 8) < (↑(List.length v3) : Int))) (impl_FilterMake_l2 k (List.set v3 (IntKind.i64.wrap (([v26.1, v26.2.1, v26.2.2.1].getD (Int.toNat v27) 0).tdiv 8)).toNat (bits BinOp.or IntKind.u8 (List.getD v3 (IntKind.i64.wrap (([v26.1, v26.2.1, v26.2.2.1].getD (Int.toNat v27) 0).tdiv 8)).toNat T5.zero) (IntKind.u8.wrap (1 * 2 ^ min (([v26.1, v26.2.1, v26.2.2.1].getD (Int.toNat v27) 0).tmod 8).toNat IntKind.u8.bits)))) v16 v17 v18 v26 (IntKind.i64.wrap (v27 + 1))) (none)) (none)) (none)) (none)) (none)) (none)) (none)) (none)) (none)) (some (v3, v16, v17, v18)) := by kernel_rfl
noncomputable def c_impl_FilterMake : Con := ⟨[.val T38], [T9], fun k x => impl_FilterMake k x.1⟩
theorem del_impl_FilterMake {w0 : World} (hS : Stops w0) : DelOk Try.prog w0 d_impl_FilterMake := .cons (ok_impl_places hS) ent_impl_places (.nil)
theorem ok_impl_FilterMake {w0 : World} (hS : Stops w0) : Keeps Try.prog w0 63 c_impl_FilterMake := .con (fn_sound (A := a_impl_FilterMake) tab_ok (del_impl_FilterMake hS) (draws (del_impl_FilterMake hS)) Try.func63 (by kernel_rfl) (fun k x => by kernel_rfl) (by kernel_rfl)) (by kernel_rfl)
theorem ent_impl_FilterMake : Enters' Try.prog 63 := enters' Try.func63 (by kernel_rfl)
attribute [irreducible] impl_FilterMake impl_FilterMake_l0 impl_FilterMake_l2

/-! ### impl_TimeOK: function 103 -/
def a_impl_TimeOK : Ann := ⟨[], []⟩
noncomputable def d_impl_TimeOK : List (Nat × Con) := []
noncomputable def impl_TimeOK (k : Nat) (a : (Ty.den T33)) : Option (den1 [T4]) := evFn Γ d_impl_TimeOK a_impl_TimeOK Try.f103 [.val T33] [T4] k (a, ())
theorem impl_TimeOK_eq (k : Nat) (a : (Ty.den T33)) : impl_TimeOK k a = br (decide (a.1 ≥ 0)) (br (decide (a.1 ≤ 1000000000000)) (br (decide (a.2.1 ≥ 0)) (some (decide (a.2.1 ≤ 1000000))) (some false)) (some false)) (some false) := by kernel_rfl
noncomputable def c_impl_TimeOK : Con := ⟨[.val T33], [T4], fun k x => impl_TimeOK k x.1⟩
theorem del_impl_TimeOK {w0 : World} (hS : Stops w0) : DelOk Try.prog w0 d_impl_TimeOK := .nil
theorem ok_impl_TimeOK {w0 : World} (hS : Stops w0) : Keeps Try.prog w0 103 c_impl_TimeOK := .con (fn_sound (A := a_impl_TimeOK) tab_ok (del_impl_TimeOK hS) (draws (del_impl_TimeOK hS)) Try.func103 (by kernel_rfl) (fun k x => by kernel_rfl) (by kernel_rfl)) (by kernel_rfl)
theorem ent_impl_TimeOK : Enters' Try.prog 103 := enters' Try.func103 (by kernel_rfl)
attribute [irreducible] impl_TimeOK

/-! ### impl_cmpInt: function 151 -/
def a_impl_cmpInt : Ann := ⟨[], []⟩
noncomputable def d_impl_cmpInt : List (Nat × Con) := []
noncomputable def impl_cmpInt (k : Nat) (a : (Ty.den T3)) (b : (Ty.den T3)) : Option (den1 [T3]) := evFn Γ d_impl_cmpInt a_impl_cmpInt Try.f151 [.val T3, .val T3] [T3] k (a, b, ())
theorem impl_cmpInt_eq (k : Nat) (a : (Ty.den T3)) (b : (Ty.den T3)) : impl_cmpInt k a b = br (decide (a < b)) (some (-1)) (br (decide (a > b)) (some 1) (some 0)) := by kernel_rfl
noncomputable def c_impl_cmpInt : Con := ⟨[.val T3, .val T3], [T3], fun k x => impl_cmpInt k x.1 x.2.1⟩
theorem del_impl_cmpInt {w0 : World} (hS : Stops w0) : DelOk Try.prog w0 d_impl_cmpInt := .nil
theorem ok_impl_cmpInt {w0 : World} (hS : Stops w0) : Keeps Try.prog w0 151 c_impl_cmpInt := .con (fn_sound (A := a_impl_cmpInt) tab_ok (del_impl_cmpInt hS) (draws (del_impl_cmpInt hS)) Try.func151 (by kernel_rfl) (fun k x => by kernel_rfl) (by kernel_rfl)) (by kernel_rfl)
theorem ent_impl_cmpInt : Enters' Try.prog 151 := enters' Try.func151 (by kernel_rfl)
attribute [irreducible] impl_cmpInt

/-! ### impl_TimeCompare: function 83 -/
def a_impl_TimeCompare : Ann := ⟨[], []⟩
noncomputable def d_impl_TimeCompare : List (Nat × Con) := [(151, c_impl_cmpInt)]
noncomputable def impl_TimeCompare (k : Nat) (a : (Ty.den T33)) (b : (Ty.den T33)) : Option (den1 [T3]) := evFn Γ d_impl_TimeCompare a_impl_TimeCompare Try.f83 [.val T33, .val T33] [T3] k (a, b, ())
theorem impl_TimeCompare_eq (k : Nat) (a : (Ty.den T33)) (b : (Ty.den T33)) : impl_TimeCompare k a b = bnd (impl_cmpInt k a.1 b.1) (fun y1 => br (y1 != 0) (some y1) (bnd (impl_cmpInt k a.2.1 b.2.1) (fun y2 => some y2))) := by kernel_rfl
noncomputable def c_impl_TimeCompare : Con := ⟨[.val T33, .val T33], [T3], fun k x => impl_TimeCompare k x.1 x.2.1⟩
theorem del_impl_TimeCompare {w0 : World} (hS : Stops w0) : DelOk Try.prog w0 d_impl_TimeCompare := .cons (ok_impl_cmpInt hS) ent_impl_cmpInt (.nil)
theorem ok_impl_TimeCompare {w0 : World} (hS : Stops w0) : Keeps Try.prog w0 83 c_impl_TimeCompare := .con (fn_sound (A := a_impl_TimeCompare) tab_ok (del_impl_TimeCompare hS) (draws (del_impl_TimeCompare hS)) Try.func83 (by kernel_rfl) (fun k x => by kernel_rfl) (by kernel_rfl)) (by kernel_rfl)
theorem ent_impl_TimeCompare : Enters' Try.prog 83 := enters' Try.func83 (by kernel_rfl)
attribute [irreducible] impl_TimeCompare

/-! ### impl_before: function 178 -/
def a_impl_before : Ann := ⟨[], []⟩
noncomputable def d_impl_before : List (Nat × Con) := [(83, c_impl_TimeCompare)]
noncomputable def impl_before (k : Nat) (a : (Ty.den T42)) (b : (Ty.den T42)) : Option (den1 [T4]) := evFn Γ d_impl_before a_impl_before Try.f178 [.val T42, .val T42] [T4] k (a, b, ())
theorem impl_before_eq (k : Nat) (a : (Ty.den T42)) (b : (Ty.den T42)) : impl_before k a b = br (Op.bytesLess a.1 b.1) (some true) (br (a.1 == b.1) (bnd (impl_TimeCompare k a.2.1 b.2.1) (fun y1 => some (decide (y1 > 0)))) (some false)) := by kernel_rfl
noncomputable def c_impl_before : Con := ⟨[.val T42, .val T42], [T4], fun k x => impl_before k x.1 x.2.1⟩
theorem del_impl_before {w0 : World} (hS : Stops w0) : DelOk Try.prog w0 d_impl_before := .cons (ok_impl_TimeCompare hS) ent_impl_TimeCompare (.nil)
theorem ok_impl_before {w0 : World} (hS : Stops w0) : Keeps Try.prog w0 178 c_impl_before := .con (fn_sound (A := a_impl_before) tab_ok (del_impl_before hS) (draws (del_impl_before hS)) Try.func178 (by kernel_rfl) (fun k x => by kernel_rfl) (by kernel_rfl)) (by kernel_rfl)
theorem ent_impl_before : Enters' Try.prog 178 := enters' Try.func178 (by kernel_rfl)
attribute [irreducible] impl_before

/-! ### impl_allOf_1: function 177 -/
def a_impl_allOf_1 : Ann := ⟨[], []⟩
noncomputable def d_impl_allOf_1 : List (Nat × Con) := [(178, c_impl_before)]
noncomputable def impl_allOf_1 (k : Nat) (a : (Ty.den T3)) (b : (Ty.den T3)) (c : (Ty.den T35)) : Option (den1 [T4]) := evFn Γ d_impl_allOf_1 a_impl_allOf_1 Try.f177 [.val T3, .val T3, .ptr T35] [T4] k (a, b, c, ())
theorem impl_allOf_1_eq (k : Nat) (a : (Ty.den T3)) (b : (Ty.den T3)) (c : (Ty.den T35)) : impl_allOf_1 k a b c = br (decide (0 ≤ a)) (br (decide (a < (↑(List.length c) : Int))) (br (decide (0 ≤ b)) (br (decide (b < (↑(List.length c) : Int))) (bnd (impl_before k (List.getD c (Int.toNat a) T42.zero) (List.getD c (Int.toNat b) T42.zero)) (fun y1 => some y1)) (none)) (none)) (none)) (none) := by kernel_rfl
noncomputable def c_impl_allOf_1 : Con := ⟨[.val T3, .val T3, .ptr T35], [T4], fun k x => impl_allOf_1 k x.1 x.2.1 x.2.2.1⟩
theorem del_impl_allOf_1 {w0 : World} (hS : Stops w0) : DelOk Try.prog w0 d_impl_allOf_1 := .cons (ok_impl_before hS) ent_impl_before (.nil)
theorem ok_impl_allOf_1 {w0 : World} (hS : Stops w0) : Keeps Try.prog w0 177 c_impl_allOf_1 := .con (fn_sound (A := a_impl_allOf_1) tab_ok (del_impl_allOf_1 hS) (draws (del_impl_allOf_1 hS)) Try.func177 (by kernel_rfl) (fun k x => by kernel_rfl) (by kernel_rfl)) (by kernel_rfl)
theorem ent_impl_allOf_1 : Enters' Try.prog 177 := enters' Try.func177 (by kernel_rfl)
attribute [irreducible] impl_allOf_1

/-! ### impl_allOf: function 105 -/
def a_impl_allOf : Ann := ⟨[(0, [.var 3 O35, .val 10 T58, .val 11 T3, .val 12 T3], ⟨[.var 3 O35], true⟩)], []⟩
noncomputable def d_impl_allOf : List (Nat × Con) := [(84, c_sort_SliceStable), (177, c_impl_allOf_1)]
noncomputable def impl_allOf (k : Nat) (a : (Ty.den T60)) : Option (den1 [T35]) := evFn Γ d_impl_allOf a_impl_allOf Try.f105 [.val T60] [T35] k (a, ())
noncomputable def impl_allOf_l0 (k : Nat) (v3 : (Ty.den O35)) (v10 : (Ty.den T58)) (v11 : (Ty.den T3)) (v12 : (Ty.den T3)) : Option (Items.den [.var 3 O35]) := loopQ (ρ := (den1 [T35])) 0 [.var 3 O35, .val 10 T58, .val 11 T3, .val 12 T3] [.var 3 O35] (runOf Γ d_impl_allOf a_impl_allOf Try.f105 [.val T60] [T35] 0) k (v3, v10, v11, v12)
theorem impl_allOf_eq (k : Nat) (a : (Ty.den T60)) : impl_allOf k a = br (decide (List.length a.1 ≤ capN)) (bnd (impl_allOf_l0 k a.1 a.2.1 ((↑(List.length a.2.1) : Int)) 0) (fun y1 => br (decide (List.length y1 ≤ capN)) (bnd (srt T42.zero (fun ys i j => bnd (impl_allOf_1 k i j ys) fun y => some y) y1) (fun y2 => some y2)) (none))) (none) := by kernel_rfl
theorem impl_allOf_l0_zero (v3 : (Ty.den O35)) (v10 : (Ty.den T58)) (v11 : (Ty.den T3)) (v12 : (Ty.den T3)) : impl_allOf_l0 0 v3 v10 v11 v12 = none := by kernel_rfl
theorem impl_allOf_l0_succ (k : Nat) (v3 : (Ty.den O35)) (v10 : (Ty.den T58)) (v11 : (Ty.den T3)) (v12 : (Ty.den T3)) : impl_allOf_l0 (k + 1) v3 v10 v11 v12 = br (decide (v12 < v11)) (br (decide (0 ≤ v12)) (br (decide (v12 < (↑(List.length v10) : Int))) (br (decide (List.length v3 + List.length (List.getD v10 (Int.toNat v12) T106.zero).1 ≤ capN)) (impl_allOf_l0 k (v3 ++ (List.getD v10 (Int.toNat v12) T106.zero).1) v10 v11 (IntKind.i64.wrap (v12 + 1))) (none)) (none)) (none)) (some v3) := by kernel_rfl
noncomputable def c_impl_allOf : Con := ⟨[.val T60], [T35], fun k x => impl_allOf k x.1⟩
theorem del_impl_allOf {w0 : World} (hS : Stops w0) : DelOk Try.prog w0 d_impl_allOf := .cons (hS.sort_SliceStable.1) hS.sort_SliceStable.2.1 (.cons (ok_impl_allOf_1 hS) ent_impl_allOf_1 (.nil)) hS.sort_SliceStable.2.2
theorem ok_impl_allOf {w0 : World} (hS : Stops w0) : Keeps Try.prog w0 105 c_impl_allOf := .con (fn_sound (A := a_impl_allOf) tab_ok (del_impl_allOf hS) (draws (del_impl_allOf hS)) Try.func105 (by kernel_rfl) (fun k x => by kernel_rfl) (by kernel_rfl)) (by kernel_rfl)
theorem ent_impl_allOf : Enters' Try.prog 105 := enters' Try.func105 (by kernel_rfl)
attribute [irreducible] impl_allOf impl_allOf_l0

/-! ### impl_keysOf: function 132 -/
def a_impl_keysOf : Ann := ⟨[(0, [.val 3 O38, .val 6 T35, .val 7 T3, .val 8 T3], ⟨[.val 3 O38], true⟩)], []⟩
noncomputable def d_impl_keysOf : List (Nat × Con) := []
noncomputable def impl_keysOf (k : Nat) (a : (Ty.den T35)) : Option (den1 [O38]) := evFn Γo d_impl_keysOf a_impl_keysOf Try.f132 [.val T35] [O38] k (a, ())
noncomputable def impl_keysOf_l0 (k : Nat) (v3 : (Ty.den O38)) (v6 : (Ty.den T35)) (v7 : (Ty.den T3)) (v8 : (Ty.den T3)) : Option (Items.den [.val 3 O38]) := loopQ (ρ := (den1 [O38])) 0 [.val 3 O38, .val 6 T35, .val 7 T3, .val 8 T3] [.val 3 O38] (runOf Γo d_impl_keysOf a_impl_keysOf Try.f132 [.val T35] [O38] 0) k (v3, v6, v7, v8)
theorem impl_keysOf_eq (k : Nat) (a : (Ty.den T35)) : impl_keysOf k a = bnd (impl_keysOf_l0 k [] a ((↑(List.length a) : Int)) 0) (fun y1 => some y1) := by kernel_rfl
theorem impl_keysOf_l0_zero (v3 : (Ty.den O38)) (v6 : (Ty.den T35)) (v7 : (Ty.den T3)) (v8 : (Ty.den T3)) : impl_keysOf_l0 0 v3 v6 v7 v8 = none := by kernel_rfl
theorem impl_keysOf_l0_succ (k : Nat) (v3 : (Ty.den O38)) (v6 : (Ty.den T35)) (v7 : (Ty.den T3)) (v8 : (Ty.den T3)) : impl_keysOf_l0 (k + 1) v3 v6 v7 v8 = br (decide (v8 < v7)) (br (decide (0 ≤ v8)) (br (decide (v8 < (↑(List.length v6) : Int))) (br (decide (List.length v3 + [(List.getD v6 (Int.toNat v8) T42.zero).1].length ≤ capN)) (impl_keysOf_l0 k (v3 ++ [(List.getD v6 (Int.toNat v8) T42.zero).1]) v6 v7 (IntKind.i64.wrap (v8 + 1))) (none)) (none)) (none)) (some v3) := by kernel_rfl
noncomputable def c_impl_keysOf : Con := ⟨[.val T35], [O38], fun k x => impl_keysOf k x.1⟩
theorem del_impl_keysOf {w0 : World} (hS : Stops w0) : DelOk Try.prog w0 d_impl_keysOf := .nil
theorem ok_impl_keysOf {w0 : World} (hS : Stops w0) : Keeps Try.prog w0 132 c_impl_keysOf := .gn (gen_sound (A := a_impl_keysOf) tab_oko (del_impl_keysOf hS) (drawso (del_impl_keysOf hS)) Try.func132 (by kernel_rfl) (fun k x => by kernel_rfl) (by kernel_rfl)) (by kernel_rfl)
theorem ent_impl_keysOf : Enters' Try.prog 132 := enters' Try.func132 (by kernel_rfl)
attribute [irreducible] impl_keysOf impl_keysOf_l0

/-! ### impl_versionOK: function 136 -/
def a_impl_versionOK : Ann := ⟨[], []⟩
noncomputable def d_impl_versionOK : List (Nat × Con) := [(103, c_impl_TimeOK)]
noncomputable def impl_versionOK (k : Nat) (a : (Ty.den T42)) : Option (den1 [T4]) := evFn Γ d_impl_versionOK a_impl_versionOK Try.f136 [.val T42] [T4] k (a, ())
theorem impl_versionOK_eq (k : Nat) (a : (Ty.den T42)) : impl_versionOK k a = br (decide ((↑(List.length a.1) : Int) ≥ 1)) (br (decide ((↑(List.length a.1) : Int) ≤ 4000)) (bnd (impl_TimeOK k a.2.1) (fun y1 => br (y1) (br (!andB (eqI a.2.1.1 0) (andB (eqI a.2.1.2.1 0) true)) (br (decide ((↑(List.length a.2.2.2.1) : Int) ≤ 4000)) (br (!a.2.2.1) (some true) (some (a.2.2.2.1 == []))) (some false)) (some false)) (some false))) (some false)) (some false) := by kernel_rfl
noncomputable def c_impl_versionOK : Con := ⟨[.val T42], [T4], fun k x => impl_versionOK k x.1⟩
theorem del_impl_versionOK {w0 : World} (hS : Stops w0) : DelOk Try.prog w0 d_impl_versionOK := .cons (ok_impl_TimeOK hS) ent_impl_TimeOK (.nil)
theorem ok_impl_versionOK {w0 : World} (hS : Stops w0) : Keeps Try.prog w0 136 c_impl_versionOK := .con (fn_sound (A := a_impl_versionOK) tab_ok (del_impl_versionOK hS) (draws (del_impl_versionOK hS)) Try.func136 (by kernel_rfl) (fun k x => by kernel_rfl) (by kernel_rfl)) (by kernel_rfl)
theorem ent_impl_versionOK : Enters' Try.prog 136 := enters' Try.func136 (by kernel_rfl)
attribute [irreducible] impl_versionOK

/-! ### impl_listOK: function 148 -/
def a_impl_listOK : Ann := ⟨[(0, [.val 0 T35, .val 5 T35, .val 6 T3, .val 7 T3], ⟨[], false⟩)], []⟩
noncomputable def d_impl_listOK : List (Nat × Con) := [(136, c_impl_versionOK), (178, c_impl_before)]
noncomputable def impl_listOK (k : Nat) (a : (Ty.den T35)) : Option (den1 [T4]) := evFn Γ d_impl_listOK a_impl_listOK Try.f148 [.val T35] [T4] k (a, ())
noncomputable def impl_listOK_l0 (k : Nat) (v0 : (Ty.den T35)) (v5 : (Ty.den T35)) (v6 : (Ty.den T3)) (v7 : (Ty.den T3)) : Option ((Items.den []) ⊕ (den1 [T4])) := loopR (ρ := (den1 [T4])) 0 [.val 0 T35, .val 5 T35, .val 6 T3, .val 7 T3] [] (runOf Γ d_impl_listOK a_impl_listOK Try.f148 [.val T35] [T4] 0) k (v0, v5, v6, v7)
theorem impl_listOK_eq (k : Nat) (a : (Ty.den T35)) : impl_listOK k a = bnd (impl_listOK_l0 k a a ((↑(List.length a) : Int)) 0) (fun y1 => onSum y1 (fun y2 => some true) (fun y2 => some y2)) := by kernel_rfl
theorem impl_listOK_l0_zero (v0 : (Ty.den T35)) (v5 : (Ty.den T35)) (v6 : (Ty.den T3)) (v7 : (Ty.den T3)) : impl_listOK_l0 0 v0 v5 v6 v7 = none := by kernel_rfl
theorem impl_listOK_l0_succ (k : Nat) (v0 : (Ty.den T35)) (v5 : (Ty.den T35)) (v6 : (Ty.den T3)) (v7 : (Ty.den T3)) : impl_listOK_l0 (k + 1) v0 v5 v6 v7 = br (decide (v7 < v6)) (br (decide (0 ≤ v7)) (br (decide (v7 < (↑(List.length v5) : Int))) (bnd (impl_versionOK k (List.getD v5 (Int.toNat v7) T42.zero)) (fun y1 => br (!y1) (some (Sum.inr false)) (br (decide (v7 > 0)) (br (decide (0 ≤ IntKind.i64.wrap (v7 - 1))) (br (decide (IntKind.i64.wrap (v7 - 1) < (↑(List.length v0) : Int))) (bnd (impl_before k (List.getD v0 (IntKind.i64.wrap (v7 - 1)).toNat T42.zero) (List.getD v5 (Int.toNat v7) T42.zero)) (fun y2 => br (!y2) (some (Sum.inr false)) (impl_listOK_l0 k v0 v5 v6 (IntKind.i64.wrap (v7 + 1))))) (none)) (none)) (impl_listOK_l0 k v0 v5 v6 (IntKind.i64.wrap (v7 + 1)))))) (none)) (none)) (some (Sum.inl ())) := by kernel_rfl
noncomputable def c_impl_listOK : Con := ⟨[.val T35], [T4], fun k x => impl_listOK k x.1⟩
theorem del_impl_listOK {w0 : World} (hS : Stops w0) : DelOk Try.prog w0 d_impl_listOK := .cons (ok_impl_versionOK hS) ent_impl_versionOK (.cons (ok_impl_before hS) ent_impl_before (.nil))
theorem ok_impl_listOK {w0 : World} (hS : Stops w0) : Keeps Try.prog w0 148 c_impl_listOK := .con (fn_sound (A := a_impl_listOK) tab_ok (del_impl_listOK hS) (draws (del_impl_listOK hS)) Try.func148 (by kernel_rfl) (fun k x => by kernel_rfl) (by kernel_rfl)) (by kernel_rfl)
theorem ent_impl_listOK : Enters' Try.prog 148 := enters' Try.func148 (by kernel_rfl)
attribute [irreducible] impl_listOK impl_listOK_l0

/-! ### impl_StoreOK: function 68 -/
def a_impl_StoreOK : Ann := ⟨[(0, [.var 1 T60, .val 3 T3, .val 28 T58, .val 29 T3, .val 30 T3], ⟨[.var 1 T60, .val 3 T3], false⟩), (2, [.val 6 T35, .val 7 T3], ⟨[], false⟩)], []⟩
noncomputable def d_impl_StoreOK : List (Nat × Con) := [(63, c_impl_FilterMake), (103, c_impl_TimeOK), (105, c_impl_allOf), (132, c_impl_keysOf), (148, c_impl_listOK)]
noncomputable def impl_StoreOK (k : Nat) (a : (Ty.den T60)) : Option (den1 [T4]) := evFn Γ d_impl_StoreOK a_impl_StoreOK Try.f68 [.val T60] [T4] k (a, ())
noncomputable def impl_StoreOK_l0 (k : Nat) (v1 : (Ty.den T60)) (v3 : (Ty.den T3)) (v28 : (Ty.den T58)) (v29 : (Ty.den T3)) (v30 : (Ty.den T3)) : Option ((Items.den [.var 1 T60, .val 3 T3]) ⊕ (den1 [T4])) := loopR (ρ := (den1 [T4])) 0 [.var 1 T60, .val 3 T3, .val 28 T58, .val 29 T3, .val 30 T3] [.var 1 T60, .val 3 T3] (runOf Γ d_impl_StoreOK a_impl_StoreOK Try.f68 [.val T60] [T4] 0) k (v1, v3, v28, v29, v30)
noncomputable def impl_StoreOK_l2 (k : Nat) (v6 : (Ty.den T35)) (v7 : (Ty.den T3)) : Option ((Items.den []) ⊕ (den1 [T4])) := loopR (ρ := (den1 [T4])) 2 [.val 6 T35, .val 7 T3] [] (runOf Γ d_impl_StoreOK a_impl_StoreOK Try.f68 [.val T60] [T4] 2) k (v6, v7)
theorem impl_StoreOK_eq (k : Nat) (a : (Ty.den T60)) : impl_StoreOK k a = bnd (impl_listOK k a.1) (fun y1 => br (!y1) (some false) (br (decide ((↑(List.length a.2.1) : Int) > 12)) (some false) (bnd (impl_TimeOK k a.2.2.1) (fun y2 => br (!y2) (some false) (bnd (impl_StoreOK_l0 k a ((↑(List.length a.1) : Int)) a.2.1 ((↑(List.length a.2.1) : Int)) 0) (fun y3 => onSum y3 (fun y4 => br (decide (y4.2 > 4000)) (some false) (bnd (impl_allOf k y4.1) (fun y5 => bnd (impl_StoreOK_l2 k y5 1) (fun y6 => onSum y6 (fun y7 => some true) (fun y7 => some y7))))) (fun y4 => some y4))))))) := by kernel_rfl
theorem impl_StoreOK_l0_zero (v1 : (Ty.den T60)) (v3 : (Ty.den T3)) (v28 : (Ty.den T58)) (v29 : (Ty.den T3)) (v30 : (Ty.den T3)) : impl_StoreOK_l0 0 v1 v3 v28 v29 v30 = none := by kernel_rfl
theorem impl_StoreOK_l0_succ (k : Nat) (v1 : (Ty.den T60)) (v3 : (Ty.den T3)) (v28 : (Ty.den T58)) (v29 : (Ty.den T3)) (v30 : (Ty.den T3)) : impl_StoreOK_l0 (k + 1) v1 v3 v28 v29 v30 = br (decide (v30 < v29)) (br (decide (0 ≤ v30)) (br (decide (v30 < (↑(List.length v28) : Int))) (br (decide (IntKind.i64.wrap (v3 + (↑(List.length (List.getD v28 (Int.toNat v30) T106.zero).1) : Int)) > 4000)) (some (Sum.inr false)) (br ((↑(List.length (List.getD v28 (Int.toNat v30) T106.zero).1) : Int) == 0) (some (Sum.inr false)) (bnd (impl_listOK k (List.getD v28 (Int.toNat v30) T106.zero).1) (fun y1 => br (!y1) (some (Sum.inr false)) (bnd (impl_keysOf k (List.getD v28 (Int.toNat v30) T106.zero).1) (fun y2 => bnd (impl_FilterMake k y2) (fun y3 => br (!(List.getD v28 (Int.toNat v30) T106.zero).2.1 == y3) (some (Sum.inr false)) (impl_StoreOK_l0 k v1 (IntKind.i64.wrap (v3 + (↑(List.length (List.getD v28 (Int.toNat v30) T106.zero).1) : Int))) v28 v29 (IntKind.i64.wrap (v30 + 1)))))))))) (none)) (none)) (some (Sum.inl (v1, v3))) := by kernel_rfl
theorem impl_StoreOK_l2_zero (v6 : (Ty.den T35)) (v7 : (Ty.den T3)) : impl_StoreOK_l2 0 v6 v7 = none := by kernel_rfl
theorem impl_StoreOK_l2_succ (k : Nat) (v6 : (Ty.den T35)) (v7 : (Ty.den T3)) : impl_StoreOK_l2 (k + 1) v6 v7 = br (decide (v7 < (↑(List.length v6) : Int))) (br (decide (0 ≤ v7)) (br (decide (v7 < (↑(List.length v6) : Int))) (br (decide (0 ≤ IntKind.i64.wrap (v7 - 1))) (br (decide (IntKind.i64.wrap (v7 - 1) < (↑(List.length v6) : Int))) (br ((List.getD v6 (Int.toNat v7) T42.zero).1 == (List.getD v6 (IntKind.i64.wrap (v7 - 1)).toNat T42.zero).1) (br (decide (0 ≤ v7)) (br (decide (v7 < (↑(List.length v6) : Int))) (br (decide (0 ≤ IntKind.i64.wrap (v7 - 1))) (br (decide (IntKind.i64.wrap (v7 - 1) < (↑(List.length v6) : Int))) (br (andB (eqI (List.getD v6 (Int.toNat v7) T42.zero).2.1.1 (List.getD v6 (IntKind.i64.wrap (v7 - 1)).toNat T42.zero).2.1.1) (andB (eqI (List.getD v6 (Int.toNat v7) T42.zero).2.1.2.1 (List.getD v6 (IntKind.i64.wrap (v7 - 1)).toNat T42.zero).2.1.2.1) true)) (some (Sum.inr false)) (impl_StoreOK_l2 k v6 (IntKind.i64.wrap (v7 + 1)))) (none)) (none)) (none)) (none)) (impl_StoreOK_l2 k v6 (IntKind.i64.wrap (v7 + 1)))) (none)) (none)) (none)) (none)) (some (Sum.inl ())) := by kernel_rfl
noncomputable def c_impl_StoreOK : Con := ⟨[.val T60], [T4], fun k x => impl_StoreOK k x.1⟩
theorem del_impl_StoreOK {w0 : World} (hS : Stops w0) : DelOk Try.prog w0 d_impl_StoreOK := .cons (ok_impl_FilterMake hS) ent_impl_FilterMake (.cons (ok_impl_TimeOK hS) ent_impl_TimeOK (.cons (ok_impl_allOf hS) ent_impl_allOf (.cons (ok_impl_keysOf hS) ent_impl_keysOf (.cons (ok_impl_listOK hS) ent_impl_listOK (.nil)))))
theorem ok_impl_StoreOK {w0 : World} (hS : Stops w0) : Keeps Try.prog w0 68 c_impl_StoreOK := .con (fn_sound (A := a_impl_StoreOK) tab_ok (del_impl_StoreOK hS) (draws (del_impl_StoreOK hS)) Try.func68 (by kernel_rfl) (fun k x => by kernel_rfl) (by kernel_rfl)) (by kernel_rfl)
theorem ent_impl_StoreOK : Enters' Try.prog 68 := enters' Try.func68 (by kernel_rfl)
attribute [irreducible] impl_StoreOK impl_StoreOK_l0 impl_StoreOK_l2

/-! ### impl_StoreCollect_1: function 141 -/
def a_impl_StoreCollect_1 : Ann := ⟨[(0, [.el 1 T197, .val 4 O35, .val 7 T35, .val 8 T3, .val 9 T3], ⟨[.val 4 O35], true⟩)], []⟩
noncomputable def d_impl_StoreCollect_1 : List (Nat × Con) := []
noncomputable def impl_StoreCollect_1 (k : Nat) (a : (Ty.den T35)) (b : (Ty.den T197)) : Option (den1 [O35]) := evFn Γo d_impl_StoreCollect_1 a_impl_StoreCollect_1 Try.f141 [.val T35, .ptr T197] [O35] k (a, b, ())
noncomputable def impl_StoreCollect_1_l0 (k : Nat) (v1 : (Ty.den T197)) (v4 : (Ty.den O35)) (v7 : (Ty.den T35)) (v8 : (Ty.den T3)) (v9 : (Ty.den T3)) : Option (Items.den [.val 4 O35]) := loopQ (ρ := (den1 [O35])) 0 [.el 1 T197, .val 4 O35, .val 7 T35, .val 8 T3, .val 9 T3] [.val 4 O35] (runOf Γo d_impl_StoreCollect_1 a_impl_StoreCollect_1 Try.f141 [.val T35, .ptr T197] [O35] 0) k (v1, v4, v7, v8, v9)
theorem impl_StoreCollect_1_eq (k : Nat) (a : (Ty.den T35)) (b : (Ty.den T197)) : impl_StoreCollect_1 k a b = bnd (impl_StoreCollect_1_l0 k b [] a ((↑(List.length a) : Int)) 0) (fun y1 => some y1) := by kernel_rfl
theorem impl_StoreCollect_1_l0_zero (v1 : (Ty.den T197)) (v4 : (Ty.den O35)) (v7 : (Ty.den T35)) (v8 : (Ty.den T3)) (v9 : (Ty.den T3)) : impl_StoreCollect_1_l0 0 v1 v4 v7 v8 v9 = none := by kernel_rfl
theorem impl_StoreCollect_1_l0_succ (k : Nat) (v1 : (Ty.den T197)) (v4 : (Ty.den O35)) (v7 : (Ty.den T35)) (v8 : (Ty.den T3)) (v9 : (Ty.den T3)) : impl_StoreCollect_1_l0 (k + 1) v1 v4 v7 v8 v9 = br (decide (v9 < v8)) (br (decide (0 ≤ v9)) (br (decide (v9 < (↑(List.length v7) : Int))) (bnd (some (mgetD T199 T4 ((List.getD v7 (Int.toNat v9) T42.zero).1, (List.getD v7 (Int.toNat v9) T42.zero).2.1, ()) v1)) (fun y1 => br (!y1) (br (decide (List.length v4 + [(List.getD v7 (Int.toNat v9) T42.zero)].length ≤ capN)) (impl_StoreCollect_1_l0 k v1 (v4 ++ [(List.getD v7 (Int.toNat v9) T42.zero)]) v7 v8 (IntKind.i64.wrap (v9 + 1))) (none)) (impl_StoreCollect_1_l0 k v1 v4 v7 v8 (IntKind.i64.wrap (v9 + 1))))) (none)) (none)) (some v4) := by kernel_rfl
noncomputable def c_impl_StoreCollect_1 : Con := ⟨[.val T35, .ptr T197], [O35], fun k x => impl_StoreCollect_1 k x.1 x.2.1⟩
theorem del_impl_StoreCollect_1 {w0 : World} (hS : Stops w0) : DelOk Try.prog w0 d_impl_StoreCollect_1 := .nil
theorem ok_impl_StoreCollect_1 {w0 : World} (hS : Stops w0) : Keeps Try.prog w0 141 c_impl_StoreCollect_1 := .gn (gen_sound (A := a_impl_StoreCollect_1) tab_oko (del_impl_StoreCollect_1 hS) (drawso (del_impl_StoreCollect_1 hS)) Try.func141 (by kernel_rfl) (fun k x => by kernel_rfl) (by kernel_rfl)) (by kernel_rfl)
theorem ent_impl_StoreCollect_1 : Enters' Try.prog 141 := enters' Try.func141 (by kernel_rfl)
attribute [irreducible] impl_StoreCollect_1 impl_StoreCollect_1_l0

/-! ### impl_StoreCollect: function 61 -/
def a_impl_StoreCollect : Ann := ⟨[(0, [.var 2 T60, .var 3 T33, .var 4 T60, .var 6 O197, .val 7 T9, .val 32 T35, .val 33 T3, .val 34 T3], ⟨[.var 2 T60, .var 3 T33, .var 4 T60, .var 6 O197], true⟩), (2, [.var 4 T60, .clo 10 141 [T197], .var 11 O60, .val 68 T58, .val 69 T3, .val 70 T3], ⟨[.var 4 T60, .var 11 O60], true⟩)], []⟩
noncomputable def d_impl_StoreCollect : List (Nat × Con) := [(63, c_impl_FilterMake), (68, c_impl_StoreOK), (83, c_impl_TimeCompare), (103, c_impl_TimeOK), (105, c_impl_allOf), (132, c_impl_keysOf), (141, c_impl_StoreCollect_1)]
noncomputable def impl_StoreCollect (k : Nat) (a : (Ty.den T60)) (b : (Ty.den T33)) : Option (den1 [O60, T3]) := evFn Γo d_impl_StoreCollect a_impl_StoreCollect Try.f61 [.val T60, .val T33] [O60, T3] k (a, b, ())
noncomputable def impl_StoreCollect_l0 (k : Nat) (v2 : (Ty.den T60)) (v3 : (Ty.den T33)) (v4 : (Ty.den T60)) (v6 : (Ty.den O197)) (v7 : (Ty.den T9)) (v32 : (Ty.den T35)) (v33 : (Ty.den T3)) (v34 : (Ty.den T3)) : Option (Items.den [.var 2 T60, .var 3 T33, .var 4 T60, .var 6 O197]) := loopQ (ρ := (den1 [O60, T3])) 0 [.var 2 T60, .var 3 T33, .var 4 T60, .var 6 O197, .val 7 T9, .val 32 T35, .val 33 T3, .val 34 T3] [.var 2 T60, .var 3 T33, .var 4 T60, .var 6 O197] (runOf Γo d_impl_StoreCollect a_impl_StoreCollect Try.f61 [.val T60, .val T33] [O60, T3] 0) k (v2, v3, v4, v6, v7, v32, v33, v34)
noncomputable def impl_StoreCollect_l2 (k : Nat) (v4 : (Ty.den T60)) (v10 : (dens [T197])) (v11 : (Ty.den O60)) (v68 : (Ty.den T58)) (v69 : (Ty.den T3)) (v70 : (Ty.den T3)) : Option (Items.den [.var 4 T60, .var 11 O60]) := loopQ (ρ := (den1 [O60, T3])) 2 [.var 4 T60, .clo 10 141 [T197], .var 11 O60, .val 68 T58, .val 69 T3, .val 70 T3] [.var 4 T60, .var 11 O60] (runOf Γo d_impl_StoreCollect a_impl_StoreCollect Try.f61 [.val T60, .val T33] [O60, T3] 2) k (v4, v10, v11, v68, v69, v70)
theorem impl_StoreCollect_eq (k : Nat) (a : (Ty.den T60)) (b : (Ty.den T33)) : impl_StoreCollect k a b = bnd (impl_StoreOK k a) (fun y1 => br (!y1) (some (([], [], (0, 0, ()), ()), 1)) (bnd (impl_TimeOK k b) (fun y2 => br (!y2) (some (([], [], (0, 0, ()), ()), 1)) (bnd (impl_TimeCompare k b a.2.2.1) (fun y3 => br (decide (y3 < 0)) (some (([], [], (0, 0, ()), ()), 7)) (bnd (impl_allOf k a) (fun y4 => bnd (impl_StoreCollect_l0 k a b ([], [], (0, 0, ()), ()) [] [] y4 ((↑(List.length y4) : Int)) 0) (fun y5 => bnd (impl_StoreCollect_1 k y5.1.1 y5.2.2.2) (fun y6 => bnd (impl_StoreCollect_l2 k y5.2.2.1 (y5.2.2.2, ()) (y6, [], y5.2.1, ()) y5.1.2.1 ((↑(List.length y5.1.2.1) : Int)) 0) (fun y7 => some (y7.2, 0))))))))))) := by kernel_rfl
theorem impl_StoreCollect_l0_zero (v2 : (Ty.den T60)) (v3 : (Ty.den T33)) (v4 : (Ty.den T60)) (v6 : (Ty.den O197)) (v7 : (Ty.den T9)) (v32 : (Ty.den T35)) (v33 : (Ty.den T3)) (v34 : (Ty.den T3)) : impl_StoreCollect_l0 0 v2 v3 v4 v6 v7 v32 v33 v34 = none := by kernel_rfl
theorem impl_StoreCollect_l0_succ (k : Nat) (v2 : (Ty.den T60)) (v3 : (Ty.den T33)) (v4 : (Ty.den T60)) (v6 : (Ty.den O197)) (v7 : (Ty.den T9)) (v32 : (Ty.den T35)) (v33 : (Ty.den T3)) (v34 : (Ty.den T3)) : impl_StoreCollect_l0 (k + 1) v2 v3 v4 v6 v7 v32 v33 v34 = br (decide (v34 < v33)) (br (decide (0 ≤ v34)) (br (decide (v34 < (↑(List.length v32) : Int))) (bnd (impl_TimeCompare k (List.getD v32 (Int.toNat v34) T42.zero).2.1 v3) (fun y1 => br (decide (y1 > 0)) (impl_StoreCollect_l0 k v2 v3 v4 v6 v7 v32 v33 (IntKind.i64.wrap (v34 + 1))) (br ((List.getD v32 (Int.toNat v34) T42.zero).1 == v7) (bnd (some (mset T199 T4 ((List.getD v32 (Int.toNat v34) T42.zero).1, (List.getD v32 (Int.toNat v34) T42.zero).2.1, ()) true v6)) (fun y2 => impl_StoreCollect_l0 k v2 v3 v4 y2 (List.getD v32 (Int.toNat v34) T42.zero).1 v32 v33 (IntKind.i64.wrap (v34 + 1)))) (br ((List.getD v32 (Int.toNat v34) T42.zero).2.2.1) (bnd (some (mset T199 T4 ((List.getD v32 (Int.toNat v34) T42.zero).1, (List.getD v32 (Int.toNat v34) T42.zero).2.1, ()) true v6)) (fun y2 => impl_StoreCollect_l0 k v2 v3 v4 y2 (List.getD v32 (Int.toNat v34) T42.zero).1 v32 v33 (IntKind.i64.wrap (v34 + 1)))) (impl_StoreCollect_l0 k v2 v3 v4 v6 (List.getD v32 (Int.toNat v34) T42.zero).1 v32 v33 (IntKind.i64.wrap (v34 + 1))))))) (none)) (none)) (some (v2, v3, v4, v6)) := by kernel_rfl
theorem impl_StoreCollect_l2_zero (v4 : (Ty.den T60)) (v10 : (dens [T197])) (v11 : (Ty.den O60)) (v68 : (Ty.den T58)) (v69 : (Ty.den T3)) (v70 : (Ty.den T3)) : impl_StoreCollect_l2 0 v4 v10 v11 v68 v69 v70 = none := by kernel_rfl
theorem impl_StoreCollect_l2_succ (k : Nat) (v4 : (Ty.den T60)) (v10 : (dens [T197])) (v11 : (Ty.den O60)) (v68 : (Ty.den T58)) (v69 : (Ty.den T3)) (v70 : (Ty.den T3)) : impl_StoreCollect_l2 (k + 1) v4 v10 v11 v68 v69 v70 = br (decide (v70 < v69)) (br (decide (0 ≤ v70)) (br (decide (v70 < (↑(List.length v68) : Int))) (bnd (impl_StoreCollect_1 k (List.getD v68 (Int.toNat v70) T106.zero).1 v10.1) (fun y1 => br (decide ((↑(List.length y1) : Int) > 0)) (bnd (impl_keysOf k y1) (fun y2 => bnd (impl_FilterMake k y2) (fun y3 => br (decide (List.length v11.2.1 + [(y1, y3, ())].length ≤ capN)) (impl_StoreCollect_l2 k v4 (v10.1, ()) (v11.1, v11.2.1 ++ [(y1, y3, ())], v11.2.2.1, ()) v68 v69 (IntKind.i64.wrap (v70 + 1))) (none)))) (impl_StoreCollect_l2 k v4 (v10.1, ()) v11 v68 v69 (IntKind.i64.wrap (v70 + 1))))) (none)) (none)) (some (v4, v11.1, v11.2.1, v11.2.2.1, ())) := by kernel_rfl
noncomputable def c_impl_StoreCollect : Con := ⟨[.val T60, .val T33], [O60, T3], fun k x => impl_StoreCollect k x.1 x.2.1⟩
theorem del_impl_StoreCollect {w0 : World} (hS : Stops w0) : DelOk Try.prog w0 d_impl_StoreCollect := .cons (ok_impl_FilterMake hS) ent_impl_FilterMake (.cons (ok_impl_StoreOK hS) ent_impl_StoreOK (.cons (ok_impl_TimeCompare hS) ent_impl_TimeCompare (.cons (ok_impl_TimeOK hS) ent_impl_TimeOK (.cons (ok_impl_allOf hS) ent_impl_allOf (.cons (ok_impl_keysOf hS) ent_impl_keysOf (.cons (ok_impl_StoreCollect_1 hS) ent_impl_StoreCollect_1 (.nil)))))))
theorem ok_impl_StoreCollect {w0 : World} (hS : Stops w0) : Keeps Try.prog w0 61 c_impl_StoreCollect := .gn (gen_sound (A := a_impl_StoreCollect) tab_oko (del_impl_StoreCollect hS) (drawso (del_impl_StoreCollect hS)) Try.func61 (by kernel_rfl) (fun k x => by kernel_rfl) (by kernel_rfl)) (by kernel_rfl)
theorem ent_impl_StoreCollect : Enters' Try.prog 61 := enters' Try.func61 (by kernel_rfl)
attribute [irreducible] impl_StoreCollect impl_StoreCollect_l0 impl_StoreCollect_l2

/-! ### laws_FnExactStoreCollect: function 12 -/
def a_laws_FnExactStoreCollect : Ann := ⟨[], []⟩
noncomputable def d_laws_FnExactStoreCollect : List (Nat × Con) := [(26, c_laws_szStore), (28, c_laws_toStore), (29, c_laws_toTime), (32, c_laws_eqStore), (43, c_laws_markStore), (48, c_laws_heldStore), (60, c_spec_StoreCollect), (61, c_impl_StoreCollect)]
noncomputable def laws_FnExactStoreCollect (k : Nat) (a : (Ty.den T54)) (b : (Ty.den T52)) : Option (den1 [T4]) := evFn Γo d_laws_FnExactStoreCollect a_laws_FnExactStoreCollect Try.f12 [.val T54, .val T52] [T4] k (a, b, ())
theorem laws_FnExactStoreCollect_eq (k : Nat) (a : (Ty.den T54)) (b : (Ty.den T52)) : laws_FnExactStoreCollect k a b = bnd (laws_szStore k a 1048576) (fun y1 => br (decide (y1 < 0)) (some true) (bnd (laws_toStore k a) (fun y2 => bnd (laws_toTime k b) (fun y3 => bnd (spec_StoreCollect k y2 y3) (fun y4 => bnd (laws_toStore k a) (fun y5 => bnd (laws_toTime k b) (fun y6 => bnd (impl_StoreCollect k y5 y6) (fun y7 => bnd (laws_eqStore k y7.1 y4.1) (fun y8 => br (!y8) (some false) (br (y7.2 != y4.2) (some false) (bnd (laws_toStore k a) (fun y9 => bnd (laws_eqStore k y5 y9) (fun y10 => br (!y10) (some false) (bnd (laws_markStore k y5 1) (fun y11 => br (decide (y11.1 < 0)) (some false) (bnd (laws_eqStore k y7.1 y4.1) (fun y12 => br (!y12) (some false) (br (y7.2 != y4.2) (some false) (bnd (laws_markStore k y7.1 1) (fun y13 => bnd (laws_heldStore k (y13.2.1, y13.2.2.1, y7.1.2.2.1, ()) 1) (fun y14 => br (decide (y14 < 0)) (some false) (br (y14 != y13.1) (some false) (bnd (laws_toStore k a) (fun y15 => bnd (laws_toTime k b) (fun y16 => bnd (impl_StoreCollect k y15 y16) (fun y17 => bnd (laws_eqStore k y17.1 y4.1) (fun y18 => br (!y18) (some false) (br (y17.2 != y4.2) (some false) (bnd (laws_heldStore k (y13.2.1, y13.2.2.1, y7.1.2.2.1, ()) 1) (fun y19 => br (decide (y19 < 0)) (some false) (br (y19 != y13.1) (some false) (some true)))))))))))))))))))))))))))))))) := by kernel_rfl
noncomputable def c_laws_FnExactStoreCollect : Con := ⟨[.val T54, .val T52], [T4], fun k x => laws_FnExactStoreCollect k x.1 x.2.1⟩
theorem del_laws_FnExactStoreCollect {w0 : World} (hS : Stops w0) : DelOk Try.prog w0 d_laws_FnExactStoreCollect := .cons (ok_laws_szStore hS) ent_laws_szStore (.cons (ok_laws_toStore hS) ent_laws_toStore (.cons (ok_laws_toTime hS) ent_laws_toTime (.cons (ok_laws_eqStore hS) ent_laws_eqStore (.cons (ok_laws_markStore hS) ent_laws_markStore (.cons (ok_laws_heldStore hS) ent_laws_heldStore (.cons (ok_spec_StoreCollect hS) ent_spec_StoreCollect (.cons (ok_impl_StoreCollect hS) ent_impl_StoreCollect (.nil))))))))
theorem ok_laws_FnExactStoreCollect {w0 : World} (hS : Stops w0) : Keeps Try.prog w0 12 c_laws_FnExactStoreCollect := .con (fn_sound (A := a_laws_FnExactStoreCollect) tab_oko (del_laws_FnExactStoreCollect hS) (drawso (del_laws_FnExactStoreCollect hS)) Try.func12 (by kernel_rfl) (fun k x => by kernel_rfl) (by kernel_rfl)) (by kernel_rfl)
theorem ent_laws_FnExactStoreCollect : Enters' Try.prog 12 := enters' Try.func12 (by kernel_rfl)
attribute [irreducible] laws_FnExactStoreCollect

end Go.Ev.T1
