import Derived.Test.YthcpfdomggaaaaaGreatDoorTab3
import Derived.Test.YthcpfdomggaaaaaGreatDoorEvD
import Derived.Lib.IndexMore
import Derived.Lib.AtoiAll
import Derived.Lib.Replace
import Derived.Lib.SlTrimSet
set_option linter.unusedVariables false
namespace Go.Ev.T1
open Go.Proofs Go
set_option maxRecDepth 100000
def strings_Contains (k : Nat) (a : List UInt8) (b : List UInt8) : Option (Bool) := chk (Nat.blt a.length 4294967281) (some (Go.Lib.contains a b))
noncomputable def c_strings_Contains : Con := ⟨[.val T9, .val T9], [T4], fun k x => strings_Contains k x.1 x.2.1⟩
def strings_CutPrefix (k : Nat) (a : List UInt8) (b : List UInt8) : Option (List UInt8 × Bool) := some (Go.Lib.trimPrefix a b, Go.Lib.hasPrefix a b)
noncomputable def c_strings_CutPrefix : Con := ⟨[.val T9, .val T9], [T9, T4], fun k x => strings_CutPrefix k x.1 x.2.1⟩
def strings_CutSuffix (k : Nat) (a : List UInt8) (b : List UInt8) : Option (List UInt8 × Bool) := chk (Nat.ble a.length 9223372036854775807) (some (Go.Lib.trimSuffix a b, Go.Lib.hasSuffix a b))
noncomputable def c_strings_CutSuffix : Con := ⟨[.val T9, .val T9], [T9, T4], fun k x => strings_CutSuffix k x.1 x.2.1⟩
def strings_HasPrefix (k : Nat) (a : List UInt8) (b : List UInt8) : Option (Bool) := some (Go.Lib.hasPrefix a b)
noncomputable def c_strings_HasPrefix : Con := ⟨[.val T9, .val T9], [T4], fun k x => strings_HasPrefix k x.1 x.2.1⟩
def strings_Cut (k : Nat) (a : List UInt8) (b : List UInt8) : Option (List UInt8 × List UInt8 × Bool) := chk (Nat.blt a.length 4294967281) (some ((Go.Lib.cut a b).1, (Go.Lib.cut a b).2.1, (Go.Lib.cut a b).2.2))
noncomputable def c_strings_Cut : Con := ⟨[.val T9, .val T9], [T9, T9, T4], fun k x => strings_Cut k x.1 x.2.1⟩
def strings_ReplaceAll (k : Nat) (a : List UInt8) (b : List UInt8) (c : List UInt8) : Option (List UInt8) := chk (Nat.ble a.length 16777216) (chk (Nat.ble 1 b.length) (chk (Nat.ble c.length 1024) (some (Go.Lib.replaceAll a b c))))
noncomputable def c_strings_ReplaceAll : Con := ⟨[.val T9, .val T9, .val T9], [T9], fun k x => strings_ReplaceAll k x.1 x.2.1 x.2.2.1⟩
def strings_Trim (k : Nat) (a : List UInt8) (b : List UInt8) : Option (List UInt8) := chk (Nat.ble a.length 16777216) (chk (Nat.ble b.length 1024) (chk (b.all fun x => decide (x.toNat < 128)) (some (Go.Lib.trimS a b))))
noncomputable def c_strings_Trim : Con := ⟨[.val T9, .val T9], [T9], fun k x => strings_Trim k x.1 x.2.1⟩
def strconv_Atoi (k : Nat) (a : List UInt8) : Option (Int × Unit) := chk (Nat.ble a.length 16777216) (match Go.Lib.atoiAll a with | .ok v => some (v, ()) | _ => none)
noncomputable def c_strconv_Atoi : Con := ⟨[.val T9], [T3, .any], fun k x => strconv_Atoi k x.1⟩
structure Stops (w0 : World) : Prop where
  strings_Contains : ConOk Tryz.prog w0 18 c_strings_Contains ∧ Enters' Tryz.prog 18
  strings_CutPrefix : ConOk Tryz.prog w0 13 c_strings_CutPrefix ∧ Enters' Tryz.prog 13
  strings_CutSuffix : ConOk Tryz.prog w0 14 c_strings_CutSuffix ∧ Enters' Tryz.prog 14
  strings_HasPrefix : ConOk Tryz.prog w0 16 c_strings_HasPrefix ∧ Enters' Tryz.prog 16
  strings_Cut : ConOk Tryz.prog w0 33 c_strings_Cut ∧ Enters' Tryz.prog 33
  strings_ReplaceAll : ConOk Tryz.prog w0 19 c_strings_ReplaceAll ∧ Enters' Tryz.prog 19
  strings_Trim : ConOk Tryz.prog w0 41 c_strings_Trim ∧ Enters' Tryz.prog 41
  strconv_Atoi : ConOk Tryz.prog w0 28 c_strconv_Atoi ∧ Enters' Tryz.prog 28
theorem tab_ok : TabOk Tryz.prog Γ := tab_of (by kernel_rfl)
theorem draws {w0 : World} {Δ : List (Nat × Con)} (h : DelOk Tryz.prog w0 Δ) {w : World} (hb : Go.RowKit.Below w0.heap.size w0 w) : DrawSound Tryz.prog w Γ Δ := draws_of tab_ok h (by kernel_rfl) hb
/-! ### spec_l01Truth: function 7 -/
def a_spec_l01Truth : Ann := ⟨[], []⟩
noncomputable def d_spec_l01Truth : List (Nat × Con) := []
noncomputable def spec_l01Truth (k : Nat) (a : (Ty.den T4)) : Option (den1 [T23]) := evFn Γ d_spec_l01Truth a_spec_l01Truth Tryz.f7 [.val T4] [T23] k (a, ())
theorem spec_l01Truth_eq (k : Nat) (a : (Ty.den T4)) : spec_l01Truth k a = br (a) (some ((1 : Int), (1 : Int), (0 : Int), ([] : List UInt8), ())) (some ((1 : Int), (0 : Int), (0 : Int), ([] : List UInt8), ())) := by kernel_rfl
noncomputable def c_spec_l01Truth : Con := ⟨[.val T4], [T23], fun k x => spec_l01Truth k x.1⟩
theorem del_spec_l01Truth {w0 : World} (hS : Stops w0) : DelOk Tryz.prog w0 d_spec_l01Truth := .nil
theorem ok_spec_l01Truth {w0 : World} (hS : Stops w0) : ConOk Tryz.prog w0 7 c_spec_l01Truth := fn_sound (A := a_spec_l01Truth) tab_ok (del_spec_l01Truth hS) (draws (del_spec_l01Truth hS)) Tryz.func7 (by kernel_rfl) fun _ _ => rfl
theorem ent_spec_l01Truth : Enters' Tryz.prog 7 := enters' Tryz.func7 (by kernel_rfl)
attribute [irreducible] spec_l01Truth

/-! ### spec_l01ReadQuoted: function 8 -/
def a_spec_l01ReadQuoted : Ann := ⟨[(0, [.val 0 T9, .row 4 5 T5, .val 5 T3], ⟨[.row 4 5 T5], false⟩)], []⟩
noncomputable def d_spec_l01ReadQuoted : List (Nat × Con) := []
noncomputable def spec_l01ReadQuoted (k : Nat) (a : (Ty.den T9)) : Option (den1 [T9, T4]) := evFn Γ d_spec_l01ReadQuoted a_spec_l01ReadQuoted Tryz.f8 [.val T9] [T9, T4] k (a, ())
noncomputable def spec_l01ReadQuoted_l0 (k : Nat) (v0 : (Ty.den T9)) (v4 : (Ty.den (.sl T5))) (v5 : (Ty.den T3)) : Option ((Items.den [.row 4 5 T5]) ⊕ (den1 [T9, T4])) := loopR (ρ := (den1 [T9, T4])) 0 [.val 0 T9, .row 4 5 T5, .val 5 T3] [.row 4 5 T5] (runOf Γ d_spec_l01ReadQuoted a_spec_l01ReadQuoted Tryz.f8 [T9, T4] 0) k (v0, v4, v5)
theorem spec_l01ReadQuoted_eq (k : Nat) (a : (Ty.den T9)) : spec_l01ReadQuoted k a = br (decide ((↑(List.length a) : Int) < 2)) (some ([], false)) (br (decide (0 ≤ 0)) (br (decide (0 < (↑(List.length a) : Int))) (br ((↑(List.getD a (Int.toNat 0) 0).toNat : Int) != 39) (some ([], false)) (br (decide (0 ≤ IntKind.i64.wrap ((↑(List.length a) : Int) - 1))) (br (decide (IntKind.i64.wrap ((↑(List.length a) : Int) - 1) < (↑(List.length a) : Int))) (br ((↑(List.getD a (IntKind.i64.wrap ((↑(List.length a) : Int) - 1)).toNat 0).toNat : Int) != 39) (some ([], false)) (bnd (spec_l01ReadQuoted_l0 k a [] 1) (fun y1 => onSum y1 (fun y2 => some (List.map (fun n => UInt8.ofNat n.toNat) y2, true)) (fun y2 => some y2)))) (none)) (none))) (none)) (none)) := by kernel_rfl
theorem spec_l01ReadQuoted_l0_zero (v0 : (Ty.den T9)) (v4 : (Ty.den (.sl T5))) (v5 : (Ty.den T3)) : spec_l01ReadQuoted_l0 0 v0 v4 v5 = none := by kernel_rfl
theorem spec_l01ReadQuoted_l0_succ (k : Nat) (v0 : (Ty.den T9)) (v4 : (Ty.den (.sl T5))) (v5 : (Ty.den T3)) : spec_l01ReadQuoted_l0 (k + 1) v0 v4 v5 = br (decide (v5 < IntKind.i64.wrap ((↑(List.length v0) : Int) - 1))) (br (decide (0 ≤ v5)) (br (decide (v5 < (↑(List.length v0) : Int))) (br ((↑(List.getD v0 (Int.toNat v5) 0).toNat : Int) == 39) (br (decide (IntKind.i64.wrap (v5 + 1) ≥ IntKind.i64.wrap ((↑(List.length v0) : Int) - 1))) (some (Sum.inr ([], false))) (br (decide (0 ≤ IntKind.i64.wrap (v5 + 1))) (br (decide (IntKind.i64.wrap (v5 + 1) < (↑(List.length v0) : Int))) (br ((↑(List.getD v0 (IntKind.i64.wrap (v5 + 1)).toNat 0).toNat : Int) != 39) (some (Sum.inr ([], false))) (br (decide (0 ≤ IntKind.i64.wrap (v5 + 1))) (br (decide (IntKind.i64.wrap (v5 + 1) < (↑(List.length v0) : Int))) (br (decide (List.length v4 + [(↑(List.getD v0 (IntKind.i64.wrap (v5 + 1)).toNat 0).toNat : Int)].length ≤ capN)) (spec_l01ReadQuoted_l0 k v0 (v4 ++ [(↑(List.getD v0 (IntKind.i64.wrap (v5 + 1)).toNat 0).toNat : Int)]) (IntKind.i64.wrap (IntKind.i64.wrap (v5 + 1) + 1))) (none)) (none)) (none))) (none)) (none))) (br (decide (0 ≤ v5)) (br (decide (v5 < (↑(List.length v0) : Int))) (br (decide (List.length v4 + [(↑(List.getD v0 (Int.toNat v5) 0).toNat : Int)].length ≤ capN)) (spec_l01ReadQuoted_l0 k v0 (v4 ++ [(↑(List.getD v0 (Int.toNat v5) 0).toNat : Int)]) (IntKind.i64.wrap (v5 + 1))) (none)) (none)) (none))) (none)) (none)) (some (Sum.inl v4)) := by kernel_rfl
noncomputable def c_spec_l01ReadQuoted : Con := ⟨[.val T9], [T9, T4], fun k x => spec_l01ReadQuoted k x.1⟩
theorem del_spec_l01ReadQuoted {w0 : World} (hS : Stops w0) : DelOk Tryz.prog w0 d_spec_l01ReadQuoted := .nil
theorem ok_spec_l01ReadQuoted {w0 : World} (hS : Stops w0) : ConOk Tryz.prog w0 8 c_spec_l01ReadQuoted := fn_sound (A := a_spec_l01ReadQuoted) tab_ok (del_spec_l01ReadQuoted hS) (draws (del_spec_l01ReadQuoted hS)) Tryz.func8 (by kernel_rfl) fun _ _ => rfl
theorem ent_spec_l01ReadQuoted : Enters' Tryz.prog 8 := enters' Tryz.func8 (by kernel_rfl)
attribute [irreducible] spec_l01ReadQuoted spec_l01ReadQuoted_l0

/-! ### spec_l01Digit: function 37 -/
def a_spec_l01Digit : Ann := ⟨[], []⟩
noncomputable def d_spec_l01Digit : List (Nat × Con) := []
noncomputable def spec_l01Digit (k : Nat) (a : (Ty.den T5)) : Option (den1 [T4]) := evFn Γ d_spec_l01Digit a_spec_l01Digit Tryz.f37 [.val T5] [T4] k (a, ())
theorem spec_l01Digit_eq (k : Nat) (a : (Ty.den T5)) : spec_l01Digit k a = br (decide (a ≥ 48)) (some (decide (a ≤ 57))) (some false) := by kernel_rfl
noncomputable def c_spec_l01Digit : Con := ⟨[.val T5], [T4], fun k x => spec_l01Digit k x.1⟩
theorem del_spec_l01Digit {w0 : World} (hS : Stops w0) : DelOk Tryz.prog w0 d_spec_l01Digit := .nil
theorem ok_spec_l01Digit {w0 : World} (hS : Stops w0) : ConOk Tryz.prog w0 37 c_spec_l01Digit := fn_sound (A := a_spec_l01Digit) tab_ok (del_spec_l01Digit hS) (draws (del_spec_l01Digit hS)) Tryz.func37 (by kernel_rfl) fun _ _ => rfl
theorem ent_spec_l01Digit : Enters' Tryz.prog 37 := enters' Tryz.func37 (by kernel_rfl)
attribute [irreducible] spec_l01Digit

/-! ### spec_l01Count: function 21 -/
def a_spec_l01Count : Ann := ⟨[(0, [.val 0 T9, .val 4 T3, .val 5 T3], ⟨[.val 4 T3], false⟩)], []⟩
noncomputable def d_spec_l01Count : List (Nat × Con) := [(37, c_spec_l01Digit)]
noncomputable def spec_l01Count (k : Nat) (a : (Ty.den T9)) : Option (den1 [T3, T4]) := evFn Γ d_spec_l01Count a_spec_l01Count Tryz.f21 [.val T9] [T3, T4] k (a, ())
noncomputable def spec_l01Count_l0 (k : Nat) (v0 : (Ty.den T9)) (v4 : (Ty.den T3)) (v5 : (Ty.den T3)) : Option ((Items.den [.val 4 T3]) ⊕ (den1 [T3, T4])) := loopR (ρ := (den1 [T3, T4])) 0 [.val 0 T9, .val 4 T3, .val 5 T3] [.val 4 T3] (runOf Γ d_spec_l01Count a_spec_l01Count Tryz.f21 [T3, T4] 0) k (v0, v4, v5)
theorem spec_l01Count_eq (k : Nat) (a : (Ty.den T9)) : spec_l01Count k a = br ((↑(List.length a) : Int) == 0) (some (0, false)) (br (decide ((↑(List.length a) : Int) > 16)) (some (0, false)) (bnd (spec_l01Count_l0 k a 0 0) (fun y1 => onSum y1 (fun y2 => some (y2, true)) (fun y2 => some y2)))) := by kernel_rfl
theorem spec_l01Count_l0_zero (v0 : (Ty.den T9)) (v4 : (Ty.den T3)) (v5 : (Ty.den T3)) : spec_l01Count_l0 0 v0 v4 v5 = none := by kernel_rfl
theorem spec_l01Count_l0_succ (k : Nat) (v0 : (Ty.den T9)) (v4 : (Ty.den T3)) (v5 : (Ty.den T3)) : spec_l01Count_l0 (k + 1) v0 v4 v5 = br (decide (v5 < (↑(List.length v0) : Int))) (br (decide (0 ≤ v5)) (br (decide (v5 < (↑(List.length v0) : Int))) (bnd (spec_l01Digit k (↑(List.getD v0 (Int.toNat v5) 0).toNat : Int)) (fun y1 => br (!y1) (some (Sum.inr (0, false))) (br (decide (0 ≤ v5)) (br (decide (v5 < (↑(List.length v0) : Int))) (spec_l01Count_l0 k v0 (IntKind.i64.wrap (IntKind.i64.wrap (IntKind.i64.wrap (v4 * 10) + IntKind.i64.wrap (↑(List.getD v0 (Int.toNat v5) 0).toNat : Int)) - 48)) (IntKind.i64.wrap (v5 + 1))) (none)) (none)))) (none)) (none)) (some (Sum.inl v4)) := by kernel_rfl
noncomputable def c_spec_l01Count : Con := ⟨[.val T9], [T3, T4], fun k x => spec_l01Count k x.1⟩
theorem del_spec_l01Count {w0 : World} (hS : Stops w0) : DelOk Tryz.prog w0 d_spec_l01Count := .cons (ok_spec_l01Digit hS) ent_spec_l01Digit (.nil)
theorem ok_spec_l01Count {w0 : World} (hS : Stops w0) : ConOk Tryz.prog w0 21 c_spec_l01Count := fn_sound (A := a_spec_l01Count) tab_ok (del_spec_l01Count hS) (draws (del_spec_l01Count hS)) Tryz.func21 (by kernel_rfl) fun _ _ => rfl
theorem ent_spec_l01Count : Enters' Tryz.prog 21 := enters' Tryz.func21 (by kernel_rfl)
attribute [irreducible] spec_l01Count spec_l01Count_l0

/-! ### spec_l01Leap: function 52 -/
def a_spec_l01Leap : Ann := ⟨[], []⟩
noncomputable def d_spec_l01Leap : List (Nat × Con) := []
noncomputable def spec_l01Leap (k : Nat) (a : (Ty.den T3)) : Option (den1 [T4]) := evFn Γ d_spec_l01Leap a_spec_l01Leap Tryz.f52 [.val T3] [T4] k (a, ())
theorem spec_l01Leap_eq (k : Nat) (a : (Ty.den T3)) : spec_l01Leap k a = br (!4 == 0) (br (Int.tmod a 4 == 0) (br (!100 == 0) (br (Int.tmod a 100 != 0) (some true) (br (!400 == 0) (some (Int.tmod a 400 == 0)) (none))) (none)) (some false)) (none) := by kernel_rfl
noncomputable def c_spec_l01Leap : Con := ⟨[.val T3], [T4], fun k x => spec_l01Leap k x.1⟩
theorem del_spec_l01Leap {w0 : World} (hS : Stops w0) : DelOk Tryz.prog w0 d_spec_l01Leap := .nil
theorem ok_spec_l01Leap {w0 : World} (hS : Stops w0) : ConOk Tryz.prog w0 52 c_spec_l01Leap := fn_sound (A := a_spec_l01Leap) tab_ok (del_spec_l01Leap hS) (draws (del_spec_l01Leap hS)) Tryz.func52 (by kernel_rfl) fun _ _ => rfl
theorem ent_spec_l01Leap : Enters' Tryz.prog 52 := enters' Tryz.func52 (by kernel_rfl)
attribute [irreducible] spec_l01Leap

/-! ### spec_l01Month: function 38 -/
def a_spec_l01Month : Ann := ⟨[], []⟩
noncomputable def d_spec_l01Month : List (Nat × Con) := [(52, c_spec_l01Leap)]
noncomputable def spec_l01Month (k : Nat) (a : (Ty.den T3)) (b : (Ty.den T3)) : Option (den1 [T3]) := evFn Γ d_spec_l01Month a_spec_l01Month Tryz.f38 [.val T3, .val T3] [T3] k (a, b, ())
theorem spec_l01Month_eq (k : Nat) (a : (Ty.den T3)) (b : (Ty.den T3)) : spec_l01Month k a b = br (b == 2) (bnd (spec_l01Leap k a) (fun y1 => br (y1) (some 29) (some 28))) (br (b == 4) (br (b == 4) (some 30) (some 31)) (br (b == 6) (br (b == 6) (some 30) (some 31)) (br (b == 9) (br (b == 9) (some 30) (some 31)) (br (b == 11) (some 30) (some 31))))) := by kernel_rfl
noncomputable def c_spec_l01Month : Con := ⟨[.val T3, .val T3], [T3], fun k x => spec_l01Month k x.1 x.2.1⟩
theorem del_spec_l01Month {w0 : World} (hS : Stops w0) : DelOk Tryz.prog w0 d_spec_l01Month := .cons (ok_spec_l01Leap hS) ent_spec_l01Leap (.nil)
theorem ok_spec_l01Month {w0 : World} (hS : Stops w0) : ConOk Tryz.prog w0 38 c_spec_l01Month := fn_sound (A := a_spec_l01Month) tab_ok (del_spec_l01Month hS) (draws (del_spec_l01Month hS)) Tryz.func38 (by kernel_rfl) fun _ _ => rfl
theorem ent_spec_l01Month : Enters' Tryz.prog 38 := enters' Tryz.func38 (by kernel_rfl)
attribute [irreducible] spec_l01Month

/-! ### spec_l01Ahead: function 39 -/
def a_spec_l01Ahead : Ann := ⟨[], []⟩
noncomputable def d_spec_l01Ahead : List (Nat × Con) := []
noncomputable def spec_l01Ahead (k : Nat) (a : (Ty.den T3)) : Option (den1 [T3]) := evFn Γ d_spec_l01Ahead a_spec_l01Ahead Tryz.f39 [.val T3] [T3] k (a, ())
theorem spec_l01Ahead_eq (k : Nat) (a : (Ty.den T3)) : spec_l01Ahead k a = br (!4 == 0) (br (!100 == 0) (br (!400 == 0) (some (IntKind.i64.wrap (IntKind.i64.wrap (IntKind.i64.wrap (IntKind.i64.wrap (IntKind.i64.wrap (a - 1) * 365) + IntKind.i64.wrap ((IntKind.i64.wrap (a - 1)).tdiv 4)) - IntKind.i64.wrap ((IntKind.i64.wrap (a - 1)).tdiv 100)) + IntKind.i64.wrap ((IntKind.i64.wrap (a - 1)).tdiv 400)))) (none)) (none)) (none) := by kernel_rfl
noncomputable def c_spec_l01Ahead : Con := ⟨[.val T3], [T3], fun k x => spec_l01Ahead k x.1⟩
theorem del_spec_l01Ahead {w0 : World} (hS : Stops w0) : DelOk Tryz.prog w0 d_spec_l01Ahead := .nil
theorem ok_spec_l01Ahead {w0 : World} (hS : Stops w0) : ConOk Tryz.prog w0 39 c_spec_l01Ahead := fn_sound (A := a_spec_l01Ahead) tab_ok (del_spec_l01Ahead hS) (draws (del_spec_l01Ahead hS)) Tryz.func39 (by kernel_rfl) fun _ _ => rfl
theorem ent_spec_l01Ahead : Enters' Tryz.prog 39 := enters' Tryz.func39 (by kernel_rfl)
attribute [irreducible] spec_l01Ahead

/-! ### spec_DayOf: function 22 -/
def a_spec_DayOf : Ann := ⟨[(0, [.val 0 T3, .val 1 T3, .var 6 T23 [], .val 8 T3, .val 9 T3], ⟨[.var 6 T23 [], .val 8 T3], true⟩)], []⟩
noncomputable def d_spec_DayOf : List (Nat × Con) := [(38, c_spec_l01Month), (39, c_spec_l01Ahead)]
noncomputable def spec_DayOf (k : Nat) (a : (Ty.den T3)) (b : (Ty.den T3)) (c : (Ty.den T3)) : Option (den1 [T23, T3]) := evFn Γ d_spec_DayOf a_spec_DayOf Tryz.f22 [.val T3, .val T3, .val T3] [T23, T3] k (a, b, c, ())
noncomputable def spec_DayOf_l0 (k : Nat) (v0 : (Ty.den T3)) (v1 : (Ty.den T3)) (v6 : (Ty.den T23)) (v8 : (Ty.den T3)) (v9 : (Ty.den T3)) : Option (Items.den [.var 6 T23 [], .val 8 T3]) := loopQ (ρ := (den1 [T23, T3])) 0 [.val 0 T3, .val 1 T3, .var 6 T23 [], .val 8 T3, .val 9 T3] [.var 6 T23 [], .val 8 T3] (runOf Γ d_spec_DayOf a_spec_DayOf Tryz.f22 [T23, T3] 0) k (v0, v1, v6, v8, v9)
theorem spec_DayOf_eq (k : Nat) (a : (Ty.den T3)) (b : (Ty.den T3)) (c : (Ty.den T3)) : spec_DayOf k a b c = br (decide (a < 1)) (some (((0 : Int), (0 : Int), (0 : Int), ([] : List UInt8), ()), 3)) (br (decide (a > 9999)) (some (((0 : Int), (0 : Int), (0 : Int), ([] : List UInt8), ()), 3)) (br (decide (b < 1)) (some (((0 : Int), (0 : Int), (0 : Int), ([] : List UInt8), ()), 3)) (br (decide (b > 12)) (some (((0 : Int), (0 : Int), (0 : Int), ([] : List UInt8), ()), 3)) (br (decide (c < 1)) (some (((0 : Int), (0 : Int), (0 : Int), ([] : List UInt8), ()), 3)) (bnd (spec_l01Month k a b) (fun y1 => br (decide (c > y1)) (some (((0 : Int), (0 : Int), (0 : Int), ([] : List UInt8), ()), 3)) (bnd (spec_l01Ahead k a) (fun y2 => bnd (spec_DayOf_l0 k a b ((0 : Int), (0 : Int), (0 : Int), ([] : List UInt8), ()) (IntKind.i64.wrap (IntKind.i64.wrap (y2 + c) - 1)) 1) (fun y3 => some (((5 : Int), y3.2, (0 : Int), ([] : List UInt8), ()), 0)))))))))) := by kernel_rfl
theorem spec_DayOf_l0_zero (v0 : (Ty.den T3)) (v1 : (Ty.den T3)) (v6 : (Ty.den T23)) (v8 : (Ty.den T3)) (v9 : (Ty.den T3)) : spec_DayOf_l0 0 v0 v1 v6 v8 v9 = none := by kernel_rfl
theorem spec_DayOf_l0_succ (k : Nat) (v0 : (Ty.den T3)) (v1 : (Ty.den T3)) (v6 : (Ty.den T23)) (v8 : (Ty.den T3)) (v9 : (Ty.den T3)) : spec_DayOf_l0 (k + 1) v0 v1 v6 v8 v9 = br (decide (v9 < v1)) (bnd (spec_l01Month k v0 v9) (fun y1 => spec_DayOf_l0 k v0 v1 v6 (IntKind.i64.wrap (v8 + y1)) (IntKind.i64.wrap (v9 + 1)))) (some (v6, v8)) := by kernel_rfl
noncomputable def c_spec_DayOf : Con := ⟨[.val T3, .val T3, .val T3], [T23, T3], fun k x => spec_DayOf k x.1 x.2.1 x.2.2.1⟩
theorem del_spec_DayOf {w0 : World} (hS : Stops w0) : DelOk Tryz.prog w0 d_spec_DayOf := .cons (ok_spec_l01Month hS) ent_spec_l01Month (.cons (ok_spec_l01Ahead hS) ent_spec_l01Ahead (.nil))
theorem ok_spec_DayOf {w0 : World} (hS : Stops w0) : ConOk Tryz.prog w0 22 c_spec_DayOf := fn_sound (A := a_spec_DayOf) tab_ok (del_spec_DayOf hS) (draws (del_spec_DayOf hS)) Tryz.func22 (by kernel_rfl) fun _ _ => rfl
theorem ent_spec_DayOf : Enters' Tryz.prog 22 := enters' Tryz.func22 (by kernel_rfl)
attribute [irreducible] spec_DayOf spec_DayOf_l0

/-! ### spec_l01ReadDay: function 9 -/
def a_spec_l01ReadDay : Ann := ⟨[], []⟩
noncomputable def d_spec_l01ReadDay : List (Nat × Con) := [(21, c_spec_l01Count), (22, c_spec_DayOf)]
noncomputable def spec_l01ReadDay (k : Nat) (a : (Ty.den T9)) : Option (den1 [T23, T3]) := evFn Γ d_spec_l01ReadDay a_spec_l01ReadDay Tryz.f9 [.val T9] [T23, T3] k (a, ())
theorem spec_l01ReadDay_eq (k : Nat) (a : (Ty.den T9)) : spec_l01ReadDay k a = br ((↑(List.length a) : Int) != 10) (some (((0 : Int), (0 : Int), (0 : Int), ([] : List UInt8), ()), 5)) (br (decide (0 ≤ 4)) (br (decide (4 < (↑(List.length a) : Int))) (br ((↑(List.getD a (Int.toNat 4) 0).toNat : Int) != 45) (some (((0 : Int), (0 : Int), (0 : Int), ([] : List UInt8), ()), 5)) (br (decide (0 ≤ 7)) (br (decide (7 < (↑(List.length a) : Int))) (br ((↑(List.getD a (Int.toNat 7) 0).toNat : Int) != 45) (some (((0 : Int), (0 : Int), (0 : Int), ([] : List UInt8), ()), 5)) (br (decide (0 ≤ 4)) (br (decide (4 ≤ (↑(List.length a) : Int))) (bnd (spec_l01Count k (List.take (Int.toNat 4) a)) (fun y1 => br (decide (0 ≤ 5)) (br (decide (5 ≤ 7)) (br (decide (7 ≤ (↑(List.length a) : Int))) (bnd (spec_l01Count k (List.drop (Int.toNat 5) (List.take (Int.toNat 7) a))) (fun y2 => br (decide (0 ≤ 8)) (br (decide (8 ≤ (↑(List.length a) : Int))) (bnd (spec_l01Count k (List.drop (Int.toNat 8) a)) (fun y3 => br (!y1.2) (some (((0 : Int), (0 : Int), (0 : Int), ([] : List UInt8), ()), 5)) (br (!y2.2) (some (((0 : Int), (0 : Int), (0 : Int), ([] : List UInt8), ()), 5)) (br (!y3.2) (some (((0 : Int), (0 : Int), (0 : Int), ([] : List UInt8), ()), 5)) (bnd (spec_DayOf k y1.1 y2.1 y3.1) (fun y4 => some (y4.1, y4.2))))))) (none)) (none))) (none)) (none)) (none))) (none)) (none))) (none)) (none))) (none)) (none)) := by kernel_rfl
noncomputable def c_spec_l01ReadDay : Con := ⟨[.val T9], [T23, T3], fun k x => spec_l01ReadDay k x.1⟩
theorem del_spec_l01ReadDay {w0 : World} (hS : Stops w0) : DelOk Tryz.prog w0 d_spec_l01ReadDay := .cons (ok_spec_l01Count hS) ent_spec_l01Count (.cons (ok_spec_DayOf hS) ent_spec_DayOf (.nil))
theorem ok_spec_l01ReadDay {w0 : World} (hS : Stops w0) : ConOk Tryz.prog w0 9 c_spec_l01ReadDay := fn_sound (A := a_spec_l01ReadDay) tab_ok (del_spec_l01ReadDay hS) (draws (del_spec_l01ReadDay hS)) Tryz.func9 (by kernel_rfl) fun _ _ => rfl
theorem ent_spec_l01ReadDay : Enters' Tryz.prog 9 := enters' Tryz.func9 (by kernel_rfl)
attribute [irreducible] spec_l01ReadDay

/-! ### spec_l01Printable: function 10 -/
def a_spec_l01Printable : Ann := ⟨[(0, [.val 0 T9, .val 3 T3], ⟨[], false⟩)], []⟩
noncomputable def d_spec_l01Printable : List (Nat × Con) := []
noncomputable def spec_l01Printable (k : Nat) (a : (Ty.den T9)) : Option (den1 [T4]) := evFn Γ d_spec_l01Printable a_spec_l01Printable Tryz.f10 [.val T9] [T4] k (a, ())
noncomputable def spec_l01Printable_l0 (k : Nat) (v0 : (Ty.den T9)) (v3 : (Ty.den T3)) : Option ((Items.den []) ⊕ (den1 [T4])) := loopR (ρ := (den1 [T4])) 0 [.val 0 T9, .val 3 T3] [] (runOf Γ d_spec_l01Printable a_spec_l01Printable Tryz.f10 [T4] 0) k (v0, v3)
theorem spec_l01Printable_eq (k : Nat) (a : (Ty.den T9)) : spec_l01Printable k a = bnd (spec_l01Printable_l0 k a 0) (fun y1 => onSum y1 (fun y2 => some true) (fun y2 => some y2)) := by kernel_rfl
theorem spec_l01Printable_l0_zero (v0 : (Ty.den T9)) (v3 : (Ty.den T3)) : spec_l01Printable_l0 0 v0 v3 = none := by kernel_rfl
theorem spec_l01Printable_l0_succ (k : Nat) (v0 : (Ty.den T9)) (v3 : (Ty.den T3)) : spec_l01Printable_l0 (k + 1) v0 v3 = br (decide (v3 < (↑(List.length v0) : Int))) (br (decide (0 ≤ v3)) (br (decide (v3 < (↑(List.length v0) : Int))) (br (decide ((↑(List.getD v0 (Int.toNat v3) 0).toNat : Int) < 32)) (some (Sum.inr false)) (br (decide (0 ≤ v3)) (br (decide (v3 < (↑(List.length v0) : Int))) (br (decide ((↑(List.getD v0 (Int.toNat v3) 0).toNat : Int) > 126)) (some (Sum.inr false)) (spec_l01Printable_l0 k v0 (IntKind.i64.wrap (v3 + 1)))) (none)) (none))) (none)) (none)) (some (Sum.inl ())) := by kernel_rfl
noncomputable def c_spec_l01Printable : Con := ⟨[.val T9], [T4], fun k x => spec_l01Printable k x.1⟩
theorem del_spec_l01Printable {w0 : World} (hS : Stops w0) : DelOk Tryz.prog w0 d_spec_l01Printable := .nil
theorem ok_spec_l01Printable {w0 : World} (hS : Stops w0) : ConOk Tryz.prog w0 10 c_spec_l01Printable := fn_sound (A := a_spec_l01Printable) tab_ok (del_spec_l01Printable hS) (draws (del_spec_l01Printable hS)) Tryz.func10 (by kernel_rfl) fun _ _ => rfl
theorem ent_spec_l01Printable : Enters' Tryz.prog 10 := enters' Tryz.func10 (by kernel_rfl)
attribute [irreducible] spec_l01Printable spec_l01Printable_l0

/-! ### spec_l01Str: function 11 -/
def a_spec_l01Str : Ann := ⟨[], []⟩
noncomputable def d_spec_l01Str : List (Nat × Con) := []
noncomputable def spec_l01Str (k : Nat) (a : (Ty.den T9)) : Option (den1 [T23]) := evFn Γ d_spec_l01Str a_spec_l01Str Tryz.f11 [.val T9] [T23] k (a, ())
theorem spec_l01Str_eq (k : Nat) (a : (Ty.den T9)) : spec_l01Str k a = some (4, 0, 0, a, ()) := by kernel_rfl
noncomputable def c_spec_l01Str : Con := ⟨[.val T9], [T23], fun k x => spec_l01Str k x.1⟩
theorem del_spec_l01Str {w0 : World} (hS : Stops w0) : DelOk Tryz.prog w0 d_spec_l01Str := .nil
theorem ok_spec_l01Str {w0 : World} (hS : Stops w0) : ConOk Tryz.prog w0 11 c_spec_l01Str := fn_sound (A := a_spec_l01Str) tab_ok (del_spec_l01Str hS) (draws (del_spec_l01Str hS)) Tryz.func11 (by kernel_rfl) fun _ _ => rfl
theorem ent_spec_l01Str : Enters' Tryz.prog 11 := enters' Tryz.func11 (by kernel_rfl)
attribute [irreducible] spec_l01Str

/-! ### spec_l01Power: function 23 -/
def a_spec_l01Power : Ann := ⟨[(0, [.val 0 T3, .val 3 T3, .val 4 T3], ⟨[.val 3 T3], true⟩)], []⟩
noncomputable def d_spec_l01Power : List (Nat × Con) := []
noncomputable def spec_l01Power (k : Nat) (a : (Ty.den T3)) : Option (den1 [T3]) := evFn Γ d_spec_l01Power a_spec_l01Power Tryz.f23 [.val T3] [T3] k (a, ())
noncomputable def spec_l01Power_l0 (k : Nat) (v0 : (Ty.den T3)) (v3 : (Ty.den T3)) (v4 : (Ty.den T3)) : Option (Items.den [.val 3 T3]) := loopQ (ρ := (den1 [T3])) 0 [.val 0 T3, .val 3 T3, .val 4 T3] [.val 3 T3] (runOf Γ d_spec_l01Power a_spec_l01Power Tryz.f23 [T3] 0) k (v0, v3, v4)
theorem spec_l01Power_eq (k : Nat) (a : (Ty.den T3)) : spec_l01Power k a = bnd (spec_l01Power_l0 k a 1 0) (fun y1 => some y1) := by kernel_rfl
theorem spec_l01Power_l0_zero (v0 : (Ty.den T3)) (v3 : (Ty.den T3)) (v4 : (Ty.den T3)) : spec_l01Power_l0 0 v0 v3 v4 = none := by kernel_rfl
theorem spec_l01Power_l0_succ (k : Nat) (v0 : (Ty.den T3)) (v3 : (Ty.den T3)) (v4 : (Ty.den T3)) : spec_l01Power_l0 (k + 1) v0 v3 v4 = br (decide (v4 < v0)) (spec_l01Power_l0 k v0 (IntKind.i64.wrap (v3 * 10)) (IntKind.i64.wrap (v4 + 1))) (some v3) := by kernel_rfl
noncomputable def c_spec_l01Power : Con := ⟨[.val T3], [T3], fun k x => spec_l01Power k x.1⟩
theorem del_spec_l01Power {w0 : World} (hS : Stops w0) : DelOk Tryz.prog w0 d_spec_l01Power := .nil
theorem ok_spec_l01Power {w0 : World} (hS : Stops w0) : ConOk Tryz.prog w0 23 c_spec_l01Power := fn_sound (A := a_spec_l01Power) tab_ok (del_spec_l01Power hS) (draws (del_spec_l01Power hS)) Tryz.func23 (by kernel_rfl) fun _ _ => rfl
theorem ent_spec_l01Power : Enters' Tryz.prog 23 := enters' Tryz.func23 (by kernel_rfl)
attribute [irreducible] spec_l01Power spec_l01Power_l0

/-! ### spec_ValueOK: function 24 -/
def a_spec_ValueOK : Ann := ⟨[], [(3, ⟨[.var 1 T23 []], false⟩)]⟩
noncomputable def d_spec_ValueOK : List (Nat × Con) := [(10, c_spec_l01Printable)]
noncomputable def spec_ValueOK (k : Nat) (a : (Ty.den T23)) : Option (den1 [T4]) := evFn Γ d_spec_ValueOK a_spec_ValueOK Tryz.f24 [.val T23] [T4] k (a, ())
theorem spec_ValueOK_eq (k : Nat) (a : (Ty.den T23)) : spec_ValueOK k a = bnd (br (a.1 != 4) (br (decide ((↑(List.length a.2.2.2.1) : Int) > 0)) (some (Sum.inr false)) (br (a.1 != 3) (br (a.2.2.1 != 0) (some (Sum.inr false)) (some (Sum.inl a))) (some (Sum.inl a)))) (br (a.1 != 3) (br (a.2.2.1 != 0) (some (Sum.inr false)) (some (Sum.inl a))) (some (Sum.inl a)))) (fun y1 => onSum y1 (fun y2 => br (y2.1 == 0) (some (y2.2.1 == 0)) (br (y2.1 == 1) (br (y2.2.1 == 0) (some true) (some (y2.2.1 == 1))) (br (y2.1 == 2) (br (decide (y2.2.1 ≥ -1000000000000000)) (some (decide (y2.2.1 ≤ 1000000000000000))) (some false)) (br (y2.1 == 3) (br (decide (y2.2.1 ≥ -1000000000)) (br (decide (y2.2.1 ≤ 1000000000)) (br (decide (y2.2.2.1 ≥ 0)) (br (decide (y2.2.2.1 ≤ 6)) (br (y2.2.2.1 == 0) (some true) (br (!10 == 0) (some (Int.tmod y2.2.1 10 != 0)) (none))) (some false)) (some false)) (some false)) (some false)) (br (y2.1 == 5) (br (decide (y2.2.1 ≥ 0)) (some (decide (y2.2.1 ≤ 3652058))) (some false)) (br (y2.1 == 4) (br (y2.2.1 == 0) (bnd (spec_l01Printable k y2.2.2.2.1) (fun y3 => br (y3) (some (decide ((↑(List.length y2.2.2.2.1) : Int) ≤ 200))) (some false))) (some false)) (some false))))))) (fun y2 => some y2)) := by kernel_rfl
noncomputable def c_spec_ValueOK : Con := ⟨[.val T23], [T4], fun k x => spec_ValueOK k x.1⟩
theorem del_spec_ValueOK {w0 : World} (hS : Stops w0) : DelOk Tryz.prog w0 d_spec_ValueOK := .cons (ok_spec_l01Printable hS) ent_spec_l01Printable (.nil)
theorem ok_spec_ValueOK {w0 : World} (hS : Stops w0) : ConOk Tryz.prog w0 24 c_spec_ValueOK := fn_sound (A := a_spec_ValueOK) tab_ok (del_spec_ValueOK hS) (draws (del_spec_ValueOK hS)) Tryz.func24 (by kernel_rfl) fun _ _ => rfl
theorem ent_spec_ValueOK : Enters' Tryz.prog 24 := enters' Tryz.func24 (by kernel_rfl)
attribute [irreducible] spec_ValueOK

/-! ### spec_l01ReadNumber: function 12 -/
def a_spec_l01ReadNumber : Ann := ⟨[(0, [.val 0 T9, .var 2 T23 [], .val 4 T4, .val 5 T3, .val 6 T3], ⟨[.val 0 T9, .var 2 T23 [], .val 4 T4, .val 5 T3], true⟩)], [(2, ⟨[.val 0 T9, .var 2 T23 [], .val 4 T4], true⟩), (4, ⟨[.val 0 T9, .var 2 T23 [], .val 4 T4], true⟩), (15, ⟨[.var 2 T23 [], .val 4 T4, .val 5 T3, .val 7 T9, .val 8 T9], true⟩), (18, ⟨[.var 2 T23 [], .val 4 T4, .val 5 T3, .val 8 T9, .val 9 T3], false⟩), (23, ⟨[.var 2 T23 [], .val 4 T4, .val 8 T9, .val 9 T3, .var 11 T23 [], .val 12 T3], false⟩), (28, ⟨[.var 2 T23 [], .val 4 T4, .val 8 T9, .val 9 T3, .var 11 T23 [], .val 12 T3], false⟩), (31, ⟨[.var 2 T23 [], .val 4 T4, .var 11 T23 []], false⟩), (35, ⟨[.var 2 T23 [], .var 11 T23 []], false⟩)]⟩
noncomputable def d_spec_l01ReadNumber : List (Nat × Con) := [(21, c_spec_l01Count), (23, c_spec_l01Power), (24, c_spec_ValueOK)]
noncomputable def spec_l01ReadNumber (k : Nat) (a : (Ty.den T9)) : Option (den1 [T23, T3]) := evFn Γ d_spec_l01ReadNumber a_spec_l01ReadNumber Tryz.f12 [.val T9] [T23, T3] k (a, ())
noncomputable def spec_l01ReadNumber_l0 (k : Nat) (v0 : (Ty.den T9)) (v2 : (Ty.den T23)) (v4 : (Ty.den T4)) (v5 : (Ty.den T3)) (v6 : (Ty.den T3)) : Option (Items.den [.val 0 T9, .var 2 T23 [], .val 4 T4, .val 5 T3]) := loopQ (ρ := (den1 [T23, T3])) 0 [.val 0 T9, .var 2 T23 [], .val 4 T4, .val 5 T3, .val 6 T3] [.val 0 T9, .var 2 T23 [], .val 4 T4, .val 5 T3] (runOf Γ d_spec_l01ReadNumber a_spec_l01ReadNumber Tryz.f12 [T23, T3] 0) k (v0, v2, v4, v5, v6)
theorem spec_l01ReadNumber_eq (k : Nat) (a : (Ty.den T9)) : spec_l01ReadNumber k a = bnd (br (decide ((↑(List.length a) : Int) > 0)) (br (decide (0 ≤ 0)) (br (decide (0 < (↑(List.length a) : Int))) (some (a, ((0 : Int), (0 : Int), (0 : Int), ([] : List UInt8), ()), (↑(List.getD a (Int.toNat 0) 0).toNat : Int) == 45)) (none)) (none)) (some (a, ((0 : Int), (0 : Int), (0 : Int), ([] : List UInt8), ()), false))) (fun y1 => bnd (br (y1.2.2) (br (decide (0 ≤ 1)) (br (decide (1 ≤ (↑(List.length y1.1) : Int))) (some (List.drop (Int.toNat 1) y1.1, y1.2.1, y1.2.2)) (none)) (none)) (some (y1.1, y1.2.1, y1.2.2))) (fun y2 => bnd (spec_l01ReadNumber_l0 k y2.1 y2.2.1 y2.2.2 (-1) 0) (fun y3 => bnd (br (decide (y3.2.2.2 ≥ 0)) (br (decide (0 ≤ y3.2.2.2)) (br (decide (y3.2.2.2 ≤ (↑(List.length y3.1) : Int))) (br (decide (0 ≤ IntKind.i64.wrap (y3.2.2.2 + 1))) (br (decide (IntKind.i64.wrap (y3.2.2.2 + 1) ≤ (↑(List.length y3.1) : Int))) (some (y3.2.1, y3.2.2.1, y3.2.2.2, List.take (Int.toNat y3.2.2.2) y3.1, List.drop (IntKind.i64.wrap (y3.2.2.2 + 1)).toNat y3.1)) (none)) (none)) (none)) (none)) (some (y3.2.1, y3.2.2.1, y3.2.2.2, y3.1, []))) (fun y4 => bnd (spec_l01Count k y4.2.2.2.1) (fun y5 => bnd (br (!y5.2) (some (Sum.inr (((0 : Int), (0 : Int), (0 : Int), ([] : List UInt8), ()), 5))) (br (decide ((↑(List.length y4.2.2.2.1) : Int) > 1)) (br (decide (0 ≤ 0)) (br (decide (0 < (↑(List.length y4.2.2.2.1) : Int))) (br ((↑(List.getD y4.2.2.2.1 (Int.toNat 0) 0).toNat : Int) == 48) (some (Sum.inr (((0 : Int), (0 : Int), (0 : Int), ([] : List UInt8), ()), 5))) (some (Sum.inl (y4.1, y4.2.1, y4.2.2.1, y4.2.2.2.2, y5.1)))) (none)) (none)) (some (Sum.inl (y4.1, y4.2.1, y4.2.2.1, y4.2.2.2.2, y5.1))))) (fun y6 => onSum y6 (fun y7 => bnd (br (decide (y7.2.2.1 ≥ 0)) (bnd (br (decide ((↑(List.length y7.2.2.2.1) : Int) > 6)) (some (Sum.inr (((0 : Int), (0 : Int), (0 : Int), ([] : List UInt8), ()), 5))) (br (decide ((↑(List.length y7.2.2.2.1) : Int) > 0)) (br (decide (0 ≤ IntKind.i64.wrap ((↑(List.length y7.2.2.2.1) : Int) - 1))) (br (decide (IntKind.i64.wrap ((↑(List.length y7.2.2.2.1) : Int) - 1) < (↑(List.length y7.2.2.2.1) : Int))) (br ((↑(List.getD y7.2.2.2.1 (IntKind.i64.wrap ((↑(List.length y7.2.2.2.1) : Int) - 1)).toNat 0).toNat : Int) == 48) (some (Sum.inr (((0 : Int), (0 : Int), (0 : Int), ([] : List UInt8), ()), 5))) (some (Sum.inl (y7.1, y7.2.1, y7.2.2.2.1, y7.2.2.2.2, ((2 : Int), y7.2.2.2.2, (0 : Int), ([] : List UInt8), ()), 0)))) (none)) (none)) (some (Sum.inl (y7.1, y7.2.1, y7.2.2.2.1, y7.2.2.2.2, ((2 : Int), y7.2.2.2.2, (0 : Int), ([] : List UInt8), ()), 0))))) (fun y8 => onSum y8 (fun y9 => bnd (br (decide ((↑(List.length y9.2.2.1) : Int) > 0)) (bnd (spec_l01Count k y9.2.2.1) (fun y10 => br (!y10.2) (some (Sum.inr (((0 : Int), (0 : Int), (0 : Int), ([] : List UInt8), ()), 5))) (some (Sum.inl (y9.1, y9.2.1, y9.2.2.1, y9.2.2.2.1, y9.2.2.2.2.1, y10.1))))) (some (Sum.inl (y9.1, y9.2.1, y9.2.2.1, y9.2.2.2.1, y9.2.2.2.2.1, y9.2.2.2.2.2)))) (fun y10 => onSum y10 (fun y11 => br (decide (y11.2.2.2.1 > 1000000000)) (some (Sum.inr (((0 : Int), (0 : Int), (0 : Int), ([] : List UInt8), ()), 3))) (bnd (spec_l01Power k (↑(List.length y11.2.2.1) : Int)) (fun y12 => some (Sum.inl (y11.1, y11.2.1, (3 : Int), IntKind.i64.wrap (IntKind.i64.wrap (y11.2.2.2.1 * y12) + y11.2.2.2.2.2), (↑(List.length y11.2.2.1) : Int), ([] : List UInt8), ()))))) (fun y11 => some (Sum.inr y11)))) (fun y9 => some (Sum.inr y9)))) (some (Sum.inl (y7.1, y7.2.1, (2 : Int), y7.2.2.2.2, (0 : Int), ([] : List UInt8), ())))) (fun y8 => onSum y8 (fun y9 => bnd (br (y9.2.1) (br (y9.2.2.2.1 == 0) (some (Sum.inr (((0 : Int), (0 : Int), (0 : Int), ([] : List UInt8), ()), 5))) (some (Sum.inl (y9.1, y9.2.2.1, IntKind.i64.wrap (0 - y9.2.2.2.1), y9.2.2.2.2.1, y9.2.2.2.2.2.1, ())))) (some (Sum.inl (y9.1, y9.2.2.1, y9.2.2.2.1, y9.2.2.2.2.1, y9.2.2.2.2.2.1, ())))) (fun y10 => onSum y10 (fun y11 => bnd (spec_ValueOK k y11.2) (fun y12 => br (!y12) (some (((0 : Int), (0 : Int), (0 : Int), ([] : List UInt8), ()), 3)) (some (y11.2, 0)))) (fun y11 => some y11))) (fun y9 => some y9))) (fun y7 => some y7))))))) := by kernel_rfl
theorem spec_l01ReadNumber_l0_zero (v0 : (Ty.den T9)) (v2 : (Ty.den T23)) (v4 : (Ty.den T4)) (v5 : (Ty.den T3)) (v6 : (Ty.den T3)) : spec_l01ReadNumber_l0 0 v0 v2 v4 v5 v6 = none := by kernel_rfl
theorem spec_l01ReadNumber_l0_succ (k : Nat) (v0 : (Ty.den T9)) (v2 : (Ty.den T23)) (v4 : (Ty.den T4)) (v5 : (Ty.den T3)) (v6 : (Ty.den T3)) : spec_l01ReadNumber_l0 (k + 1) v0 v2 v4 v5 v6 = br (decide (v6 < (↑(List.length v0) : Int))) (br (decide (0 ≤ v6)) (br (decide (v6 < (↑(List.length v0) : Int))) (br ((↑(List.getD v0 (Int.toNat v6) 0).toNat : Int) == 46) (br (decide (v5 < 0)) (spec_l01ReadNumber_l0 k v0 v2 v4 v6 (IntKind.i64.wrap (v6 + 1))) (spec_l01ReadNumber_l0 k v0 v2 v4 v5 (IntKind.i64.wrap (v6 + 1)))) (spec_l01ReadNumber_l0 k v0 v2 v4 v5 (IntKind.i64.wrap (v6 + 1)))) (none)) (none)) (some (v0, v2, v4, v5)) := by kernel_rfl
noncomputable def c_spec_l01ReadNumber : Con := ⟨[.val T9], [T23, T3], fun k x => spec_l01ReadNumber k x.1⟩
theorem del_spec_l01ReadNumber {w0 : World} (hS : Stops w0) : DelOk Tryz.prog w0 d_spec_l01ReadNumber := .cons (ok_spec_l01Count hS) ent_spec_l01Count (.cons (ok_spec_l01Power hS) ent_spec_l01Power (.cons (ok_spec_ValueOK hS) ent_spec_ValueOK (.nil)))
theorem ok_spec_l01ReadNumber {w0 : World} (hS : Stops w0) : ConOk Tryz.prog w0 12 c_spec_l01ReadNumber := fn_sound (A := a_spec_l01ReadNumber) tab_ok (del_spec_l01ReadNumber hS) (draws (del_spec_l01ReadNumber hS)) Tryz.func12 (by kernel_rfl) fun _ _ => rfl
theorem ent_spec_l01ReadNumber : Enters' Tryz.prog 12 := enters' Tryz.func12 (by kernel_rfl)
attribute [irreducible] spec_l01ReadNumber spec_l01ReadNumber_l0

/-! ### spec_ReadValue: function 4 -/
def a_spec_ReadValue : Ann := ⟨[], [(14, ⟨[.val 0 T9, .var 2 T23 []], false⟩)]⟩
noncomputable def d_spec_ReadValue : List (Nat × Con) := [(7, c_spec_l01Truth), (8, c_spec_l01ReadQuoted), (9, c_spec_l01ReadDay), (10, c_spec_l01Printable), (11, c_spec_l01Str), (12, c_spec_l01ReadNumber)]
noncomputable def spec_ReadValue (k : Nat) (a : (Ty.den T9)) : Option (den1 [T23, T3]) := evFn Γ d_spec_ReadValue a_spec_ReadValue Tryz.f4 [.val T9] [T23, T3] k (a, ())
theorem spec_ReadValue_eq (k : Nat) (a : (Ty.den T9)) : spec_ReadValue k a = br (decide ((↑(List.length a) : Int) > 402)) (some (((0 : Int), (0 : Int), (0 : Int), ([] : List UInt8), ()), 5)) (br (a == [110, 117, 108, 108]) (some (((0 : Int), (0 : Int), (0 : Int), ([] : List UInt8), ()), 0)) (br (a == [116, 114, 117, 101]) (br (a == [116, 114, 117, 101]) (bnd (spec_l01Truth k (a == [116, 114, 117, 101])) (fun y1 => some (y1, 0))) (bnd (br (decide ((↑(List.length a) : Int) > 4)) (br (decide (0 ≤ 4)) (br (decide (4 ≤ (↑(List.length a) : Int))) (br (List.take (Int.toNat 4) a == [100, 97, 121, 32]) (br (decide (0 ≤ 4)) (br (decide (4 ≤ (↑(List.length a) : Int))) (bnd (spec_l01ReadQuoted k (List.drop (Int.toNat 4) a)) (fun y1 => br (!y1.2) (some (Sum.inr (((0 : Int), (0 : Int), (0 : Int), ([] : List UInt8), ()), 5))) (bnd (spec_l01ReadDay k y1.1) (fun y2 => some (Sum.inr (y2.1, y2.2)))))) (none)) (none)) (some (Sum.inl (a, (0 : Int), (0 : Int), (0 : Int), ([] : List UInt8), ())))) (none)) (none)) (some (Sum.inl (a, (0 : Int), (0 : Int), (0 : Int), ([] : List UInt8), ())))) (fun y1 => onSum y1 (fun y2 => br (decide ((↑(List.length y2.1) : Int) > 0)) (br (decide (0 ≤ 0)) (br (decide (0 < (↑(List.length y2.1) : Int))) (br ((↑(List.getD y2.1 (Int.toNat 0) 0).toNat : Int) == 39) (bnd (spec_l01ReadQuoted k y2.1) (fun y3 => br (!y3.2) (some (((0 : Int), (0 : Int), (0 : Int), ([] : List UInt8), ()), 5)) (bnd (spec_l01Printable k y3.1) (fun y4 => br (!y4) (some (((0 : Int), (0 : Int), (0 : Int), ([] : List UInt8), ()), 5)) (br (decide ((↑(List.length y3.1) : Int) > 200)) (some (((0 : Int), (0 : Int), (0 : Int), ([] : List UInt8), ()), 3)) (bnd (spec_l01Str k y3.1) (fun y5 => some (y5, 0)))))))) (bnd (spec_l01ReadNumber k y2.1) (fun y3 => some (y3.1, y3.2)))) (none)) (none)) (bnd (spec_l01ReadNumber k y2.1) (fun y3 => some (y3.1, y3.2)))) (fun y2 => some y2)))) (br (a == [102, 97, 108, 115, 101]) (bnd (spec_l01Truth k (a == [116, 114, 117, 101])) (fun y1 => some (y1, 0))) (bnd (br (decide ((↑(List.length a) : Int) > 4)) (br (decide (0 ≤ 4)) (br (decide (4 ≤ (↑(List.length a) : Int))) (br (List.take (Int.toNat 4) a == [100, 97, 121, 32]) (br (decide (0 ≤ 4)) (br (decide (4 ≤ (↑(List.length a) : Int))) (bnd (spec_l01ReadQuoted k (List.drop (Int.toNat 4) a)) (fun y1 => br (!y1.2) (some (Sum.inr (((0 : Int), (0 : Int), (0 : Int), ([] : List UInt8), ()), 5))) (bnd (spec_l01ReadDay k y1.1) (fun y2 => some (Sum.inr (y2.1, y2.2)))))) (none)) (none)) (some (Sum.inl (a, (0 : Int), (0 : Int), (0 : Int), ([] : List UInt8), ())))) (none)) (none)) (some (Sum.inl (a, (0 : Int), (0 : Int), (0 : Int), ([] : List UInt8), ())))) (fun y1 => onSum y1 (fun y2 => br (decide ((↑(List.length y2.1) : Int) > 0)) (br (decide (0 ≤ 0)) (br (decide (0 < (↑(List.length y2.1) : Int))) (br ((↑(List.getD y2.1 (Int.toNat 0) 0).toNat : Int) == 39) (bnd (spec_l01ReadQuoted k y2.1) (fun y3 => br (!y3.2) (some (((0 : Int), (0 : Int), (0 : Int), ([] : List UInt8), ()), 5)) (bnd (spec_l01Printable k y3.1) (fun y4 => br (!y4) (some (((0 : Int), (0 : Int), (0 : Int), ([] : List UInt8), ()), 5)) (br (decide ((↑(List.length y3.1) : Int) > 200)) (some (((0 : Int), (0 : Int), (0 : Int), ([] : List UInt8), ()), 3)) (bnd (spec_l01Str k y3.1) (fun y5 => some (y5, 0)))))))) (bnd (spec_l01ReadNumber k y2.1) (fun y3 => some (y3.1, y3.2)))) (none)) (none)) (bnd (spec_l01ReadNumber k y2.1) (fun y3 => some (y3.1, y3.2)))) (fun y2 => some y2)))))) := by kernel_rfl
noncomputable def c_spec_ReadValue : Con := ⟨[.val T9], [T23, T3], fun k x => spec_ReadValue k x.1⟩
theorem del_spec_ReadValue {w0 : World} (hS : Stops w0) : DelOk Tryz.prog w0 d_spec_ReadValue := .cons (ok_spec_l01Truth hS) ent_spec_l01Truth (.cons (ok_spec_l01ReadQuoted hS) ent_spec_l01ReadQuoted (.cons (ok_spec_l01ReadDay hS) ent_spec_l01ReadDay (.cons (ok_spec_l01Printable hS) ent_spec_l01Printable (.cons (ok_spec_l01Str hS) ent_spec_l01Str (.cons (ok_spec_l01ReadNumber hS) ent_spec_l01ReadNumber (.nil))))))
theorem ok_spec_ReadValue {w0 : World} (hS : Stops w0) : ConOk Tryz.prog w0 4 c_spec_ReadValue := fn_sound (A := a_spec_ReadValue) tab_ok (del_spec_ReadValue hS) (draws (del_spec_ReadValue hS)) Tryz.func4 (by kernel_rfl) fun _ _ => rfl
theorem ent_spec_ReadValue : Enters' Tryz.prog 4 := enters' Tryz.func4 (by kernel_rfl)
attribute [irreducible] spec_ReadValue

/-! ### impl_digits: function 27 -/
def a_impl_digits : Ann := ⟨[], []⟩
noncomputable def d_impl_digits : List (Nat × Con) := [(41, c_strings_Trim)]
noncomputable def impl_digits (k : Nat) (a : (Ty.den T9)) : Option (den1 [T4]) := evFn Γ d_impl_digits a_impl_digits Tryz.f27 [.val T9] [T4] k (a, ())
theorem impl_digits_eq (k : Nat) (a : (Ty.den T9)) : impl_digits k a = br (!a == []) (bnd (strings_Trim k a [48, 49, 50, 51, 52, 53, 54, 55, 56, 57]) (fun y1 => some (y1 == []))) (some false) := by kernel_rfl
noncomputable def c_impl_digits : Con := ⟨[.val T9], [T4], fun k x => impl_digits k x.1⟩
theorem del_impl_digits {w0 : World} (hS : Stops w0) : DelOk Tryz.prog w0 d_impl_digits := .cons (hS.strings_Trim.1) hS.strings_Trim.2 (.nil)
theorem ok_impl_digits {w0 : World} (hS : Stops w0) : ConOk Tryz.prog w0 27 c_impl_digits := fn_sound (A := a_impl_digits) tab_ok (del_impl_digits hS) (draws (del_impl_digits hS)) Tryz.func27 (by kernel_rfl) fun _ _ => rfl
theorem ent_impl_digits : Enters' Tryz.prog 27 := enters' Tryz.func27 (by kernel_rfl)
attribute [irreducible] impl_digits

/-! ### impl_leap: function 65 -/
def a_impl_leap : Ann := ⟨[], []⟩
noncomputable def d_impl_leap : List (Nat × Con) := []
noncomputable def impl_leap (k : Nat) (a : (Ty.den T3)) : Option (den1 [T4]) := evFn Γ d_impl_leap a_impl_leap Tryz.f65 [.val T3] [T4] k (a, ())
theorem impl_leap_eq (k : Nat) (a : (Ty.den T3)) : impl_leap k a = br (!4 == 0) (br (Int.tmod a 4 == 0) (br (!100 == 0) (br (Int.tmod a 100 != 0) (some true) (br (!400 == 0) (some (Int.tmod a 400 == 0)) (none))) (none)) (some false)) (none) := by kernel_rfl
noncomputable def c_impl_leap : Con := ⟨[.val T3], [T4], fun k x => impl_leap k x.1⟩
theorem del_impl_leap {w0 : World} (hS : Stops w0) : DelOk Tryz.prog w0 d_impl_leap := .nil
theorem ok_impl_leap {w0 : World} (hS : Stops w0) : ConOk Tryz.prog w0 65 c_impl_leap := fn_sound (A := a_impl_leap) tab_ok (del_impl_leap hS) (draws (del_impl_leap hS)) Tryz.func65 (by kernel_rfl) fun _ _ => rfl
theorem ent_impl_leap : Enters' Tryz.prog 65 := enters' Tryz.func65 (by kernel_rfl)
attribute [irreducible] impl_leap

/-! ### impl_monthDays: function 44 -/
def a_impl_monthDays : Ann := ⟨[], []⟩
noncomputable def d_impl_monthDays : List (Nat × Con) := [(65, c_impl_leap)]
noncomputable def impl_monthDays (k : Nat) (a : (Ty.den T3)) (b : (Ty.den T3)) : Option (den1 [T3]) := evFn Γ d_impl_monthDays a_impl_monthDays Tryz.f44 [.val T3, .val T3] [T3] k (a, b, ())
theorem impl_monthDays_eq (k : Nat) (a : (Ty.den T3)) (b : (Ty.den T3)) : impl_monthDays k a b = br (b == 2) (bnd (impl_leap k a) (fun y1 => br (y1) (some 29) (some 28))) (br (b == 4) (br (b == 4) (some 30) (some 31)) (br (b == 6) (br (b == 6) (some 30) (some 31)) (br (b == 9) (br (b == 9) (some 30) (some 31)) (br (b == 11) (some 30) (some 31))))) := by kernel_rfl
noncomputable def c_impl_monthDays : Con := ⟨[.val T3, .val T3], [T3], fun k x => impl_monthDays k x.1 x.2.1⟩
theorem del_impl_monthDays {w0 : World} (hS : Stops w0) : DelOk Tryz.prog w0 d_impl_monthDays := .cons (ok_impl_leap hS) ent_impl_leap (.nil)
theorem ok_impl_monthDays {w0 : World} (hS : Stops w0) : ConOk Tryz.prog w0 44 c_impl_monthDays := fn_sound (A := a_impl_monthDays) tab_ok (del_impl_monthDays hS) (draws (del_impl_monthDays hS)) Tryz.func44 (by kernel_rfl) fun _ _ => rfl
theorem ent_impl_monthDays : Enters' Tryz.prog 44 := enters' Tryz.func44 (by kernel_rfl)
attribute [irreducible] impl_monthDays

/-! ### impl_DayOf: function 29 -/
def a_impl_DayOf : Ann := ⟨[(0, [.val 0 T3, .val 1 T3, .val 2 T3, .var 6 T23 [], .val 9 T3, .val 10 T3], ⟨[.val 2 T3, .var 6 T23 [], .val 9 T3], true⟩)], []⟩
noncomputable def d_impl_DayOf : List (Nat × Con) := [(44, c_impl_monthDays)]
noncomputable def impl_DayOf (k : Nat) (a : (Ty.den T3)) (b : (Ty.den T3)) (c : (Ty.den T3)) : Option (den1 [T23, T3]) := evFn Γ d_impl_DayOf a_impl_DayOf Tryz.f29 [.val T3, .val T3, .val T3] [T23, T3] k (a, b, c, ())
noncomputable def impl_DayOf_l0 (k : Nat) (v0 : (Ty.den T3)) (v1 : (Ty.den T3)) (v2 : (Ty.den T3)) (v6 : (Ty.den T23)) (v9 : (Ty.den T3)) (v10 : (Ty.den T3)) : Option (Items.den [.val 2 T3, .var 6 T23 [], .val 9 T3]) := loopQ (ρ := (den1 [T23, T3])) 0 [.val 0 T3, .val 1 T3, .val 2 T3, .var 6 T23 [], .val 9 T3, .val 10 T3] [.val 2 T3, .var 6 T23 [], .val 9 T3] (runOf Γ d_impl_DayOf a_impl_DayOf Tryz.f29 [T23, T3] 0) k (v0, v1, v2, v6, v9, v10)
theorem impl_DayOf_eq (k : Nat) (a : (Ty.den T3)) (b : (Ty.den T3)) (c : (Ty.den T3)) : impl_DayOf k a b c = br (decide (a < 1)) (some (((0 : Int), (0 : Int), (0 : Int), ([] : List UInt8), ()), 3)) (br (decide (a > 9999)) (some (((0 : Int), (0 : Int), (0 : Int), ([] : List UInt8), ()), 3)) (br (decide (b < 1)) (some (((0 : Int), (0 : Int), (0 : Int), ([] : List UInt8), ()), 3)) (br (decide (b > 12)) (some (((0 : Int), (0 : Int), (0 : Int), ([] : List UInt8), ()), 3)) (br (decide (c < 1)) (some (((0 : Int), (0 : Int), (0 : Int), ([] : List UInt8), ()), 3)) (bnd (impl_monthDays k a b) (fun y1 => br (decide (c > y1)) (some (((0 : Int), (0 : Int), (0 : Int), ([] : List UInt8), ()), 3)) (br (!4 == 0) (br (!100 == 0) (br (!400 == 0) (bnd (impl_DayOf_l0 k a b c ((0 : Int), (0 : Int), (0 : Int), ([] : List UInt8), ()) (IntKind.i64.wrap (IntKind.i64.wrap (IntKind.i64.wrap (IntKind.i64.wrap (365 * IntKind.i64.wrap (a - 1)) + IntKind.i64.wrap ((IntKind.i64.wrap (a - 1)).tdiv 4)) - IntKind.i64.wrap ((IntKind.i64.wrap (a - 1)).tdiv 100)) + IntKind.i64.wrap ((IntKind.i64.wrap (a - 1)).tdiv 400))) 1) (fun y2 => some (((5 : Int), IntKind.i64.wrap (IntKind.i64.wrap (y2.2.2 + y2.1) - 1), (0 : Int), ([] : List UInt8), ()), 0))) (none)) (none)) (none)))))))) := by kernel_rfl
theorem impl_DayOf_l0_zero (v0 : (Ty.den T3)) (v1 : (Ty.den T3)) (v2 : (Ty.den T3)) (v6 : (Ty.den T23)) (v9 : (Ty.den T3)) (v10 : (Ty.den T3)) : impl_DayOf_l0 0 v0 v1 v2 v6 v9 v10 = none := by kernel_rfl
theorem impl_DayOf_l0_succ (k : Nat) (v0 : (Ty.den T3)) (v1 : (Ty.den T3)) (v2 : (Ty.den T3)) (v6 : (Ty.den T23)) (v9 : (Ty.den T3)) (v10 : (Ty.den T3)) : impl_DayOf_l0 (k + 1) v0 v1 v2 v6 v9 v10 = br (decide (v10 < v1)) (bnd (impl_monthDays k v0 v10) (fun y1 => impl_DayOf_l0 k v0 v1 v2 v6 (IntKind.i64.wrap (v9 + y1)) (IntKind.i64.wrap (v10 + 1)))) (some (v2, v6, v9)) := by kernel_rfl
noncomputable def c_impl_DayOf : Con := ⟨[.val T3, .val T3, .val T3], [T23, T3], fun k x => impl_DayOf k x.1 x.2.1 x.2.2.1⟩
theorem del_impl_DayOf {w0 : World} (hS : Stops w0) : DelOk Tryz.prog w0 d_impl_DayOf := .cons (ok_impl_monthDays hS) ent_impl_monthDays (.nil)
theorem ok_impl_DayOf {w0 : World} (hS : Stops w0) : ConOk Tryz.prog w0 29 c_impl_DayOf := fn_sound (A := a_impl_DayOf) tab_ok (del_impl_DayOf hS) (draws (del_impl_DayOf hS)) Tryz.func29 (by kernel_rfl) fun _ _ => rfl
theorem ent_impl_DayOf : Enters' Tryz.prog 29 := enters' Tryz.func29 (by kernel_rfl)
attribute [irreducible] impl_DayOf impl_DayOf_l0

/-! ### impl_readDay: function 15 -/
def a_impl_readDay : Ann := ⟨[], []⟩
noncomputable def d_impl_readDay : List (Nat × Con) := [(27, c_impl_digits), (28, c_strconv_Atoi), (29, c_impl_DayOf)]
noncomputable def impl_readDay (k : Nat) (a : (Ty.den T9)) : Option (den1 [T23, T3]) := evFn Γ d_impl_readDay a_impl_readDay Tryz.f15 [.val T9] [T23, T3] k (a, ())
theorem impl_readDay_eq (k : Nat) (a : (Ty.den T9)) : impl_readDay k a = br ((↑(List.length a) : Int) != 10) (some (((0 : Int), (0 : Int), (0 : Int), ([] : List UInt8), ()), 5)) (br (decide (0 ≤ 4)) (br (decide (4 < (↑(List.length a) : Int))) (br ((↑(List.getD a (Int.toNat 4) 0).toNat : Int) != 45) (some (((0 : Int), (0 : Int), (0 : Int), ([] : List UInt8), ()), 5)) (br (decide (0 ≤ 7)) (br (decide (7 < (↑(List.length a) : Int))) (br ((↑(List.getD a (Int.toNat 7) 0).toNat : Int) != 45) (some (((0 : Int), (0 : Int), (0 : Int), ([] : List UInt8), ()), 5)) (br (decide (0 ≤ 4)) (br (decide (4 ≤ (↑(List.length a) : Int))) (br (decide (0 ≤ 5)) (br (decide (5 ≤ 7)) (br (decide (7 ≤ (↑(List.length a) : Int))) (br (decide ((List.take (Int.toNat 4) a).length + (List.drop (Int.toNat 5) (List.take (Int.toNat 7) a)).length ≤ capN)) (br (decide (0 ≤ 8)) (br (decide (8 ≤ (↑(List.length a) : Int))) (br (decide ((List.take (Int.toNat 4) a ++ List.drop (Int.toNat 5) (List.take (Int.toNat 7) a)).length + (List.drop (Int.toNat 8) a).length ≤ capN)) (bnd (impl_digits k (List.take (Int.toNat 4) a ++ List.drop (Int.toNat 5) (List.take (Int.toNat 7) a) ++ List.drop (Int.toNat 8) a)) (fun y1 => br (!y1) (some (((0 : Int), (0 : Int), (0 : Int), ([] : List UInt8), ()), 5)) (br (decide (0 ≤ 4)) (br (decide (4 ≤ (↑(List.length a) : Int))) (bnd (strconv_Atoi k (List.take (Int.toNat 4) a)) (fun y2 => br (decide (0 ≤ 5)) (br (decide (5 ≤ 7)) (br (decide (7 ≤ (↑(List.length a) : Int))) (bnd (strconv_Atoi k (List.drop (Int.toNat 5) (List.take (Int.toNat 7) a))) (fun y3 => br (decide (0 ≤ 8)) (br (decide (8 ≤ (↑(List.length a) : Int))) (bnd (strconv_Atoi k (List.drop (Int.toNat 8) a)) (fun y4 => bnd (impl_DayOf k y2.1 y3.1 y4.1) (fun y5 => some (y5.1, y5.2)))) (none)) (none))) (none)) (none)) (none))) (none)) (none)))) (none)) (none)) (none)) (none)) (none)) (none)) (none)) (none)) (none))) (none)) (none))) (none)) (none)) := by kernel_rfl
noncomputable def c_impl_readDay : Con := ⟨[.val T9], [T23, T3], fun k x => impl_readDay k x.1⟩
theorem del_impl_readDay {w0 : World} (hS : Stops w0) : DelOk Tryz.prog w0 d_impl_readDay := .cons (ok_impl_digits hS) ent_impl_digits (.cons (hS.strconv_Atoi.1) hS.strconv_Atoi.2 (.cons (ok_impl_DayOf hS) ent_impl_DayOf (.nil)))
theorem ok_impl_readDay {w0 : World} (hS : Stops w0) : ConOk Tryz.prog w0 15 c_impl_readDay := fn_sound (A := a_impl_readDay) tab_ok (del_impl_readDay hS) (draws (del_impl_readDay hS)) Tryz.func15 (by kernel_rfl) fun _ _ => rfl
theorem ent_impl_readDay : Enters' Tryz.prog 15 := enters' Tryz.func15 (by kernel_rfl)
attribute [irreducible] impl_readDay

/-! ### impl_printable: function 17 -/
def a_impl_printable : Ann := ⟨[(0, [.val 0 T9, .val 3 T3], ⟨[], false⟩)], []⟩
noncomputable def d_impl_printable : List (Nat × Con) := []
noncomputable def impl_printable (k : Nat) (a : (Ty.den T9)) : Option (den1 [T4]) := evFn Γ d_impl_printable a_impl_printable Tryz.f17 [.val T9] [T4] k (a, ())
noncomputable def impl_printable_l0 (k : Nat) (v0 : (Ty.den T9)) (v3 : (Ty.den T3)) : Option ((Items.den []) ⊕ (den1 [T4])) := loopR (ρ := (den1 [T4])) 0 [.val 0 T9, .val 3 T3] [] (runOf Γ d_impl_printable a_impl_printable Tryz.f17 [T4] 0) k (v0, v3)
theorem impl_printable_eq (k : Nat) (a : (Ty.den T9)) : impl_printable k a = bnd (impl_printable_l0 k a 0) (fun y1 => onSum y1 (fun y2 => some true) (fun y2 => some y2)) := by kernel_rfl
theorem impl_printable_l0_zero (v0 : (Ty.den T9)) (v3 : (Ty.den T3)) : impl_printable_l0 0 v0 v3 = none := by kernel_rfl
theorem impl_printable_l0_succ (k : Nat) (v0 : (Ty.den T9)) (v3 : (Ty.den T3)) : impl_printable_l0 (k + 1) v0 v3 = br (decide (v3 < (↑(List.length v0) : Int))) (br (decide (0 ≤ v3)) (br (decide (v3 < (↑(List.length v0) : Int))) (br (decide ((↑(List.getD v0 (Int.toNat v3) 0).toNat : Int) < 32)) (some (Sum.inr false)) (br (decide (0 ≤ v3)) (br (decide (v3 < (↑(List.length v0) : Int))) (br (decide ((↑(List.getD v0 (Int.toNat v3) 0).toNat : Int) > 126)) (some (Sum.inr false)) (impl_printable_l0 k v0 (IntKind.i64.wrap (v3 + 1)))) (none)) (none))) (none)) (none)) (some (Sum.inl ())) := by kernel_rfl
noncomputable def c_impl_printable : Con := ⟨[.val T9], [T4], fun k x => impl_printable k x.1⟩
theorem del_impl_printable {w0 : World} (hS : Stops w0) : DelOk Tryz.prog w0 d_impl_printable := .nil
theorem ok_impl_printable {w0 : World} (hS : Stops w0) : ConOk Tryz.prog w0 17 c_impl_printable := fn_sound (A := a_impl_printable) tab_ok (del_impl_printable hS) (draws (del_impl_printable hS)) Tryz.func17 (by kernel_rfl) fun _ _ => rfl
theorem ent_impl_printable : Enters' Tryz.prog 17 := enters' Tryz.func17 (by kernel_rfl)
attribute [irreducible] impl_printable impl_printable_l0

/-! ### impl_intOf: function 34 -/
def a_impl_intOf : Ann := ⟨[], []⟩
noncomputable def d_impl_intOf : List (Nat × Con) := []
noncomputable def impl_intOf (k : Nat) (a : (Ty.den T3)) : Option (den1 [T23, T3]) := evFn Γ d_impl_intOf a_impl_intOf Tryz.f34 [.val T3] [T23, T3] k (a, ())
theorem impl_intOf_eq (k : Nat) (a : (Ty.den T3)) : impl_intOf k a = br (decide (a < -1000000000000000)) (some (((0 : Int), (0 : Int), (0 : Int), ([] : List UInt8), ()), 3)) (br (decide (a > 1000000000000000)) (some (((0 : Int), (0 : Int), (0 : Int), ([] : List UInt8), ()), 3)) (some (((2 : Int), a, (0 : Int), ([] : List UInt8), ()), 0))) := by kernel_rfl
noncomputable def c_impl_intOf : Con := ⟨[.val T3], [T23, T3], fun k x => impl_intOf k x.1⟩
theorem del_impl_intOf {w0 : World} (hS : Stops w0) : DelOk Tryz.prog w0 d_impl_intOf := .nil
theorem ok_impl_intOf {w0 : World} (hS : Stops w0) : ConOk Tryz.prog w0 34 c_impl_intOf := fn_sound (A := a_impl_intOf) tab_ok (del_impl_intOf hS) (draws (del_impl_intOf hS)) Tryz.func34 (by kernel_rfl) fun _ _ => rfl
theorem ent_impl_intOf : Enters' Tryz.prog 34 := enters' Tryz.func34 (by kernel_rfl)
attribute [irreducible] impl_intOf

/-! ### impl_decOf: function 35 -/
def a_impl_decOf : Ann := ⟨[(0, [.val 0 T3, .val 1 T3, .var 4 T23 []], ⟨[.val 0 T3, .val 1 T3, .var 4 T23 []], true⟩)], []⟩
noncomputable def d_impl_decOf : List (Nat × Con) := []
noncomputable def impl_decOf (k : Nat) (a : (Ty.den T3)) (b : (Ty.den T3)) : Option (den1 [T23, T3]) := evFn Γ d_impl_decOf a_impl_decOf Tryz.f35 [.val T3, .val T3] [T23, T3] k (a, b, ())
noncomputable def impl_decOf_l0 (k : Nat) (v0 : (Ty.den T3)) (v1 : (Ty.den T3)) (v4 : (Ty.den T23)) : Option (Items.den [.val 0 T3, .val 1 T3, .var 4 T23 []]) := loopQ (ρ := (den1 [T23, T3])) 0 [.val 0 T3, .val 1 T3, .var 4 T23 []] [.val 0 T3, .val 1 T3, .var 4 T23 []] (runOf Γ d_impl_decOf a_impl_decOf Tryz.f35 [T23, T3] 0) k (v0, v1, v4)
theorem impl_decOf_eq (k : Nat) (a : (Ty.den T3)) (b : (Ty.den T3)) : impl_decOf k a b = bnd (impl_decOf_l0 k a b ((0 : Int), (0 : Int), (0 : Int), ([] : List UInt8), ())) (fun y1 => br (decide (y1.1 < -1000000000)) (some (((0 : Int), (0 : Int), (0 : Int), ([] : List UInt8), ()), 3)) (br (decide (y1.1 > 1000000000)) (some (((0 : Int), (0 : Int), (0 : Int), ([] : List UInt8), ()), 3)) (some (((3 : Int), y1.1, y1.2.1, ([] : List UInt8), ()), 0)))) := by kernel_rfl
theorem impl_decOf_l0_zero (v0 : (Ty.den T3)) (v1 : (Ty.den T3)) (v4 : (Ty.den T23)) : impl_decOf_l0 0 v0 v1 v4 = none := by kernel_rfl
theorem impl_decOf_l0_succ (k : Nat) (v0 : (Ty.den T3)) (v1 : (Ty.den T3)) (v4 : (Ty.den T23)) : impl_decOf_l0 (k + 1) v0 v1 v4 = br (decide (v1 > 0)) (br (!10 == 0) (br (Int.tmod v0 10 == 0) (br (!10 == 0) (impl_decOf_l0 k (IntKind.i64.wrap (Int.tdiv v0 10)) (IntKind.i64.wrap (v1 - 1)) v4) (none)) (some (v0, v1, v4.1, v4.2.1, v4.2.2.1, v4.2.2.2.1, ()))) (none)) (some (v0, v1, v4.1, v4.2.1, v4.2.2.1, v4.2.2.2.1, ())) := by kernel_rfl
noncomputable def c_impl_decOf : Con := ⟨[.val T3, .val T3], [T23, T3], fun k x => impl_decOf k x.1 x.2.1⟩
theorem del_impl_decOf {w0 : World} (hS : Stops w0) : DelOk Tryz.prog w0 d_impl_decOf := .nil
theorem ok_impl_decOf {w0 : World} (hS : Stops w0) : ConOk Tryz.prog w0 35 c_impl_decOf := fn_sound (A := a_impl_decOf) tab_ok (del_impl_decOf hS) (draws (del_impl_decOf hS)) Tryz.func35 (by kernel_rfl) fun _ _ => rfl
theorem ent_impl_decOf : Enters' Tryz.prog 35 := enters' Tryz.func35 (by kernel_rfl)
attribute [irreducible] impl_decOf impl_decOf_l0

/-! ### impl_p10: function 36 -/
def a_impl_p10 : Ann := ⟨[(0, [.val 0 T3, .val 3 T3], ⟨[.val 3 T3], true⟩)], []⟩
noncomputable def d_impl_p10 : List (Nat × Con) := []
noncomputable def impl_p10 (k : Nat) (a : (Ty.den T3)) : Option (den1 [T3]) := evFn Γ d_impl_p10 a_impl_p10 Tryz.f36 [.val T3] [T3] k (a, ())
noncomputable def impl_p10_l0 (k : Nat) (v0 : (Ty.den T3)) (v3 : (Ty.den T3)) : Option (Items.den [.val 3 T3]) := loopQ (ρ := (den1 [T3])) 0 [.val 0 T3, .val 3 T3] [.val 3 T3] (runOf Γ d_impl_p10 a_impl_p10 Tryz.f36 [T3] 0) k (v0, v3)
theorem impl_p10_eq (k : Nat) (a : (Ty.den T3)) : impl_p10 k a = bnd (impl_p10_l0 k a 1) (fun y1 => some y1) := by kernel_rfl
theorem impl_p10_l0_zero (v0 : (Ty.den T3)) (v3 : (Ty.den T3)) : impl_p10_l0 0 v0 v3 = none := by kernel_rfl
theorem impl_p10_l0_succ (k : Nat) (v0 : (Ty.den T3)) (v3 : (Ty.den T3)) : impl_p10_l0 (k + 1) v0 v3 = br (decide (v0 > 0)) (impl_p10_l0 k (IntKind.i64.wrap (v0 - 1)) (IntKind.i64.wrap (v3 * 10))) (some v3) := by kernel_rfl
noncomputable def c_impl_p10 : Con := ⟨[.val T3], [T3], fun k x => impl_p10 k x.1⟩
theorem del_impl_p10 {w0 : World} (hS : Stops w0) : DelOk Tryz.prog w0 d_impl_p10 := .nil
theorem ok_impl_p10 {w0 : World} (hS : Stops w0) : ConOk Tryz.prog w0 36 c_impl_p10 := fn_sound (A := a_impl_p10) tab_ok (del_impl_p10 hS) (draws (del_impl_p10 hS)) Tryz.func36 (by kernel_rfl) fun _ _ => rfl
theorem ent_impl_p10 : Enters' Tryz.prog 36 := enters' Tryz.func36 (by kernel_rfl)
attribute [irreducible] impl_p10 impl_p10_l0

/-! ### impl_readNum: function 20 -/
def a_impl_readNum : Ann := ⟨[], [(5, ⟨[.var 2 T23 [], .val 5 T4, .val 6 T9, .val 7 T9, .val 8 T4], false⟩), (7, ⟨[.var 2 T23 [], .val 5 T4, .val 6 T9, .val 7 T9, .val 8 T4], false⟩), (10, ⟨[.var 2 T23 [], .val 5 T4, .val 7 T9, .val 8 T4, .val 9 T3], false⟩), (13, ⟨[.var 2 T23 [], .val 7 T9, .val 8 T4, .val 9 T3, .val 11 T3], true⟩), (20, ⟨[.var 2 T23 [], .val 7 T9, .val 9 T3, .val 11 T3, .val 12 T3], true⟩)]⟩
noncomputable def d_impl_readNum : List (Nat × Con) := [(13, c_strings_CutPrefix), (27, c_impl_digits), (28, c_strconv_Atoi), (33, c_strings_Cut), (34, c_impl_intOf), (35, c_impl_decOf), (36, c_impl_p10)]
noncomputable def impl_readNum (k : Nat) (a : (Ty.den T9)) : Option (den1 [T23, T3]) := evFn Γ d_impl_readNum a_impl_readNum Tryz.f20 [.val T9] [T23, T3] k (a, ())
theorem impl_readNum_eq (k : Nat) (a : (Ty.den T9)) : impl_readNum k a = bnd (strings_CutPrefix k a [45]) (fun y1 => bnd (strings_Cut k y1.1 [46]) (fun y2 => bnd (bnd (impl_digits k y2.1) (fun y3 => br (!y3) (some (Sum.inr (((0 : Int), (0 : Int), (0 : Int), ([] : List UInt8), ()), 5))) (br (decide ((↑(List.length y2.1) : Int) > 16)) (some (Sum.inr (((0 : Int), (0 : Int), (0 : Int), ([] : List UInt8), ()), 5))) (br (decide ((↑(List.length y2.1) : Int) > 1)) (br (decide (0 ≤ 0)) (br (decide (0 < (↑(List.length y2.1) : Int))) (br ((↑(List.getD y2.1 (Int.toNat 0) 0).toNat : Int) == 48) (some (Sum.inr (((0 : Int), (0 : Int), (0 : Int), ([] : List UInt8), ()), 5))) (some (Sum.inl (((0 : Int), (0 : Int), (0 : Int), ([] : List UInt8), ()), y1.2, y2.1, y2.2.1, y2.2.2)))) (none)) (none)) (some (Sum.inl (((0 : Int), (0 : Int), (0 : Int), ([] : List UInt8), ()), y1.2, y2.1, y2.2.1, y2.2.2))))))) (fun y3 => onSum y3 (fun y4 => bnd (br (y4.2.2.2.2) (br (!y4.2.2.2.1 == []) (bnd (impl_digits k y4.2.2.2.1) (fun y5 => br (!y5) (some (Sum.inr (((0 : Int), (0 : Int), (0 : Int), ([] : List UInt8), ()), 5))) (br (decide ((↑(List.length y4.2.2.2.1) : Int) > 6)) (some (Sum.inr (((0 : Int), (0 : Int), (0 : Int), ([] : List UInt8), ()), 5))) (br (decide (0 ≤ IntKind.i64.wrap ((↑(List.length y4.2.2.2.1) : Int) - 1))) (br (decide (IntKind.i64.wrap ((↑(List.length y4.2.2.2.1) : Int) - 1) < (↑(List.length y4.2.2.2.1) : Int))) (br ((↑(List.getD y4.2.2.2.1 (IntKind.i64.wrap ((↑(List.length y4.2.2.2.1) : Int) - 1)).toNat 0).toNat : Int) == 48) (some (Sum.inr (((0 : Int), (0 : Int), (0 : Int), ([] : List UInt8), ()), 5))) (some (Sum.inl (y4.1, y4.2.1, y4.2.2.1, y4.2.2.2.1, y4.2.2.2.2)))) (none)) (none))))) (some (Sum.inl (y4.1, y4.2.1, y4.2.2.1, y4.2.2.2.1, y4.2.2.2.2)))) (some (Sum.inl (y4.1, y4.2.1, y4.2.2.1, y4.2.2.2.1, y4.2.2.2.2)))) (fun y5 => onSum y5 (fun y6 => bnd (strconv_Atoi k y6.2.2.1) (fun y7 => bnd (br (y7.1 == 0) (br (y6.2.1) (br (y6.2.2.2.1 == []) (some (Sum.inr (((0 : Int), (0 : Int), (0 : Int), ([] : List UInt8), ()), 5))) (some (Sum.inl (y6.1, y6.2.1, y6.2.2.2.1, y6.2.2.2.2, y7.1)))) (some (Sum.inl (y6.1, y6.2.1, y6.2.2.2.1, y6.2.2.2.2, y7.1)))) (some (Sum.inl (y6.1, y6.2.1, y6.2.2.2.1, y6.2.2.2.2, y7.1)))) (fun y8 => onSum y8 (fun y9 => bnd (br (y9.2.1) (some (y9.1, y9.2.2.1, y9.2.2.2.1, y9.2.2.2.2, -1)) (some (y9.1, y9.2.2.1, y9.2.2.2.1, y9.2.2.2.2, 1))) (fun y10 => br (!y10.2.2.1) (bnd (impl_intOf k (IntKind.i64.wrap (y10.2.2.2.2 * y10.2.2.2.1))) (fun y11 => some (y11.1, y11.2))) (br (decide (y10.2.2.2.1 > 1000000000)) (some (((0 : Int), (0 : Int), (0 : Int), ([] : List UInt8), ()), 3)) (bnd (br (!y10.2.1 == []) (bnd (strconv_Atoi k y10.2.1) (fun y11 => some (y10.1, y10.2.1, y10.2.2.2.1, y10.2.2.2.2, y11.1))) (some (y10.1, y10.2.1, y10.2.2.2.1, y10.2.2.2.2, 0))) (fun y11 => bnd (impl_p10 k (↑(List.length y11.2.1) : Int)) (fun y12 => bnd (impl_decOf k (IntKind.i64.wrap (y11.2.2.2.1 * IntKind.i64.wrap (IntKind.i64.wrap (y11.2.2.1 * y12) + y11.2.2.2.2))) (↑(List.length y11.2.1) : Int)) (fun y13 => some (y13.1, y13.2)))))))) (fun y9 => some y9)))) (fun y6 => some y6))) (fun y4 => some y4)))) := by kernel_rfl
noncomputable def c_impl_readNum : Con := ⟨[.val T9], [T23, T3], fun k x => impl_readNum k x.1⟩
theorem del_impl_readNum {w0 : World} (hS : Stops w0) : DelOk Tryz.prog w0 d_impl_readNum := .cons (hS.strings_CutPrefix.1) hS.strings_CutPrefix.2 (.cons (ok_impl_digits hS) ent_impl_digits (.cons (hS.strconv_Atoi.1) hS.strconv_Atoi.2 (.cons (hS.strings_Cut.1) hS.strings_Cut.2 (.cons (ok_impl_intOf hS) ent_impl_intOf (.cons (ok_impl_decOf hS) ent_impl_decOf (.cons (ok_impl_p10 hS) ent_impl_p10 (.nil)))))))
theorem ok_impl_readNum {w0 : World} (hS : Stops w0) : ConOk Tryz.prog w0 20 c_impl_readNum := fn_sound (A := a_impl_readNum) tab_ok (del_impl_readNum hS) (draws (del_impl_readNum hS)) Tryz.func20 (by kernel_rfl) fun _ _ => rfl
theorem ent_impl_readNum : Enters' Tryz.prog 20 := enters' Tryz.func20 (by kernel_rfl)
attribute [irreducible] impl_readNum

/-! ### impl_ReadValue: function 5 -/
def a_impl_ReadValue : Ann := ⟨[], []⟩
noncomputable def d_impl_ReadValue : List (Nat × Con) := [(13, c_strings_CutPrefix), (14, c_strings_CutSuffix), (15, c_impl_readDay), (16, c_strings_HasPrefix), (17, c_impl_printable), (18, c_strings_Contains), (19, c_strings_ReplaceAll), (20, c_impl_readNum)]
noncomputable def impl_ReadValue (k : Nat) (a : (Ty.den T9)) : Option (den1 [T23, T3]) := evFn Γ d_impl_ReadValue a_impl_ReadValue Tryz.f5 [.val T9] [T23, T3] k (a, ())
theorem impl_ReadValue_eq (k : Nat) (a : (Ty.den T9)) : impl_ReadValue k a = br (a == [110, 117, 108, 108]) (some (((0 : Int), (0 : Int), (0 : Int), ([] : List UInt8), ()), 0)) (br (a == [116, 114, 117, 101]) (some (((1 : Int), (1 : Int), (0 : Int), ([] : List UInt8), ()), 0)) (br (a == [102, 97, 108, 115, 101]) (some (((1 : Int), (0 : Int), (0 : Int), ([] : List UInt8), ()), 0)) (bnd (strings_CutPrefix k a [100, 97, 121, 32, 39]) (fun y1 => br (y1.2) (bnd (strings_CutSuffix k y1.1 [39]) (fun y2 => br (!y2.2) (some (((0 : Int), (0 : Int), (0 : Int), ([] : List UInt8), ()), 5)) (bnd (impl_readDay k y2.1) (fun y3 => some (y3.1, y3.2))))) (bnd (strings_HasPrefix k a [39]) (fun y2 => br (y2) (br (decide ((↑(List.length a) : Int) < 2)) (some (((0 : Int), (0 : Int), (0 : Int), ([] : List UInt8), ()), 5)) (br (decide ((↑(List.length a) : Int) > 402)) (some (((0 : Int), (0 : Int), (0 : Int), ([] : List UInt8), ()), 5)) (br (decide (0 ≤ IntKind.i64.wrap ((↑(List.length a) : Int) - 1))) (br (decide (IntKind.i64.wrap ((↑(List.length a) : Int) - 1) < (↑(List.length a) : Int))) (br ((↑(List.getD a (IntKind.i64.wrap ((↑(List.length a) : Int) - 1)).toNat 0).toNat : Int) != 39) (some (((0 : Int), (0 : Int), (0 : Int), ([] : List UInt8), ()), 5)) (bnd (impl_printable k a) (fun y3 => br (!y3) (some (((0 : Int), (0 : Int), (0 : Int), ([] : List UInt8), ()), 5)) (br (decide (0 ≤ 1)) (br (decide (1 ≤ IntKind.i64.wrap ((↑(List.length a) : Int) - 1))) (br (decide (IntKind.i64.wrap ((↑(List.length a) : Int) - 1) ≤ (↑(List.length a) : Int))) (bnd (strings_ReplaceAll k (List.drop (Int.toNat 1) (List.take (IntKind.i64.wrap ((↑(List.length a) : Int) - 1)).toNat a)) [39, 39] []) (fun y4 => bnd (strings_Contains k y4 [39]) (fun y5 => br (y5) (some (((0 : Int), (0 : Int), (0 : Int), ([] : List UInt8), ()), 5)) (bnd (strings_ReplaceAll k (List.drop (Int.toNat 1) (List.take (IntKind.i64.wrap ((↑(List.length a) : Int) - 1)).toNat a)) [39, 39] [39]) (fun y6 => br (decide ((↑(List.length y6) : Int) > 200)) (some (((0 : Int), (0 : Int), (0 : Int), ([] : List UInt8), ()), 3)) (some ((4, 0, 0, y6, ()), 0))))))) (none)) (none)) (none))))) (none)) (none)))) (bnd (impl_readNum k a) (fun y3 => some (y3.1, y3.2))))))))) := by kernel_rfl
noncomputable def c_impl_ReadValue : Con := ⟨[.val T9], [T23, T3], fun k x => impl_ReadValue k x.1⟩
theorem del_impl_ReadValue {w0 : World} (hS : Stops w0) : DelOk Tryz.prog w0 d_impl_ReadValue := .cons (hS.strings_CutPrefix.1) hS.strings_CutPrefix.2 (.cons (hS.strings_CutSuffix.1) hS.strings_CutSuffix.2 (.cons (ok_impl_readDay hS) ent_impl_readDay (.cons (hS.strings_HasPrefix.1) hS.strings_HasPrefix.2 (.cons (ok_impl_printable hS) ent_impl_printable (.cons (hS.strings_Contains.1) hS.strings_Contains.2 (.cons (hS.strings_ReplaceAll.1) hS.strings_ReplaceAll.2 (.cons (ok_impl_readNum hS) ent_impl_readNum (.nil))))))))
theorem ok_impl_ReadValue {w0 : World} (hS : Stops w0) : ConOk Tryz.prog w0 5 c_impl_ReadValue := fn_sound (A := a_impl_ReadValue) tab_ok (del_impl_ReadValue hS) (draws (del_impl_ReadValue hS)) Tryz.func5 (by kernel_rfl) fun _ _ => rfl
theorem ent_impl_ReadValue : Enters' Tryz.prog 5 := enters' Tryz.func5 (by kernel_rfl)
attribute [irreducible] impl_ReadValue

/-! ### laws_eqValue: function 6 -/
def a_laws_eqValue : Ann := ⟨[], []⟩
noncomputable def d_laws_eqValue : List (Nat × Con) := []
noncomputable def laws_eqValue (k : Nat) (a : (Ty.den T23)) (b : (Ty.den T23)) : Option (den1 [T4]) := evFn Γ d_laws_eqValue a_laws_eqValue Tryz.f6 [.val T23, .val T23] [T4] k (a, b, ())
theorem laws_eqValue_eq (k : Nat) (a : (Ty.den T23)) (b : (Ty.den T23)) : laws_eqValue k a b = br (a.1 != b.1) (some false) (br (a.2.1 != b.2.1) (some false) (br (a.2.2.1 != b.2.2.1) (some false) (br (!a.2.2.2.1 == b.2.2.2.1) (some false) (some true)))) := by kernel_rfl
noncomputable def c_laws_eqValue : Con := ⟨[.val T23, .val T23], [T4], fun k x => laws_eqValue k x.1 x.2.1⟩
theorem del_laws_eqValue {w0 : World} (hS : Stops w0) : DelOk Tryz.prog w0 d_laws_eqValue := .nil
theorem ok_laws_eqValue {w0 : World} (hS : Stops w0) : ConOk Tryz.prog w0 6 c_laws_eqValue := fn_sound (A := a_laws_eqValue) tab_ok (del_laws_eqValue hS) (draws (del_laws_eqValue hS)) Tryz.func6 (by kernel_rfl) fun _ _ => rfl
theorem ent_laws_eqValue : Enters' Tryz.prog 6 := enters' Tryz.func6 (by kernel_rfl)
attribute [irreducible] laws_eqValue

/-! ### laws_FnExactReadValue: function 3 -/
def a_laws_FnExactReadValue : Ann := ⟨[], []⟩
noncomputable def d_laws_FnExactReadValue : List (Nat × Con) := [(4, c_spec_ReadValue), (5, c_impl_ReadValue), (6, c_laws_eqValue)]
noncomputable def laws_FnExactReadValue (k : Nat) (a : (Ty.den T9)) : Option (den1 [T4]) := evFn Γ d_laws_FnExactReadValue a_laws_FnExactReadValue Tryz.f3 [.val T9] [T4] k (a, ())
theorem laws_FnExactReadValue_eq (k : Nat) (a : (Ty.den T9)) : laws_FnExactReadValue k a = br (decide ((↑(List.length a) : Int) > 1048576)) (some true) (bnd (spec_ReadValue k a) (fun y1 => bnd (impl_ReadValue k a) (fun y2 => bnd (laws_eqValue k y2.1 y1.1) (fun y3 => br (!y3) (some false) (br (y2.2 != y1.2) (some false) (some true)))))) := by kernel_rfl
noncomputable def c_laws_FnExactReadValue : Con := ⟨[.val T9], [T4], fun k x => laws_FnExactReadValue k x.1⟩
theorem del_laws_FnExactReadValue {w0 : World} (hS : Stops w0) : DelOk Tryz.prog w0 d_laws_FnExactReadValue := .cons (ok_spec_ReadValue hS) ent_spec_ReadValue (.cons (ok_impl_ReadValue hS) ent_impl_ReadValue (.cons (ok_laws_eqValue hS) ent_laws_eqValue (.nil)))
theorem ok_laws_FnExactReadValue {w0 : World} (hS : Stops w0) : ConOk Tryz.prog w0 3 c_laws_FnExactReadValue := fn_sound (A := a_laws_FnExactReadValue) tab_ok (del_laws_FnExactReadValue hS) (draws (del_laws_FnExactReadValue hS)) Tryz.func3 (by kernel_rfl) fun _ _ => rfl
theorem ent_laws_FnExactReadValue : Enters' Tryz.prog 3 := enters' Tryz.func3 (by kernel_rfl)
attribute [irreducible] laws_FnExactReadValue

end Go.Ev.T1
