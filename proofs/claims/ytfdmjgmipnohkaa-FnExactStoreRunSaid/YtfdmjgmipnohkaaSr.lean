import Derived.Test.YtfdmjgmipnohkaaSrTab6
import Derived.Test.YtfdmjgmipnohkaaSrEvG
import Derived.Lib.IndexMore
set_option linter.unusedVariables false
namespace Go.Ev.T1
noncomputable section
open Go.Proofs Go
set_option maxRecDepth 100000
def c_sort_SliceStable : Con := ⟨[.srt [82]], [], fun _ _ => none⟩
structure Stops (w0 : World) : Prop where
 sort_SliceStable : Keeps Try.prog w0 31 c_sort_SliceStable ∧ Enters' Try.prog 31 ∧ SrtCon Try.prog 31 c_sort_SliceStable
theorem y30q : TabOk Try.prog Γ := tab_of (by kernel_rfl)
theorem y56q : TabOk Try.prog Γo := tab_of (by kernel_rfl)
theorem drawso {w0 : World} {Δ : List (Nat × Con)} (h : DelOk Try.prog w0 Δ) {w : World} (hb : Go.RowKit.Below w0.heap.size w0 w) : DrawSound Try.prog w Γo Δ := draws_of y56q h (by kernel_rfl) hb
theorem draws {w0 : World} {Δ : List (Nat × Con)} (h : DelOk Try.prog w0 Δ) {w : World} (hb : Go.RowKit.Below w0.heap.size w0 w) : DrawSound Try.prog w Γ Δ := draws_of y30q h (by kernel_rfl) hb
abbrev X157_v_0 : Ty := .osl 5 T5
abbrev X39_v_0 : Ty := .osl 88 T88
abbrev X86_v_0_1 : Ty := .pair (.osl 92 T92) (.pair (.osl 150 T150) (.pair T84 (.unit)))
abbrev X86_v_1 : Ty := .pair T82 (.pair (.osl 150 T150) (.pair T84 (.unit)))
def a_u0f : Ann := ⟨[], []⟩
def d_u0f : List (Nat × Con) := []
def u0f (k : Nat) (a : T79.den) (b : T3.den) : Option (den1 [T3]) := evFn Γ d_u0f a_u0f Try.f79 [.val T79, .val T3] [T3] k (a, b, ())
theorem u0f_eq (k : Nat) (a : T79.den) (b : T3.den) : u0f k a b = br (decide (IntKind.i64.wrap (b - (List.length a.1 : Int)) < 0)) (some (-1)) (br (decide (IntKind.i64.wrap (IntKind.i64.wrap (b - (List.length a.1 : Int)) - (List.length a.2.2.2.1 : Int)) < 0)) (some (-1)) (some (IntKind.i64.wrap (IntKind.i64.wrap (b - (List.length a.1 : Int)) - (List.length a.2.2.2.1 : Int))))) := by kernel_rfl
def c_u0f : Con := ⟨[.val T79, .val T3], [T3], fun k x => u0f k x.1 x.2.1⟩
theorem del_u0f {w0 : World} (hS : Stops w0) : DelOk Try.prog w0 d_u0f := .nil
theorem ok_u0f {w0 : World} (hS : Stops w0) : Keeps Try.prog w0 79 c_u0f := .con (y12q (A := a_u0f) y30q (del_u0f hS) (draws (del_u0f hS)) Try.func79 (by kernel_rfl) (fun k x => by kernel_rfl) (by kernel_rfl)) (by kernel_rfl)
theorem ent_u0f : Enters' Try.prog 79 := enters' Try.func79 (by kernel_rfl)
attribute [irreducible] u0f
def a_u1f : Ann := ⟨[], []⟩
def d_u1f : List (Nat × Con) := [(79, c_u0f)]
def u1f (k : Nat) (a : T81.den) (b : T3.den) : Option (den1 [T3]) := evFn Γ d_u1f a_u1f Try.f42 [.val T81, .val T3] [T3] k (a, b, ())
theorem u1f_eq (k : Nat) (a : T81.den) (b : T3.den) : u1f k a b = bnd (u0f k a.2.1 b) (fun y1 => br (decide (y1 < 0)) (some (-1)) (br (decide (IntKind.i64.wrap (y1 - (List.length a.2.2.1 : Int)) < 0)) (some (-1)) (br (decide (IntKind.i64.wrap (IntKind.i64.wrap (y1 - (List.length a.2.2.1 : Int)) - (List.length a.2.2.2.1 : Int)) < 0)) (some (-1)) (some (IntKind.i64.wrap (IntKind.i64.wrap (y1 - (List.length a.2.2.1 : Int)) - (List.length a.2.2.2.1 : Int))))))) := by kernel_rfl
def c_u1f : Con := ⟨[.val T81, .val T3], [T3], fun k x => u1f k x.1 x.2.1⟩
theorem del_u1f {w0 : World} (hS : Stops w0) : DelOk Try.prog w0 d_u1f := .cons (ok_u0f hS) ent_u0f (.nil)
theorem ok_u1f {w0 : World} (hS : Stops w0) : Keeps Try.prog w0 42 c_u1f := .con (y12q (A := a_u1f) y30q (del_u1f hS) (draws (del_u1f hS)) Try.func42 (by kernel_rfl) (fun k x => by kernel_rfl) (by kernel_rfl)) (by kernel_rfl)
theorem ent_u1f : Enters' Try.prog 42 := enters' Try.func42 (by kernel_rfl)
attribute [irreducible] u1f
def a_u2f : Ann := ⟨[(0, [.val 0 T37, .val 1 T3, .val 5 T3], ⟨[.val 1 T3], false⟩)], []⟩
def d_u2f : List (Nat × Con) := [(42, c_u1f)]
def u2f (k : Nat) (a : T37.den) (b : T3.den) : Option (den1 [T3]) := evFn Γ d_u2f a_u2f Try.f14 [.val T37, .val T3] [T3] k (a, b, ())
def u2f_l0 (k : Nat) (v0 : T37.den) (v1 : T3.den) (v5 : T3.den) : Option ((Items.den [.val 1 T3]) ⊕ (den1 [T3])) := loopR (ρ := (den1 [T3])) 0 [.val 0 T37, .val 1 T3, .val 5 T3] [.val 1 T3] (runOf Γ d_u2f a_u2f Try.f14 [.val T37, .val T3] [T3] 0) k (v0, v1, v5)
theorem u2f_eq (k : Nat) (a : T37.den) (b : T3.den) : u2f k a b = br (decide (IntKind.i64.wrap (b - (List.length a : Int)) < 0)) (some (-1)) (bnd (u2f_l0 k a (IntKind.i64.wrap (b - (List.length a : Int))) 0) (fun y1 => onSum y1 (fun y2 => some y2) (fun y2 => some y2))) := by kernel_rfl
theorem u2f_l0_zero (v0 : T37.den) (v1 : T3.den) (v5 : T3.den) : u2f_l0 0 v0 v1 v5 = none := by kernel_rfl
theorem u2f_l0_succ (k : Nat) (v0 : T37.den) (v1 : T3.den) (v5 : T3.den) : u2f_l0 (k + 1) v0 v1 v5 = br (decide (v5 < (List.length v0 : Int))) (br (decide (0 ≤ v5)) (br (decide (v5 < (List.length v0 : Int))) (bnd (u1f k (List.getD v0 (Int.toNat v5) T81.zero) v1) (fun y1 => br (decide (y1 < 0)) (some (Sum.inr (-1))) (u2f_l0 k v0 y1 (IntKind.i64.wrap (v5 + 1))))) (none)) (none)) (some (Sum.inl v1)) := by kernel_rfl
def c_u2f : Con := ⟨[.val T37, .val T3], [T3], fun k x => u2f k x.1 x.2.1⟩
theorem del_u2f {w0 : World} (hS : Stops w0) : DelOk Try.prog w0 d_u2f := .cons (ok_u1f hS) ent_u1f (.nil)
theorem ok_u2f {w0 : World} (hS : Stops w0) : Keeps Try.prog w0 14 c_u2f := .con (y12q (A := a_u2f) y30q (del_u2f hS) (draws (del_u2f hS)) Try.func14 (by kernel_rfl) (fun k x => by kernel_rfl) (by kernel_rfl)) (by kernel_rfl)
theorem ent_u2f : Enters' Try.prog 14 := enters' Try.func14 (by kernel_rfl)
attribute [irreducible] u2f u2f_l0
def a_u3f : Ann := ⟨[], []⟩
def d_u3f : List (Nat × Con) := []
def u3f (k : Nat) (a : T84.den) : Option (den1 [T4]) := evFn Γ d_u3f a_u3f Try.f126 [.val T84] [T4] k (a, ())
theorem u3f_eq (k : Nat) (a : T84.den) : u3f k a = br (decide (a.1 ≥ 0)) (br (decide (a.1 ≤ 1000000000000)) (br (decide (a.2.1 ≥ 0)) (some (decide (a.2.1 ≤ 1000000))) (some false)) (some false)) (some false) := by kernel_rfl
def c_u3f : Con := ⟨[.val T84], [T4], fun k x => u3f k x.1⟩
theorem del_u3f {w0 : World} (hS : Stops w0) : DelOk Try.prog w0 d_u3f := .nil
theorem ok_u3f {w0 : World} (hS : Stops w0) : Keeps Try.prog w0 126 c_u3f := .con (y12q (A := a_u3f) y30q (del_u3f hS) (draws (del_u3f hS)) Try.func126 (by kernel_rfl) (fun k x => by kernel_rfl) (by kernel_rfl)) (by kernel_rfl)
theorem ent_u3f : Enters' Try.prog 126 := enters' Try.func126 (by kernel_rfl)
attribute [irreducible] u3f
def a_u4f : Ann := ⟨[], []⟩
def d_u4f : List (Nat × Con) := []
def u4f (k : Nat) (a : T3.den) (b : T3.den) : Option (den1 [T3]) := evFn Γ d_u4f a_u4f Try.f59 [.val T3, .val T3] [T3] k (a, b, ())
theorem u4f_eq (k : Nat) (a : T3.den) (b : T3.den) : u4f k a b = br (decide (a < b)) (some (-1)) (br (decide (a > b)) (some 1) (some 0)) := by kernel_rfl
def c_u4f : Con := ⟨[.val T3, .val T3], [T3], fun k x => u4f k x.1 x.2.1⟩
theorem del_u4f {w0 : World} (hS : Stops w0) : DelOk Try.prog w0 d_u4f := .nil
theorem ok_u4f {w0 : World} (hS : Stops w0) : Keeps Try.prog w0 59 c_u4f := .con (y12q (A := a_u4f) y30q (del_u4f hS) (draws (del_u4f hS)) Try.func59 (by kernel_rfl) (fun k x => by kernel_rfl) (by kernel_rfl)) (by kernel_rfl)
theorem ent_u4f : Enters' Try.prog 59 := enters' Try.func59 (by kernel_rfl)
attribute [irreducible] u4f
def a_u5f : Ann := ⟨[], []⟩
def d_u5f : List (Nat × Con) := [(59, c_u4f)]
def u5f (k : Nat) (a : T84.den) (b : T84.den) : Option (den1 [T3]) := evFn Γ d_u5f a_u5f Try.f122 [.val T84, .val T84] [T3] k (a, b, ())
theorem u5f_eq (k : Nat) (a : T84.den) (b : T84.den) : u5f k a b = br (a.1 != b.1) (bnd (u4f k a.1 b.1) (fun y1 => some y1)) (bnd (u4f k a.2.1 b.2.1) (fun y1 => some y1)) := by kernel_rfl
def c_u5f : Con := ⟨[.val T84, .val T84], [T3], fun k x => u5f k x.1 x.2.1⟩
theorem del_u5f {w0 : World} (hS : Stops w0) : DelOk Try.prog w0 d_u5f := .cons (ok_u4f hS) ent_u4f (.nil)
theorem ok_u5f {w0 : World} (hS : Stops w0) : Keeps Try.prog w0 122 c_u5f := .con (y12q (A := a_u5f) y30q (del_u5f hS) (draws (del_u5f hS)) Try.func122 (by kernel_rfl) (fun k x => by kernel_rfl) (by kernel_rfl)) (by kernel_rfl)
theorem ent_u5f : Enters' Try.prog 122 := enters' Try.func122 (by kernel_rfl)
attribute [irreducible] u5f
def a_u6f : Ann := ⟨[], []⟩
def d_u6f : List (Nat × Con) := [(122, c_u5f)]
def u6f (k : Nat) (a : T92.den) (b : T92.den) : Option (den1 [T4]) := evFn Γ d_u6f a_u6f Try.f146 [.val T92, .val T92] [T4] k (a, b, ())
theorem u6f_eq (k : Nat) (a : T92.den) (b : T92.den) : u6f k a b = br (!a.1 == b.1) (some (Op.bytesLess a.1 b.1)) (bnd (u5f k a.2.1 b.2.1) (fun y1 => some (decide (y1 > 0)))) := by kernel_rfl
def c_u6f : Con := ⟨[.val T92, .val T92], [T4], fun k x => u6f k x.1 x.2.1⟩
theorem del_u6f {w0 : World} (hS : Stops w0) : DelOk Try.prog w0 d_u6f := .cons (ok_u5f hS) ent_u5f (.nil)
theorem ok_u6f {w0 : World} (hS : Stops w0) : Keeps Try.prog w0 146 c_u6f := .con (y12q (A := a_u6f) y30q (del_u6f hS) (draws (del_u6f hS)) Try.func146 (by kernel_rfl) (fun k x => by kernel_rfl) (by kernel_rfl)) (by kernel_rfl)
theorem ent_u6f : Enters' Try.prog 146 := enters' Try.func146 (by kernel_rfl)
attribute [irreducible] u6f
def a_u7f : Ann := ⟨[(0, [.val 0 T82, .val 1 T82, .val 5 O82, .val 6 T3, .val 7 T3], ⟨[.val 5 O82], true⟩)], []⟩
def d_u7f : List (Nat × Con) := [(146, c_u6f)]
def u7f (k : Nat) (a : T82.den) (b : T82.den) : Option (den1 [T82]) := evFn Γ d_u7f a_u7f Try.f145 [.val T82, .val T82] [T82] k (a, b, ())
def u7f_l0 (k : Nat) (v0 : T82.den) (v1 : T82.den) (v5 : O82.den) (v6 : T3.den) (v7 : T3.den) : Option (Items.den [.val 5 O82]) := loopQ (ρ := (den1 [T82])) 0 [.val 0 T82, .val 1 T82, .val 5 O82, .val 6 T3, .val 7 T3] [.val 5 O82] (runOf Γ d_u7f a_u7f Try.f145 [.val T82, .val T82] [T82] 0) k (v0, v1, v5, v6, v7)
theorem u7f_eq (k : Nat) (a : T82.den) (b : T82.den) : u7f k a b = bnd (u7f_l0 k a b [] 0 0) (fun y1 => some y1) := by kernel_rfl
theorem u7f_l0_zero (v0 : T82.den) (v1 : T82.den) (v5 : O82.den) (v6 : T3.den) (v7 : T3.den) : u7f_l0 0 v0 v1 v5 v6 v7 = none := by kernel_rfl
theorem u7f_l0_succ (k : Nat) (v0 : T82.den) (v1 : T82.den) (v5 : O82.den) (v6 : T3.den) (v7 : T3.den) : u7f_l0 (k + 1) v0 v1 v5 v6 v7 = br (decide (v6 < (List.length v0 : Int))) (br (decide (v7 ≥ (List.length v1 : Int))) (br (decide (0 ≤ v6)) (br (decide (v6 < (List.length v0 : Int))) (br (decide (List.length v5 + [(List.getD v0 (Int.toNat v6) T92.zero)].length ≤ capN)) (u7f_l0 k v0 v1 (v5 ++ [(List.getD v0 (Int.toNat v6) T92.zero)]) (IntKind.i64.wrap (v6 + 1)) v7) (none)) (none)) (none)) (br (decide (v6 < (List.length v0 : Int))) (br (decide (0 ≤ v6)) (br (decide (v6 < (List.length v0 : Int))) (br (decide (0 ≤ v7)) (br (decide (v7 < (List.length v1 : Int))) (bnd (u6f k (List.getD v0 (Int.toNat v6) T92.zero) (List.getD v1 (Int.toNat v7) T92.zero)) (fun y1 => br (y1) (br (decide (0 ≤ v6)) (br (decide (v6 < (List.length v0 : Int))) (br (decide (List.length v5 + [(List.getD v0 (Int.toNat v6) T92.zero)].length ≤ capN)) (u7f_l0 k v0 v1 (v5 ++ [(List.getD v0 (Int.toNat v6) T92.zero)]) (IntKind.i64.wrap (v6 + 1)) v7) (none)) (none)) (none)) (br (decide (0 ≤ v7)) (br (decide (v7 < (List.length v1 : Int))) (br (decide (List.length v5 + [(List.getD v1 (Int.toNat v7) T92.zero)].length ≤ capN)) (u7f_l0 k v0 v1 (v5 ++ [(List.getD v1 (Int.toNat v7) T92.zero)]) v6 (IntKind.i64.wrap (v7 + 1))) (none)) (none)) (none)))) (none)) (none)) (none)) (none)) (br (decide (0 ≤ v7)) (br (decide (v7 < (List.length v1 : Int))) (br (decide (List.length v5 + [(List.getD v1 (Int.toNat v7) T92.zero)].length ≤ capN)) (u7f_l0 k v0 v1 (v5 ++ [(List.getD v1 (Int.toNat v7) T92.zero)]) v6 (IntKind.i64.wrap (v7 + 1))) (none)) (none)) (none)))) (br (decide (v7 < (List.length v1 : Int))) (br (decide (v7 ≥ (List.length v1 : Int))) (br (decide (0 ≤ v6)) (br (decide (v6 < (List.length v0 : Int))) (br (decide (List.length v5 + [(List.getD v0 (Int.toNat v6) T92.zero)].length ≤ capN)) (u7f_l0 k v0 v1 (v5 ++ [(List.getD v0 (Int.toNat v6) T92.zero)]) (IntKind.i64.wrap (v6 + 1)) v7) (none)) (none)) (none)) (br (decide (v6 < (List.length v0 : Int))) (br (decide (0 ≤ v6)) (br (decide (v6 < (List.length v0 : Int))) (br (decide (0 ≤ v7)) (br (decide (v7 < (List.length v1 : Int))) (bnd (u6f k (List.getD v0 (Int.toNat v6) T92.zero) (List.getD v1 (Int.toNat v7) T92.zero)) (fun y1 => br (y1) (br (decide (0 ≤ v6)) (br (decide (v6 < (List.length v0 : Int))) (br (decide (List.length v5 + [(List.getD v0 (Int.toNat v6) T92.zero)].length ≤ capN)) (u7f_l0 k v0 v1 (v5 ++ [(List.getD v0 (Int.toNat v6) T92.zero)]) (IntKind.i64.wrap (v6 + 1)) v7) (none)) (none)) (none)) (br (decide (0 ≤ v7)) (br (decide (v7 < (List.length v1 : Int))) (br (decide (List.length v5 + [(List.getD v1 (Int.toNat v7) T92.zero)].length ≤ capN)) (u7f_l0 k v0 v1 (v5 ++ [(List.getD v1 (Int.toNat v7) T92.zero)]) v6 (IntKind.i64.wrap (v7 + 1))) (none)) (none)) (none)))) (none)) (none)) (none)) (none)) (br (decide (0 ≤ v7)) (br (decide (v7 < (List.length v1 : Int))) (br (decide (List.length v5 + [(List.getD v1 (Int.toNat v7) T92.zero)].length ≤ capN)) (u7f_l0 k v0 v1 (v5 ++ [(List.getD v1 (Int.toNat v7) T92.zero)]) v6 (IntKind.i64.wrap (v7 + 1))) (none)) (none)) (none)))) (some v5)) := by kernel_rfl
def c_u7f : Con := ⟨[.val T82, .val T82], [T82], fun k x => u7f k x.1 x.2.1⟩
theorem del_u7f {w0 : World} (hS : Stops w0) : DelOk Try.prog w0 d_u7f := .cons (ok_u6f hS) ent_u6f (.nil)
theorem ok_u7f {w0 : World} (hS : Stops w0) : Keeps Try.prog w0 145 c_u7f := .con (y12q (A := a_u7f) y30q (del_u7f hS) (draws (del_u7f hS)) Try.func145 (by kernel_rfl) (fun k x => by kernel_rfl) (by kernel_rfl)) (by kernel_rfl)
theorem ent_u7f : Enters' Try.prog 145 := enters' Try.func145 (by kernel_rfl)
attribute [irreducible] u7f u7f_l0
def a_u8f : Ann := ⟨[(0, [.var 1 T86, .val 3 T82, .val 4 T3], ⟨[.val 3 T82], true⟩)], []⟩
def d_u8f : List (Nat × Con) := [(145, c_u7f)]
def u8f (k : Nat) (a : T86.den) : Option (den1 [T82]) := evFn Γ d_u8f a_u8f Try.f133 [.val T86] [T82] k (a, ())
def u8f_l0 (k : Nat) (v1 : T86.den) (v3 : T82.den) (v4 : T3.den) : Option (Items.den [.val 3 T82]) := loopQ (ρ := (den1 [T82])) 0 [.var 1 T86, .val 3 T82, .val 4 T3] [.val 3 T82] (runOf Γ d_u8f a_u8f Try.f133 [.val T86] [T82] 0) k (v1, v3, v4)
theorem u8f_eq (k : Nat) (a : T86.den) : u8f k a = bnd (u7f k a.1 []) (fun y1 => bnd (u8f_l0 k a y1 0) (fun y2 => some y2)) := by kernel_rfl
theorem u8f_l0_zero (v1 : T86.den) (v3 : T82.den) (v4 : T3.den) : u8f_l0 0 v1 v3 v4 = none := by kernel_rfl
theorem u8f_l0_succ (k : Nat) (v1 : T86.den) (v3 : T82.den) (v4 : T3.den) : u8f_l0 (k + 1) v1 v3 v4 = br (decide (v4 < (List.length v1.2.1 : Int))) (br (decide (0 ≤ v4)) (br (decide (v4 < (List.length v1.2.1 : Int))) (bnd (u7f k v3 (List.getD v1.2.1 (Int.toNat v4) T150.zero).1) (fun y1 => u8f_l0 k v1 y1 (IntKind.i64.wrap (v4 + 1)))) (none)) (none)) (some v3) := by kernel_rfl
def c_u8f : Con := ⟨[.val T86], [T82], fun k x => u8f k x.1⟩
theorem del_u8f {w0 : World} (hS : Stops w0) : DelOk Try.prog w0 d_u8f := .cons (ok_u7f hS) ent_u7f (.nil)
theorem ok_u8f {w0 : World} (hS : Stops w0) : Keeps Try.prog w0 133 c_u8f := .con (y12q (A := a_u8f) y30q (del_u8f hS) (draws (del_u8f hS)) Try.func133 (by kernel_rfl) (fun k x => by kernel_rfl) (by kernel_rfl)) (by kernel_rfl)
theorem ent_u8f : Enters' Try.prog 133 := enters' Try.func133 (by kernel_rfl)
attribute [irreducible] u8f u8f_l0
def a_u9f : Ann := ⟨[], []⟩
def d_u9f : List (Nat × Con) := [(126, c_u3f)]
def u9f (k : Nat) (a : T92.den) : Option (den1 [T4]) := evFn Γ d_u9f a_u9f Try.f121 [.val T92] [T4] k (a, ())
theorem u9f_eq (k : Nat) (a : T92.den) : u9f k a = br (decide ((List.length a.1 : Int) > 0)) (br (decide ((List.length a.1 : Int) ≤ 4000)) (bnd (u3f k a.2.1) (fun y1 => br (y1) (br (!andB (eqI a.2.1.1 0) (andB (eqI a.2.1.2.1 0) true)) (br (decide ((List.length a.2.2.2.1 : Int) ≤ 4000)) (br (!a.2.2.1) (some true) (some ((List.length a.2.2.2.1 : Int) == 0))) (some false)) (some false)) (some false))) (some false)) (some false) := by kernel_rfl
def c_u9f : Con := ⟨[.val T92], [T4], fun k x => u9f k x.1⟩
theorem del_u9f {w0 : World} (hS : Stops w0) : DelOk Try.prog w0 d_u9f := .cons (ok_u3f hS) ent_u3f (.nil)
theorem ok_u9f {w0 : World} (hS : Stops w0) : Keeps Try.prog w0 121 c_u9f := .con (y12q (A := a_u9f) y30q (del_u9f hS) (draws (del_u9f hS)) Try.func121 (by kernel_rfl) (fun k x => by kernel_rfl) (by kernel_rfl)) (by kernel_rfl)
theorem ent_u9f : Enters' Try.prog 121 := enters' Try.func121 (by kernel_rfl)
attribute [irreducible] u9f
def a_u10f : Ann := ⟨[(0, [.val 0 T82, .val 3 T3], ⟨[], false⟩)], []⟩
def d_u10f : List (Nat × Con) := [(121, c_u9f), (146, c_u6f)]
def u10f (k : Nat) (a : T82.den) : Option (den1 [T4]) := evFn Γ d_u10f a_u10f Try.f143 [.val T82] [T4] k (a, ())
def u10f_l0 (k : Nat) (v0 : T82.den) (v3 : T3.den) : Option ((Items.den []) ⊕ (den1 [T4])) := loopR (ρ := (den1 [T4])) 0 [.val 0 T82, .val 3 T3] [] (runOf Γ d_u10f a_u10f Try.f143 [.val T82] [T4] 0) k (v0, v3)
theorem u10f_eq (k : Nat) (a : T82.den) : u10f k a = bnd (u10f_l0 k a 0) (fun y1 => onSum y1 (fun y2 => some true) (fun y2 => some y2)) := by kernel_rfl
theorem u10f_l0_zero (v0 : T82.den) (v3 : T3.den) : u10f_l0 0 v0 v3 = none := by kernel_rfl
theorem u10f_l0_succ (k : Nat) (v0 : T82.den) (v3 : T3.den) : u10f_l0 (k + 1) v0 v3 = br (decide (v3 < (List.length v0 : Int))) (br (decide (0 ≤ v3)) (br (decide (v3 < (List.length v0 : Int))) (bnd (u9f k (List.getD v0 (Int.toNat v3) T92.zero)) (fun y1 => br (!y1) (some (Sum.inr false)) (br (decide (v3 > 0)) (br (decide (0 ≤ IntKind.i64.wrap (v3 - 1))) (br (decide (IntKind.i64.wrap (v3 - 1) < (List.length v0 : Int))) (br (decide (0 ≤ v3)) (br (decide (v3 < (List.length v0 : Int))) (bnd (u6f k (List.getD v0 (IntKind.i64.wrap (v3 - 1)).toNat T92.zero) (List.getD v0 (Int.toNat v3) T92.zero)) (fun y2 => br (!y2) (some (Sum.inr false)) (u10f_l0 k v0 (IntKind.i64.wrap (v3 + 1))))) (none)) (none)) (none)) (none)) (u10f_l0 k v0 (IntKind.i64.wrap (v3 + 1)))))) (none)) (none)) (some (Sum.inl ())) := by kernel_rfl
def c_u10f : Con := ⟨[.val T82], [T4], fun k x => u10f k x.1⟩
theorem del_u10f {w0 : World} (hS : Stops w0) : DelOk Try.prog w0 d_u10f := .cons (ok_u9f hS) ent_u9f (.cons (ok_u6f hS) ent_u6f (.nil))
theorem ok_u10f {w0 : World} (hS : Stops w0) : Keeps Try.prog w0 143 c_u10f := .con (y12q (A := a_u10f) y30q (del_u10f hS) (draws (del_u10f hS)) Try.func143 (by kernel_rfl) (fun k x => by kernel_rfl) (by kernel_rfl)) (by kernel_rfl)
theorem ent_u10f : Enters' Try.prog 143 := enters' Try.func143 (by kernel_rfl)
attribute [irreducible] u10f u10f_l0
def a_u11f : Ann := ⟨[(0, [.val 0 T9, .val 4 T3, .val 5 T3], ⟨[.val 4 T3], true⟩)], []⟩
def d_u11f : List (Nat × Con) := []
def u11f (k : Nat) (a : T9.den) : Option (den1 [T3, T3]) := evFn Γ d_u11f a_u11f Try.f149 [.val T9] [T3, T3] k (a, ())
def u11f_l0 (k : Nat) (v0 : T9.den) (v4 : T3.den) (v5 : T3.den) : Option (Items.den [.val 4 T3]) := loopQ (ρ := (den1 [T3, T3])) 0 [.val 0 T9, .val 4 T3, .val 5 T3] [.val 4 T3] (runOf Γ d_u11f a_u11f Try.f149 [.val T9] [T3, T3] 0) k (v0, v4, v5)
theorem u11f_eq (k : Nat) (a : T9.den) : u11f k a = bnd (u11f_l0 k a 2166136261 0) (fun y1 => br (!65536 == 0) (br (!65536 == 0) (some (Int.tmod y1 65536, IntKind.i64.wrap (IntKind.i64.wrap (Int.tdiv y1 65536) + 1))) (none)) (none)) := by kernel_rfl
theorem u11f_l0_zero (v0 : T9.den) (v4 : T3.den) (v5 : T3.den) : u11f_l0 0 v0 v4 v5 = none := by kernel_rfl
theorem u11f_l0_succ (k : Nat) (v0 : T9.den) (v4 : T3.den) (v5 : T3.den) : u11f_l0 (k + 1) v0 v4 v5 = br (decide (v5 < (List.length v0 : Int))) (br (decide (0 ≤ v5)) (br (decide (v5 < (List.length v0 : Int))) (br (!4294967296 == 0) (u11f_l0 k v0 ((IntKind.i64.wrap (bits BinOp.xor IntKind.i64 v4 (IntKind.i64.wrap (↑(List.getD v0 (Int.toNat v5) 0).toNat : Int)) * 16777619)).tmod 4294967296) (IntKind.i64.wrap (v5 + 1))) (none)) (none)) (none)) (some v4) := by kernel_rfl
def c_u11f : Con := ⟨[.val T9], [T3, T3], fun k x => u11f k x.1⟩
theorem del_u11f {w0 : World} (hS : Stops w0) : DelOk Try.prog w0 d_u11f := .nil
theorem ok_u11f {w0 : World} (hS : Stops w0) : Keeps Try.prog w0 149 c_u11f := .con (y12q (A := a_u11f) y30q (del_u11f hS) (draws (del_u11f hS)) Try.func149 (by kernel_rfl) (fun k x => by kernel_rfl) (by kernel_rfl)) (by kernel_rfl)
theorem ent_u11f : Enters' Try.prog 149 := enters' Try.func149 (by kernel_rfl)
attribute [irreducible] u11f u11f_l0
def a_u12f : Ann := ⟨[(0, [.val 0 T147, .val 3 T3, .val 4 X157_v_0, .val 5 T3], ⟨[.val 4 X157_v_0], true⟩), (2, [.val 0 T147, .val 3 T3, .val 4 X157_v_0, .val 5 T3, .val 6 T3, .val 7 T3, .val 8 T3], ⟨[.val 0 T147, .val 3 T3, .val 4 X157_v_0, .val 5 T3], true⟩)], [(4, ⟨[.val 0 T147, .val 3 T3], true⟩), (6, ⟨[.val 0 T147, .val 3 T3], true⟩)]⟩
def d_u12f : List (Nat × Con) := [(149, c_u11f)]
def u12f (k : Nat) (a : T147.den) : Option (den1 [T9]) := evFn Γ d_u12f a_u12f Try.f148 [.val T147] [T9] k (a, ())
def u12f_l0 (k : Nat) (v0 : T147.den) (v3 : T3.den) (v4 : X157_v_0.den) (v5 : T3.den) : Option (Items.den [.val 4 X157_v_0]) := loopQ (ρ := (den1 [T9])) 0 [.val 0 T147, .val 3 T3, .val 4 X157_v_0, .val 5 T3] [.val 4 X157_v_0] (runOf Γ d_u12f a_u12f Try.f148 [.val T147] [T9] 0) k (v0, v3, v4, v5)
def u12f_l2 (k : Nat) (v0 : T147.den) (v3 : T3.den) (v4 : X157_v_0.den) (v5 : T3.den) (v6 : T3.den) (v7 : T3.den) (v8 : T3.den) : Option (Items.den [.val 0 T147, .val 3 T3, .val 4 X157_v_0, .val 5 T3]) := loopQ (ρ := (den1 [T9])) 2 [.val 0 T147, .val 3 T3, .val 4 X157_v_0, .val 5 T3, .val 6 T3, .val 7 T3, .val 8 T3] [.val 0 T147, .val 3 T3, .val 4 X157_v_0, .val 5 T3] (runOf Γ d_u12f a_u12f Try.f148 [.val T147] [T9] 2) k (v0, v3, v4, v5, v6, v7, v8)
theorem u12f_eq (k : Nat) (a : T147.den) : u12f k a = br (!16 == 0) (bnd (br (decide (IntKind.i64.wrap (IntKind.i64.wrap ((IntKind.i64.wrap ((List.length a : Int) + 15)).tdiv 16) * 32) < 32)) (some (a, 32)) (some (a, IntKind.i64.wrap (IntKind.i64.wrap ((IntKind.i64.wrap ((List.length a : Int) + 15)).tdiv 16) * 32)))) (fun y1 => bnd (br (decide (y1.2 > 8192)) (some (y1.1, 8192)) (some (y1.1, y1.2))) (fun y2 => br (y2.2 == y2.2) (br (decide (0 ≤ y2.2)) (br (decide (y2.2 ≤ (↑capN : Int))) (bnd (u12f_l0 k y2.1 y2.2 (List.replicate (Int.toNat y2.2) (Ty.int IntKind.u8).zero) 0) (fun y3 => some (List.map (fun n => UInt8.ofNat n.toNat) y3))) (none)) (none)) (none)))) (none) := by kernel_rfl
theorem u12f_l0_zero (v0 : T147.den) (v3 : T3.den) (v4 : X157_v_0.den) (v5 : T3.den) : u12f_l0 0 v0 v3 v4 v5 = none := by kernel_rfl
theorem u12f_l0_succ (k : Nat) (v0 : T147.den) (v3 : T3.den) (v4 : X157_v_0.den) (v5 : T3.den) : u12f_l0 (k + 1) v0 v3 v4 v5 = br (decide (v5 < (List.length v0 : Int))) (br (decide (0 ≤ v5)) (br (decide (v5 < (List.length v0 : Int))) (bnd (u11f k (List.getD v0 (Int.toNat v5) T9.zero)) (fun y1 => bnd (u12f_l2 k v0 v3 v4 v5 y1.1 y1.2 0) (fun y2 => u12f_l0 k y2.1 y2.2.1 y2.2.2.1 (IntKind.i64.wrap (y2.2.2.2 + 1))))) (none)) (none)) (some v4) := by kernel_rfl
theorem u12f_l2_zero (v0 : T147.den) (v3 : T3.den) (v4 : X157_v_0.den) (v5 : T3.den) (v6 : T3.den) (v7 : T3.den) (v8 : T3.den) : u12f_l2 0 v0 v3 v4 v5 v6 v7 v8 = none := by kernel_rfl
theorem u12f_l2_succ (k : Nat) (v0 : T147.den) (v3 : T3.den) (v4 : X157_v_0.den) (v5 : T3.den) (v6 : T3.den) (v7 : T3.den) (v8 : T3.den) : u12f_l2 (k + 1) v0 v3 v4 v5 v6 v7 v8 = br (decide (v8 < 3)) (br (!IntKind.i64.wrap (8 * v3) == 0) (br (!8 == 0) (br (!8 == 0) (br (decide (0 ≤ IntKind.i64.wrap (((IntKind.i64.wrap (v6 + IntKind.i64.wrap (v8 * v7))).tmod (IntKind.i64.wrap (8 * v3))).tdiv 8))) (br (decide (IntKind.i64.wrap (((IntKind.i64.wrap (v6 + IntKind.i64.wrap (v8 * v7))).tmod (IntKind.i64.wrap (8 * v3))).tdiv 8) < (List.length v4 : Int))) (br (!8 == 0) (br (decide (0 ≤ IntKind.u64.wrap (((IntKind.i64.wrap (v6 + IntKind.i64.wrap (v8 * v7))).tmod (IntKind.i64.wrap (8 * v3))).tmod 8))) (br (decide (0 ≤ IntKind.i64.wrap (((IntKind.i64.wrap (v6 + IntKind.i64.wrap (v8 * v7))).tmod (IntKind.i64.wrap (8 * v3))).tdiv 8))) (br (decide (IntKind.i64.wrap (((IntKind.i64.wrap (v6 + IntKind.i64.wrap (v8 * v7))).tmod (IntKind.i64.wrap (8 * v3))).tdiv 8) < (List.length v4 : Int))) (u12f_l2 k v0 v3 (List.set v4 (IntKind.i64.wrap (((IntKind.i64.wrap (v6 + IntKind.i64.wrap (v8 * v7))).tmod (IntKind.i64.wrap (8 * v3))).tdiv 8)).toNat (bits BinOp.or IntKind.u8 (List.getD v4 (IntKind.i64.wrap (((IntKind.i64.wrap (v6 + IntKind.i64.wrap (v8 * v7))).tmod (IntKind.i64.wrap (8 * v3))).tdiv 8)).toNat T5.zero) (IntKind.u8.wrap (1 * 2 ^ min (IntKind.u64.wrap (((IntKind.i64.wrap (v6 + IntKind.i64.wrap (v8 * v7))).tmod (IntKind.i64.wrap (8 * v3))).tmod 8)).toNat IntKind.u8.bits)))) v5 v6 v7 (IntKind.i64.wrap (v8 + 1))) (none)) (none)) (none)) (none)) (none)) (none)) (none)) (none)) (none)) (some (v0, v3, v4, v5)) := by kernel_rfl
def c_u12f : Con := ⟨[.val T147], [T9], fun k x => u12f k x.1⟩
theorem del_u12f {w0 : World} (hS : Stops w0) : DelOk Try.prog w0 d_u12f := .cons (ok_u11f hS) ent_u11f (.nil)
theorem ok_u12f {w0 : World} (hS : Stops w0) : Keeps Try.prog w0 148 c_u12f := .con (y12q (A := a_u12f) y30q (del_u12f hS) (draws (del_u12f hS)) Try.func148 (by kernel_rfl) (fun k x => by kernel_rfl) (by kernel_rfl)) (by kernel_rfl)
theorem ent_u12f : Enters' Try.prog 148 := enters' Try.func148 (by kernel_rfl)
attribute [irreducible] u12f u12f_l0 u12f_l2
def a_u13f : Ann := ⟨[(0, [.val 0 T82, .val 3 O147, .val 4 T3], ⟨[.val 3 O147], true⟩)], []⟩
def d_u13f : List (Nat × Con) := [(148, c_u12f)]
def u13f (k : Nat) (a : T82.den) : Option (den1 [T9]) := evFn Γ d_u13f a_u13f Try.f144 [.val T82] [T9] k (a, ())
def u13f_l0 (k : Nat) (v0 : T82.den) (v3 : O147.den) (v4 : T3.den) : Option (Items.den [.val 3 O147]) := loopQ (ρ := (den1 [T9])) 0 [.val 0 T82, .val 3 O147, .val 4 T3] [.val 3 O147] (runOf Γ d_u13f a_u13f Try.f144 [.val T82] [T9] 0) k (v0, v3, v4)
theorem u13f_eq (k : Nat) (a : T82.den) : u13f k a = bnd (u13f_l0 k a [] 0) (fun y1 => bnd (u12f k y1) (fun y2 => some y2)) := by kernel_rfl
theorem u13f_l0_zero (v0 : T82.den) (v3 : O147.den) (v4 : T3.den) : u13f_l0 0 v0 v3 v4 = none := by kernel_rfl
theorem u13f_l0_succ (k : Nat) (v0 : T82.den) (v3 : O147.den) (v4 : T3.den) : u13f_l0 (k + 1) v0 v3 v4 = br (decide (v4 < (List.length v0 : Int))) (br (decide (0 ≤ v4)) (br (decide (v4 < (List.length v0 : Int))) (br (decide (List.length v3 + [(List.getD v0 (Int.toNat v4) T92.zero).1].length ≤ capN)) (u13f_l0 k v0 (v3 ++ [(List.getD v0 (Int.toNat v4) T92.zero).1]) (IntKind.i64.wrap (v4 + 1))) (none)) (none)) (none)) (some v3) := by kernel_rfl
def c_u13f : Con := ⟨[.val T82], [T9], fun k x => u13f k x.1⟩
theorem del_u13f {w0 : World} (hS : Stops w0) : DelOk Try.prog w0 d_u13f := .cons (ok_u12f hS) ent_u12f (.nil)
theorem ok_u13f {w0 : World} (hS : Stops w0) : Keeps Try.prog w0 144 c_u13f := .con (y12q (A := a_u13f) y30q (del_u13f hS) (draws (del_u13f hS)) Try.func144 (by kernel_rfl) (fun k x => by kernel_rfl) (by kernel_rfl)) (by kernel_rfl)
theorem ent_u13f : Enters' Try.prog 144 := enters' Try.func144 (by kernel_rfl)
attribute [irreducible] u13f u13f_l0
def a_u14f : Ann := ⟨[(0, [.var 1 T86, .val 3 T3, .val 4 T3], ⟨[.var 1 T86, .val 3 T3], true⟩), (2, [.var 1 T86, .val 5 T3], ⟨[.var 1 T86], false⟩)], []⟩
def d_u14f : List (Nat × Con) := [(126, c_u3f), (133, c_u8f), (143, c_u10f), (144, c_u13f)]
def u14f (k : Nat) (a : T86.den) : Option (den1 [T4]) := evFn Γ d_u14f a_u14f Try.f120 [.val T86] [T4] k (a, ())
def u14f_l0 (k : Nat) (v1 : T86.den) (v3 : T3.den) (v4 : T3.den) : Option (Items.den [.var 1 T86, .val 3 T3]) := loopQ (ρ := (den1 [T4])) 0 [.var 1 T86, .val 3 T3, .val 4 T3] [.var 1 T86, .val 3 T3] (runOf Γ d_u14f a_u14f Try.f120 [.val T86] [T4] 0) k (v1, v3, v4)
def u14f_l2 (k : Nat) (v1 : T86.den) (v5 : T3.den) : Option ((Items.den [.var 1 T86]) ⊕ (den1 [T4])) := loopR (ρ := (den1 [T4])) 2 [.var 1 T86, .val 5 T3] [.var 1 T86] (runOf Γ d_u14f a_u14f Try.f120 [.val T86] [T4] 2) k (v1, v5)
theorem u14f_eq (k : Nat) (a : T86.den) : u14f k a = bnd (u3f k a.2.2.1) (fun y1 => br (!y1) (some false) (br (decide ((List.length a.2.1 : Int) > 12)) (some false) (bnd (u14f_l0 k a ((List.length a.1 : Int)) 0) (fun y2 => br (decide (y2.2 > 4000)) (some false) (bnd (u10f k y2.1.1) (fun y3 => br (!y3) (some false) (bnd (u14f_l2 k y2.1 0) (fun y4 => onSum y4 (fun y5 => bnd (u8f k y5) (fun y6 => bnd (u10f k y6) (fun y7 => some y7))) (fun y5 => some y5))))))))) := by kernel_rfl
theorem u14f_l0_zero (v1 : T86.den) (v3 : T3.den) (v4 : T3.den) : u14f_l0 0 v1 v3 v4 = none := by kernel_rfl
theorem u14f_l0_succ (k : Nat) (v1 : T86.den) (v3 : T3.den) (v4 : T3.den) : u14f_l0 (k + 1) v1 v3 v4 = br (decide (v4 < (List.length v1.2.1 : Int))) (br (decide (0 ≤ v4)) (br (decide (v4 < (List.length v1.2.1 : Int))) (u14f_l0 k v1 (IntKind.i64.wrap (v3 + (↑(List.length (List.getD v1.2.1 (Int.toNat v4) T150.zero).1) : Int))) (IntKind.i64.wrap (v4 + 1))) (none)) (none)) (some (v1, v3)) := by kernel_rfl
theorem u14f_l2_zero (v1 : T86.den) (v5 : T3.den) : u14f_l2 0 v1 v5 = none := by kernel_rfl
theorem u14f_l2_succ (k : Nat) (v1 : T86.den) (v5 : T3.den) : u14f_l2 (k + 1) v1 v5 = br (decide (v5 < (List.length v1.2.1 : Int))) (br (decide (0 ≤ v5)) (br (decide (v5 < (List.length v1.2.1 : Int))) (br ((↑(List.length (List.getD v1.2.1 (Int.toNat v5) T150.zero).1) : Int) == 0) (some (Sum.inr false)) (br (decide (0 ≤ v5)) (br (decide (v5 < (List.length v1.2.1 : Int))) (bnd (u10f k (List.getD v1.2.1 (Int.toNat v5) T150.zero).1) (fun y1 => br (!y1) (some (Sum.inr false)) (br (decide (0 ≤ v5)) (br (decide (v5 < (List.length v1.2.1 : Int))) (br (decide (0 ≤ v5)) (br (decide (v5 < (List.length v1.2.1 : Int))) (bnd (u13f k (List.getD v1.2.1 (Int.toNat v5) T150.zero).1) (fun y2 => br (!(List.getD v1.2.1 (Int.toNat v5) T150.zero).2.1 == y2) (some (Sum.inr false)) (u14f_l2 k v1 (IntKind.i64.wrap (v5 + 1))))) (none)) (none)) (none)) (none)))) (none)) (none))) (none)) (none)) (some (Sum.inl v1)) := by kernel_rfl
def c_u14f : Con := ⟨[.val T86], [T4], fun k x => u14f k x.1⟩
theorem del_u14f {w0 : World} (hS : Stops w0) : DelOk Try.prog w0 d_u14f := .cons (ok_u3f hS) ent_u3f (.cons (ok_u8f hS) ent_u8f (.cons (ok_u10f hS) ent_u10f (.cons (ok_u13f hS) ent_u13f (.nil))))
theorem ok_u14f {w0 : World} (hS : Stops w0) : Keeps Try.prog w0 120 c_u14f := .con (y12q (A := a_u14f) y30q (del_u14f hS) (draws (del_u14f hS)) Try.func120 (by kernel_rfl) (fun k x => by kernel_rfl) (by kernel_rfl)) (by kernel_rfl)
theorem ent_u14f : Enters' Try.prog 120 := enters' Try.func120 (by kernel_rfl)
attribute [irreducible] u14f u14f_l0 u14f_l2
def a_u15f : Ann := ⟨[(0, [.val 1 T9, .var 5 T84, .val 7 T82, .val 8 T3], ⟨[], false⟩)], []⟩
def d_u15f : List (Nat × Con) := [(133, c_u8f)]
def u15f (k : Nat) (a : T86.den) (b : T9.den) (c : T84.den) : Option (den1 [T4]) := evFn Γ d_u15f a_u15f Try.f123 [.val T86, .val T9, .val T84] [T4] k (a, b, c, ())
def u15f_l0 (k : Nat) (v1 : T9.den) (v5 : T84.den) (v7 : T82.den) (v8 : T3.den) : Option ((Items.den []) ⊕ (den1 [T4])) := loopR (ρ := (den1 [T4])) 0 [.val 1 T9, .var 5 T84, .val 7 T82, .val 8 T3] [] (runOf Γ d_u15f a_u15f Try.f123 [.val T86, .val T9, .val T84] [T4] 0) k (v1, v5, v7, v8)
theorem u15f_eq (k : Nat) (a : T86.den) (b : T9.den) (c : T84.den) : u15f k a b c = bnd (u8f k a) (fun y1 => bnd (u15f_l0 k b c y1 0) (fun y2 => onSum y2 (fun y3 => some false) (fun y3 => some y3))) := by kernel_rfl
theorem u15f_l0_zero (v1 : T9.den) (v5 : T84.den) (v7 : T82.den) (v8 : T3.den) : u15f_l0 0 v1 v5 v7 v8 = none := by kernel_rfl
theorem u15f_l0_succ (k : Nat) (v1 : T9.den) (v5 : T84.den) (v7 : T82.den) (v8 : T3.den) : u15f_l0 (k + 1) v1 v5 v7 v8 = br (decide (v8 < (List.length v7 : Int))) (br (decide (0 ≤ v8)) (br (decide (v8 < (List.length v7 : Int))) (br ((List.getD v7 (Int.toNat v8) T92.zero).1 == v1) (br (decide (0 ≤ v8)) (br (decide (v8 < (List.length v7 : Int))) (br (andB (eqI (List.getD v7 (Int.toNat v8) T92.zero).2.1.1 v5.1) (andB (eqI (List.getD v7 (Int.toNat v8) T92.zero).2.1.2.1 v5.2.1) true)) (some (Sum.inr true)) (u15f_l0 k v1 v5 v7 (IntKind.i64.wrap (v8 + 1)))) (none)) (none)) (u15f_l0 k v1 v5 v7 (IntKind.i64.wrap (v8 + 1)))) (none)) (none)) (some (Sum.inl ())) := by kernel_rfl
def c_u15f : Con := ⟨[.val T86, .val T9, .val T84], [T4], fun k x => u15f k x.1 x.2.1 x.2.2.1⟩
theorem del_u15f {w0 : World} (hS : Stops w0) : DelOk Try.prog w0 d_u15f := .cons (ok_u8f hS) ent_u8f (.nil)
theorem ok_u15f {w0 : World} (hS : Stops w0) : Keeps Try.prog w0 123 c_u15f := .con (y12q (A := a_u15f) y30q (del_u15f hS) (draws (del_u15f hS)) Try.func123 (by kernel_rfl) (fun k x => by kernel_rfl) (by kernel_rfl)) (by kernel_rfl)
theorem ent_u15f : Enters' Try.prog 123 := enters' Try.func123 (by kernel_rfl)
attribute [irreducible] u15f u15f_l0
def a_u16f : Ann := ⟨[], []⟩
def d_u16f : List (Nat × Con) := [(133, c_u8f)]
def u16f (k : Nat) (a : T86.den) : Option (den1 [T3]) := evFn Γ d_u16f a_u16f Try.f124 [.val T86] [T3] k (a, ())
theorem u16f_eq (k : Nat) (a : T86.den) : u16f k a = bnd (u8f k a) (fun y1 => some ((List.length y1 : Int))) := by kernel_rfl
def c_u16f : Con := ⟨[.val T86], [T3], fun k x => u16f k x.1⟩
theorem del_u16f {w0 : World} (hS : Stops w0) : DelOk Try.prog w0 d_u16f := .cons (ok_u8f hS) ent_u8f (.nil)
theorem ok_u16f {w0 : World} (hS : Stops w0) : Keeps Try.prog w0 124 c_u16f := .con (y12q (A := a_u16f) y30q (del_u16f hS) (draws (del_u16f hS)) Try.func124 (by kernel_rfl) (fun k x => by kernel_rfl) (by kernel_rfl)) (by kernel_rfl)
theorem ent_u16f : Enters' Try.prog 124 := enters' Try.func124 (by kernel_rfl)
attribute [irreducible] u16f
def a_u17f : Ann := ⟨[(0, [.var 1 T86, .var 2 T86, .var 3 X86_v_0_1, .val 4 T3], ⟨[.var 2 T86, .var 3 X86_v_0_1], true⟩)], []⟩
def d_u17f : List (Nat × Con) := []
def u17f (k : Nat) (a : T86.den) : Option (den1 [T86]) := evFn Γ d_u17f a_u17f Try.f129 [.val T86] [T86] k (a, ())
def u17f_l0 (k : Nat) (v1 : T86.den) (v2 : T86.den) (v3 : X86_v_0_1.den) (v4 : T3.den) : Option (Items.den [.var 2 T86, .var 3 X86_v_0_1]) := loopQ (ρ := (den1 [T86])) 0 [.var 1 T86, .var 2 T86, .var 3 X86_v_0_1, .val 4 T3] [.var 2 T86, .var 3 X86_v_0_1] (runOf Γ d_u17f a_u17f Try.f129 [.val T86] [T86] 0) k (v1, v2, v3, v4)
theorem u17f_eq (k : Nat) (a : T86.den) : u17f k a = br (decide (0 + List.length a.1 ≤ capN)) (bnd (u17f_l0 k a ([], [], (0, 0, ()), ()) ([] ++ a.1, [], a.2.2.1, ()) 0) (fun y1 => some y1.2)) (none) := by kernel_rfl
theorem u17f_l0_zero (v1 : T86.den) (v2 : T86.den) (v3 : X86_v_0_1.den) (v4 : T3.den) : u17f_l0 0 v1 v2 v3 v4 = none := by kernel_rfl
theorem u17f_l0_succ (k : Nat) (v1 : T86.den) (v2 : T86.den) (v3 : X86_v_0_1.den) (v4 : T3.den) : u17f_l0 (k + 1) v1 v2 v3 v4 = br (decide (v4 < (List.length v1.2.1 : Int))) (br (decide (0 ≤ v4)) (br (decide (v4 < (List.length v1.2.1 : Int))) (br (decide (0 + List.length (List.getD v1.2.1 (Int.toNat v4) T150.zero).1 ≤ capN)) (br (decide (0 ≤ v4)) (br (decide (v4 < (List.length v1.2.1 : Int))) (br (decide (List.length v3.2.1 + [([] ++ (List.getD v1.2.1 (Int.toNat v4) T150.zero).1, (List.getD v1.2.1 (Int.toNat v4) T150.zero).2.1, ())].length ≤ capN)) (u17f_l0 k v1 v2 (v3.1, v3.2.1 ++ [([] ++ (List.getD v1.2.1 (Int.toNat v4) T150.zero).1, (List.getD v1.2.1 (Int.toNat v4) T150.zero).2.1, ())], v3.2.2.1, ()) (IntKind.i64.wrap (v4 + 1))) (none)) (none)) (none)) (none)) (none)) (none)) (some (v2, v3.1, v3.2.1, v3.2.2.1, ())) := by kernel_rfl
def c_u17f : Con := ⟨[.val T86], [T86], fun k x => u17f k x.1⟩
theorem del_u17f {w0 : World} (hS : Stops w0) : DelOk Try.prog w0 d_u17f := .nil
theorem ok_u17f {w0 : World} (hS : Stops w0) : Keeps Try.prog w0 129 c_u17f := .con (y12q (A := a_u17f) y30q (del_u17f hS) (draws (del_u17f hS)) Try.func129 (by kernel_rfl) (fun k x => by kernel_rfl) (by kernel_rfl)) (by kernel_rfl)
theorem ent_u17f : Enters' Try.prog 129 := enters' Try.func129 (by kernel_rfl)
attribute [irreducible] u17f u17f_l0
def a_u18f : Ann := ⟨[], []⟩
def d_u18f : List (Nat × Con) := [(129, c_u17f), (145, c_u7f)]
def u18f (k : Nat) (a : T86.den) (b : T92.den) : Option (den1 [T86]) := evFn Γ d_u18f a_u18f Try.f125 [.val T86, .val T92] [T86] k (a, b, ())
theorem u18f_eq (k : Nat) (a : T86.den) (b : T92.den) : u18f k a b = bnd (u17f k a) (fun y1 => bnd (u7f k y1.1 [b]) (fun y2 => some (y2, y1.2.1, y1.2.2.1, ()))) := by kernel_rfl
def c_u18f : Con := ⟨[.val T86, .val T92], [T86], fun k x => u18f k x.1 x.2.1⟩
theorem del_u18f {w0 : World} (hS : Stops w0) : DelOk Try.prog w0 d_u18f := .cons (ok_u17f hS) ent_u17f (.cons (ok_u7f hS) ent_u7f (.nil))
theorem ok_u18f {w0 : World} (hS : Stops w0) : Keeps Try.prog w0 125 c_u18f := .con (y12q (A := a_u18f) y30q (del_u18f hS) (draws (del_u18f hS)) Try.func125 (by kernel_rfl) (fun k x => by kernel_rfl) (by kernel_rfl)) (by kernel_rfl)
theorem ent_u18f : Enters' Try.prog 125 := enters' Try.func125 (by kernel_rfl)
attribute [irreducible] u18f
def a_u19f : Ann := ⟨[], []⟩
def d_u19f : List (Nat × Con) := [(120, c_u14f), (121, c_u9f), (122, c_u5f), (123, c_u15f), (124, c_u16f), (125, c_u18f)]
def u19f (k : Nat) (a : T86.den) (b : T92.den) : Option (den1 [T86, T3]) := evFn Γ d_u19f a_u19f Try.f80 [.val T86, .val T92] [T86, T3] k (a, b, ())
theorem u19f_eq (k : Nat) (a : T86.den) (b : T92.den) : u19f k a b = bnd (u14f k a) (fun y1 => br (!y1) (some (([], [], (0, 0, ()), ()), 1)) (bnd (u9f k b) (fun y2 => br (!y2) (some (([], [], (0, 0, ()), ()), 1)) (bnd (u5f k b.2.1 a.2.2.1) (fun y3 => br (decide (y3 ≤ 0)) (some (([], [], (0, 0, ()), ()), 7)) (bnd (u15f k a b.1 b.2.1) (fun y4 => br (y4) (some (([], [], (0, 0, ()), ()), 8)) (bnd (u16f k a) (fun y5 => br (decide (y5 ≥ 4000)) (some (([], [], (0, 0, ()), ()), 9)) (bnd (u18f k a b) (fun y6 => some (y6, 0)))))))))))) := by kernel_rfl
def c_u19f : Con := ⟨[.val T86, .val T92], [T86, T3], fun k x => u19f k x.1 x.2.1⟩
theorem del_u19f {w0 : World} (hS : Stops w0) : DelOk Try.prog w0 d_u19f := .cons (ok_u14f hS) ent_u14f (.cons (ok_u9f hS) ent_u9f (.cons (ok_u5f hS) ent_u5f (.cons (ok_u15f hS) ent_u15f (.cons (ok_u16f hS) ent_u16f (.cons (ok_u18f hS) ent_u18f (.nil))))))
theorem ok_u19f {w0 : World} (hS : Stops w0) : Keeps Try.prog w0 80 c_u19f := .con (y12q (A := a_u19f) y30q (del_u19f hS) (draws (del_u19f hS)) Try.func80 (by kernel_rfl) (fun k x => by kernel_rfl) (by kernel_rfl)) (by kernel_rfl)
theorem ent_u19f : Enters' Try.prog 80 := enters' Try.func80 (by kernel_rfl)
attribute [irreducible] u19f
def a_u20f : Ann := ⟨[(0, [.var 3 T84, .val 5 T82, .val 6 O82, .val 7 T9, .val 8 T4, .val 9 T3], ⟨[.val 6 O82], true⟩)], []⟩
def d_u20f : List (Nat × Con) := [(122, c_u5f), (133, c_u8f)]
def u20f (k : Nat) (a : T86.den) (b : T84.den) : Option (den1 [T82]) := evFn Γ d_u20f a_u20f Try.f127 [.val T86, .val T84] [T82] k (a, b, ())
def u20f_l0 (k : Nat) (v3 : T84.den) (v5 : T82.den) (v6 : O82.den) (v7 : T9.den) (v8 : T4.den) (v9 : T3.den) : Option (Items.den [.val 6 O82]) := loopQ (ρ := (den1 [T82])) 0 [.var 3 T84, .val 5 T82, .val 6 O82, .val 7 T9, .val 8 T4, .val 9 T3] [.val 6 O82] (runOf Γ d_u20f a_u20f Try.f127 [.val T86, .val T84] [T82] 0) k (v3, v5, v6, v7, v8, v9)
theorem u20f_eq (k : Nat) (a : T86.den) (b : T84.den) : u20f k a b = bnd (u8f k a) (fun y1 => bnd (u20f_l0 k b y1 [] [] false 0) (fun y2 => some y2)) := by kernel_rfl
theorem u20f_l0_zero (v3 : T84.den) (v5 : T82.den) (v6 : O82.den) (v7 : T9.den) (v8 : T4.den) (v9 : T3.den) : u20f_l0 0 v3 v5 v6 v7 v8 v9 = none := by kernel_rfl
theorem u20f_l0_succ (k : Nat) (v3 : T84.den) (v5 : T82.den) (v6 : O82.den) (v7 : T9.den) (v8 : T4.den) (v9 : T3.den) : u20f_l0 (k + 1) v3 v5 v6 v7 v8 v9 = br (decide (v9 < (List.length v5 : Int))) (br (v8) (br (decide (0 ≤ v9)) (br (decide (v9 < (List.length v5 : Int))) (br ((List.getD v5 (Int.toNat v9) T92.zero).1 == v7) (u20f_l0 k v3 v5 v6 v7 v8 (IntKind.i64.wrap (v9 + 1))) (br (decide (0 ≤ v9)) (br (decide (v9 < (List.length v5 : Int))) (bnd (u5f k (List.getD v5 (Int.toNat v9) T92.zero).2.1 v3) (fun y1 => br (decide (y1 > 0)) (u20f_l0 k v3 v5 v6 v7 v8 (IntKind.i64.wrap (v9 + 1))) (br (decide (0 ≤ v9)) (br (decide (v9 < (List.length v5 : Int))) (br (decide (0 ≤ v9)) (br (decide (v9 < (List.length v5 : Int))) (br (!(List.getD v5 (Int.toNat v9) T92.zero).2.2.1) (br (decide (0 ≤ v9)) (br (decide (v9 < (List.length v5 : Int))) (br (decide (List.length v6 + [(List.getD v5 (Int.toNat v9) T92.zero)].length ≤ capN)) (u20f_l0 k v3 v5 (v6 ++ [(List.getD v5 (Int.toNat v9) T92.zero)]) (List.getD v5 (Int.toNat v9) T92.zero).1 true (IntKind.i64.wrap (v9 + 1))) (none)) (none)) (none)) (u20f_l0 k v3 v5 v6 (List.getD v5 (Int.toNat v9) T92.zero).1 true (IntKind.i64.wrap (v9 + 1)))) (none)) (none)) (none)) (none)))) (none)) (none))) (none)) (none)) (br (decide (0 ≤ v9)) (br (decide (v9 < (List.length v5 : Int))) (bnd (u5f k (List.getD v5 (Int.toNat v9) T92.zero).2.1 v3) (fun y1 => br (decide (y1 > 0)) (u20f_l0 k v3 v5 v6 v7 v8 (IntKind.i64.wrap (v9 + 1))) (br (decide (0 ≤ v9)) (br (decide (v9 < (List.length v5 : Int))) (br (decide (0 ≤ v9)) (br (decide (v9 < (List.length v5 : Int))) (br (!(List.getD v5 (Int.toNat v9) T92.zero).2.2.1) (br (decide (0 ≤ v9)) (br (decide (v9 < (List.length v5 : Int))) (br (decide (List.length v6 + [(List.getD v5 (Int.toNat v9) T92.zero)].length ≤ capN)) (u20f_l0 k v3 v5 (v6 ++ [(List.getD v5 (Int.toNat v9) T92.zero)]) (List.getD v5 (Int.toNat v9) T92.zero).1 true (IntKind.i64.wrap (v9 + 1))) (none)) (none)) (none)) (u20f_l0 k v3 v5 v6 (List.getD v5 (Int.toNat v9) T92.zero).1 true (IntKind.i64.wrap (v9 + 1)))) (none)) (none)) (none)) (none)))) (none)) (none))) (some v6) := by kernel_rfl
def c_u20f : Con := ⟨[.val T86, .val T84], [T82], fun k x => u20f k x.1 x.2.1⟩
theorem del_u20f {w0 : World} (hS : Stops w0) : DelOk Try.prog w0 d_u20f := .cons (ok_u5f hS) ent_u5f (.cons (ok_u8f hS) ent_u8f (.nil))
theorem ok_u20f {w0 : World} (hS : Stops w0) : Keeps Try.prog w0 127 c_u20f := .con (y12q (A := a_u20f) y30q (del_u20f hS) (draws (del_u20f hS)) Try.func127 (by kernel_rfl) (fun k x => by kernel_rfl) (by kernel_rfl)) (by kernel_rfl)
theorem ent_u20f : Enters' Try.prog 127 := enters' Try.func127 (by kernel_rfl)
attribute [irreducible] u20f u20f_l0
def a_u21f : Ann := ⟨[(0, [.val 1 T9, .var 6 T92, .val 9 T82, .val 10 T3], ⟨[.var 6 T92], false⟩)], []⟩
def d_u21f : List (Nat × Con) := [(120, c_u14f), (122, c_u5f), (126, c_u3f), (127, c_u20f)]
def u21f (k : Nat) (a : T86.den) (b : T9.den) (c : T84.den) : Option (den1 [T92, T4, T3]) := evFn Γ d_u21f a_u21f Try.f81 [.val T86, .val T9, .val T84] [T92, T4, T3] k (a, b, c, ())
def u21f_l0 (k : Nat) (v1 : T9.den) (v6 : T92.den) (v9 : T82.den) (v10 : T3.den) : Option ((Items.den [.var 6 T92]) ⊕ (den1 [T92, T4, T3])) := loopR (ρ := (den1 [T92, T4, T3])) 0 [.val 1 T9, .var 6 T92, .val 9 T82, .val 10 T3] [.var 6 T92] (runOf Γ d_u21f a_u21f Try.f81 [.val T86, .val T9, .val T84] [T92, T4, T3] 0) k (v1, v6, v9, v10)
theorem u21f_eq (k : Nat) (a : T86.den) (b : T9.den) (c : T84.den) : u21f k a b c = bnd (u14f k a) (fun y1 => br (!y1) (some (([], (0, 0, ()), false, [], ()), false, 1)) (bnd (u3f k c) (fun y2 => br (!y2) (some (([], (0, 0, ()), false, [], ()), false, 1)) (bnd (u5f k c a.2.2.1) (fun y3 => br (decide (y3 < 0)) (some (([], (0, 0, ()), false, [], ()), false, 10)) (bnd (u20f k a c) (fun y4 => bnd (u21f_l0 k b ([], (0, 0, ()), false, [], ()) y4 0) (fun y5 => onSum y5 (fun y6 => some (([], (0, 0, ()), false, [], ()), false, 0)) (fun y6 => some y6))))))))) := by kernel_rfl
theorem u21f_l0_zero (v1 : T9.den) (v6 : T92.den) (v9 : T82.den) (v10 : T3.den) : u21f_l0 0 v1 v6 v9 v10 = none := by kernel_rfl
theorem u21f_l0_succ (k : Nat) (v1 : T9.den) (v6 : T92.den) (v9 : T82.den) (v10 : T3.den) : u21f_l0 (k + 1) v1 v6 v9 v10 = br (decide (v10 < (List.length v9 : Int))) (br (decide (0 ≤ v10)) (br (decide (v10 < (List.length v9 : Int))) (br ((List.getD v9 (Int.toNat v10) T92.zero).1 == v1) (br (decide (0 ≤ v10)) (br (decide (v10 < (List.length v9 : Int))) (some (Sum.inr ((List.getD v9 (Int.toNat v10) T92.zero), true, 0))) (none)) (none)) (u21f_l0 k v1 v6 v9 (IntKind.i64.wrap (v10 + 1)))) (none)) (none)) (some (Sum.inl v6)) := by kernel_rfl
def c_u21f : Con := ⟨[.val T86, .val T9, .val T84], [T92, T4, T3], fun k x => u21f k x.1 x.2.1 x.2.2.1⟩
theorem del_u21f {w0 : World} (hS : Stops w0) : DelOk Try.prog w0 d_u21f := .cons (ok_u14f hS) ent_u14f (.cons (ok_u5f hS) ent_u5f (.cons (ok_u3f hS) ent_u3f (.cons (ok_u20f hS) ent_u20f (.nil))))
theorem ok_u21f {w0 : World} (hS : Stops w0) : Keeps Try.prog w0 81 c_u21f := .con (y12q (A := a_u21f) y30q (del_u21f hS) (draws (del_u21f hS)) Try.func81 (by kernel_rfl) (fun k x => by kernel_rfl) (by kernel_rfl)) (by kernel_rfl)
theorem ent_u21f : Enters' Try.prog 81 := enters' Try.func81 (by kernel_rfl)
attribute [irreducible] u21f u21f_l0
def a_u22f : Ann := ⟨[(0, [.val 1 T9, .val 2 T9, .val 4 T3, .val 11 T82, .val 12 O82, .val 13 T3], ⟨[.val 12 O82], true⟩)], []⟩
def d_u22f : List (Nat × Con) := [(127, c_u20f)]
def u22f (k : Nat) (a : T86.den) (b : T9.den) (c : T9.den) (d : T84.den) (e : T3.den) : Option (den1 [T82]) := evFn Γ d_u22f a_u22f Try.f128 [.val T86, .val T9, .val T9, .val T84, .val T3] [T82] k (a, b, c, d, e, ())
def u22f_l0 (k : Nat) (v1 : T9.den) (v2 : T9.den) (v4 : T3.den) (v11 : T82.den) (v12 : O82.den) (v13 : T3.den) : Option (Items.den [.val 12 O82]) := loopQ (ρ := (den1 [T82])) 0 [.val 1 T9, .val 2 T9, .val 4 T3, .val 11 T82, .val 12 O82, .val 13 T3] [.val 12 O82] (runOf Γ d_u22f a_u22f Try.f128 [.val T86, .val T9, .val T9, .val T84, .val T3] [T82] 0) k (v1, v2, v4, v11, v12, v13)
theorem u22f_eq (k : Nat) (a : T86.den) (b : T9.den) (c : T9.den) (d : T84.den) (e : T3.den) : u22f k a b c d e = bnd (u20f k a d) (fun y1 => bnd (u22f_l0 k b c e y1 [] 0) (fun y2 => some y2)) := by kernel_rfl
theorem u22f_l0_zero (v1 : T9.den) (v2 : T9.den) (v4 : T3.den) (v11 : T82.den) (v12 : O82.den) (v13 : T3.den) : u22f_l0 0 v1 v2 v4 v11 v12 v13 = none := by kernel_rfl
theorem u22f_l0_succ (k : Nat) (v1 : T9.den) (v2 : T9.den) (v4 : T3.den) (v11 : T82.den) (v12 : O82.den) (v13 : T3.den) : u22f_l0 (k + 1) v1 v2 v4 v11 v12 v13 = br (decide (v13 < (List.length v11 : Int))) (br (decide (0 ≤ v13)) (br (decide (v13 < (List.length v11 : Int))) (br (!Op.bytesLess (List.getD v11 (Int.toNat v13) T92.zero).1 v1) (br (v2 == []) (br (decide ((List.length v12 : Int) < v4)) (br (decide (0 ≤ v13)) (br (decide (v13 < (List.length v11 : Int))) (br (decide (List.length v12 + [(List.getD v11 (Int.toNat v13) T92.zero)].length ≤ capN)) (u22f_l0 k v1 v2 v4 v11 (v12 ++ [(List.getD v11 (Int.toNat v13) T92.zero)]) (IntKind.i64.wrap (v13 + 1))) (none)) (none)) (none)) (u22f_l0 k v1 v2 v4 v11 v12 (IntKind.i64.wrap (v13 + 1)))) (br (decide (0 ≤ v13)) (br (decide (v13 < (List.length v11 : Int))) (br (Op.bytesLess (List.getD v11 (Int.toNat v13) T92.zero).1 v2) (br (decide ((List.length v12 : Int) < v4)) (br (decide (0 ≤ v13)) (br (decide (v13 < (List.length v11 : Int))) (br (decide (List.length v12 + [(List.getD v11 (Int.toNat v13) T92.zero)].length ≤ capN)) (u22f_l0 k v1 v2 v4 v11 (v12 ++ [(List.getD v11 (Int.toNat v13) T92.zero)]) (IntKind.i64.wrap (v13 + 1))) (none)) (none)) (none)) (u22f_l0 k v1 v2 v4 v11 v12 (IntKind.i64.wrap (v13 + 1)))) (u22f_l0 k v1 v2 v4 v11 v12 (IntKind.i64.wrap (v13 + 1)))) (none)) (none))) (u22f_l0 k v1 v2 v4 v11 v12 (IntKind.i64.wrap (v13 + 1)))) (none)) (none)) (some v12) := by kernel_rfl
def c_u22f : Con := ⟨[.val T86, .val T9, .val T9, .val T84, .val T3], [T82], fun k x => u22f k x.1 x.2.1 x.2.2.1 x.2.2.2.1 x.2.2.2.2.1⟩
theorem del_u22f {w0 : World} (hS : Stops w0) : DelOk Try.prog w0 d_u22f := .cons (ok_u20f hS) ent_u20f (.nil)
theorem ok_u22f {w0 : World} (hS : Stops w0) : Keeps Try.prog w0 128 c_u22f := .con (y12q (A := a_u22f) y30q (del_u22f hS) (draws (del_u22f hS)) Try.func128 (by kernel_rfl) (fun k x => by kernel_rfl) (by kernel_rfl)) (by kernel_rfl)
theorem ent_u22f : Enters' Try.prog 128 := enters' Try.func128 (by kernel_rfl)
attribute [irreducible] u22f u22f_l0
def a_u23f : Ann := ⟨[], []⟩
def d_u23f : List (Nat × Con) := [(120, c_u14f), (122, c_u5f), (126, c_u3f), (128, c_u22f)]
def u23f (k : Nat) (a : T86.den) (b : T9.den) (c : T9.den) (d : T84.den) (e : T3.den) : Option (den1 [T82, T3]) := evFn Γ d_u23f a_u23f Try.f82 [.val T86, .val T9, .val T9, .val T84, .val T3] [T82, T3] k (a, b, c, d, e, ())
theorem u23f_eq (k : Nat) (a : T86.den) (b : T9.den) (c : T9.den) (d : T84.den) (e : T3.den) : u23f k a b c d e = bnd (u14f k a) (fun y1 => br (!y1) (some ([], 1)) (bnd (u3f k d) (fun y2 => br (!y2) (some ([], 1)) (br (decide (e < 0)) (some ([], 1)) (br (decide (e > 4000)) (some ([], 1)) (bnd (u5f k d a.2.2.1) (fun y3 => br (decide (y3 < 0)) (some ([], 10)) (bnd (u22f k a b c d e) (fun y4 => some (y4, 0)))))))))) := by kernel_rfl
def c_u23f : Con := ⟨[.val T86, .val T9, .val T9, .val T84, .val T3], [T82, T3], fun k x => u23f k x.1 x.2.1 x.2.2.1 x.2.2.2.1 x.2.2.2.2.1⟩
theorem del_u23f {w0 : World} (hS : Stops w0) : DelOk Try.prog w0 d_u23f := .cons (ok_u14f hS) ent_u14f (.cons (ok_u5f hS) ent_u5f (.cons (ok_u3f hS) ent_u3f (.cons (ok_u22f hS) ent_u22f (.nil))))
theorem ok_u23f {w0 : World} (hS : Stops w0) : Keeps Try.prog w0 82 c_u23f := .con (y12q (A := a_u23f) y30q (del_u23f hS) (draws (del_u23f hS)) Try.func82 (by kernel_rfl) (fun k x => by kernel_rfl) (by kernel_rfl)) (by kernel_rfl)
theorem ent_u23f : Enters' Try.prog 82 := enters' Try.func82 (by kernel_rfl)
attribute [irreducible] u23f
def a_u24f : Ann := ⟨[], []⟩
def d_u24f : List (Nat × Con) := [(144, c_u13f)]
def u24f (k : Nat) (a : T82.den) : Option (den1 [T150]) := evFn Γ d_u24f a_u24f Try.f131 [.val T82] [T150] k (a, ())
theorem u24f_eq (k : Nat) (a : T82.den) : u24f k a = bnd (u13f k a) (fun y1 => some (a, y1, ())) := by kernel_rfl
def c_u24f : Con := ⟨[.val T82], [T150], fun k x => u24f k x.1⟩
theorem del_u24f {w0 : World} (hS : Stops w0) : DelOk Try.prog w0 d_u24f := .cons (ok_u13f hS) ent_u13f (.nil)
theorem ok_u24f {w0 : World} (hS : Stops w0) : Keeps Try.prog w0 131 c_u24f := .con (y12q (A := a_u24f) y30q (del_u24f hS) (draws (del_u24f hS)) Try.func131 (by kernel_rfl) (fun k x => by kernel_rfl) (by kernel_rfl)) (by kernel_rfl)
theorem ent_u24f : Enters' Try.prog 131 := enters' Try.func131 (by kernel_rfl)
attribute [irreducible] u24f
def a_u25f : Ann := ⟨[], []⟩
def d_u25f : List (Nat × Con) := [(131, c_u24f), (145, c_u7f)]
def u25f (k : Nat) (a : T86.den) (b : T3.den) : Option (den1 [T86]) := evFn Γ d_u25f a_u25f Try.f130 [.val T86, .val T3] [T86] k (a, b, ())
theorem u25f_eq (k : Nat) (a : T86.den) (b : T3.den) : u25f k a b = br (decide (0 ≤ b)) (br (decide (b ≤ (List.length a.2.1 : Int))) (br (decide (0 + (List.take (Int.toNat b) a.2.1).length ≤ capN)) (br (decide (0 ≤ b)) (br (decide (b < (List.length a.2.1 : Int))) (br (decide (0 ≤ IntKind.i64.wrap (b + 1))) (br (decide (IntKind.i64.wrap (b + 1) < (List.length a.2.1 : Int))) (bnd (u7f k (List.getD a.2.1 (Int.toNat b) T150.zero).1 (List.getD a.2.1 (IntKind.i64.wrap (b + 1)).toNat T150.zero).1) (fun y1 => bnd (u24f k y1) (fun y2 => br (decide (List.length ([] ++ List.take (Int.toNat b) a.2.1) + [y2].length ≤ capN)) (br (decide (0 ≤ IntKind.i64.wrap (b + 2))) (br (decide (IntKind.i64.wrap (b + 2) ≤ (List.length a.2.1 : Int))) (br (decide (List.length ([] ++ List.take (Int.toNat b) a.2.1 ++ [y2]) + (List.drop (IntKind.i64.wrap (b + 2)).toNat a.2.1).length ≤ capN)) (some (a.1, [] ++ List.take (Int.toNat b) a.2.1 ++ [y2] ++ List.drop (IntKind.i64.wrap (b + 2)).toNat a.2.1, a.2.2.1, ())) (none)) (none)) (none)) (none)))) (none)) (none)) (none)) (none)) (none)) (none)) (none) := by kernel_rfl
def c_u25f : Con := ⟨[.val T86, .val T3], [T86], fun k x => u25f k x.1 x.2.1⟩
theorem del_u25f {w0 : World} (hS : Stops w0) : DelOk Try.prog w0 d_u25f := .cons (ok_u24f hS) ent_u24f (.cons (ok_u7f hS) ent_u7f (.nil))
theorem ok_u25f {w0 : World} (hS : Stops w0) : Keeps Try.prog w0 130 c_u25f := .con (y12q (A := a_u25f) y30q (del_u25f hS) (draws (del_u25f hS)) Try.func130 (by kernel_rfl) (fun k x => by kernel_rfl) (by kernel_rfl)) (by kernel_rfl)
theorem ent_u25f : Enters' Try.prog 130 := enters' Try.func130 (by kernel_rfl)
attribute [irreducible] u25f
def a_u26f : Ann := ⟨[], [(8, ⟨[.var 2 T86, .var 4 T86], true⟩)]⟩
def d_u26f : List (Nat × Con) := [(120, c_u14f), (129, c_u17f), (130, c_u25f), (131, c_u24f)]
def u26f (k : Nat) (a : T86.den) : Option (den1 [T86, T3]) := evFn Γ d_u26f a_u26f Try.f83 [.val T86] [T86, T3] k (a, ())
theorem u26f_eq (k : Nat) (a : T86.den) : u26f k a = bnd (u14f k a) (fun y1 => br (!y1) (some (([], [], (0, 0, ()), ()), 1)) (bnd (u17f k a) (fun y2 => br ((List.length y2.1 : Int) == 0) (some (y2, 0)) (bnd (br (decide ((List.length y2.2.1 : Int) ≥ 12)) (bnd (u25f k y2 (IntKind.i64.wrap ((List.length y2.2.1 : Int) - 2))) (fun y3 => some ((([], [], (0, 0, ()), ()) : T86.den), y3.1, y3.2.1, y3.2.2.1, ()))) (some ((([], [], (0, 0, ()), ()) : T86.den), y2.1, y2.2.1, y2.2.2.1, ()))) (fun y3 => bnd (u24f k y3.2.1) (fun y4 => br (decide ([y4].length + List.length y3.2.2.1 ≤ capN)) (some (([], [y4] ++ y3.2.2.1, y3.2.2.2.1, ()), 0)) (none))))))) := by kernel_rfl
def c_u26f : Con := ⟨[.val T86], [T86, T3], fun k x => u26f k x.1⟩
theorem del_u26f {w0 : World} (hS : Stops w0) : DelOk Try.prog w0 d_u26f := .cons (ok_u14f hS) ent_u14f (.cons (ok_u17f hS) ent_u17f (.cons (ok_u25f hS) ent_u25f (.cons (ok_u24f hS) ent_u24f (.nil))))
theorem ok_u26f {w0 : World} (hS : Stops w0) : Keeps Try.prog w0 83 c_u26f := .con (y12q (A := a_u26f) y30q (del_u26f hS) (draws (del_u26f hS)) Try.func83 (by kernel_rfl) (fun k x => by kernel_rfl) (by kernel_rfl)) (by kernel_rfl)
theorem ent_u26f : Enters' Try.prog 83 := enters' Try.func83 (by kernel_rfl)
attribute [irreducible] u26f
def a_u27f : Ann := ⟨[], []⟩
def d_u27f : List (Nat × Con) := [(120, c_u14f), (129, c_u17f), (130, c_u25f)]
def u27f (k : Nat) (a : T86.den) (b : T3.den) : Option (den1 [T86, T3]) := evFn Γ d_u27f a_u27f Try.f84 [.val T86, .val T3] [T86, T3] k (a, b, ())
theorem u27f_eq (k : Nat) (a : T86.den) (b : T3.den) : u27f k a b = bnd (u14f k a) (fun y1 => br (!y1) (some (([], [], (0, 0, ()), ()), 1)) (br (decide (b < 0)) (some (([], [], (0, 0, ()), ()), 1)) (br (decide (b > IntKind.i64.wrap ((List.length a.2.1 : Int) - 2))) (some (([], [], (0, 0, ()), ()), 1)) (bnd (u17f k a) (fun y2 => bnd (u25f k y2 b) (fun y3 => some (y3, 0))))))) := by kernel_rfl
def c_u27f : Con := ⟨[.val T86, .val T3], [T86, T3], fun k x => u27f k x.1 x.2.1⟩
theorem del_u27f {w0 : World} (hS : Stops w0) : DelOk Try.prog w0 d_u27f := .cons (ok_u14f hS) ent_u14f (.cons (ok_u17f hS) ent_u17f (.cons (ok_u25f hS) ent_u25f (.nil)))
theorem ok_u27f {w0 : World} (hS : Stops w0) : Keeps Try.prog w0 84 c_u27f := .con (y12q (A := a_u27f) y30q (del_u27f hS) (draws (del_u27f hS)) Try.func84 (by kernel_rfl) (fun k x => by kernel_rfl) (by kernel_rfl)) (by kernel_rfl)
theorem ent_u27f : Enters' Try.prog 84 := enters' Try.func84 (by kernel_rfl)
attribute [irreducible] u27f
def a_u28f : Ann := ⟨[(0, [.val 0 T82, .var 3 T84, .val 5 O82, .val 6 T9, .val 7 T4, .val 8 T3], ⟨[.val 5 O82], true⟩)], []⟩
def d_u28f : List (Nat × Con) := [(122, c_u5f)]
def u28f (k : Nat) (a : T82.den) (b : T84.den) : Option (den1 [T82]) := evFn Γ d_u28f a_u28f Try.f132 [.val T82, .val T84] [T82] k (a, b, ())
def u28f_l0 (k : Nat) (v0 : T82.den) (v3 : T84.den) (v5 : O82.den) (v6 : T9.den) (v7 : T4.den) (v8 : T3.den) : Option (Items.den [.val 5 O82]) := loopQ (ρ := (den1 [T82])) 0 [.val 0 T82, .var 3 T84, .val 5 O82, .val 6 T9, .val 7 T4, .val 8 T3] [.val 5 O82] (runOf Γ d_u28f a_u28f Try.f132 [.val T82, .val T84] [T82] 0) k (v0, v3, v5, v6, v7, v8)
theorem u28f_eq (k : Nat) (a : T82.den) (b : T84.den) : u28f k a b = bnd (u28f_l0 k a b [] [] false 0) (fun y1 => some y1) := by kernel_rfl
theorem u28f_l0_zero (v0 : T82.den) (v3 : T84.den) (v5 : O82.den) (v6 : T9.den) (v7 : T4.den) (v8 : T3.den) : u28f_l0 0 v0 v3 v5 v6 v7 v8 = none := by kernel_rfl
theorem u28f_l0_succ (k : Nat) (v0 : T82.den) (v3 : T84.den) (v5 : O82.den) (v6 : T9.den) (v7 : T4.den) (v8 : T3.den) : u28f_l0 (k + 1) v0 v3 v5 v6 v7 v8 = br (decide (v8 < (List.length v0 : Int))) (br (decide (0 ≤ v8)) (br (decide (v8 < (List.length v0 : Int))) (bnd (u5f k (List.getD v0 (Int.toNat v8) T92.zero).2.1 v3) (fun y1 => br (decide (y1 > 0)) (u28f_l0 k v0 v3 v5 v6 v7 (IntKind.i64.wrap (v8 + 1))) (br ((List.getD v0 (Int.toNat v8) T92.zero).2.2.1) (br (decide (List.length v5 + [(List.getD v0 (Int.toNat v8) T92.zero)].length ≤ capN)) (u28f_l0 k v0 v3 (v5 ++ [(List.getD v0 (Int.toNat v8) T92.zero)]) (List.getD v0 (Int.toNat v8) T92.zero).1 true (IntKind.i64.wrap (v8 + 1))) (none)) (br (v7) (br (v6 == (List.getD v0 (Int.toNat v8) T92.zero).1) (br (decide (List.length v5 + [(List.getD v0 (Int.toNat v8) T92.zero)].length ≤ capN)) (u28f_l0 k v0 v3 (v5 ++ [(List.getD v0 (Int.toNat v8) T92.zero)]) (List.getD v0 (Int.toNat v8) T92.zero).1 true (IntKind.i64.wrap (v8 + 1))) (none)) (u28f_l0 k v0 v3 v5 (List.getD v0 (Int.toNat v8) T92.zero).1 true (IntKind.i64.wrap (v8 + 1)))) (u28f_l0 k v0 v3 v5 (List.getD v0 (Int.toNat v8) T92.zero).1 true (IntKind.i64.wrap (v8 + 1))))))) (none)) (none)) (some v5) := by kernel_rfl
def c_u28f : Con := ⟨[.val T82, .val T84], [T82], fun k x => u28f k x.1 x.2.1⟩
theorem del_u28f {w0 : World} (hS : Stops w0) : DelOk Try.prog w0 d_u28f := .cons (ok_u5f hS) ent_u5f (.nil)
theorem ok_u28f {w0 : World} (hS : Stops w0) : Keeps Try.prog w0 132 c_u28f := .con (y12q (A := a_u28f) y30q (del_u28f hS) (draws (del_u28f hS)) Try.func132 (by kernel_rfl) (fun k x => by kernel_rfl) (by kernel_rfl)) (by kernel_rfl)
theorem ent_u28f : Enters' Try.prog 132 := enters' Try.func132 (by kernel_rfl)
attribute [irreducible] u28f u28f_l0
def a_u29f : Ann := ⟨[(0, [.val 0 T82, .val 1 T82, .val 5 O82, .val 6 T3, .val 7 T3], ⟨[.val 5 O82], true⟩), (2, [.val 0 T82, .val 1 T82, .val 5 O82, .val 6 T3, .val 7 T3], ⟨[.val 0 T82, .val 1 T82, .val 5 O82, .val 6 T3, .val 7 T3], true⟩)], []⟩
def d_u29f : List (Nat × Con) := [(146, c_u6f)]
def u29f (k : Nat) (a : T82.den) (b : T82.den) : Option (den1 [T82]) := evFn Γ d_u29f a_u29f Try.f134 [.val T82, .val T82] [T82] k (a, b, ())
def u29f_l0 (k : Nat) (v0 : T82.den) (v1 : T82.den) (v5 : O82.den) (v6 : T3.den) (v7 : T3.den) : Option (Items.den [.val 5 O82]) := loopQ (ρ := (den1 [T82])) 0 [.val 0 T82, .val 1 T82, .val 5 O82, .val 6 T3, .val 7 T3] [.val 5 O82] (runOf Γ d_u29f a_u29f Try.f134 [.val T82, .val T82] [T82] 0) k (v0, v1, v5, v6, v7)
def u29f_l2 (k : Nat) (v0 : T82.den) (v1 : T82.den) (v5 : O82.den) (v6 : T3.den) (v7 : T3.den) : Option (Items.den [.val 0 T82, .val 1 T82, .val 5 O82, .val 6 T3, .val 7 T3]) := loopQ (ρ := (den1 [T82])) 2 [.val 0 T82, .val 1 T82, .val 5 O82, .val 6 T3, .val 7 T3] [.val 0 T82, .val 1 T82, .val 5 O82, .val 6 T3, .val 7 T3] (runOf Γ d_u29f a_u29f Try.f134 [.val T82, .val T82] [T82] 2) k (v0, v1, v5, v6, v7)
theorem u29f_eq (k : Nat) (a : T82.den) (b : T82.den) : u29f k a b = bnd (u29f_l0 k a b [] 0 0) (fun y1 => some y1) := by kernel_rfl
theorem u29f_l0_zero (v0 : T82.den) (v1 : T82.den) (v5 : O82.den) (v6 : T3.den) (v7 : T3.den) : u29f_l0 0 v0 v1 v5 v6 v7 = none := by kernel_rfl
theorem u29f_l0_succ (k : Nat) (v0 : T82.den) (v1 : T82.den) (v5 : O82.den) (v6 : T3.den) (v7 : T3.den) : u29f_l0 (k + 1) v0 v1 v5 v6 v7 = br (decide (v7 < (List.length v1 : Int))) (bnd (u29f_l2 k v0 v1 v5 v6 v7) (fun y1 => br (decide (y1.2.2.2.1 ≥ (List.length y1.1 : Int))) (br (decide (0 ≤ y1.2.2.2.2)) (br (decide (y1.2.2.2.2 < (List.length y1.2.1 : Int))) (br (decide (List.length y1.2.2.1 + [(List.getD y1.2.1 (Int.toNat y1.2.2.2.2) T92.zero)].length ≤ capN)) (u29f_l0 k y1.1 y1.2.1 (y1.2.2.1 ++ [(List.getD y1.2.1 (Int.toNat y1.2.2.2.2) T92.zero)]) y1.2.2.2.1 (IntKind.i64.wrap (y1.2.2.2.2 + 1))) (none)) (none)) (none)) (br (decide (0 ≤ y1.2.2.2.1)) (br (decide (y1.2.2.2.1 < (List.length y1.1 : Int))) (br (decide (0 ≤ y1.2.2.2.2)) (br (decide (y1.2.2.2.2 < (List.length y1.2.1 : Int))) (br (!andB (eqS (List.getD y1.1 (Int.toNat y1.2.2.2.1) T92.zero).1 (List.getD y1.2.1 (Int.toNat y1.2.2.2.2) T92.zero).1) (andB (andB (eqI (List.getD y1.1 (Int.toNat y1.2.2.2.1) T92.zero).2.1.1 (List.getD y1.2.1 (Int.toNat y1.2.2.2.2) T92.zero).2.1.1) (andB (eqI (List.getD y1.1 (Int.toNat y1.2.2.2.1) T92.zero).2.1.2.1 (List.getD y1.2.1 (Int.toNat y1.2.2.2.2) T92.zero).2.1.2.1) true)) (andB (eqB (List.getD y1.1 (Int.toNat y1.2.2.2.1) T92.zero).2.2.1 (List.getD y1.2.1 (Int.toNat y1.2.2.2.2) T92.zero).2.2.1) (andB (eqS (List.getD y1.1 (Int.toNat y1.2.2.2.1) T92.zero).2.2.2.1 (List.getD y1.2.1 (Int.toNat y1.2.2.2.2) T92.zero).2.2.2.1) true)))) (br (decide (0 ≤ y1.2.2.2.2)) (br (decide (y1.2.2.2.2 < (List.length y1.2.1 : Int))) (br (decide (List.length y1.2.2.1 + [(List.getD y1.2.1 (Int.toNat y1.2.2.2.2) T92.zero)].length ≤ capN)) (u29f_l0 k y1.1 y1.2.1 (y1.2.2.1 ++ [(List.getD y1.2.1 (Int.toNat y1.2.2.2.2) T92.zero)]) y1.2.2.2.1 (IntKind.i64.wrap (y1.2.2.2.2 + 1))) (none)) (none)) (none)) (u29f_l0 k y1.1 y1.2.1 y1.2.2.1 y1.2.2.2.1 (IntKind.i64.wrap (y1.2.2.2.2 + 1)))) (none)) (none)) (none)) (none)))) (some v5) := by kernel_rfl
theorem u29f_l2_zero (v0 : T82.den) (v1 : T82.den) (v5 : O82.den) (v6 : T3.den) (v7 : T3.den) : u29f_l2 0 v0 v1 v5 v6 v7 = none := by kernel_rfl
theorem u29f_l2_succ (k : Nat) (v0 : T82.den) (v1 : T82.den) (v5 : O82.den) (v6 : T3.den) (v7 : T3.den) : u29f_l2 (k + 1) v0 v1 v5 v6 v7 = br (decide (v6 < (List.length v0 : Int))) (br (decide (0 ≤ v6)) (br (decide (v6 < (List.length v0 : Int))) (br (decide (0 ≤ v7)) (br (decide (v7 < (List.length v1 : Int))) (bnd (u6f k (List.getD v0 (Int.toNat v6) T92.zero) (List.getD v1 (Int.toNat v7) T92.zero)) (fun y1 => br (y1) (u29f_l2 k v0 v1 v5 (IntKind.i64.wrap (v6 + 1)) v7) (some (v0, v1, v5, v6, v7)))) (none)) (none)) (none)) (none)) (some (v0, v1, v5, v6, v7)) := by kernel_rfl
def c_u29f : Con := ⟨[.val T82, .val T82], [T82], fun k x => u29f k x.1 x.2.1⟩
theorem del_u29f {w0 : World} (hS : Stops w0) : DelOk Try.prog w0 d_u29f := .cons (ok_u6f hS) ent_u6f (.nil)
theorem ok_u29f {w0 : World} (hS : Stops w0) : Keeps Try.prog w0 134 c_u29f := .con (y12q (A := a_u29f) y30q (del_u29f hS) (draws (del_u29f hS)) Try.func134 (by kernel_rfl) (fun k x => by kernel_rfl) (by kernel_rfl)) (by kernel_rfl)
theorem ent_u29f : Enters' Try.prog 134 := enters' Try.func134 (by kernel_rfl)
attribute [irreducible] u29f u29f_l0 u29f_l2
def a_u30f : Ann := ⟨[(0, [.var 2 T86, .var 4 T86, .val 6 T82, .var 7 X86_v_1, .val 8 T3], ⟨[.var 4 T86, .var 7 X86_v_1], true⟩)], []⟩
def d_u30f : List (Nat × Con) := [(120, c_u14f), (122, c_u5f), (126, c_u3f), (131, c_u24f), (132, c_u28f), (133, c_u8f), (134, c_u29f)]
def u30f (k : Nat) (a : T86.den) (b : T84.den) : Option (den1 [T86, T3]) := evFn Γ d_u30f a_u30f Try.f85 [.val T86, .val T84] [T86, T3] k (a, b, ())
def u30f_l0 (k : Nat) (v2 : T86.den) (v4 : T86.den) (v6 : T82.den) (v7 : X86_v_1.den) (v8 : T3.den) : Option (Items.den [.var 4 T86, .var 7 X86_v_1]) := loopQ (ρ := (den1 [T86, T3])) 0 [.var 2 T86, .var 4 T86, .val 6 T82, .var 7 X86_v_1, .val 8 T3] [.var 4 T86, .var 7 X86_v_1] (runOf Γ d_u30f a_u30f Try.f85 [.val T86, .val T84] [T86, T3] 0) k (v2, v4, v6, v7, v8)
theorem u30f_eq (k : Nat) (a : T86.den) (b : T84.den) : u30f k a b = bnd (u14f k a) (fun y1 => br (!y1) (some (([], [], (0, 0, ()), ()), 1)) (bnd (u3f k b) (fun y2 => br (!y2) (some (([], [], (0, 0, ()), ()), 1)) (bnd (u5f k b a.2.2.1) (fun y3 => br (decide (y3 < 0)) (some (([], [], (0, 0, ()), ()), 7)) (bnd (u8f k a) (fun y4 => bnd (u28f k y4 b) (fun y5 => bnd (u29f k y5 a.1) (fun y6 => bnd (u30f_l0 k a ([], [], (0, 0, ()), ()) y5 (y6, [], b, ()) 0) (fun y7 => some (y7.2, 0))))))))))) := by kernel_rfl
theorem u30f_l0_zero (v2 : T86.den) (v4 : T86.den) (v6 : T82.den) (v7 : X86_v_1.den) (v8 : T3.den) : u30f_l0 0 v2 v4 v6 v7 v8 = none := by kernel_rfl
theorem u30f_l0_succ (k : Nat) (v2 : T86.den) (v4 : T86.den) (v6 : T82.den) (v7 : X86_v_1.den) (v8 : T3.den) : u30f_l0 (k + 1) v2 v4 v6 v7 v8 = br (decide (v8 < (List.length v2.2.1 : Int))) (br (decide (0 ≤ v8)) (br (decide (v8 < (List.length v2.2.1 : Int))) (bnd (u29f k v6 (List.getD v2.2.1 (Int.toNat v8) T150.zero).1) (fun y1 => br (decide ((List.length y1 : Int) > 0)) (bnd (u24f k y1) (fun y2 => br (decide (List.length v7.2.1 + [y2].length ≤ capN)) (u30f_l0 k v2 v4 v6 (v7.1, v7.2.1 ++ [y2], v7.2.2.1, ()) (IntKind.i64.wrap (v8 + 1))) (none))) (u30f_l0 k v2 v4 v6 v7 (IntKind.i64.wrap (v8 + 1))))) (none)) (none)) (some (v4, v7.1, v7.2.1, v7.2.2.1, ())) := by kernel_rfl
def c_u30f : Con := ⟨[.val T86, .val T84], [T86, T3], fun k x => u30f k x.1 x.2.1⟩
theorem del_u30f {w0 : World} (hS : Stops w0) : DelOk Try.prog w0 d_u30f := .cons (ok_u14f hS) ent_u14f (.cons (ok_u5f hS) ent_u5f (.cons (ok_u3f hS) ent_u3f (.cons (ok_u24f hS) ent_u24f (.cons (ok_u28f hS) ent_u28f (.cons (ok_u8f hS) ent_u8f (.cons (ok_u29f hS) ent_u29f (.nil)))))))
theorem ok_u30f {w0 : World} (hS : Stops w0) : Keeps Try.prog w0 85 c_u30f := .con (y12q (A := a_u30f) y30q (del_u30f hS) (draws (del_u30f hS)) Try.func85 (by kernel_rfl) (fun k x => by kernel_rfl) (by kernel_rfl)) (by kernel_rfl)
theorem ent_u30f : Enters' Try.prog 85 := enters' Try.func85 (by kernel_rfl)
attribute [irreducible] u30f u30f_l0
def a_u31f : Ann := ⟨[], []⟩
def d_u31f : List (Nat × Con) := [(80, c_u19f), (81, c_u21f), (82, c_u23f), (83, c_u26f), (84, c_u27f), (85, c_u30f)]
def u31f (k : Nat) (a : T86.den) (b : T94.den) : Option (den1 [T86, T88]) := evFn Γ d_u31f a_u31f Try.f43 [.val T86, .val T94] [T86, T88] k (a, b, ())
theorem u31f_eq (k : Nat) (a : T86.den) (b : T94.den) : u31f k a b = br (b.1 == 1) (bnd (u19f k a b.2.1) (fun y1 => some (y1.1, y1.2, false, [], ()))) (br (b.1 == 2) (bnd (u21f k a b.2.2.1 b.2.2.2.2.1) (fun y1 => br (y1.2.1) (some (a, y1.2.2, y1.2.1, [y1.1], ())) (some (a, y1.2.2, y1.2.1, [], ())))) (br (b.1 == 3) (bnd (u23f k a b.2.2.1 b.2.2.2.1 b.2.2.2.2.1 b.2.2.2.2.2.1) (fun y1 => some (a, y1.2, false, y1.1, ()))) (br (b.1 == 4) (bnd (u26f k a) (fun y1 => some (y1.1, y1.2, false, [], ()))) (br (b.1 == 5) (bnd (u27f k a b.2.2.2.2.2.1) (fun y1 => some (y1.1, y1.2, false, [], ()))) (br (b.1 == 6) (bnd (u30f k a b.2.2.2.2.1) (fun y1 => some (y1.1, y1.2, false, [], ()))) (some (a, 1, false, [], ()))))))) := by kernel_rfl
def c_u31f : Con := ⟨[.val T86, .val T94], [T86, T88], fun k x => u31f k x.1 x.2.1⟩
theorem del_u31f {w0 : World} (hS : Stops w0) : DelOk Try.prog w0 d_u31f := .cons (ok_u19f hS) ent_u19f (.cons (ok_u21f hS) ent_u21f (.cons (ok_u23f hS) ent_u23f (.cons (ok_u26f hS) ent_u26f (.cons (ok_u27f hS) ent_u27f (.cons (ok_u30f hS) ent_u30f (.nil))))))
theorem ok_u31f {w0 : World} (hS : Stops w0) : Keeps Try.prog w0 43 c_u31f := .con (y12q (A := a_u31f) y30q (del_u31f hS) (draws (del_u31f hS)) Try.func43 (by kernel_rfl) (fun k x => by kernel_rfl) (by kernel_rfl)) (by kernel_rfl)
theorem ent_u31f : Enters' Try.prog 43 := enters' Try.func43 (by kernel_rfl)
attribute [irreducible] u31f
def a_u32f : Ann := ⟨[(0, [.val 0 T42, .var 4 T86, .val 5 X39_v_0, .val 6 T3], ⟨[.val 5 X39_v_0], true⟩)], []⟩
def d_u32f : List (Nat × Con) := [(43, c_u31f)]
def u32f (k : Nat) (a : T42.den) : Option (den1 [T39, T3]) := evFn Γ d_u32f a_u32f Try.f15 [.val T42] [T39, T3] k (a, ())
def u32f_l0 (k : Nat) (v0 : T42.den) (v4 : T86.den) (v5 : X39_v_0.den) (v6 : T3.den) : Option (Items.den [.val 5 X39_v_0]) := loopQ (ρ := (den1 [T39, T3])) 0 [.val 0 T42, .var 4 T86, .val 5 X39_v_0, .val 6 T3] [.val 5 X39_v_0] (runOf Γ d_u32f a_u32f Try.f15 [.val T42] [T39, T3] 0) k (v0, v4, v5, v6)
theorem u32f_eq (k : Nat) (a : T42.den) : u32f k a = br (decide ((List.length a : Int) > 500)) (some ([], 1)) (bnd (u32f_l0 k a ([], [], (0, 0, ()), ()) [] 0) (fun y1 => some (y1, 0))) := by kernel_rfl
theorem u32f_l0_zero (v0 : T42.den) (v4 : T86.den) (v5 : X39_v_0.den) (v6 : T3.den) : u32f_l0 0 v0 v4 v5 v6 = none := by kernel_rfl
theorem u32f_l0_succ (k : Nat) (v0 : T42.den) (v4 : T86.den) (v5 : X39_v_0.den) (v6 : T3.den) : u32f_l0 (k + 1) v0 v4 v5 v6 = br (decide (v6 < (List.length v0 : Int))) (br (decide (0 ≤ v6)) (br (decide (v6 < (List.length v0 : Int))) (bnd (u31f k v4 (List.getD v0 (Int.toNat v6) T94.zero)) (fun y1 => br (y1.2.1 == 0) (br (decide (List.length v5 + [y1.2].length ≤ capN)) (u32f_l0 k v0 y1.1 (v5 ++ [y1.2]) (IntKind.i64.wrap (v6 + 1))) (none)) (br (decide (List.length v5 + [y1.2].length ≤ capN)) (u32f_l0 k v0 v4 (v5 ++ [y1.2]) (IntKind.i64.wrap (v6 + 1))) (none)))) (none)) (none)) (some v5) := by kernel_rfl
def c_u32f : Con := ⟨[.val T42], [T39, T3], fun k x => u32f k x.1⟩
theorem del_u32f {w0 : World} (hS : Stops w0) : DelOk Try.prog w0 d_u32f := .cons (ok_u31f hS) ent_u31f (.nil)
theorem ok_u32f {w0 : World} (hS : Stops w0) : Keeps Try.prog w0 15 c_u32f := .con (y12q (A := a_u32f) y30q (del_u32f hS) (draws (del_u32f hS)) Try.func15 (by kernel_rfl) (fun k x => by kernel_rfl) (by kernel_rfl)) (by kernel_rfl)
theorem ent_u32f : Enters' Try.prog 15 := enters' Try.func15 (by kernel_rfl)
attribute [irreducible] u32f u32f_l0
def a_u33f : Ann := ⟨[], []⟩
def d_u33f : List (Nat × Con) := []
def u33f (k : Nat) (a : T77.den) : Option (den1 [T84]) := evFn Γo d_u33f a_u33f Try.f87 [.val T77] [T84] k (a, ())
theorem u33f_eq (k : Nat) (a : T77.den) : u33f k a = some a := by kernel_rfl
def c_u33f : Con := ⟨[.val T77], [T84], fun k x => u33f k x.1⟩
theorem del_u33f {w0 : World} (hS : Stops w0) : DelOk Try.prog w0 d_u33f := .nil
theorem ok_u33f {w0 : World} (hS : Stops w0) : Keeps Try.prog w0 87 c_u33f := .con (y12q (A := a_u33f) y56q (del_u33f hS) (drawso (del_u33f hS)) Try.func87 (by kernel_rfl) (fun k x => by kernel_rfl) (by kernel_rfl)) (by kernel_rfl)
theorem ent_u33f : Enters' Try.prog 87 := enters' Try.func87 (by kernel_rfl)
attribute [irreducible] u33f
def a_u34f : Ann := ⟨[], []⟩
def d_u34f : List (Nat × Con) := [(87, c_u33f)]
def u34f (k : Nat) (a : T79.den) : Option (den1 [T92]) := evFn Γo d_u34f a_u34f Try.f86 [.val T79] [T92] k (a, ())
theorem u34f_eq (k : Nat) (a : T79.den) : u34f k a = bnd (u33f k a.2.1) (fun y1 => some (a.1, y1, a.2.2.1, a.2.2.2.1, ())) := by kernel_rfl
def c_u34f : Con := ⟨[.val T79], [T92], fun k x => u34f k x.1⟩
theorem del_u34f {w0 : World} (hS : Stops w0) : DelOk Try.prog w0 d_u34f := .cons (ok_u33f hS) ent_u33f (.nil)
theorem ok_u34f {w0 : World} (hS : Stops w0) : Keeps Try.prog w0 86 c_u34f := .con (y12q (A := a_u34f) y56q (del_u34f hS) (drawso (del_u34f hS)) Try.func86 (by kernel_rfl) (fun k x => by kernel_rfl) (by kernel_rfl)) (by kernel_rfl)
theorem ent_u34f : Enters' Try.prog 86 := enters' Try.func86 (by kernel_rfl)
attribute [irreducible] u34f
def a_u35f : Ann := ⟨[], []⟩
def d_u35f : List (Nat × Con) := [(86, c_u34f), (87, c_u33f)]
def u35f (k : Nat) (a : T81.den) : Option (den1 [T94]) := evFn Γo d_u35f a_u35f Try.f44 [.val T81] [T94] k (a, ())
theorem u35f_eq (k : Nat) (a : T81.den) : u35f k a = bnd (u34f k a.2.1) (fun y1 => bnd (u33f k a.2.2.2.2.1) (fun y2 => some (a.1, y1, a.2.2.1, a.2.2.2.1, y2, a.2.2.2.2.2.1, ()))) := by kernel_rfl
def c_u35f : Con := ⟨[.val T81], [T94], fun k x => u35f k x.1⟩
theorem del_u35f {w0 : World} (hS : Stops w0) : DelOk Try.prog w0 d_u35f := .cons (ok_u34f hS) ent_u34f (.cons (ok_u33f hS) ent_u33f (.nil))
theorem ok_u35f {w0 : World} (hS : Stops w0) : Keeps Try.prog w0 44 c_u35f := .con (y12q (A := a_u35f) y56q (del_u35f hS) (drawso (del_u35f hS)) Try.func44 (by kernel_rfl) (fun k x => by kernel_rfl) (by kernel_rfl)) (by kernel_rfl)
theorem ent_u35f : Enters' Try.prog 44 := enters' Try.func44 (by kernel_rfl)
attribute [irreducible] u35f
def a_u36f : Ann := ⟨[(0, [.val 0 T37, .val 3 O42, .val 4 T3], ⟨[.val 3 O42], true⟩)], []⟩
def d_u36f : List (Nat × Con) := [(44, c_u35f)]
def u36f (k : Nat) (a : T37.den) : Option (den1 [O42]) := evFn Γo d_u36f a_u36f Try.f16 [.val T37] [O42] k (a, ())
def u36f_l0 (k : Nat) (v0 : T37.den) (v3 : O42.den) (v4 : T3.den) : Option (Items.den [.val 3 O42]) := loopQ (ρ := (den1 [O42])) 0 [.val 0 T37, .val 3 O42, .val 4 T3] [.val 3 O42] (runOf Γo d_u36f a_u36f Try.f16 [.val T37] [O42] 0) k (v0, v3, v4)
theorem u36f_eq (k : Nat) (a : T37.den) : u36f k a = br ((List.length a : Int) == (List.length a : Int)) (br (decide (0 ≤ (List.length a : Int))) (br (decide ((List.length a : Int) ≤ (↑capN : Int))) (bnd (u36f_l0 k a (List.replicate (List.length a : Int).toNat (T3.pair (T92.pair (T9.pair (T9.pair (T84.pair (T3.pair Ty.unit)))))).zero) 0) (fun y1 => some y1)) (none)) (none)) (none) := by kernel_rfl
theorem u36f_l0_zero (v0 : T37.den) (v3 : O42.den) (v4 : T3.den) : u36f_l0 0 v0 v3 v4 = none := by kernel_rfl
theorem u36f_l0_succ (k : Nat) (v0 : T37.den) (v3 : O42.den) (v4 : T3.den) : u36f_l0 (k + 1) v0 v3 v4 = br (decide (v4 < (List.length v0 : Int))) (br (decide (0 ≤ v4)) (br (decide (v4 < (List.length v0 : Int))) (bnd (u35f k (List.getD v0 (Int.toNat v4) T81.zero)) (fun y1 => br (decide (0 ≤ v4)) (br (decide (v4 < (List.length v3 : Int))) (u36f_l0 k v0 (List.set v3 (Int.toNat v4) y1) (IntKind.i64.wrap (v4 + 1))) (none)) (none))) (none)) (none)) (some v3) := by kernel_rfl
def c_u36f : Con := ⟨[.val T37], [O42], fun k x => u36f k x.1⟩
theorem del_u36f {w0 : World} (hS : Stops w0) : DelOk Try.prog w0 d_u36f := .cons (ok_u35f hS) ent_u35f (.nil)
theorem ok_u36f {w0 : World} (hS : Stops w0) : Keeps Try.prog w0 16 c_u36f := .gn (y40q (A := a_u36f) y56q (del_u36f hS) (drawso (del_u36f hS)) Try.func16 (by kernel_rfl) (fun k x => by kernel_rfl) (by kernel_rfl)) (by kernel_rfl)
theorem ent_u36f : Enters' Try.prog 16 := enters' Try.func16 (by kernel_rfl)
attribute [irreducible] u36f u36f_l0
def a_u37f : Ann := ⟨[], []⟩
def d_u37f : List (Nat × Con) := []
def u37f (k : Nat) (a : T3.den) (b : T3.den) : Option (den1 [T3]) := evFn Γ d_u37f a_u37f Try.f68 [.val T3, .val T3] [T3] k (a, b, ())
theorem u37f_eq (k : Nat) (a : T3.den) (b : T3.den) : u37f k a b = br (decide (a < b)) (some (-1)) (br (decide (a > b)) (some 1) (some 0)) := by kernel_rfl
def c_u37f : Con := ⟨[.val T3, .val T3], [T3], fun k x => u37f k x.1 x.2.1⟩
theorem del_u37f {w0 : World} (hS : Stops w0) : DelOk Try.prog w0 d_u37f := .nil
theorem ok_u37f {w0 : World} (hS : Stops w0) : Keeps Try.prog w0 68 c_u37f := .con (y12q (A := a_u37f) y30q (del_u37f hS) (draws (del_u37f hS)) Try.func68 (by kernel_rfl) (fun k x => by kernel_rfl) (by kernel_rfl)) (by kernel_rfl)
theorem ent_u37f : Enters' Try.prog 68 := enters' Try.func68 (by kernel_rfl)
attribute [irreducible] u37f
def a_u38f : Ann := ⟨[], []⟩
def d_u38f : List (Nat × Con) := [(68, c_u37f)]
def u38f (k : Nat) (a : T84.den) (b : T84.den) : Option (den1 [T3]) := evFn Γ d_u38f a_u38f Try.f90 [.val T84, .val T84] [T3] k (a, b, ())
theorem u38f_eq (k : Nat) (a : T84.den) (b : T84.den) : u38f k a b = bnd (u37f k a.1 b.1) (fun y1 => br (y1 != 0) (some y1) (bnd (u37f k a.2.1 b.2.1) (fun y2 => some y2))) := by kernel_rfl
def c_u38f : Con := ⟨[.val T84, .val T84], [T3], fun k x => u38f k x.1 x.2.1⟩
theorem del_u38f {w0 : World} (hS : Stops w0) : DelOk Try.prog w0 d_u38f := .cons (ok_u37f hS) ent_u37f (.nil)
theorem ok_u38f {w0 : World} (hS : Stops w0) : Keeps Try.prog w0 90 c_u38f := .con (y12q (A := a_u38f) y30q (del_u38f hS) (draws (del_u38f hS)) Try.func90 (by kernel_rfl) (fun k x => by kernel_rfl) (by kernel_rfl)) (by kernel_rfl)
theorem ent_u38f : Enters' Try.prog 90 := enters' Try.func90 (by kernel_rfl)
attribute [irreducible] u38f
def a_u39f : Ann := ⟨[], []⟩
def d_u39f : List (Nat × Con) := [(90, c_u38f)]
def u39f (k : Nat) (a : T92.den) (b : T92.den) : Option (den1 [T4]) := evFn Γ d_u39f a_u39f Try.f137 [.val T92, .val T92] [T4] k (a, b, ())
theorem u39f_eq (k : Nat) (a : T92.den) (b : T92.den) : u39f k a b = br (Op.bytesLess a.1 b.1) (some true) (br (a.1 == b.1) (bnd (u38f k a.2.1 b.2.1) (fun y1 => some (decide (y1 > 0)))) (some false)) := by kernel_rfl
def c_u39f : Con := ⟨[.val T92, .val T92], [T4], fun k x => u39f k x.1 x.2.1⟩
theorem del_u39f {w0 : World} (hS : Stops w0) : DelOk Try.prog w0 d_u39f := .cons (ok_u38f hS) ent_u38f (.nil)
theorem ok_u39f {w0 : World} (hS : Stops w0) : Keeps Try.prog w0 137 c_u39f := .con (y12q (A := a_u39f) y30q (del_u39f hS) (draws (del_u39f hS)) Try.func137 (by kernel_rfl) (fun k x => by kernel_rfl) (by kernel_rfl)) (by kernel_rfl)
theorem ent_u39f : Enters' Try.prog 137 := enters' Try.func137 (by kernel_rfl)
attribute [irreducible] u39f
def a_u40f : Ann := ⟨[], []⟩
def d_u40f : List (Nat × Con) := [(137, c_u39f)]
def u40f (k : Nat) (a : T3.den) (b : T3.den) (c : T82.den) : Option (den1 [T4]) := evFn Γ d_u40f a_u40f Try.f136 [.val T3, .val T3, .ptr T82] [T4] k (a, b, c, ())
theorem u40f_eq (k : Nat) (a : T3.den) (b : T3.den) (c : T82.den) : u40f k a b c = br (decide (0 ≤ a)) (br (decide (a < (List.length c : Int))) (br (decide (0 ≤ b)) (br (decide (b < (List.length c : Int))) (bnd (u39f k (List.getD c (Int.toNat a) T92.zero) (List.getD c (Int.toNat b) T92.zero)) (fun y1 => some y1)) (none)) (none)) (none)) (none) := by kernel_rfl
def c_u40f : Con := ⟨[.val T3, .val T3, .ptr T82], [T4], fun k x => u40f k x.1 x.2.1 x.2.2.1⟩
theorem del_u40f {w0 : World} (hS : Stops w0) : DelOk Try.prog w0 d_u40f := .cons (ok_u39f hS) ent_u39f (.nil)
theorem ok_u40f {w0 : World} (hS : Stops w0) : Keeps Try.prog w0 136 c_u40f := .con (y12q (A := a_u40f) y30q (del_u40f hS) (draws (del_u40f hS)) Try.func136 (by kernel_rfl) (fun k x => by kernel_rfl) (by kernel_rfl)) (by kernel_rfl)
theorem ent_u40f : Enters' Try.prog 136 := enters' Try.func136 (by kernel_rfl)
attribute [irreducible] u40f
def a_u41f : Ann := ⟨[(0, [.var 3 O82, .val 10 T83, .val 11 T3, .val 12 T3], ⟨[.var 3 O82], true⟩)], []⟩
def d_u41f : List (Nat × Con) := [(31, c_sort_SliceStable), (136, c_u40f)]
def u41f (k : Nat) (a : T86.den) : Option (den1 [T82]) := evFn Γ d_u41f a_u41f Try.f91 [.val T86] [T82] k (a, ())
def u41f_l0 (k : Nat) (v3 : O82.den) (v10 : T83.den) (v11 : T3.den) (v12 : T3.den) : Option (Items.den [.var 3 O82]) := loopQ (ρ := (den1 [T82])) 0 [.var 3 O82, .val 10 T83, .val 11 T3, .val 12 T3] [.var 3 O82] (runOf Γ d_u41f a_u41f Try.f91 [.val T86] [T82] 0) k (v3, v10, v11, v12)
theorem u41f_eq (k : Nat) (a : T86.den) : u41f k a = br (decide (List.length a.1 ≤ capN)) (bnd (u41f_l0 k a.1 a.2.1 ((List.length a.2.1 : Int)) 0) (fun y1 => br (decide (List.length y1 ≤ capN)) (bnd (srt T92.zero (fun ys i j => bnd (u40f k i j ys) fun y => some y) y1) (fun y2 => some y2)) (none))) (none) := by kernel_rfl
theorem u41f_l0_zero (v3 : O82.den) (v10 : T83.den) (v11 : T3.den) (v12 : T3.den) : u41f_l0 0 v3 v10 v11 v12 = none := by kernel_rfl
theorem u41f_l0_succ (k : Nat) (v3 : O82.den) (v10 : T83.den) (v11 : T3.den) (v12 : T3.den) : u41f_l0 (k + 1) v3 v10 v11 v12 = br (decide (v12 < v11)) (br (decide (0 ≤ v12)) (br (decide (v12 < (List.length v10 : Int))) (br (decide (List.length v3 + List.length (List.getD v10 (Int.toNat v12) T150.zero).1 ≤ capN)) (u41f_l0 k (v3 ++ (List.getD v10 (Int.toNat v12) T150.zero).1) v10 v11 (IntKind.i64.wrap (v12 + 1))) (none)) (none)) (none)) (some v3) := by kernel_rfl
def c_u41f : Con := ⟨[.val T86], [T82], fun k x => u41f k x.1⟩
theorem del_u41f {w0 : World} (hS : Stops w0) : DelOk Try.prog w0 d_u41f := .cons (hS.sort_SliceStable.1) hS.sort_SliceStable.2.1 (.cons (ok_u40f hS) ent_u40f (.nil)) hS.sort_SliceStable.2.2
theorem ok_u41f {w0 : World} (hS : Stops w0) : Keeps Try.prog w0 91 c_u41f := .con (y12q (A := a_u41f) y30q (del_u41f hS) (draws (del_u41f hS)) Try.func91 (by kernel_rfl) (fun k x => by kernel_rfl) (by kernel_rfl)) (by kernel_rfl)
theorem ent_u41f : Enters' Try.prog 91 := enters' Try.func91 (by kernel_rfl)
attribute [irreducible] u41f u41f_l0
def a_u42f : Ann := ⟨[], []⟩
def d_u42f : List (Nat × Con) := []
def u42f (k : Nat) (a : T84.den) : Option (den1 [T4]) := evFn Γ d_u42f a_u42f Try.f94 [.val T84] [T4] k (a, ())
theorem u42f_eq (k : Nat) (a : T84.den) : u42f k a = br (decide (a.1 ≥ 0)) (br (decide (a.1 ≤ 1000000000000)) (br (decide (a.2.1 ≥ 0)) (some (decide (a.2.1 ≤ 1000000))) (some false)) (some false)) (some false) := by kernel_rfl
def c_u42f : Con := ⟨[.val T84], [T4], fun k x => u42f k x.1⟩
theorem del_u42f {w0 : World} (hS : Stops w0) : DelOk Try.prog w0 d_u42f := .nil
theorem ok_u42f {w0 : World} (hS : Stops w0) : Keeps Try.prog w0 94 c_u42f := .con (y12q (A := a_u42f) y30q (del_u42f hS) (draws (del_u42f hS)) Try.func94 (by kernel_rfl) (fun k x => by kernel_rfl) (by kernel_rfl)) (by kernel_rfl)
theorem ent_u42f : Enters' Try.prog 94 := enters' Try.func94 (by kernel_rfl)
attribute [irreducible] u42f
def a_u43f : Ann := ⟨[(0, [.val 0 T9, .val 1 T3, .var 4 T179, .val 5 T183, .val 6 T3], ⟨[.val 1 T3, .var 4 T179, .val 5 T183], true⟩)], []⟩
def d_u43f : List (Nat × Con) := []
def u43f (k : Nat) (a : T9.den) (b : T3.den) : Option (den1 [T179]) := evFn Γ d_u43f a_u43f Try.f140 [.val T9, .val T3] [T179] k (a, b, ())
def u43f_l0 (k : Nat) (v0 : T9.den) (v1 : T3.den) (v4 : T179.den) (v5 : T183.den) (v6 : T3.den) : Option (Items.den [.val 1 T3, .var 4 T179, .val 5 T183]) := loopQ (ρ := (den1 [T179])) 0 [.val 0 T9, .val 1 T3, .var 4 T179, .val 5 T183, .val 6 T3] [.val 1 T3, .var 4 T179, .val 5 T183] (runOf Γ d_u43f a_u43f Try.f140 [.val T9, .val T3] [T179] 0) k (v0, v1, v4, v5, v6)
theorem u43f_eq (k : Nat) (a : T9.den) (b : T3.den) : u43f k a b = bnd (u43f_l0 k a b (0, 0, 0, ()) 2166136261 0) (fun y1 => br (decide (0 ≤ 16)) (br (!y1.1 == 0) (br (!y1.1 == 0) (br (!y1.1 == 0) (some ((IntKind.i64.wrap (bits BinOp.and IntKind.u32 y1.2.2 65535)).tmod y1.1, (IntKind.i64.wrap (IntKind.i64.wrap (bits BinOp.and IntKind.u32 y1.2.2 65535) + IntKind.i64.wrap (IntKind.i64.wrap (Int.fdiv y1.2.2 (2 ^ min (Int.toNat 16) IntKind.u32.bits)) + 1))).tmod y1.1, (IntKind.i64.wrap (IntKind.i64.wrap (bits BinOp.and IntKind.u32 y1.2.2 65535) + IntKind.i64.wrap (2 * IntKind.i64.wrap (IntKind.i64.wrap (Int.fdiv y1.2.2 (2 ^ min (Int.toNat 16) IntKind.u32.bits)) + 1)))).tmod y1.1, ())) (none)) (none)) (none)) (none)) := by kernel_rfl
theorem u43f_l0_zero (v0 : T9.den) (v1 : T3.den) (v4 : T179.den) (v5 : T183.den) (v6 : T3.den) : u43f_l0 0 v0 v1 v4 v5 v6 = none := by kernel_rfl
theorem u43f_l0_succ (k : Nat) (v0 : T9.den) (v1 : T3.den) (v4 : T179.den) (v5 : T183.den) (v6 : T3.den) : u43f_l0 (k + 1) v0 v1 v4 v5 v6 = br (decide (v6 < (List.length v0 : Int))) (br (decide (0 ≤ v6)) (br (decide (v6 < (List.length v0 : Int))) (u43f_l0 k v0 v1 v4 (IntKind.u32.wrap (bits BinOp.xor IntKind.u32 v5 (IntKind.u32.wrap (↑(List.getD v0 (Int.toNat v6) 0).toNat : Int)) * 16777619)) (IntKind.i64.wrap (v6 + 1))) (none)) (none)) (some (v1, v4, v5)) := by kernel_rfl
def c_u43f : Con := ⟨[.val T9, .val T3], [T179], fun k x => u43f k x.1 x.2.1⟩
theorem del_u43f {w0 : World} (hS : Stops w0) : DelOk Try.prog w0 d_u43f := .nil
theorem ok_u43f {w0 : World} (hS : Stops w0) : Keeps Try.prog w0 140 c_u43f := .con (y12q (A := a_u43f) y30q (del_u43f hS) (draws (del_u43f hS)) Try.func140 (by kernel_rfl) (fun k x => by kernel_rfl) (by kernel_rfl)) (by kernel_rfl)
theorem ent_u43f : Enters' Try.prog 140 := enters' Try.func140 (by kernel_rfl)
attribute [irreducible] u43f u43f_l0
def a_u44f : Ann := ⟨[(0, [.val 3 X157_v_0, .val 16 T147, .val 17 T3, .val 18 T3], ⟨[.val 3 X157_v_0], true⟩), (2, [.val 3 X157_v_0, .val 16 T147, .val 17 T3, .val 18 T3, .val 26 T179, .val 27 T3], ⟨[.val 3 X157_v_0, .val 16 T147, .val 17 T3, .val 18 T3], true⟩)], []⟩
def d_u44f : List (Nat × Con) := [(140, c_u43f)]
def u44f (k : Nat) (a : T147.den) : Option (den1 [T9]) := evFn Γ d_u44f a_u44f Try.f98 [.val T147] [T9] k (a, ())
def u44f_l0 (k : Nat) (v3 : X157_v_0.den) (v16 : T147.den) (v17 : T3.den) (v18 : T3.den) : Option (Items.den [.val 3 X157_v_0]) := loopQ (ρ := (den1 [T9])) 0 [.val 3 X157_v_0, .val 16 T147, .val 17 T3, .val 18 T3] [.val 3 X157_v_0] (runOf Γ d_u44f a_u44f Try.f98 [.val T147] [T9] 0) k (v3, v16, v17, v18)
def u44f_l2 (k : Nat) (v3 : X157_v_0.den) (v16 : T147.den) (v17 : T3.den) (v18 : T3.den) (v26 : T179.den) (v27 : T3.den) : Option (Items.den [.val 3 X157_v_0, .val 16 T147, .val 17 T3, .val 18 T3]) := loopQ (ρ := (den1 [T9])) 2 [.val 3 X157_v_0, .val 16 T147, .val 17 T3, .val 18 T3, .val 26 T179, .val 27 T3] [.val 3 X157_v_0, .val 16 T147, .val 17 T3, .val 18 T3] (runOf Γ d_u44f a_u44f Try.f98 [.val T147] [T9] 2) k (v3, v16, v17, v18, v26, v27)
theorem u44f_eq (k : Nat) (a : T147.den) : u44f k a = br (!16 == 0) (br (min (max (IntKind.i64.wrap (IntKind.i64.wrap ((IntKind.i64.wrap ((List.length a : Int) + 15)).tdiv 16) * 32)) 32) 8192 == min (max (IntKind.i64.wrap (IntKind.i64.wrap ((IntKind.i64.wrap ((List.length a : Int) + 15)).tdiv 16) * 32)) 32) 8192) (br (decide (0 ≤ min (max (IntKind.i64.wrap (IntKind.i64.wrap ((IntKind.i64.wrap ((List.length a : Int) + 15)).tdiv 16) * 32)) 32) 8192)) (br (decide (min (max (IntKind.i64.wrap (IntKind.i64.wrap ((IntKind.i64.wrap ((List.length a : Int) + 15)).tdiv 16) * 32)) 32) 8192 ≤ (↑capN : Int))) (bnd (u44f_l0 k (List.replicate (min (max (IntKind.i64.wrap (IntKind.i64.wrap ((IntKind.i64.wrap ((List.length a : Int) + 15)).tdiv 16) * 32)) 32) 8192).toNat (Ty.int IntKind.u8).zero) a ((List.length a : Int)) 0) (fun y1 => some (List.map (fun n => UInt8.ofNat n.toNat) y1))) (none)) (none)) (none)) (none) := by kernel_rfl
theorem u44f_l0_zero (v3 : X157_v_0.den) (v16 : T147.den) (v17 : T3.den) (v18 : T3.den) : u44f_l0 0 v3 v16 v17 v18 = none := by kernel_rfl
theorem u44f_l0_succ (k : Nat) (v3 : X157_v_0.den) (v16 : T147.den) (v17 : T3.den) (v18 : T3.den) : u44f_l0 (k + 1) v3 v16 v17 v18 = br (decide (v18 < v17)) (br (decide (0 ≤ v18)) (br (decide (v18 < (List.length v16 : Int))) (bnd (u43f k (List.getD v16 (Int.toNat v18) T9.zero) (IntKind.i64.wrap (8 * (List.length v3 : Int)))) (fun y1 => bnd (u44f_l2 k v3 v16 v17 v18 y1 0) (fun y2 => u44f_l0 k y2.1 y2.2.1 y2.2.2.1 (IntKind.i64.wrap (y2.2.2.2 + 1))))) (none)) (none)) (some v3) := by kernel_rfl
theorem u44f_l2_zero (v3 : X157_v_0.den) (v16 : T147.den) (v17 : T3.den) (v18 : T3.den) (v26 : T179.den) (v27 : T3.den) : u44f_l2 0 v3 v16 v17 v18 v26 v27 = none := by kernel_rfl
theorem u44f_l2_succ (k : Nat) (v3 : X157_v_0.den) (v16 : T147.den) (v17 : T3.den) (v18 : T3.den) (v26 : T179.den) (v27 : T3.den) : u44f_l2 (k + 1) v3 v16 v17 v18 v26 v27 = br (decide (v27 < 3)) (br (decide (0 ≤ v27)) (br (decide (v27 < (↑[v26.1, v26.2.1, v26.2.2.1].length : Int))) (br (!8 == 0) (br (decide (0 ≤ IntKind.i64.wrap (([v26.1, v26.2.1, v26.2.2.1].getD (Int.toNat v27) 0).tdiv 8))) (br (decide (IntKind.i64.wrap (([v26.1, v26.2.1, v26.2.2.1].getD (Int.toNat v27) 0).tdiv 8) < (List.length v3 : Int))) (br (!8 == 0) (br (decide (0 ≤ ([v26.1, v26.2.1, v26.2.2.1].getD (Int.toNat v27) 0).tmod 8)) (br (decide (0 ≤ IntKind.i64.wrap (([v26.1, v26.2.1, v26.2.2.1].getD (Int.toNat v27) 0).tdiv 8))) (br (decide (IntKind.i64.wrap (([v26.1, v26.2.1, v26.2.2.1].getD (Int.toNat v27) 0).tdiv 8) < (List.length v3 : Int))) (u44f_l2 k (List.set v3 (IntKind.i64.wrap (([v26.1, v26.2.1, v26.2.2.1].getD (Int.toNat v27) 0).tdiv 8)).toNat (bits BinOp.or IntKind.u8 (List.getD v3 (IntKind.i64.wrap (([v26.1, v26.2.1, v26.2.2.1].getD (Int.toNat v27) 0).tdiv 8)).toNat T5.zero) (IntKind.u8.wrap (1 * 2 ^ min (([v26.1, v26.2.1, v26.2.2.1].getD (Int.toNat v27) 0).tmod 8).toNat IntKind.u8.bits)))) v16 v17 v18 v26 (IntKind.i64.wrap (v27 + 1))) (none)) (none)) (none)) (none)) (none)) (none)) (none)) (none)) (none)) (some (v3, v16, v17, v18)) := by kernel_rfl
def c_u44f : Con := ⟨[.val T147], [T9], fun k x => u44f k x.1⟩
theorem del_u44f {w0 : World} (hS : Stops w0) : DelOk Try.prog w0 d_u44f := .cons (ok_u43f hS) ent_u43f (.nil)
theorem ok_u44f {w0 : World} (hS : Stops w0) : Keeps Try.prog w0 98 c_u44f := .con (y12q (A := a_u44f) y30q (del_u44f hS) (draws (del_u44f hS)) Try.func98 (by kernel_rfl) (fun k x => by kernel_rfl) (by kernel_rfl)) (by kernel_rfl)
theorem ent_u44f : Enters' Try.prog 98 := enters' Try.func98 (by kernel_rfl)
attribute [irreducible] u44f u44f_l0 u44f_l2
def a_u45f : Ann := ⟨[(0, [.val 3 O147, .val 6 T82, .val 7 T3, .val 8 T3], ⟨[.val 3 O147], true⟩)], []⟩
def d_u45f : List (Nat × Con) := []
def u45f (k : Nat) (a : T82.den) : Option (den1 [O147]) := evFn Γo d_u45f a_u45f Try.f99 [.val T82] [O147] k (a, ())
def u45f_l0 (k : Nat) (v3 : O147.den) (v6 : T82.den) (v7 : T3.den) (v8 : T3.den) : Option (Items.den [.val 3 O147]) := loopQ (ρ := (den1 [O147])) 0 [.val 3 O147, .val 6 T82, .val 7 T3, .val 8 T3] [.val 3 O147] (runOf Γo d_u45f a_u45f Try.f99 [.val T82] [O147] 0) k (v3, v6, v7, v8)
theorem u45f_eq (k : Nat) (a : T82.den) : u45f k a = bnd (u45f_l0 k [] a ((List.length a : Int)) 0) (fun y1 => some y1) := by kernel_rfl
theorem u45f_l0_zero (v3 : O147.den) (v6 : T82.den) (v7 : T3.den) (v8 : T3.den) : u45f_l0 0 v3 v6 v7 v8 = none := by kernel_rfl
theorem u45f_l0_succ (k : Nat) (v3 : O147.den) (v6 : T82.den) (v7 : T3.den) (v8 : T3.den) : u45f_l0 (k + 1) v3 v6 v7 v8 = br (decide (v8 < v7)) (br (decide (0 ≤ v8)) (br (decide (v8 < (List.length v6 : Int))) (br (decide (List.length v3 + [(List.getD v6 (Int.toNat v8) T92.zero).1].length ≤ capN)) (u45f_l0 k (v3 ++ [(List.getD v6 (Int.toNat v8) T92.zero).1]) v6 v7 (IntKind.i64.wrap (v8 + 1))) (none)) (none)) (none)) (some v3) := by kernel_rfl
def c_u45f : Con := ⟨[.val T82], [O147], fun k x => u45f k x.1⟩
theorem del_u45f {w0 : World} (hS : Stops w0) : DelOk Try.prog w0 d_u45f := .nil
theorem ok_u45f {w0 : World} (hS : Stops w0) : Keeps Try.prog w0 99 c_u45f := .gn (y40q (A := a_u45f) y56q (del_u45f hS) (drawso (del_u45f hS)) Try.func99 (by kernel_rfl) (fun k x => by kernel_rfl) (by kernel_rfl)) (by kernel_rfl)
theorem ent_u45f : Enters' Try.prog 99 := enters' Try.func99 (by kernel_rfl)
attribute [irreducible] u45f u45f_l0
def a_u46f : Ann := ⟨[], []⟩
def d_u46f : List (Nat × Con) := [(94, c_u42f)]
def u46f (k : Nat) (a : T92.den) : Option (den1 [T4]) := evFn Γ d_u46f a_u46f Try.f89 [.val T92] [T4] k (a, ())
theorem u46f_eq (k : Nat) (a : T92.den) : u46f k a = br (decide ((List.length a.1 : Int) ≥ 1)) (br (decide ((List.length a.1 : Int) ≤ 4000)) (bnd (u42f k a.2.1) (fun y1 => br (y1) (br (!andB (eqI a.2.1.1 0) (andB (eqI a.2.1.2.1 0) true)) (br (decide ((List.length a.2.2.2.1 : Int) ≤ 4000)) (br (!a.2.2.1) (some true) (some (a.2.2.2.1 == []))) (some false)) (some false)) (some false))) (some false)) (some false) := by kernel_rfl
def c_u46f : Con := ⟨[.val T92], [T4], fun k x => u46f k x.1⟩
theorem del_u46f {w0 : World} (hS : Stops w0) : DelOk Try.prog w0 d_u46f := .cons (ok_u42f hS) ent_u42f (.nil)
theorem ok_u46f {w0 : World} (hS : Stops w0) : Keeps Try.prog w0 89 c_u46f := .con (y12q (A := a_u46f) y30q (del_u46f hS) (draws (del_u46f hS)) Try.func89 (by kernel_rfl) (fun k x => by kernel_rfl) (by kernel_rfl)) (by kernel_rfl)
theorem ent_u46f : Enters' Try.prog 89 := enters' Try.func89 (by kernel_rfl)
attribute [irreducible] u46f
def a_u47f : Ann := ⟨[(0, [.val 0 T82, .val 5 T82, .val 6 T3, .val 7 T3], ⟨[], false⟩)], []⟩
def d_u47f : List (Nat × Con) := [(89, c_u46f), (137, c_u39f)]
def u47f (k : Nat) (a : T82.den) : Option (den1 [T4]) := evFn Γ d_u47f a_u47f Try.f135 [.val T82] [T4] k (a, ())
def u47f_l0 (k : Nat) (v0 : T82.den) (v5 : T82.den) (v6 : T3.den) (v7 : T3.den) : Option ((Items.den []) ⊕ (den1 [T4])) := loopR (ρ := (den1 [T4])) 0 [.val 0 T82, .val 5 T82, .val 6 T3, .val 7 T3] [] (runOf Γ d_u47f a_u47f Try.f135 [.val T82] [T4] 0) k (v0, v5, v6, v7)
theorem u47f_eq (k : Nat) (a : T82.den) : u47f k a = bnd (u47f_l0 k a a ((List.length a : Int)) 0) (fun y1 => onSum y1 (fun y2 => some true) (fun y2 => some y2)) := by kernel_rfl
theorem u47f_l0_zero (v0 : T82.den) (v5 : T82.den) (v6 : T3.den) (v7 : T3.den) : u47f_l0 0 v0 v5 v6 v7 = none := by kernel_rfl
theorem u47f_l0_succ (k : Nat) (v0 : T82.den) (v5 : T82.den) (v6 : T3.den) (v7 : T3.den) : u47f_l0 (k + 1) v0 v5 v6 v7 = br (decide (v7 < v6)) (br (decide (0 ≤ v7)) (br (decide (v7 < (List.length v5 : Int))) (bnd (u46f k (List.getD v5 (Int.toNat v7) T92.zero)) (fun y1 => br (!y1) (some (Sum.inr false)) (br (decide (v7 > 0)) (br (decide (0 ≤ IntKind.i64.wrap (v7 - 1))) (br (decide (IntKind.i64.wrap (v7 - 1) < (List.length v0 : Int))) (bnd (u39f k (List.getD v0 (IntKind.i64.wrap (v7 - 1)).toNat T92.zero) (List.getD v5 (Int.toNat v7) T92.zero)) (fun y2 => br (!y2) (some (Sum.inr false)) (u47f_l0 k v0 v5 v6 (IntKind.i64.wrap (v7 + 1))))) (none)) (none)) (u47f_l0 k v0 v5 v6 (IntKind.i64.wrap (v7 + 1)))))) (none)) (none)) (some (Sum.inl ())) := by kernel_rfl
def c_u47f : Con := ⟨[.val T82], [T4], fun k x => u47f k x.1⟩
theorem del_u47f {w0 : World} (hS : Stops w0) : DelOk Try.prog w0 d_u47f := .cons (ok_u46f hS) ent_u46f (.cons (ok_u39f hS) ent_u39f (.nil))
theorem ok_u47f {w0 : World} (hS : Stops w0) : Keeps Try.prog w0 135 c_u47f := .con (y12q (A := a_u47f) y30q (del_u47f hS) (draws (del_u47f hS)) Try.func135 (by kernel_rfl) (fun k x => by kernel_rfl) (by kernel_rfl)) (by kernel_rfl)
theorem ent_u47f : Enters' Try.prog 135 := enters' Try.func135 (by kernel_rfl)
attribute [irreducible] u47f u47f_l0
def a_u48f : Ann := ⟨[(0, [.var 1 T86, .val 3 T3, .val 28 T83, .val 29 T3, .val 30 T3], ⟨[.var 1 T86, .val 3 T3], false⟩), (2, [.val 6 T82, .val 7 T3], ⟨[], false⟩)], []⟩
def d_u48f : List (Nat × Con) := [(91, c_u41f), (94, c_u42f), (98, c_u44f), (99, c_u45f), (135, c_u47f)]
def u48f (k : Nat) (a : T86.den) : Option (den1 [T4]) := evFn Γ d_u48f a_u48f Try.f88 [.val T86] [T4] k (a, ())
def u48f_l0 (k : Nat) (v1 : T86.den) (v3 : T3.den) (v28 : T83.den) (v29 : T3.den) (v30 : T3.den) : Option ((Items.den [.var 1 T86, .val 3 T3]) ⊕ (den1 [T4])) := loopR (ρ := (den1 [T4])) 0 [.var 1 T86, .val 3 T3, .val 28 T83, .val 29 T3, .val 30 T3] [.var 1 T86, .val 3 T3] (runOf Γ d_u48f a_u48f Try.f88 [.val T86] [T4] 0) k (v1, v3, v28, v29, v30)
def u48f_l2 (k : Nat) (v6 : T82.den) (v7 : T3.den) : Option ((Items.den []) ⊕ (den1 [T4])) := loopR (ρ := (den1 [T4])) 2 [.val 6 T82, .val 7 T3] [] (runOf Γ d_u48f a_u48f Try.f88 [.val T86] [T4] 2) k (v6, v7)
theorem u48f_eq (k : Nat) (a : T86.den) : u48f k a = bnd (u47f k a.1) (fun y1 => br (!y1) (some false) (br (decide ((List.length a.2.1 : Int) > 12)) (some false) (bnd (u42f k a.2.2.1) (fun y2 => br (!y2) (some false) (bnd (u48f_l0 k a ((List.length a.1 : Int)) a.2.1 ((List.length a.2.1 : Int)) 0) (fun y3 => onSum y3 (fun y4 => br (decide (y4.2 > 4000)) (some false) (bnd (u41f k y4.1) (fun y5 => bnd (u48f_l2 k y5 1) (fun y6 => onSum y6 (fun y7 => some true) (fun y7 => some y7))))) (fun y4 => some y4))))))) := by kernel_rfl
theorem u48f_l0_zero (v1 : T86.den) (v3 : T3.den) (v28 : T83.den) (v29 : T3.den) (v30 : T3.den) : u48f_l0 0 v1 v3 v28 v29 v30 = none := by kernel_rfl
theorem u48f_l0_succ (k : Nat) (v1 : T86.den) (v3 : T3.den) (v28 : T83.den) (v29 : T3.den) (v30 : T3.den) : u48f_l0 (k + 1) v1 v3 v28 v29 v30 = br (decide (v30 < v29)) (br (decide (0 ≤ v30)) (br (decide (v30 < (List.length v28 : Int))) (br (decide (IntKind.i64.wrap (v3 + (↑(List.length (List.getD v28 (Int.toNat v30) T150.zero).1) : Int)) > 4000)) (some (Sum.inr false)) (br ((↑(List.length (List.getD v28 (Int.toNat v30) T150.zero).1) : Int) == 0) (some (Sum.inr false)) (bnd (u47f k (List.getD v28 (Int.toNat v30) T150.zero).1) (fun y1 => br (!y1) (some (Sum.inr false)) (bnd (u45f k (List.getD v28 (Int.toNat v30) T150.zero).1) (fun y2 => bnd (u44f k y2) (fun y3 => br (!(List.getD v28 (Int.toNat v30) T150.zero).2.1 == y3) (some (Sum.inr false)) (u48f_l0 k v1 (IntKind.i64.wrap (v3 + (↑(List.length (List.getD v28 (Int.toNat v30) T150.zero).1) : Int))) v28 v29 (IntKind.i64.wrap (v30 + 1)))))))))) (none)) (none)) (some (Sum.inl (v1, v3))) := by kernel_rfl
theorem u48f_l2_zero (v6 : T82.den) (v7 : T3.den) : u48f_l2 0 v6 v7 = none := by kernel_rfl
theorem u48f_l2_succ (k : Nat) (v6 : T82.den) (v7 : T3.den) : u48f_l2 (k + 1) v6 v7 = br (decide (v7 < (List.length v6 : Int))) (br (decide (0 ≤ v7)) (br (decide (v7 < (List.length v6 : Int))) (br (decide (0 ≤ IntKind.i64.wrap (v7 - 1))) (br (decide (IntKind.i64.wrap (v7 - 1) < (List.length v6 : Int))) (br ((List.getD v6 (Int.toNat v7) T92.zero).1 == (List.getD v6 (IntKind.i64.wrap (v7 - 1)).toNat T92.zero).1) (br (decide (0 ≤ v7)) (br (decide (v7 < (List.length v6 : Int))) (br (decide (0 ≤ IntKind.i64.wrap (v7 - 1))) (br (decide (IntKind.i64.wrap (v7 - 1) < (List.length v6 : Int))) (br (andB (eqI (List.getD v6 (Int.toNat v7) T92.zero).2.1.1 (List.getD v6 (IntKind.i64.wrap (v7 - 1)).toNat T92.zero).2.1.1) (andB (eqI (List.getD v6 (Int.toNat v7) T92.zero).2.1.2.1 (List.getD v6 (IntKind.i64.wrap (v7 - 1)).toNat T92.zero).2.1.2.1) true)) (some (Sum.inr false)) (u48f_l2 k v6 (IntKind.i64.wrap (v7 + 1)))) (none)) (none)) (none)) (none)) (u48f_l2 k v6 (IntKind.i64.wrap (v7 + 1)))) (none)) (none)) (none)) (none)) (some (Sum.inl ())) := by kernel_rfl
def c_u48f : Con := ⟨[.val T86], [T4], fun k x => u48f k x.1⟩
theorem del_u48f {w0 : World} (hS : Stops w0) : DelOk Try.prog w0 d_u48f := .cons (ok_u41f hS) ent_u41f (.cons (ok_u42f hS) ent_u42f (.cons (ok_u44f hS) ent_u44f (.cons (ok_u45f hS) ent_u45f (.cons (ok_u47f hS) ent_u47f (.nil)))))
theorem ok_u48f {w0 : World} (hS : Stops w0) : Keeps Try.prog w0 88 c_u48f := .con (y12q (A := a_u48f) y30q (del_u48f hS) (draws (del_u48f hS)) Try.func88 (by kernel_rfl) (fun k x => by kernel_rfl) (by kernel_rfl)) (by kernel_rfl)
theorem ent_u48f : Enters' Try.prog 88 := enters' Try.func88 (by kernel_rfl)
attribute [irreducible] u48f u48f_l0 u48f_l2
def a_u49f : Ann := ⟨[(0, [.var 2 T86, .var 3 O86, .val 13 T83, .val 14 T3, .val 15 T3], ⟨[.var 2 T86, .var 3 O86], true⟩)], []⟩
def d_u49f : List (Nat × Con) := []
def u49f (k : Nat) (a : T86.den) : Option (den1 [O86]) := evFn Γo d_u49f a_u49f Try.f92 [.val T86] [O86] k (a, ())
def u49f_l0 (k : Nat) (v2 : T86.den) (v3 : O86.den) (v13 : T83.den) (v14 : T3.den) (v15 : T3.den) : Option (Items.den [.var 2 T86, .var 3 O86]) := loopQ (ρ := (den1 [O86])) 0 [.var 2 T86, .var 3 O86, .val 13 T83, .val 14 T3, .val 15 T3] [.var 2 T86, .var 3 O86] (runOf Γo d_u49f a_u49f Try.f92 [.val T86] [O86] 0) k (v2, v3, v13, v14, v15)
theorem u49f_eq (k : Nat) (a : T86.den) : u49f k a = br (decide (List.length a.1 ≤ capN)) (bnd (u49f_l0 k ([], [], (0, 0, ()), ()) (a.1, [], a.2.2.1, ()) a.2.1 ((List.length a.2.1 : Int)) 0) (fun y1 => some y1.2)) (none) := by kernel_rfl
theorem u49f_l0_zero (v2 : T86.den) (v3 : O86.den) (v13 : T83.den) (v14 : T3.den) (v15 : T3.den) : u49f_l0 0 v2 v3 v13 v14 v15 = none := by kernel_rfl
theorem u49f_l0_succ (k : Nat) (v2 : T86.den) (v3 : O86.den) (v13 : T83.den) (v14 : T3.den) (v15 : T3.den) : u49f_l0 (k + 1) v2 v3 v13 v14 v15 = br (decide (v15 < v14)) (br (decide (0 ≤ v15)) (br (decide (v15 < (List.length v13 : Int))) (br (decide (List.length (List.getD v13 (Int.toNat v15) T150.zero).1 ≤ capN)) (br (decide (List.length v3.2.1 + [(List.getD v13 (Int.toNat v15) T150.zero)].length ≤ capN)) (u49f_l0 k v2 (v3.1, v3.2.1 ++ [(List.getD v13 (Int.toNat v15) T150.zero)], v3.2.2.1, ()) v13 v14 (IntKind.i64.wrap (v15 + 1))) (none)) (none)) (none)) (none)) (some (v2, v3.1, v3.2.1, v3.2.2.1, ())) := by kernel_rfl
def c_u49f : Con := ⟨[.val T86], [O86], fun k x => u49f k x.1⟩
theorem del_u49f {w0 : World} (hS : Stops w0) : DelOk Try.prog w0 d_u49f := .nil
theorem ok_u49f {w0 : World} (hS : Stops w0) : Keeps Try.prog w0 92 c_u49f := .gn (y40q (A := a_u49f) y56q (del_u49f hS) (drawso (del_u49f hS)) Try.func92 (by kernel_rfl) (fun k x => by kernel_rfl) (by kernel_rfl)) (by kernel_rfl)
theorem ent_u49f : Enters' Try.prog 92 := enters' Try.func92 (by kernel_rfl)
attribute [irreducible] u49f u49f_l0
def a_u50f : Ann := ⟨[], []⟩
def d_u50f : List (Nat × Con) := [(137, c_u39f)]
def u50f (k : Nat) (a : T3.den) (b : T3.den) (c : T82.den) : Option (den1 [T4]) := evFn Γ d_u50f a_u50f Try.f138 [.val T3, .val T3, .ptr T82] [T4] k (a, b, c, ())
theorem u50f_eq (k : Nat) (a : T3.den) (b : T3.den) (c : T82.den) : u50f k a b c = br (decide (0 ≤ a)) (br (decide (a < (List.length c : Int))) (br (decide (0 ≤ b)) (br (decide (b < (List.length c : Int))) (bnd (u39f k (List.getD c (Int.toNat a) T92.zero) (List.getD c (Int.toNat b) T92.zero)) (fun y1 => some y1)) (none)) (none)) (none)) (none) := by kernel_rfl
def c_u50f : Con := ⟨[.val T3, .val T3, .ptr T82], [T4], fun k x => u50f k x.1 x.2.1 x.2.2.1⟩
theorem del_u50f {w0 : World} (hS : Stops w0) : DelOk Try.prog w0 d_u50f := .cons (ok_u39f hS) ent_u39f (.nil)
theorem ok_u50f {w0 : World} (hS : Stops w0) : Keeps Try.prog w0 138 c_u50f := .con (y12q (A := a_u50f) y30q (del_u50f hS) (draws (del_u50f hS)) Try.func138 (by kernel_rfl) (fun k x => by kernel_rfl) (by kernel_rfl)) (by kernel_rfl)
theorem ent_u50f : Enters' Try.prog 138 := enters' Try.func138 (by kernel_rfl)
attribute [irreducible] u50f
def a_u51f : Ann := ⟨[], []⟩
def d_u51f : List (Nat × Con) := [(31, c_sort_SliceStable), (138, c_u50f)]
def u51f (k : Nat) (a : O82.den) : Option (den1 [O82]) := evFn Γo d_u51f a_u51f Try.f93 [.own O82] [O82] k (a, ())
theorem u51f_eq (k : Nat) (a : O82.den) : u51f k a = br (decide (List.length a ≤ capN)) (bnd (srt T92.zero (fun ys i j => bnd (u50f k i j ys) fun y => some y) a) (fun y1 => some y1)) (none) := by kernel_rfl
def c_u51f : Con := ⟨[.own O82], [O82], fun k x => u51f k x.1⟩
theorem del_u51f {w0 : World} (hS : Stops w0) : DelOk Try.prog w0 d_u51f := .cons (hS.sort_SliceStable.1) hS.sort_SliceStable.2.1 (.cons (ok_u50f hS) ent_u50f (.nil)) hS.sort_SliceStable.2.2
theorem ok_u51f {w0 : World} (hS : Stops w0) : Keeps Try.prog w0 93 c_u51f := .gn (y40q (A := a_u51f) y56q (del_u51f hS) (drawso (del_u51f hS)) Try.func93 (by kernel_rfl) (fun k x => by kernel_rfl) (by kernel_rfl)) (by kernel_rfl)
theorem ent_u51f : Enters' Try.prog 93 := enters' Try.func93 (by kernel_rfl)
attribute [irreducible] u51f
def a_u52f : Ann := ⟨[(0, [.var 2 T86, .var 3 T92, .var 4 T86, .val 6 T82, .val 27 T82, .val 28 T3, .val 29 T3], ⟨[.var 2 T86, .var 3 T92, .var 4 T86, .val 6 T82], false⟩)], []⟩
def d_u52f : List (Nat × Con) := [(88, c_u48f), (89, c_u46f), (90, c_u38f), (91, c_u41f), (92, c_u49f), (93, c_u51f)]
def u52f (k : Nat) (a : T86.den) (b : T92.den) : Option (den1 [O86, T3]) := evFn Γo d_u52f a_u52f Try.f45 [.val T86, .val T92] [O86, T3] k (a, b, ())
def u52f_l0 (k : Nat) (v2 : T86.den) (v3 : T92.den) (v4 : T86.den) (v6 : T82.den) (v27 : T82.den) (v28 : T3.den) (v29 : T3.den) : Option ((Items.den [.var 2 T86, .var 3 T92, .var 4 T86, .val 6 T82]) ⊕ (den1 [O86, T3])) := loopR (ρ := (den1 [O86, T3])) 0 [.var 2 T86, .var 3 T92, .var 4 T86, .val 6 T82, .val 27 T82, .val 28 T3, .val 29 T3] [.var 2 T86, .var 3 T92, .var 4 T86, .val 6 T82] (runOf Γo d_u52f a_u52f Try.f45 [.val T86, .val T92] [O86, T3] 0) k (v2, v3, v4, v6, v27, v28, v29)
theorem u52f_eq (k : Nat) (a : T86.den) (b : T92.den) : u52f k a b = bnd (u48f k a) (fun y1 => br (!y1) (some (([], [], (0, 0, ()), ()), 1)) (bnd (u46f k b) (fun y2 => br (!y2) (some (([], [], (0, 0, ()), ()), 1)) (bnd (u38f k b.2.1 a.2.2.1) (fun y3 => br (decide (y3 ≤ 0)) (some (([], [], (0, 0, ()), ()), 7)) (bnd (u41f k a) (fun y4 => bnd (u52f_l0 k a b ([], [], (0, 0, ()), ()) y4 y4 ((List.length y4 : Int)) 0) (fun y5 => onSum y5 (fun y6 => br (decide ((List.length y6.2.2.2 : Int) ≥ 4000)) (some (([], [], (0, 0, ()), ()), 9)) (bnd (u49f k y6.1) (fun y7 => br (decide (List.length y7.1 + [y6.2.1].length ≤ capN)) (bnd (u51f k (y7.1 ++ [y6.2.1])) (fun y8 => some ((y8, y7.2.1, y7.2.2.1, ()), 0))) (none)))) (fun y6 => some y6))))))))) := by kernel_rfl
theorem u52f_l0_zero (v2 : T86.den) (v3 : T92.den) (v4 : T86.den) (v6 : T82.den) (v27 : T82.den) (v28 : T3.den) (v29 : T3.den) : u52f_l0 0 v2 v3 v4 v6 v27 v28 v29 = none := by kernel_rfl
theorem u52f_l0_succ (k : Nat) (v2 : T86.den) (v3 : T92.den) (v4 : T86.den) (v6 : T82.den) (v27 : T82.den) (v28 : T3.den) (v29 : T3.den) : u52f_l0 (k + 1) v2 v3 v4 v6 v27 v28 v29 = br (decide (v29 < v28)) (br (decide (0 ≤ v29)) (br (decide (v29 < (List.length v27 : Int))) (br ((List.getD v27 (Int.toNat v29) T92.zero).1 == v3.1) (br (andB (eqI (List.getD v27 (Int.toNat v29) T92.zero).2.1.1 v3.2.1.1) (andB (eqI (List.getD v27 (Int.toNat v29) T92.zero).2.1.2.1 v3.2.1.2.1) true)) (some (Sum.inr (([], [], (0, 0, ()), ()), 8))) (u52f_l0 k v2 v3 v4 v6 v27 v28 (IntKind.i64.wrap (v29 + 1)))) (u52f_l0 k v2 v3 v4 v6 v27 v28 (IntKind.i64.wrap (v29 + 1)))) (none)) (none)) (some (Sum.inl (v2, v3, v4, v6))) := by kernel_rfl
def c_u52f : Con := ⟨[.val T86, .val T92], [O86, T3], fun k x => u52f k x.1 x.2.1⟩
theorem del_u52f {w0 : World} (hS : Stops w0) : DelOk Try.prog w0 d_u52f := .cons (ok_u48f hS) ent_u48f (.cons (ok_u46f hS) ent_u46f (.cons (ok_u38f hS) ent_u38f (.cons (ok_u41f hS) ent_u41f (.cons (ok_u49f hS) ent_u49f (.cons (ok_u51f hS) ent_u51f (.nil))))))
theorem ok_u52f {w0 : World} (hS : Stops w0) : Keeps Try.prog w0 45 c_u52f := .gn (y40q (A := a_u52f) y56q (del_u52f hS) (drawso (del_u52f hS)) Try.func45 (by kernel_rfl) (fun k x => by kernel_rfl) (by kernel_rfl)) (by kernel_rfl)
theorem ent_u52f : Enters' Try.prog 45 := enters' Try.func45 (by kernel_rfl)
attribute [irreducible] u52f u52f_l0
def a_u53f : Ann := ⟨[(0, [.val 1 T9, .var 5 T84, .var 6 T92, .val 10 T82, .val 11 T3, .val 12 T3], ⟨[.var 6 T92], false⟩)], []⟩
def d_u53f : List (Nat × Con) := [(90, c_u38f)]
def u53f (k : Nat) (a : T82.den) (b : T9.den) (c : T84.den) : Option (den1 [T92, T4]) := evFn Γ d_u53f a_u53f Try.f95 [.val T82, .val T9, .val T84] [T92, T4] k (a, b, c, ())
def u53f_l0 (k : Nat) (v1 : T9.den) (v5 : T84.den) (v6 : T92.den) (v10 : T82.den) (v11 : T3.den) (v12 : T3.den) : Option ((Items.den [.var 6 T92]) ⊕ (den1 [T92, T4])) := loopR (ρ := (den1 [T92, T4])) 0 [.val 1 T9, .var 5 T84, .var 6 T92, .val 10 T82, .val 11 T3, .val 12 T3] [.var 6 T92] (runOf Γ d_u53f a_u53f Try.f95 [.val T82, .val T9, .val T84] [T92, T4] 0) k (v1, v5, v6, v10, v11, v12)
theorem u53f_eq (k : Nat) (a : T82.den) (b : T9.den) (c : T84.den) : u53f k a b c = bnd (u53f_l0 k b c ([], (0, 0, ()), false, [], ()) a ((List.length a : Int)) 0) (fun y1 => onSum y1 (fun y2 => some (([], (0, 0, ()), false, [], ()), false)) (fun y2 => some y2)) := by kernel_rfl
theorem u53f_l0_zero (v1 : T9.den) (v5 : T84.den) (v6 : T92.den) (v10 : T82.den) (v11 : T3.den) (v12 : T3.den) : u53f_l0 0 v1 v5 v6 v10 v11 v12 = none := by kernel_rfl
theorem u53f_l0_succ (k : Nat) (v1 : T9.den) (v5 : T84.den) (v6 : T92.den) (v10 : T82.den) (v11 : T3.den) (v12 : T3.den) : u53f_l0 (k + 1) v1 v5 v6 v10 v11 v12 = br (decide (v12 < v11)) (br (decide (0 ≤ v12)) (br (decide (v12 < (List.length v10 : Int))) (br ((List.getD v10 (Int.toNat v12) T92.zero).1 == v1) (bnd (u38f k (List.getD v10 (Int.toNat v12) T92.zero).2.1 v5) (fun y1 => br (decide (y1 ≤ 0)) (br ((List.getD v10 (Int.toNat v12) T92.zero).2.2.1) (some (Sum.inr (([], (0, 0, ()), false, [], ()), false))) (some (Sum.inr ((List.getD v10 (Int.toNat v12) T92.zero), true)))) (u53f_l0 k v1 v5 v6 v10 v11 (IntKind.i64.wrap (v12 + 1))))) (u53f_l0 k v1 v5 v6 v10 v11 (IntKind.i64.wrap (v12 + 1)))) (none)) (none)) (some (Sum.inl v6)) := by kernel_rfl
def c_u53f : Con := ⟨[.val T82, .val T9, .val T84], [T92, T4], fun k x => u53f k x.1 x.2.1 x.2.2.1⟩
theorem del_u53f {w0 : World} (hS : Stops w0) : DelOk Try.prog w0 d_u53f := .cons (ok_u38f hS) ent_u38f (.nil)
theorem ok_u53f {w0 : World} (hS : Stops w0) : Keeps Try.prog w0 95 c_u53f := .con (y12q (A := a_u53f) y30q (del_u53f hS) (draws (del_u53f hS)) Try.func95 (by kernel_rfl) (fun k x => by kernel_rfl) (by kernel_rfl)) (by kernel_rfl)
theorem ent_u53f : Enters' Try.prog 95 := enters' Try.func95 (by kernel_rfl)
attribute [irreducible] u53f u53f_l0
def a_u54f : Ann := ⟨[], []⟩
def d_u54f : List (Nat × Con) := [(88, c_u48f), (90, c_u38f), (91, c_u41f), (94, c_u42f), (95, c_u53f)]
def u54f (k : Nat) (a : T86.den) (b : T9.den) (c : T84.den) : Option (den1 [T92, T4, T3]) := evFn Γ d_u54f a_u54f Try.f46 [.val T86, .val T9, .val T84] [T92, T4, T3] k (a, b, c, ())
theorem u54f_eq (k : Nat) (a : T86.den) (b : T9.den) (c : T84.den) : u54f k a b c = bnd (u48f k a) (fun y1 => br (!y1) (some (([], (0, 0, ()), false, [], ()), false, 1)) (bnd (u42f k c) (fun y2 => br (!y2) (some (([], (0, 0, ()), false, [], ()), false, 1)) (bnd (u38f k c a.2.2.1) (fun y3 => br (decide (y3 < 0)) (some (([], (0, 0, ()), false, [], ()), false, 10)) (bnd (u41f k a) (fun y4 => bnd (u53f k y4 b c) (fun y5 => some (y5.1, y5.2, 0))))))))) := by kernel_rfl
def c_u54f : Con := ⟨[.val T86, .val T9, .val T84], [T92, T4, T3], fun k x => u54f k x.1 x.2.1 x.2.2.1⟩
theorem del_u54f {w0 : World} (hS : Stops w0) : DelOk Try.prog w0 d_u54f := .cons (ok_u48f hS) ent_u48f (.cons (ok_u38f hS) ent_u38f (.cons (ok_u41f hS) ent_u41f (.cons (ok_u42f hS) ent_u42f (.cons (ok_u53f hS) ent_u53f (.nil)))))
theorem ok_u54f {w0 : World} (hS : Stops w0) : Keeps Try.prog w0 46 c_u54f := .con (y12q (A := a_u54f) y30q (del_u54f hS) (draws (del_u54f hS)) Try.func46 (by kernel_rfl) (fun k x => by kernel_rfl) (by kernel_rfl)) (by kernel_rfl)
theorem ent_u54f : Enters' Try.prog 46 := enters' Try.func46 (by kernel_rfl)
attribute [irreducible] u54f
def a_u55f : Ann := ⟨[(0, [.val 0 T82, .val 1 T9, .val 2 T9, .val 4 T3, .var 8 T84, .val 11 O82, .val 15 T82, .val 16 T3, .val 17 T3], ⟨[.val 11 O82], true⟩), (2, [.val 0 T82, .val 1 T9, .val 2 T9, .val 4 T3, .var 8 T84, .val 11 O82, .var 13 T92, .val 14 T3, .val 15 T82, .val 16 T3, .val 17 T3], ⟨[.val 0 T82, .val 1 T9, .val 2 T9, .val 4 T3, .var 8 T84, .val 11 O82, .val 15 T82, .val 16 T3, .val 17 T3], true⟩)], []⟩
def d_u55f : List (Nat × Con) := [(90, c_u38f)]
def u55f (k : Nat) (a : T82.den) (b : T9.den) (c : T9.den) (d : T84.den) (e : T3.den) : Option (den1 [O82]) := evFn Γo d_u55f a_u55f Try.f96 [.val T82, .val T9, .val T9, .val T84, .val T3] [O82] k (a, b, c, d, e, ())
def u55f_l0 (k : Nat) (v0 : T82.den) (v1 : T9.den) (v2 : T9.den) (v4 : T3.den) (v8 : T84.den) (v11 : O82.den) (v15 : T82.den) (v16 : T3.den) (v17 : T3.den) : Option (Items.den [.val 11 O82]) := loopQ (ρ := (den1 [O82])) 0 [.val 0 T82, .val 1 T9, .val 2 T9, .val 4 T3, .var 8 T84, .val 11 O82, .val 15 T82, .val 16 T3, .val 17 T3] [.val 11 O82] (runOf Γo d_u55f a_u55f Try.f96 [.val T82, .val T9, .val T9, .val T84, .val T3] [O82] 0) k (v0, v1, v2, v4, v8, v11, v15, v16, v17)
def u55f_l2 (k : Nat) (v0 : T82.den) (v1 : T9.den) (v2 : T9.den) (v4 : T3.den) (v8 : T84.den) (v11 : O82.den) (v13 : T92.den) (v14 : T3.den) (v15 : T82.den) (v16 : T3.den) (v17 : T3.den) : Option (Items.den [.val 0 T82, .val 1 T9, .val 2 T9, .val 4 T3, .var 8 T84, .val 11 O82, .val 15 T82, .val 16 T3, .val 17 T3]) := loopQ (ρ := (den1 [O82])) 2 [.val 0 T82, .val 1 T9, .val 2 T9, .val 4 T3, .var 8 T84, .val 11 O82, .var 13 T92, .val 14 T3, .val 15 T82, .val 16 T3, .val 17 T3] [.val 0 T82, .val 1 T9, .val 2 T9, .val 4 T3, .var 8 T84, .val 11 O82, .val 15 T82, .val 16 T3, .val 17 T3] (runOf Γo d_u55f a_u55f Try.f96 [.val T82, .val T9, .val T9, .val T84, .val T3] [O82] 2) k (v0, v1, v2, v4, v8, v11, v13, v14, v15, v16, v17)
theorem u55f_eq (k : Nat) (a : T82.den) (b : T9.den) (c : T9.den) (d : T84.den) (e : T3.den) : u55f k a b c d e = bnd (u55f_l0 k a b c e d [] a ((List.length a : Int)) 0) (fun y1 => some y1) := by kernel_rfl
theorem u55f_l0_zero (v0 : T82.den) (v1 : T9.den) (v2 : T9.den) (v4 : T3.den) (v8 : T84.den) (v11 : O82.den) (v15 : T82.den) (v16 : T3.den) (v17 : T3.den) : u55f_l0 0 v0 v1 v2 v4 v8 v11 v15 v16 v17 = none := by kernel_rfl
theorem u55f_l0_succ (k : Nat) (v0 : T82.den) (v1 : T9.den) (v2 : T9.den) (v4 : T3.den) (v8 : T84.den) (v11 : O82.den) (v15 : T82.den) (v16 : T3.den) (v17 : T3.den) : u55f_l0 (k + 1) v0 v1 v2 v4 v8 v11 v15 v16 v17 = br (decide (v17 < v16)) (br (decide (0 ≤ v17)) (br (decide (v17 < (List.length v15 : Int))) (br (Op.bytesLess (List.getD v15 (Int.toNat v17) T92.zero).1 v1) (u55f_l0 k v0 v1 v2 v4 v8 v11 v15 v16 (IntKind.i64.wrap (v17 + 1))) (br (!v2 == []) (br (!Op.bytesLess (List.getD v15 (Int.toNat v17) T92.zero).1 v2) (u55f_l0 k v0 v1 v2 v4 v8 v11 v15 v16 (IntKind.i64.wrap (v17 + 1))) (br (decide (v17 > 0)) (br (decide (0 ≤ IntKind.i64.wrap (v17 - 1))) (br (decide (IntKind.i64.wrap (v17 - 1) < (List.length v0 : Int))) (br ((List.getD v0 (IntKind.i64.wrap (v17 - 1)).toNat T92.zero).1 == (List.getD v15 (Int.toNat v17) T92.zero).1) (u55f_l0 k v0 v1 v2 v4 v8 v11 v15 v16 (IntKind.i64.wrap (v17 + 1))) (bnd (u55f_l2 k v0 v1 v2 v4 v8 v11 (List.getD v15 (Int.toNat v17) T92.zero) v17 v15 v16 v17) (fun y1 => u55f_l0 k y1.1 y1.2.1 y1.2.2.1 y1.2.2.2.1 y1.2.2.2.2.1 y1.2.2.2.2.2.1 y1.2.2.2.2.2.2.1 y1.2.2.2.2.2.2.2.1 (IntKind.i64.wrap (y1.2.2.2.2.2.2.2.2 + 1))))) (none)) (none)) (bnd (u55f_l2 k v0 v1 v2 v4 v8 v11 (List.getD v15 (Int.toNat v17) T92.zero) v17 v15 v16 v17) (fun y1 => u55f_l0 k y1.1 y1.2.1 y1.2.2.1 y1.2.2.2.1 y1.2.2.2.2.1 y1.2.2.2.2.2.1 y1.2.2.2.2.2.2.1 y1.2.2.2.2.2.2.2.1 (IntKind.i64.wrap (y1.2.2.2.2.2.2.2.2 + 1)))))) (br (decide (v17 > 0)) (br (decide (0 ≤ IntKind.i64.wrap (v17 - 1))) (br (decide (IntKind.i64.wrap (v17 - 1) < (List.length v0 : Int))) (br ((List.getD v0 (IntKind.i64.wrap (v17 - 1)).toNat T92.zero).1 == (List.getD v15 (Int.toNat v17) T92.zero).1) (u55f_l0 k v0 v1 v2 v4 v8 v11 v15 v16 (IntKind.i64.wrap (v17 + 1))) (bnd (u55f_l2 k v0 v1 v2 v4 v8 v11 (List.getD v15 (Int.toNat v17) T92.zero) v17 v15 v16 v17) (fun y1 => u55f_l0 k y1.1 y1.2.1 y1.2.2.1 y1.2.2.2.1 y1.2.2.2.2.1 y1.2.2.2.2.2.1 y1.2.2.2.2.2.2.1 y1.2.2.2.2.2.2.2.1 (IntKind.i64.wrap (y1.2.2.2.2.2.2.2.2 + 1))))) (none)) (none)) (bnd (u55f_l2 k v0 v1 v2 v4 v8 v11 (List.getD v15 (Int.toNat v17) T92.zero) v17 v15 v16 v17) (fun y1 => u55f_l0 k y1.1 y1.2.1 y1.2.2.1 y1.2.2.2.1 y1.2.2.2.2.1 y1.2.2.2.2.2.1 y1.2.2.2.2.2.2.1 y1.2.2.2.2.2.2.2.1 (IntKind.i64.wrap (y1.2.2.2.2.2.2.2.2 + 1))))))) (none)) (none)) (some v11) := by kernel_rfl
theorem u55f_l2_zero (v0 : T82.den) (v1 : T9.den) (v2 : T9.den) (v4 : T3.den) (v8 : T84.den) (v11 : O82.den) (v13 : T92.den) (v14 : T3.den) (v15 : T82.den) (v16 : T3.den) (v17 : T3.den) : u55f_l2 0 v0 v1 v2 v4 v8 v11 v13 v14 v15 v16 v17 = none := by kernel_rfl
theorem u55f_l2_succ (k : Nat) (v0 : T82.den) (v1 : T9.den) (v2 : T9.den) (v4 : T3.den) (v8 : T84.den) (v11 : O82.den) (v13 : T92.den) (v14 : T3.den) (v15 : T82.den) (v16 : T3.den) (v17 : T3.den) : u55f_l2 (k + 1) v0 v1 v2 v4 v8 v11 v13 v14 v15 v16 v17 = br (decide (v14 < (List.length v0 : Int))) (br (decide (0 ≤ v14)) (br (decide (v14 < (List.length v0 : Int))) (br ((List.getD v0 (Int.toNat v14) T92.zero).1 == v13.1) (br (decide (0 ≤ v14)) (br (decide (v14 < (List.length v0 : Int))) (bnd (u38f k (List.getD v0 (Int.toNat v14) T92.zero).2.1 v8) (fun y1 => br (decide (y1 ≤ 0)) (br (decide (0 ≤ v14)) (br (decide (v14 < (List.length v0 : Int))) (br (!(List.getD v0 (Int.toNat v14) T92.zero).2.2.1) (br (decide ((List.length v11 : Int) < v4)) (br (decide (0 ≤ v14)) (br (decide (v14 < (List.length v0 : Int))) (br (decide (List.length v11 + [(List.getD v0 (Int.toNat v14) T92.zero)].length ≤ capN)) (some (v0, v1, v2, v4, v8, v11 ++ [(List.getD v0 (Int.toNat v14) T92.zero)], v15, v16, v17)) (none)) (none)) (none)) (some (v0, v1, v2, v4, v8, v11, v15, v16, v17))) (some (v0, v1, v2, v4, v8, v11, v15, v16, v17))) (none)) (none)) (u55f_l2 k v0 v1 v2 v4 v8 v11 v13 (IntKind.i64.wrap (v14 + 1)) v15 v16 v17))) (none)) (none)) (some (v0, v1, v2, v4, v8, v11, v15, v16, v17))) (none)) (none)) (some (v0, v1, v2, v4, v8, v11, v15, v16, v17)) := by kernel_rfl
def c_u55f : Con := ⟨[.val T82, .val T9, .val T9, .val T84, .val T3], [O82], fun k x => u55f k x.1 x.2.1 x.2.2.1 x.2.2.2.1 x.2.2.2.2.1⟩
theorem del_u55f {w0 : World} (hS : Stops w0) : DelOk Try.prog w0 d_u55f := .cons (ok_u38f hS) ent_u38f (.nil)
theorem ok_u55f {w0 : World} (hS : Stops w0) : Keeps Try.prog w0 96 c_u55f := .gn (y40q (A := a_u55f) y56q (del_u55f hS) (drawso (del_u55f hS)) Try.func96 (by kernel_rfl) (fun k x => by kernel_rfl) (by kernel_rfl)) (by kernel_rfl)
theorem ent_u55f : Enters' Try.prog 96 := enters' Try.func96 (by kernel_rfl)
attribute [irreducible] u55f u55f_l0 u55f_l2
def a_u56f : Ann := ⟨[], []⟩
def d_u56f : List (Nat × Con) := [(88, c_u48f), (90, c_u38f), (91, c_u41f), (94, c_u42f), (96, c_u55f)]
def u56f (k : Nat) (a : T86.den) (b : T9.den) (c : T9.den) (d : T84.den) (e : T3.den) : Option (den1 [O82, T3]) := evFn Γo d_u56f a_u56f Try.f47 [.val T86, .val T9, .val T9, .val T84, .val T3] [O82, T3] k (a, b, c, d, e, ())
theorem u56f_eq (k : Nat) (a : T86.den) (b : T9.den) (c : T9.den) (d : T84.den) (e : T3.den) : u56f k a b c d e = bnd (u48f k a) (fun y1 => br (!y1) (some ([], 1)) (bnd (u42f k d) (fun y2 => br (!y2) (some ([], 1)) (br (decide (e < 0)) (some ([], 1)) (br (decide (e > 4000)) (some ([], 1)) (bnd (u38f k d a.2.2.1) (fun y3 => br (decide (y3 < 0)) (some ([], 10)) (bnd (u41f k a) (fun y4 => bnd (u55f k y4 b c d e) (fun y5 => some (y5, 0))))))))))) := by kernel_rfl
def c_u56f : Con := ⟨[.val T86, .val T9, .val T9, .val T84, .val T3], [O82, T3], fun k x => u56f k x.1 x.2.1 x.2.2.1 x.2.2.2.1 x.2.2.2.2.1⟩
theorem del_u56f {w0 : World} (hS : Stops w0) : DelOk Try.prog w0 d_u56f := .cons (ok_u48f hS) ent_u48f (.cons (ok_u38f hS) ent_u38f (.cons (ok_u41f hS) ent_u41f (.cons (ok_u42f hS) ent_u42f (.cons (ok_u55f hS) ent_u55f (.nil)))))
theorem ok_u56f {w0 : World} (hS : Stops w0) : Keeps Try.prog w0 47 c_u56f := .gn (y40q (A := a_u56f) y56q (del_u56f hS) (drawso (del_u56f hS)) Try.func47 (by kernel_rfl) (fun k x => by kernel_rfl) (by kernel_rfl)) (by kernel_rfl)
theorem ent_u56f : Enters' Try.prog 47 := enters' Try.func47 (by kernel_rfl)
attribute [irreducible] u56f
def a_u57f : Ann := ⟨[], []⟩
def d_u57f : List (Nat × Con) := [(93, c_u51f), (98, c_u44f), (99, c_u45f)]
def u57f (k : Nat) (a : T150.den) (b : T150.den) : Option (den1 [O150]) := evFn Γo d_u57f a_u57f Try.f139 [.val T150, .val T150] [O150] k (a, b, ())
theorem u57f_eq (k : Nat) (a : T150.den) (b : T150.den) : u57f k a b = br (decide (List.length a.1 ≤ capN)) (br (decide (List.length a.1 + List.length b.1 ≤ capN)) (bnd (u51f k (a.1 ++ b.1)) (fun y1 => bnd (u45f k y1) (fun y2 => bnd (u44f k y2) (fun y3 => some (y1, y3, ()))))) (none)) (none) := by kernel_rfl
def c_u57f : Con := ⟨[.val T150, .val T150], [O150], fun k x => u57f k x.1 x.2.1⟩
theorem del_u57f {w0 : World} (hS : Stops w0) : DelOk Try.prog w0 d_u57f := .cons (ok_u51f hS) ent_u51f (.cons (ok_u44f hS) ent_u44f (.cons (ok_u45f hS) ent_u45f (.nil)))
theorem ok_u57f {w0 : World} (hS : Stops w0) : Keeps Try.prog w0 139 c_u57f := .gn (y40q (A := a_u57f) y56q (del_u57f hS) (drawso (del_u57f hS)) Try.func139 (by kernel_rfl) (fun k x => by kernel_rfl) (by kernel_rfl)) (by kernel_rfl)
theorem ent_u57f : Enters' Try.prog 139 := enters' Try.func139 (by kernel_rfl)
attribute [irreducible] u57f
def a_u58f : Ann := ⟨[], []⟩
def d_u58f : List (Nat × Con) := [(139, c_u57f)]
def u58f (k : Nat) (a : O86.den) (b : T3.den) : Option (den1 [O86]) := evFn Γo d_u58f a_u58f Try.f97 [.var O86, .val T3] [O86] k (a, b, ())
theorem u58f_eq (k : Nat) (a : O86.den) (b : T3.den) : u58f k a b = br (decide (0 ≤ b)) (br (decide (b < (List.length a.2.1 : Int))) (br (decide (0 ≤ IntKind.i64.wrap (b + 1))) (br (decide (IntKind.i64.wrap (b + 1) < (List.length a.2.1 : Int))) (bnd (u57f k (List.getD a.2.1 (Int.toNat b) O150.zero) (List.getD a.2.1 (IntKind.i64.wrap (b + 1)).toNat O150.zero)) (fun y1 => br (decide (0 ≤ b)) (br (decide (b ≤ (List.length a.2.1 : Int))) (br (decide (0 + Int.toNat b - 0 ≤ capN)) (br (decide ((List.drop 0 (List.take (0 + Int.toNat b) a.2.1)).length + 0 + [y1].length ≤ capN)) (br (decide (0 ≤ IntKind.i64.wrap (b + 2))) (br (decide (IntKind.i64.wrap (b + 2) ≤ (List.length a.2.1 : Int))) (br (decide (0 + (List.drop 0 (List.take (0 + Int.toNat b) a.2.1)).length ≤ 0 + (IntKind.i64.wrap (b + 2)).toNat)) (br (decide ((List.drop 0 (List.take (0 + Int.toNat b) a.2.1)).length + List.length ([] ++ [y1]) + (0 + List.length a.2.1 - (0 + (IntKind.i64.wrap (b + 2)).toNat)) ≤ capN)) (some (a.1, mixL (O82.pair (T9.pair Ty.unit)) (List.drop 0 (List.take (0 + Int.toNat b) a.2.1)) (List.drop 0 a.2.1) ++ ([] ++ [y1]) ++ List.drop (0 + (IntKind.i64.wrap (b + 2)).toNat) (List.take (0 + List.length a.2.1) a.2.1), a.2.2.1, ())) (none)) (none)) (none)) (none)) (none)) (none)) (none)) (none))) (none)) (none)) (none)) (none) := by kernel_rfl
def c_u58f : Con := ⟨[.var O86, .val T3], [O86], fun k x => u58f k x.1 x.2.1⟩
theorem del_u58f {w0 : World} (hS : Stops w0) : DelOk Try.prog w0 d_u58f := .cons (ok_u57f hS) ent_u57f (.nil)
theorem ok_u58f {w0 : World} (hS : Stops w0) : Keeps Try.prog w0 97 c_u58f := .gn (y40q (A := a_u58f) y56q (del_u58f hS) (drawso (del_u58f hS)) Try.func97 (by kernel_rfl) (fun k x => by kernel_rfl) (by kernel_rfl)) (by kernel_rfl)
theorem ent_u58f : Enters' Try.prog 97 := enters' Try.func97 (by kernel_rfl)
attribute [irreducible] u58f
def a_u59f : Ann := ⟨[], [(8, ⟨[.var 1 O86, .var 2 T86], true⟩)]⟩
def d_u59f : List (Nat × Con) := [(88, c_u48f), (92, c_u49f), (97, c_u58f), (98, c_u44f), (99, c_u45f)]
def u59f (k : Nat) (a : T86.den) : Option (den1 [O86, T3]) := evFn Γo d_u59f a_u59f Try.f48 [.val T86] [O86, T3] k (a, ())
theorem u59f_eq (k : Nat) (a : T86.den) : u59f k a = bnd (u48f k a) (fun y1 => br (!y1) (some (([], [], (0, 0, ()), ()), 1)) (bnd (u49f k a) (fun y2 => br ((List.length y2.1 : Int) == 0) (some (y2, 0)) (bnd (br (decide ((List.length y2.2.1 : Int) ≥ 12)) (bnd (u58f k y2 (IntKind.i64.wrap ((List.length y2.2.1 : Int) - 2))) (fun y3 => some (y3, (([], [], (0, 0, ()), ()) : T86.den)))) (some (y2, (([], [], (0, 0, ()), ()) : T86.den)))) (fun y3 => bnd (u45f k y3.1.1) (fun y4 => bnd (u44f k y4) (fun y5 => br (decide ([(y3.1.1, y5, ())].length + List.length y3.1.2.1 ≤ capN)) (some (([], [(y3.1.1, y5, ())] ++ y3.1.2.1, y3.1.2.2.1, ()), 0)) (none)))))))) := by kernel_rfl
def c_u59f : Con := ⟨[.val T86], [O86, T3], fun k x => u59f k x.1⟩
theorem del_u59f {w0 : World} (hS : Stops w0) : DelOk Try.prog w0 d_u59f := .cons (ok_u48f hS) ent_u48f (.cons (ok_u49f hS) ent_u49f (.cons (ok_u58f hS) ent_u58f (.cons (ok_u44f hS) ent_u44f (.cons (ok_u45f hS) ent_u45f (.nil)))))
theorem ok_u59f {w0 : World} (hS : Stops w0) : Keeps Try.prog w0 48 c_u59f := .gn (y40q (A := a_u59f) y56q (del_u59f hS) (drawso (del_u59f hS)) Try.func48 (by kernel_rfl) (fun k x => by kernel_rfl) (by kernel_rfl)) (by kernel_rfl)
theorem ent_u59f : Enters' Try.prog 48 := enters' Try.func48 (by kernel_rfl)
attribute [irreducible] u59f
def a_u60f : Ann := ⟨[], []⟩
def d_u60f : List (Nat × Con) := [(88, c_u48f), (92, c_u49f), (97, c_u58f)]
def u60f (k : Nat) (a : T86.den) (b : T3.den) : Option (den1 [O86, T3]) := evFn Γo d_u60f a_u60f Try.f49 [.val T86, .val T3] [O86, T3] k (a, b, ())
theorem u60f_eq (k : Nat) (a : T86.den) (b : T3.den) : u60f k a b = bnd (u48f k a) (fun y1 => br (!y1) (some (([], [], (0, 0, ()), ()), 1)) (br (decide (b < 0)) (some (([], [], (0, 0, ()), ()), 1)) (br (decide (b > IntKind.i64.wrap ((List.length a.2.1 : Int) - 2))) (some (([], [], (0, 0, ()), ()), 1)) (bnd (u49f k a) (fun y2 => bnd (u58f k y2 b) (fun y3 => some (y3, 0))))))) := by kernel_rfl
def c_u60f : Con := ⟨[.val T86, .val T3], [O86, T3], fun k x => u60f k x.1 x.2.1⟩
theorem del_u60f {w0 : World} (hS : Stops w0) : DelOk Try.prog w0 d_u60f := .cons (ok_u48f hS) ent_u48f (.cons (ok_u49f hS) ent_u49f (.cons (ok_u58f hS) ent_u58f (.nil)))
theorem ok_u60f {w0 : World} (hS : Stops w0) : Keeps Try.prog w0 49 c_u60f := .gn (y40q (A := a_u60f) y56q (del_u60f hS) (drawso (del_u60f hS)) Try.func49 (by kernel_rfl) (fun k x => by kernel_rfl) (by kernel_rfl)) (by kernel_rfl)
theorem ent_u60f : Enters' Try.prog 49 := enters' Try.func49 (by kernel_rfl)
attribute [irreducible] u60f
def a_u61f : Ann := ⟨[(0, [.el 1 T151, .val 4 O82, .val 7 T82, .val 8 T3, .val 9 T3], ⟨[.val 4 O82], true⟩)], []⟩
def d_u61f : List (Nat × Con) := []
def u61f (k : Nat) (a : T82.den) (b : T151.den) : Option (den1 [O82]) := evFn Γo d_u61f a_u61f Try.f100 [.val T82, .ptr T151] [O82] k (a, b, ())
def u61f_l0 (k : Nat) (v1 : T151.den) (v4 : O82.den) (v7 : T82.den) (v8 : T3.den) (v9 : T3.den) : Option (Items.den [.val 4 O82]) := loopQ (ρ := (den1 [O82])) 0 [.el 1 T151, .val 4 O82, .val 7 T82, .val 8 T3, .val 9 T3] [.val 4 O82] (runOf Γo d_u61f a_u61f Try.f100 [.val T82, .ptr T151] [O82] 0) k (v1, v4, v7, v8, v9)
theorem u61f_eq (k : Nat) (a : T82.den) (b : T151.den) : u61f k a b = bnd (u61f_l0 k b [] a ((List.length a : Int)) 0) (fun y1 => some y1) := by kernel_rfl
theorem u61f_l0_zero (v1 : T151.den) (v4 : O82.den) (v7 : T82.den) (v8 : T3.den) (v9 : T3.den) : u61f_l0 0 v1 v4 v7 v8 v9 = none := by kernel_rfl
theorem u61f_l0_succ (k : Nat) (v1 : T151.den) (v4 : O82.den) (v7 : T82.den) (v8 : T3.den) (v9 : T3.den) : u61f_l0 (k + 1) v1 v4 v7 v8 v9 = br (decide (v9 < v8)) (br (decide (0 ≤ v9)) (br (decide (v9 < (List.length v7 : Int))) (bnd (some (mgetD T153 T4 ((List.getD v7 (Int.toNat v9) T92.zero).1, (List.getD v7 (Int.toNat v9) T92.zero).2.1, ()) v1)) (fun y1 => br (!y1) (br (decide (List.length v4 + [(List.getD v7 (Int.toNat v9) T92.zero)].length ≤ capN)) (u61f_l0 k v1 (v4 ++ [(List.getD v7 (Int.toNat v9) T92.zero)]) v7 v8 (IntKind.i64.wrap (v9 + 1))) (none)) (u61f_l0 k v1 v4 v7 v8 (IntKind.i64.wrap (v9 + 1))))) (none)) (none)) (some v4) := by kernel_rfl
def c_u61f : Con := ⟨[.val T82, .ptr T151], [O82], fun k x => u61f k x.1 x.2.1⟩
theorem del_u61f {w0 : World} (hS : Stops w0) : DelOk Try.prog w0 d_u61f := .nil
theorem ok_u61f {w0 : World} (hS : Stops w0) : Keeps Try.prog w0 100 c_u61f := .gn (y40q (A := a_u61f) y56q (del_u61f hS) (drawso (del_u61f hS)) Try.func100 (by kernel_rfl) (fun k x => by kernel_rfl) (by kernel_rfl)) (by kernel_rfl)
theorem ent_u61f : Enters' Try.prog 100 := enters' Try.func100 (by kernel_rfl)
attribute [irreducible] u61f u61f_l0
def a_u62f : Ann := ⟨[(0, [.var 2 T86, .var 3 T84, .var 4 T86, .var 6 O151, .val 7 T9, .val 32 T82, .val 33 T3, .val 34 T3], ⟨[.var 2 T86, .var 3 T84, .var 4 T86, .var 6 O151], true⟩), (2, [.var 4 T86, .clo 10 100 [T151], .var 11 O86, .val 68 T83, .val 69 T3, .val 70 T3], ⟨[.var 4 T86, .var 11 O86], true⟩)], []⟩
def d_u62f : List (Nat × Con) := [(88, c_u48f), (90, c_u38f), (91, c_u41f), (94, c_u42f), (98, c_u44f), (99, c_u45f), (100, c_u61f)]
def u62f (k : Nat) (a : T86.den) (b : T84.den) : Option (den1 [O86, T3]) := evFn Γo d_u62f a_u62f Try.f50 [.val T86, .val T84] [O86, T3] k (a, b, ())
def u62f_l0 (k : Nat) (v2 : T86.den) (v3 : T84.den) (v4 : T86.den) (v6 : O151.den) (v7 : T9.den) (v32 : T82.den) (v33 : T3.den) (v34 : T3.den) : Option (Items.den [.var 2 T86, .var 3 T84, .var 4 T86, .var 6 O151]) := loopQ (ρ := (den1 [O86, T3])) 0 [.var 2 T86, .var 3 T84, .var 4 T86, .var 6 O151, .val 7 T9, .val 32 T82, .val 33 T3, .val 34 T3] [.var 2 T86, .var 3 T84, .var 4 T86, .var 6 O151] (runOf Γo d_u62f a_u62f Try.f50 [.val T86, .val T84] [O86, T3] 0) k (v2, v3, v4, v6, v7, v32, v33, v34)
def u62f_l2 (k : Nat) (v4 : T86.den) (v10 : (dens [T151])) (v11 : O86.den) (v68 : T83.den) (v69 : T3.den) (v70 : T3.den) : Option (Items.den [.var 4 T86, .var 11 O86]) := loopQ (ρ := (den1 [O86, T3])) 2 [.var 4 T86, .clo 10 100 [T151], .var 11 O86, .val 68 T83, .val 69 T3, .val 70 T3] [.var 4 T86, .var 11 O86] (runOf Γo d_u62f a_u62f Try.f50 [.val T86, .val T84] [O86, T3] 2) k (v4, v10, v11, v68, v69, v70)
theorem u62f_eq (k : Nat) (a : T86.den) (b : T84.den) : u62f k a b = bnd (u48f k a) (fun y1 => br (!y1) (some (([], [], (0, 0, ()), ()), 1)) (bnd (u42f k b) (fun y2 => br (!y2) (some (([], [], (0, 0, ()), ()), 1)) (bnd (u38f k b a.2.2.1) (fun y3 => br (decide (y3 < 0)) (some (([], [], (0, 0, ()), ()), 7)) (bnd (u41f k a) (fun y4 => bnd (u62f_l0 k a b ([], [], (0, 0, ()), ()) [] [] y4 ((List.length y4 : Int)) 0) (fun y5 => bnd (u61f k y5.1.1 y5.2.2.2) (fun y6 => bnd (u62f_l2 k y5.2.2.1 (y5.2.2.2, ()) (y6, [], y5.2.1, ()) y5.1.2.1 ((List.length y5.1.2.1 : Int)) 0) (fun y7 => some (y7.2, 0))))))))))) := by kernel_rfl
theorem u62f_l0_zero (v2 : T86.den) (v3 : T84.den) (v4 : T86.den) (v6 : O151.den) (v7 : T9.den) (v32 : T82.den) (v33 : T3.den) (v34 : T3.den) : u62f_l0 0 v2 v3 v4 v6 v7 v32 v33 v34 = none := by kernel_rfl
theorem u62f_l0_succ (k : Nat) (v2 : T86.den) (v3 : T84.den) (v4 : T86.den) (v6 : O151.den) (v7 : T9.den) (v32 : T82.den) (v33 : T3.den) (v34 : T3.den) : u62f_l0 (k + 1) v2 v3 v4 v6 v7 v32 v33 v34 = br (decide (v34 < v33)) (br (decide (0 ≤ v34)) (br (decide (v34 < (List.length v32 : Int))) (bnd (u38f k (List.getD v32 (Int.toNat v34) T92.zero).2.1 v3) (fun y1 => br (decide (y1 > 0)) (u62f_l0 k v2 v3 v4 v6 v7 v32 v33 (IntKind.i64.wrap (v34 + 1))) (br ((List.getD v32 (Int.toNat v34) T92.zero).1 == v7) (bnd (some (mset T153 T4 ((List.getD v32 (Int.toNat v34) T92.zero).1, (List.getD v32 (Int.toNat v34) T92.zero).2.1, ()) true v6)) (fun y2 => u62f_l0 k v2 v3 v4 y2 (List.getD v32 (Int.toNat v34) T92.zero).1 v32 v33 (IntKind.i64.wrap (v34 + 1)))) (br ((List.getD v32 (Int.toNat v34) T92.zero).2.2.1) (bnd (some (mset T153 T4 ((List.getD v32 (Int.toNat v34) T92.zero).1, (List.getD v32 (Int.toNat v34) T92.zero).2.1, ()) true v6)) (fun y2 => u62f_l0 k v2 v3 v4 y2 (List.getD v32 (Int.toNat v34) T92.zero).1 v32 v33 (IntKind.i64.wrap (v34 + 1)))) (u62f_l0 k v2 v3 v4 v6 (List.getD v32 (Int.toNat v34) T92.zero).1 v32 v33 (IntKind.i64.wrap (v34 + 1))))))) (none)) (none)) (some (v2, v3, v4, v6)) := by kernel_rfl
theorem u62f_l2_zero (v4 : T86.den) (v10 : (dens [T151])) (v11 : O86.den) (v68 : T83.den) (v69 : T3.den) (v70 : T3.den) : u62f_l2 0 v4 v10 v11 v68 v69 v70 = none := by kernel_rfl
theorem u62f_l2_succ (k : Nat) (v4 : T86.den) (v10 : (dens [T151])) (v11 : O86.den) (v68 : T83.den) (v69 : T3.den) (v70 : T3.den) : u62f_l2 (k + 1) v4 v10 v11 v68 v69 v70 = br (decide (v70 < v69)) (br (decide (0 ≤ v70)) (br (decide (v70 < (List.length v68 : Int))) (bnd (u61f k (List.getD v68 (Int.toNat v70) T150.zero).1 v10.1) (fun y1 => br (decide ((List.length y1 : Int) > 0)) (bnd (u45f k y1) (fun y2 => bnd (u44f k y2) (fun y3 => br (decide (List.length v11.2.1 + [(y1, y3, ())].length ≤ capN)) (u62f_l2 k v4 (v10.1, ()) (v11.1, v11.2.1 ++ [(y1, y3, ())], v11.2.2.1, ()) v68 v69 (IntKind.i64.wrap (v70 + 1))) (none)))) (u62f_l2 k v4 (v10.1, ()) v11 v68 v69 (IntKind.i64.wrap (v70 + 1))))) (none)) (none)) (some (v4, v11.1, v11.2.1, v11.2.2.1, ())) := by kernel_rfl
def c_u62f : Con := ⟨[.val T86, .val T84], [O86, T3], fun k x => u62f k x.1 x.2.1⟩
theorem del_u62f {w0 : World} (hS : Stops w0) : DelOk Try.prog w0 d_u62f := .cons (ok_u48f hS) ent_u48f (.cons (ok_u38f hS) ent_u38f (.cons (ok_u41f hS) ent_u41f (.cons (ok_u42f hS) ent_u42f (.cons (ok_u44f hS) ent_u44f (.cons (ok_u45f hS) ent_u45f (.cons (ok_u61f hS) ent_u61f (.nil)))))))
theorem ok_u62f {w0 : World} (hS : Stops w0) : Keeps Try.prog w0 50 c_u62f := .gn (y40q (A := a_u62f) y56q (del_u62f hS) (drawso (del_u62f hS)) Try.func50 (by kernel_rfl) (fun k x => by kernel_rfl) (by kernel_rfl)) (by kernel_rfl)
theorem ent_u62f : Enters' Try.prog 50 := enters' Try.func50 (by kernel_rfl)
attribute [irreducible] u62f u62f_l0 u62f_l2
def a_u63f : Ann := ⟨[(0, [.var 4 T86, .val 5 O39, .val 17 T42, .val 18 T3, .val 19 T3], ⟨[.val 5 O39], true⟩)], [(26, ⟨[.var 4 T86, .val 5 O39, .var 8 O88, .var 9 T86, .val 10 T3, .val 17 T42, .val 18 T3, .val 19 T3], true⟩), (28, ⟨[.var 4 T86, .val 5 O39, .var 8 O88, .val 10 T3, .val 17 T42, .val 18 T3, .val 19 T3], true⟩)]⟩
def d_u63f : List (Nat × Con) := [(45, c_u52f), (46, c_u54f), (47, c_u56f), (48, c_u59f), (49, c_u60f), (50, c_u62f)]
def u63f (k : Nat) (a : T42.den) : Option (den1 [O39, T3]) := evFn Γo d_u63f a_u63f Try.f17 [.val T42] [O39, T3] k (a, ())
def u63f_l0 (k : Nat) (v4 : T86.den) (v5 : O39.den) (v17 : T42.den) (v18 : T3.den) (v19 : T3.den) : Option (Items.den [.val 5 O39]) := loopQ (ρ := (den1 [O39, T3])) 0 [.var 4 T86, .val 5 O39, .val 17 T42, .val 18 T3, .val 19 T3] [.val 5 O39] (runOf Γo d_u63f a_u63f Try.f17 [.val T42] [O39, T3] 0) k (v4, v5, v17, v18, v19)
theorem u63f_eq (k : Nat) (a : T42.den) : u63f k a = br (decide ((List.length a : Int) > 500)) (some ([], 1)) (bnd (u63f_l0 k ([], [], (0, 0, ()), ()) [] a ((List.length a : Int)) 0) (fun y1 => some (y1, 0))) := by kernel_rfl
theorem u63f_l0_zero (v4 : T86.den) (v5 : O39.den) (v17 : T42.den) (v18 : T3.den) (v19 : T3.den) : u63f_l0 0 v4 v5 v17 v18 v19 = none := by kernel_rfl
theorem u63f_l0_succ (k : Nat) (v4 : T86.den) (v5 : O39.den) (v17 : T42.den) (v18 : T3.den) (v19 : T3.den) : u63f_l0 (k + 1) v4 v5 v17 v18 v19 = br (decide (v19 < v18)) (br (decide (0 ≤ v19)) (br (decide (v19 < (List.length v17 : Int))) (bnd (br ((List.getD v17 (Int.toNat v19) T94.zero).1 == 1) (bnd (u52f k v4 (List.getD v17 (Int.toNat v19) T94.zero).2.1) (fun y1 => some (v4, v5, ((0, false, [], ()) : T88.den), y1.1, y1.2, v17, v18, v19))) (br ((List.getD v17 (Int.toNat v19) T94.zero).1 == 2) (bnd (u54f k v4 (List.getD v17 (Int.toNat v19) T94.zero).2.2.1 (List.getD v17 (Int.toNat v19) T94.zero).2.2.2.2.1) (fun y1 => br (y1.2.1) (some (v4, v5, ((0, y1.2.1, [y1.1], ()) : T88.den), v4, y1.2.2, v17, v18, v19)) (some (v4, v5, ((0, y1.2.1, [], ()) : T88.den), v4, y1.2.2, v17, v18, v19)))) (br ((List.getD v17 (Int.toNat v19) T94.zero).1 == 3) (bnd (u56f k v4 (List.getD v17 (Int.toNat v19) T94.zero).2.2.1 (List.getD v17 (Int.toNat v19) T94.zero).2.2.2.1 (List.getD v17 (Int.toNat v19) T94.zero).2.2.2.2.1 (List.getD v17 (Int.toNat v19) T94.zero).2.2.2.2.2.1) (fun y1 => some (v4, v5, ((0, false, y1.1, ()) : T88.den), v4, y1.2, v17, v18, v19))) (br ((List.getD v17 (Int.toNat v19) T94.zero).1 == 4) (bnd (u59f k v4) (fun y1 => some (v4, v5, ((0, false, [], ()) : T88.den), y1.1, y1.2, v17, v18, v19))) (br ((List.getD v17 (Int.toNat v19) T94.zero).1 == 5) (bnd (u60f k v4 (List.getD v17 (Int.toNat v19) T94.zero).2.2.2.2.2.1) (fun y1 => some (v4, v5, ((0, false, [], ()) : T88.den), y1.1, y1.2, v17, v18, v19))) (br ((List.getD v17 (Int.toNat v19) T94.zero).1 == 6) (bnd (u62f k v4 (List.getD v17 (Int.toNat v19) T94.zero).2.2.2.2.1) (fun y1 => some (v4, v5, ((0, false, [], ()) : T88.den), y1.1, y1.2, v17, v18, v19))) (some (v4, v5, ((0, false, [], ()) : T88.den), v4, (1 : Int), v17, v18, v19)))))))) (fun y1 => bnd (br (y1.2.2.2.2.1 == 0) (some (y1.2.2.2.1, y1.2.1, y1.2.2.1, y1.2.2.2.2.1, y1.2.2.2.2.2.1, y1.2.2.2.2.2.2.1, y1.2.2.2.2.2.2.2)) (some (y1.1, y1.2.1, y1.2.2.1, y1.2.2.2.2.1, y1.2.2.2.2.2.1, y1.2.2.2.2.2.2.1, y1.2.2.2.2.2.2.2))) (fun y2 => br (decide (List.length y2.2.1 + [(y2.2.2.2.1, y2.2.2.1.2.1, y2.2.2.1.2.2.1, ())].length ≤ capN)) (u63f_l0 k y2.1 (y2.2.1 ++ [(y2.2.2.2.1, y2.2.2.1.2.1, y2.2.2.1.2.2.1, ())]) y2.2.2.2.2.1 y2.2.2.2.2.2.1 (IntKind.i64.wrap (y2.2.2.2.2.2.2 + 1))) (none)))) (none)) (none)) (some v5) := by kernel_rfl
def c_u63f : Con := ⟨[.val T42], [O39, T3], fun k x => u63f k x.1⟩
theorem del_u63f {w0 : World} (hS : Stops w0) : DelOk Try.prog w0 d_u63f := .cons (ok_u52f hS) ent_u52f (.cons (ok_u54f hS) ent_u54f (.cons (ok_u56f hS) ent_u56f (.cons (ok_u59f hS) ent_u59f (.cons (ok_u60f hS) ent_u60f (.cons (ok_u62f hS) ent_u62f (.nil))))))
theorem ok_u63f {w0 : World} (hS : Stops w0) : Keeps Try.prog w0 17 c_u63f := .gn (y40q (A := a_u63f) y56q (del_u63f hS) (drawso (del_u63f hS)) Try.func17 (by kernel_rfl) (fun k x => by kernel_rfl) (by kernel_rfl)) (by kernel_rfl)
theorem ent_u63f : Enters' Try.prog 17 := enters' Try.func17 (by kernel_rfl)
attribute [irreducible] u63f u63f_l0
def a_u64f : Ann := ⟨[], []⟩
def d_u64f : List (Nat × Con) := []
def u64f (k : Nat) (a : T84.den) (b : T84.den) : Option (den1 [T4]) := evFn Γ d_u64f a_u64f Try.f103 [.val T84, .val T84] [T4] k (a, b, ())
theorem u64f_eq (k : Nat) (a : T84.den) (b : T84.den) : u64f k a b = br (a.1 != b.1) (some false) (br (a.2.1 != b.2.1) (some false) (some true)) := by kernel_rfl
def c_u64f : Con := ⟨[.val T84, .val T84], [T4], fun k x => u64f k x.1 x.2.1⟩
theorem del_u64f {w0 : World} (hS : Stops w0) : DelOk Try.prog w0 d_u64f := .nil
theorem ok_u64f {w0 : World} (hS : Stops w0) : Keeps Try.prog w0 103 c_u64f := .con (y12q (A := a_u64f) y30q (del_u64f hS) (draws (del_u64f hS)) Try.func103 (by kernel_rfl) (fun k x => by kernel_rfl) (by kernel_rfl)) (by kernel_rfl)
theorem ent_u64f : Enters' Try.prog 103 := enters' Try.func103 (by kernel_rfl)
attribute [irreducible] u64f
def a_u65f : Ann := ⟨[], []⟩
def d_u65f : List (Nat × Con) := [(103, c_u64f)]
def u65f (k : Nat) (a : T92.den) (b : T92.den) : Option (den1 [T4]) := evFn Γ d_u65f a_u65f Try.f102 [.val T92, .val T92] [T4] k (a, b, ())
theorem u65f_eq (k : Nat) (a : T92.den) (b : T92.den) : u65f k a b = br (!a.1 == b.1) (some false) (bnd (u64f k a.2.1 b.2.1) (fun y1 => br (!y1) (some false) (br (!a.2.2.1 == b.2.2.1) (some false) (br (!a.2.2.2.1 == b.2.2.2.1) (some false) (some true))))) := by kernel_rfl
def c_u65f : Con := ⟨[.val T92, .val T92], [T4], fun k x => u65f k x.1 x.2.1⟩
theorem del_u65f {w0 : World} (hS : Stops w0) : DelOk Try.prog w0 d_u65f := .cons (ok_u64f hS) ent_u64f (.nil)
theorem ok_u65f {w0 : World} (hS : Stops w0) : Keeps Try.prog w0 102 c_u65f := .con (y12q (A := a_u65f) y30q (del_u65f hS) (draws (del_u65f hS)) Try.func102 (by kernel_rfl) (fun k x => by kernel_rfl) (by kernel_rfl)) (by kernel_rfl)
theorem ent_u65f : Enters' Try.prog 102 := enters' Try.func102 (by kernel_rfl)
attribute [irreducible] u65f
def a_u66f : Ann := ⟨[(0, [.val 0 T82, .val 1 T82, .val 5 T3], ⟨[], false⟩)], []⟩
def d_u66f : List (Nat × Con) := [(102, c_u65f)]
def u66f (k : Nat) (a : T82.den) (b : T82.den) : Option (den1 [T4]) := evFn Γ d_u66f a_u66f Try.f101 [.val T82, .val T82] [T4] k (a, b, ())
def u66f_l0 (k : Nat) (v0 : T82.den) (v1 : T82.den) (v5 : T3.den) : Option ((Items.den []) ⊕ (den1 [T4])) := loopR (ρ := (den1 [T4])) 0 [.val 0 T82, .val 1 T82, .val 5 T3] [] (runOf Γ d_u66f a_u66f Try.f101 [.val T82, .val T82] [T4] 0) k (v0, v1, v5)
theorem u66f_eq (k : Nat) (a : T82.den) (b : T82.den) : u66f k a b = br ((List.length a : Int) != (List.length b : Int)) (some false) (bnd (u66f_l0 k a b 0) (fun y1 => onSum y1 (fun y2 => some true) (fun y2 => some y2))) := by kernel_rfl
theorem u66f_l0_zero (v0 : T82.den) (v1 : T82.den) (v5 : T3.den) : u66f_l0 0 v0 v1 v5 = none := by kernel_rfl
theorem u66f_l0_succ (k : Nat) (v0 : T82.den) (v1 : T82.den) (v5 : T3.den) : u66f_l0 (k + 1) v0 v1 v5 = br (decide (v5 < (List.length v0 : Int))) (br (decide (0 ≤ v5)) (br (decide (v5 < (List.length v0 : Int))) (br (decide (0 ≤ v5)) (br (decide (v5 < (List.length v1 : Int))) (bnd (u65f k (List.getD v0 (Int.toNat v5) T92.zero) (List.getD v1 (Int.toNat v5) T92.zero)) (fun y1 => br (!y1) (some (Sum.inr false)) (u66f_l0 k v0 v1 (IntKind.i64.wrap (v5 + 1))))) (none)) (none)) (none)) (none)) (some (Sum.inl ())) := by kernel_rfl
def c_u66f : Con := ⟨[.val T82, .val T82], [T4], fun k x => u66f k x.1 x.2.1⟩
theorem del_u66f {w0 : World} (hS : Stops w0) : DelOk Try.prog w0 d_u66f := .cons (ok_u65f hS) ent_u65f (.nil)
theorem ok_u66f {w0 : World} (hS : Stops w0) : Keeps Try.prog w0 101 c_u66f := .con (y12q (A := a_u66f) y30q (del_u66f hS) (draws (del_u66f hS)) Try.func101 (by kernel_rfl) (fun k x => by kernel_rfl) (by kernel_rfl)) (by kernel_rfl)
theorem ent_u66f : Enters' Try.prog 101 := enters' Try.func101 (by kernel_rfl)
attribute [irreducible] u66f u66f_l0
def a_u67f : Ann := ⟨[], []⟩
def d_u67f : List (Nat × Con) := [(101, c_u66f)]
def u67f (k : Nat) (a : T88.den) (b : T88.den) : Option (den1 [T4]) := evFn Γ d_u67f a_u67f Try.f51 [.val T88, .val T88] [T4] k (a, b, ())
theorem u67f_eq (k : Nat) (a : T88.den) (b : T88.den) : u67f k a b = br (a.1 != b.1) (some false) (br (!a.2.1 == b.2.1) (some false) (bnd (u66f k a.2.2.1 b.2.2.1) (fun y1 => br (!y1) (some false) (some true)))) := by kernel_rfl
def c_u67f : Con := ⟨[.val T88, .val T88], [T4], fun k x => u67f k x.1 x.2.1⟩
theorem del_u67f {w0 : World} (hS : Stops w0) : DelOk Try.prog w0 d_u67f := .cons (ok_u66f hS) ent_u66f (.nil)
theorem ok_u67f {w0 : World} (hS : Stops w0) : Keeps Try.prog w0 51 c_u67f := .con (y12q (A := a_u67f) y30q (del_u67f hS) (draws (del_u67f hS)) Try.func51 (by kernel_rfl) (fun k x => by kernel_rfl) (by kernel_rfl)) (by kernel_rfl)
theorem ent_u67f : Enters' Try.prog 51 := enters' Try.func51 (by kernel_rfl)
attribute [irreducible] u67f
def a_u68f : Ann := ⟨[(0, [.val 0 T39, .val 1 T39, .val 5 T3], ⟨[], false⟩)], []⟩
def d_u68f : List (Nat × Con) := [(51, c_u67f)]
def u68f (k : Nat) (a : T39.den) (b : T39.den) : Option (den1 [T4]) := evFn Γ d_u68f a_u68f Try.f18 [.val T39, .val T39] [T4] k (a, b, ())
def u68f_l0 (k : Nat) (v0 : T39.den) (v1 : T39.den) (v5 : T3.den) : Option ((Items.den []) ⊕ (den1 [T4])) := loopR (ρ := (den1 [T4])) 0 [.val 0 T39, .val 1 T39, .val 5 T3] [] (runOf Γ d_u68f a_u68f Try.f18 [.val T39, .val T39] [T4] 0) k (v0, v1, v5)
theorem u68f_eq (k : Nat) (a : T39.den) (b : T39.den) : u68f k a b = br ((List.length a : Int) != (List.length b : Int)) (some false) (bnd (u68f_l0 k a b 0) (fun y1 => onSum y1 (fun y2 => some true) (fun y2 => some y2))) := by kernel_rfl
theorem u68f_l0_zero (v0 : T39.den) (v1 : T39.den) (v5 : T3.den) : u68f_l0 0 v0 v1 v5 = none := by kernel_rfl
theorem u68f_l0_succ (k : Nat) (v0 : T39.den) (v1 : T39.den) (v5 : T3.den) : u68f_l0 (k + 1) v0 v1 v5 = br (decide (v5 < (List.length v0 : Int))) (br (decide (0 ≤ v5)) (br (decide (v5 < (List.length v0 : Int))) (br (decide (0 ≤ v5)) (br (decide (v5 < (List.length v1 : Int))) (bnd (u67f k (List.getD v0 (Int.toNat v5) T88.zero) (List.getD v1 (Int.toNat v5) T88.zero)) (fun y1 => br (!y1) (some (Sum.inr false)) (u68f_l0 k v0 v1 (IntKind.i64.wrap (v5 + 1))))) (none)) (none)) (none)) (none)) (some (Sum.inl ())) := by kernel_rfl
def c_u68f : Con := ⟨[.val T39, .val T39], [T4], fun k x => u68f k x.1 x.2.1⟩
theorem del_u68f {w0 : World} (hS : Stops w0) : DelOk Try.prog w0 d_u68f := .cons (ok_u67f hS) ent_u67f (.nil)
theorem ok_u68f {w0 : World} (hS : Stops w0) : Keeps Try.prog w0 18 c_u68f := .con (y12q (A := a_u68f) y30q (del_u68f hS) (draws (del_u68f hS)) Try.func18 (by kernel_rfl) (fun k x => by kernel_rfl) (by kernel_rfl)) (by kernel_rfl)
theorem ent_u68f : Enters' Try.prog 18 := enters' Try.func18 (by kernel_rfl)
attribute [irreducible] u68f u68f_l0
def a_u69f : Ann := ⟨[], []⟩
def d_u69f : List (Nat × Con) := [(102, c_u65f), (103, c_u64f)]
def u69f (k : Nat) (a : T94.den) (b : T94.den) : Option (den1 [T4]) := evFn Γ d_u69f a_u69f Try.f52 [.val T94, .val T94] [T4] k (a, b, ())
theorem u69f_eq (k : Nat) (a : T94.den) (b : T94.den) : u69f k a b = br (a.1 != b.1) (some false) (bnd (u65f k a.2.1 b.2.1) (fun y1 => br (!y1) (some false) (br (!a.2.2.1 == b.2.2.1) (some false) (br (!a.2.2.2.1 == b.2.2.2.1) (some false) (bnd (u64f k a.2.2.2.2.1 b.2.2.2.2.1) (fun y2 => br (!y2) (some false) (br (a.2.2.2.2.2.1 != b.2.2.2.2.2.1) (some false) (some true)))))))) := by kernel_rfl
def c_u69f : Con := ⟨[.val T94, .val T94], [T4], fun k x => u69f k x.1 x.2.1⟩
theorem del_u69f {w0 : World} (hS : Stops w0) : DelOk Try.prog w0 d_u69f := .cons (ok_u65f hS) ent_u65f (.cons (ok_u64f hS) ent_u64f (.nil))
theorem ok_u69f {w0 : World} (hS : Stops w0) : Keeps Try.prog w0 52 c_u69f := .con (y12q (A := a_u69f) y30q (del_u69f hS) (draws (del_u69f hS)) Try.func52 (by kernel_rfl) (fun k x => by kernel_rfl) (by kernel_rfl)) (by kernel_rfl)
theorem ent_u69f : Enters' Try.prog 52 := enters' Try.func52 (by kernel_rfl)
attribute [irreducible] u69f
def a_u70f : Ann := ⟨[(0, [.val 0 T42, .val 1 T42, .val 5 T3], ⟨[], false⟩)], []⟩
def d_u70f : List (Nat × Con) := [(52, c_u69f)]
def u70f (k : Nat) (a : T42.den) (b : T42.den) : Option (den1 [T4]) := evFn Γ d_u70f a_u70f Try.f19 [.val T42, .val T42] [T4] k (a, b, ())
def u70f_l0 (k : Nat) (v0 : T42.den) (v1 : T42.den) (v5 : T3.den) : Option ((Items.den []) ⊕ (den1 [T4])) := loopR (ρ := (den1 [T4])) 0 [.val 0 T42, .val 1 T42, .val 5 T3] [] (runOf Γ d_u70f a_u70f Try.f19 [.val T42, .val T42] [T4] 0) k (v0, v1, v5)
theorem u70f_eq (k : Nat) (a : T42.den) (b : T42.den) : u70f k a b = br ((List.length a : Int) != (List.length b : Int)) (some false) (bnd (u70f_l0 k a b 0) (fun y1 => onSum y1 (fun y2 => some true) (fun y2 => some y2))) := by kernel_rfl
theorem u70f_l0_zero (v0 : T42.den) (v1 : T42.den) (v5 : T3.den) : u70f_l0 0 v0 v1 v5 = none := by kernel_rfl
theorem u70f_l0_succ (k : Nat) (v0 : T42.den) (v1 : T42.den) (v5 : T3.den) : u70f_l0 (k + 1) v0 v1 v5 = br (decide (v5 < (List.length v0 : Int))) (br (decide (0 ≤ v5)) (br (decide (v5 < (List.length v0 : Int))) (br (decide (0 ≤ v5)) (br (decide (v5 < (List.length v1 : Int))) (bnd (u69f k (List.getD v0 (Int.toNat v5) T94.zero) (List.getD v1 (Int.toNat v5) T94.zero)) (fun y1 => br (!y1) (some (Sum.inr false)) (u70f_l0 k v0 v1 (IntKind.i64.wrap (v5 + 1))))) (none)) (none)) (none)) (none)) (some (Sum.inl ())) := by kernel_rfl
def c_u70f : Con := ⟨[.val T42, .val T42], [T4], fun k x => u70f k x.1 x.2.1⟩
theorem del_u70f {w0 : World} (hS : Stops w0) : DelOk Try.prog w0 d_u70f := .cons (ok_u69f hS) ent_u69f (.nil)
theorem ok_u70f {w0 : World} (hS : Stops w0) : Keeps Try.prog w0 19 c_u70f := .con (y12q (A := a_u70f) y30q (del_u70f hS) (draws (del_u70f hS)) Try.func19 (by kernel_rfl) (fun k x => by kernel_rfl) (by kernel_rfl)) (by kernel_rfl)
theorem ent_u70f : Enters' Try.prog 19 := enters' Try.func19 (by kernel_rfl)
attribute [irreducible] u70f u70f_l0
def a_u71f : Ann := ⟨[(0, [.val 0 T3, .val 3 T9], ⟨[.val 3 T9], true⟩)], []⟩
def d_u71f : List (Nat × Con) := []
def u71f (k : Nat) (a : T3.den) : Option (den1 [T9]) := evFn Γ d_u71f a_u71f Try.f53 [.val T3] [T9] k (a, ())
def u71f_l0 (k : Nat) (v0 : T3.den) (v3 : T9.den) : Option (Items.den [.val 3 T9]) := loopQ (ρ := (den1 [T9])) 0 [.val 0 T3, .val 3 T9] [.val 3 T9] (runOf Γ d_u71f a_u71f Try.f53 [.val T3] [T9] 0) k (v0, v3)
theorem u71f_eq (k : Nat) (a : T3.den) : u71f k a = br (decide (a ≤ 0)) (some [109, 48]) (bnd (u71f_l0 k a []) (fun y1 => br (decide ([109].length + List.length y1 ≤ capN)) (some ([109] ++ y1)) (none))) := by kernel_rfl
theorem u71f_l0_zero (v0 : T3.den) (v3 : T9.den) : u71f_l0 0 v0 v3 = none := by kernel_rfl
theorem u71f_l0_succ (k : Nat) (v0 : T3.den) (v3 : T9.den) : u71f_l0 (k + 1) v0 v3 = br (decide (v0 > 0)) (br (!10 == 0) (br (decide ((List.map (fun n => UInt8.ofNat n.toNat) [IntKind.u8.wrap (IntKind.i64.wrap (48 + Int.tmod v0 10))]).length + List.length v3 ≤ capN)) (br (!10 == 0) (u71f_l0 k (IntKind.i64.wrap (Int.tdiv v0 10)) (List.map (fun n => UInt8.ofNat n.toNat) [IntKind.u8.wrap (IntKind.i64.wrap (48 + Int.tmod v0 10))] ++ v3)) (none)) (none)) (none)) (some v3) := by kernel_rfl
def c_u71f : Con := ⟨[.val T3], [T9], fun k x => u71f k x.1⟩
theorem del_u71f {w0 : World} (hS : Stops w0) : DelOk Try.prog w0 d_u71f := .nil
theorem ok_u71f {w0 : World} (hS : Stops w0) : Keeps Try.prog w0 53 c_u71f := .con (y12q (A := a_u71f) y30q (del_u71f hS) (draws (del_u71f hS)) Try.func53 (by kernel_rfl) (fun k x => by kernel_rfl) (by kernel_rfl)) (by kernel_rfl)
theorem ent_u71f : Enters' Try.prog 53 := enters' Try.func53 (by kernel_rfl)
attribute [irreducible] u71f u71f_l0
def a_u72f : Ann := ⟨[(0, [.val 0 O42, .val 1 T3, .val 5 T3], ⟨[.val 0 O42, .val 1 T3], true⟩)], []⟩
def d_u72f : List (Nat × Con) := [(53, c_u71f)]
def u72f (k : Nat) (a : O42.den) (b : T3.den) : Option (den1 [T3, O42]) := evFn Γo d_u72f a_u72f Try.f20 [.io O42, .val T3] [T3, O42] k (a, b, ())
def u72f_l0 (k : Nat) (v0 : O42.den) (v1 : T3.den) (v5 : T3.den) : Option (Items.den [.val 0 O42, .val 1 T3]) := loopQ (ρ := (den1 [T3, O42])) 0 [.val 0 O42, .val 1 T3, .val 5 T3] [.val 0 O42, .val 1 T3] (runOf Γo d_u72f a_u72f Try.f20 [.io O42, .val T3] [T3, O42] 0) k (v0, v1, v5)
theorem u72f_eq (k : Nat) (a : O42.den) (b : T3.den) : u72f k a b = bnd (u72f_l0 k a b 0) (fun y1 => some (y1.2, y1.1)) := by kernel_rfl
theorem u72f_l0_zero (v0 : O42.den) (v1 : T3.den) (v5 : T3.den) : u72f_l0 0 v0 v1 v5 = none := by kernel_rfl
theorem u72f_l0_succ (k : Nat) (v0 : O42.den) (v1 : T3.den) (v5 : T3.den) : u72f_l0 (k + 1) v0 v1 v5 = br (decide (v5 < (List.length v0 : Int))) (br (decide (0 ≤ v5)) (br (decide (v5 < (List.length v0 : Int))) (bnd (some (List.getD v0 (Int.toNat v5) T94.zero)) (fun y1 => bnd (some (List.set v0 (Int.toNat v5) (v1, y1.2.1, y1.2.2.1, y1.2.2.2.1, y1.2.2.2.2.1, y1.2.2.2.2.2.1, ()))) (fun y2 => bnd (u71f k (IntKind.i64.wrap (v1 + 1))) (fun y3 => br (decide (0 ≤ v5)) (br (decide (v5 < (↑y2.length : Int))) (bnd (some (y2.getD (Int.toNat v5) T94.zero)) (fun y4 => bnd (some (y2.set (Int.toNat v5) (y4.1, (y3, y4.2.1.2.1, y4.2.1.2.2.1, y4.2.1.2.2.2.1, ()), y4.2.2.1, y4.2.2.2.1, y4.2.2.2.2.1, y4.2.2.2.2.2.1, ()))) (fun y5 => br (decide (0 ≤ v5)) (br (decide (v5 < (↑y5.length : Int))) (bnd (some (y5.getD (Int.toNat v5) T94.zero)) (fun y6 => bnd (some (y5.set (Int.toNat v5) (y6.1, (y6.2.1.1, (IntKind.i64.wrap (IntKind.i64.wrap (v1 + 1) + 1), y6.2.1.2.1.2.1, ()), y6.2.1.2.2.1, y6.2.1.2.2.2.1, ()), y6.2.2.1, y6.2.2.2.1, y6.2.2.2.2.1, y6.2.2.2.2.2.1, ()))) (fun y7 => br (decide (0 ≤ v5)) (br (decide (v5 < (↑y7.length : Int))) (bnd (some (y7.getD (Int.toNat v5) T94.zero)) (fun y8 => bnd (some (y7.set (Int.toNat v5) (y8.1, (y8.2.1.1, (y8.2.1.2.1.1, IntKind.i64.wrap (IntKind.i64.wrap (IntKind.i64.wrap (v1 + 1) + 1) + 1), ()), y8.2.1.2.2.1, y8.2.1.2.2.2.1, ()), y8.2.2.1, y8.2.2.2.1, y8.2.2.2.2.1, y8.2.2.2.2.2.1, ()))) (fun y9 => br (!3 == 0) (br (decide (0 ≤ v5)) (br (decide (v5 < (↑y9.length : Int))) (bnd (some (y9.getD (Int.toNat v5) T94.zero)) (fun y10 => bnd (some (y9.set (Int.toNat v5) (y10.1, (y10.2.1.1, y10.2.1.2.1, (IntKind.i64.wrap (IntKind.i64.wrap (IntKind.i64.wrap (IntKind.i64.wrap (v1 + 1) + 1) + 1) + 1)).tmod 3 == 0, y10.2.1.2.2.2.1, ()), y10.2.2.1, y10.2.2.2.1, y10.2.2.2.2.1, y10.2.2.2.2.2.1, ()))) (fun y11 => bnd (u71f k (IntKind.i64.wrap (IntKind.i64.wrap (IntKind.i64.wrap (IntKind.i64.wrap (IntKind.i64.wrap (v1 + 1) + 1) + 1) + 1) + 1))) (fun y12 => br (decide (0 ≤ v5)) (br (decide (v5 < (↑y11.length : Int))) (bnd (some (y11.getD (Int.toNat v5) T94.zero)) (fun y13 => bnd (some (y11.set (Int.toNat v5) (y13.1, (y13.2.1.1, y13.2.1.2.1, y13.2.1.2.2.1, y12, ()), y13.2.2.1, y13.2.2.2.1, y13.2.2.2.2.1, y13.2.2.2.2.2.1, ()))) (fun y14 => bnd (u71f k (IntKind.i64.wrap (IntKind.i64.wrap (IntKind.i64.wrap (IntKind.i64.wrap (IntKind.i64.wrap (IntKind.i64.wrap (v1 + 1) + 1) + 1) + 1) + 1) + 1))) (fun y15 => br (decide (0 ≤ v5)) (br (decide (v5 < (↑y14.length : Int))) (bnd (some (y14.getD (Int.toNat v5) T94.zero)) (fun y16 => bnd (some (y14.set (Int.toNat v5) (y16.1, y16.2.1, y15, y16.2.2.2.1, y16.2.2.2.2.1, y16.2.2.2.2.2.1, ()))) (fun y17 => bnd (u71f k (IntKind.i64.wrap (IntKind.i64.wrap (IntKind.i64.wrap (IntKind.i64.wrap (IntKind.i64.wrap (IntKind.i64.wrap (IntKind.i64.wrap (v1 + 1) + 1) + 1) + 1) + 1) + 1) + 1))) (fun y18 => br (decide (0 ≤ v5)) (br (decide (v5 < (↑y17.length : Int))) (bnd (some (y17.getD (Int.toNat v5) T94.zero)) (fun y19 => bnd (some (y17.set (Int.toNat v5) (y19.1, y19.2.1, y19.2.2.1, y18, y19.2.2.2.2.1, y19.2.2.2.2.2.1, ()))) (fun y20 => br (decide (0 ≤ v5)) (br (decide (v5 < (↑y20.length : Int))) (bnd (some (y20.getD (Int.toNat v5) T94.zero)) (fun y21 => bnd (some (y20.set (Int.toNat v5) (y21.1, y21.2.1, y21.2.2.1, y21.2.2.2.1, (IntKind.i64.wrap (IntKind.i64.wrap (IntKind.i64.wrap (IntKind.i64.wrap (IntKind.i64.wrap (IntKind.i64.wrap (IntKind.i64.wrap (IntKind.i64.wrap (v1 + 1) + 1) + 1) + 1) + 1) + 1) + 1) + 1), y21.2.2.2.2.1.2.1, ()), y21.2.2.2.2.2.1, ()))) (fun y22 => br (decide (0 ≤ v5)) (br (decide (v5 < (↑y22.length : Int))) (bnd (some (y22.getD (Int.toNat v5) T94.zero)) (fun y23 => bnd (some (y22.set (Int.toNat v5) (y23.1, y23.2.1, y23.2.2.1, y23.2.2.2.1, (y23.2.2.2.2.1.1, IntKind.i64.wrap (IntKind.i64.wrap (IntKind.i64.wrap (IntKind.i64.wrap (IntKind.i64.wrap (IntKind.i64.wrap (IntKind.i64.wrap (IntKind.i64.wrap (IntKind.i64.wrap (v1 + 1) + 1) + 1) + 1) + 1) + 1) + 1) + 1) + 1), ()), y23.2.2.2.2.2.1, ()))) (fun y24 => br (decide (0 ≤ v5)) (br (decide (v5 < (↑y24.length : Int))) (bnd (some (y24.getD (Int.toNat v5) T94.zero)) (fun y25 => bnd (some (y24.set (Int.toNat v5) (y25.1, y25.2.1, y25.2.2.1, y25.2.2.2.1, y25.2.2.2.2.1, IntKind.i64.wrap (IntKind.i64.wrap (IntKind.i64.wrap (IntKind.i64.wrap (IntKind.i64.wrap (IntKind.i64.wrap (IntKind.i64.wrap (IntKind.i64.wrap (IntKind.i64.wrap (IntKind.i64.wrap (v1 + 1) + 1) + 1) + 1) + 1) + 1) + 1) + 1) + 1) + 1), ()))) (fun y26 => u72f_l0 k y26 (IntKind.i64.wrap (IntKind.i64.wrap (IntKind.i64.wrap (IntKind.i64.wrap (IntKind.i64.wrap (IntKind.i64.wrap (IntKind.i64.wrap (IntKind.i64.wrap (IntKind.i64.wrap (IntKind.i64.wrap (IntKind.i64.wrap (v1 + 1) + 1) + 1) + 1) + 1) + 1) + 1) + 1) + 1) + 1) + 1)) (IntKind.i64.wrap (v5 + 1))))) (none)) (none)))) (none)) (none)))) (none)) (none)))) (none)) (none))))) (none)) (none))))) (none)) (none))))) (none)) (none)) (none)))) (none)) (none)))) (none)) (none)))) (none)) (none))))) (none)) (none)) (some (v0, v1)) := by kernel_rfl
def c_u72f : Con := ⟨[.io O42, .val T3], [T3, O42], fun k x => u72f k x.1 x.2.1⟩
theorem del_u72f {w0 : World} (hS : Stops w0) : DelOk Try.prog w0 d_u72f := .cons (ok_u71f hS) ent_u71f (.nil)
theorem ok_u72f {w0 : World} (hS : Stops w0) : Keeps Try.prog w0 20 c_u72f := .gn (y40q (A := a_u72f) y56q (del_u72f hS) (drawso (del_u72f hS)) Try.func20 (by kernel_rfl) (fun k x => by kernel_rfl) (by kernel_rfl)) (by kernel_rfl)
theorem ent_u72f : Enters' Try.prog 20 := enters' Try.func20 (by kernel_rfl)
attribute [irreducible] u72f u72f_l0
def a_u73f : Ann := ⟨[(0, [.val 0 O82, .val 1 T3, .val 5 T3], ⟨[.val 0 O82, .val 1 T3], true⟩)], []⟩
def d_u73f : List (Nat × Con) := [(53, c_u71f)]
def u73f (k : Nat) (a : O82.den) (b : T3.den) : Option (den1 [T3, O82]) := evFn Γo d_u73f a_u73f Try.f54 [.io O82, .val T3] [T3, O82] k (a, b, ())
def u73f_l0 (k : Nat) (v0 : O82.den) (v1 : T3.den) (v5 : T3.den) : Option (Items.den [.val 0 O82, .val 1 T3]) := loopQ (ρ := (den1 [T3, O82])) 0 [.val 0 O82, .val 1 T3, .val 5 T3] [.val 0 O82, .val 1 T3] (runOf Γo d_u73f a_u73f Try.f54 [.io O82, .val T3] [T3, O82] 0) k (v0, v1, v5)
theorem u73f_eq (k : Nat) (a : O82.den) (b : T3.den) : u73f k a b = bnd (u73f_l0 k a b 0) (fun y1 => some (y1.2, y1.1)) := by kernel_rfl
theorem u73f_l0_zero (v0 : O82.den) (v1 : T3.den) (v5 : T3.den) : u73f_l0 0 v0 v1 v5 = none := by kernel_rfl
theorem u73f_l0_succ (k : Nat) (v0 : O82.den) (v1 : T3.den) (v5 : T3.den) : u73f_l0 (k + 1) v0 v1 v5 = br (decide (v5 < (List.length v0 : Int))) (bnd (u71f k v1) (fun y1 => br (decide (0 ≤ v5)) (br (decide (v5 < (List.length v0 : Int))) (bnd (some (List.getD v0 (Int.toNat v5) T92.zero)) (fun y2 => bnd (some (List.set v0 (Int.toNat v5) (y1, y2.2.1, y2.2.2.1, y2.2.2.2.1, ()))) (fun y3 => br (decide (0 ≤ v5)) (br (decide (v5 < (↑y3.length : Int))) (bnd (some (y3.getD (Int.toNat v5) T92.zero)) (fun y4 => bnd (some (y3.set (Int.toNat v5) (y4.1, (IntKind.i64.wrap (v1 + 1), y4.2.1.2.1, ()), y4.2.2.1, y4.2.2.2.1, ()))) (fun y5 => br (decide (0 ≤ v5)) (br (decide (v5 < (↑y5.length : Int))) (bnd (some (y5.getD (Int.toNat v5) T92.zero)) (fun y6 => bnd (some (y5.set (Int.toNat v5) (y6.1, (y6.2.1.1, IntKind.i64.wrap (IntKind.i64.wrap (v1 + 1) + 1), ()), y6.2.2.1, y6.2.2.2.1, ()))) (fun y7 => br (!3 == 0) (br (decide (0 ≤ v5)) (br (decide (v5 < (↑y7.length : Int))) (bnd (some (y7.getD (Int.toNat v5) T92.zero)) (fun y8 => bnd (some (y7.set (Int.toNat v5) (y8.1, y8.2.1, (IntKind.i64.wrap (IntKind.i64.wrap (IntKind.i64.wrap (v1 + 1) + 1) + 1)).tmod 3 == 0, y8.2.2.2.1, ()))) (fun y9 => bnd (u71f k (IntKind.i64.wrap (IntKind.i64.wrap (IntKind.i64.wrap (IntKind.i64.wrap (v1 + 1) + 1) + 1) + 1))) (fun y10 => br (decide (0 ≤ v5)) (br (decide (v5 < (↑y9.length : Int))) (bnd (some (y9.getD (Int.toNat v5) T92.zero)) (fun y11 => bnd (some (y9.set (Int.toNat v5) (y11.1, y11.2.1, y11.2.2.1, y10, ()))) (fun y12 => u73f_l0 k y12 (IntKind.i64.wrap (IntKind.i64.wrap (IntKind.i64.wrap (IntKind.i64.wrap (IntKind.i64.wrap (v1 + 1) + 1) + 1) + 1) + 1)) (IntKind.i64.wrap (v5 + 1))))) (none)) (none))))) (none)) (none)) (none)))) (none)) (none)))) (none)) (none)))) (none)) (none))) (some (v0, v1)) := by kernel_rfl
def c_u73f : Con := ⟨[.io O82, .val T3], [T3, O82], fun k x => u73f k x.1 x.2.1⟩
theorem del_u73f {w0 : World} (hS : Stops w0) : DelOk Try.prog w0 d_u73f := .cons (ok_u71f hS) ent_u71f (.nil)
theorem ok_u73f {w0 : World} (hS : Stops w0) : Keeps Try.prog w0 54 c_u73f := .gn (y40q (A := a_u73f) y56q (del_u73f hS) (drawso (del_u73f hS)) Try.func54 (by kernel_rfl) (fun k x => by kernel_rfl) (by kernel_rfl)) (by kernel_rfl)
theorem ent_u73f : Enters' Try.prog 54 := enters' Try.func54 (by kernel_rfl)
attribute [irreducible] u73f u73f_l0
def a_u74f : Ann := ⟨[(0, [.val 0 O39, .val 1 T3, .val 5 T3], ⟨[.val 0 O39, .val 1 T3], true⟩)], []⟩
def d_u74f : List (Nat × Con) := [(54, c_u73f)]
def u74f (k : Nat) (a : O39.den) (b : T3.den) : Option (den1 [T3, O39]) := evFn Γo d_u74f a_u74f Try.f21 [.io O39, .val T3] [T3, O39] k (a, b, ())
def u74f_l0 (k : Nat) (v0 : O39.den) (v1 : T3.den) (v5 : T3.den) : Option (Items.den [.val 0 O39, .val 1 T3]) := loopQ (ρ := (den1 [T3, O39])) 0 [.val 0 O39, .val 1 T3, .val 5 T3] [.val 0 O39, .val 1 T3] (runOf Γo d_u74f a_u74f Try.f21 [.io O39, .val T3] [T3, O39] 0) k (v0, v1, v5)
theorem u74f_eq (k : Nat) (a : O39.den) (b : T3.den) : u74f k a b = bnd (u74f_l0 k a b 0) (fun y1 => some (y1.2, y1.1)) := by kernel_rfl
theorem u74f_l0_zero (v0 : O39.den) (v1 : T3.den) (v5 : T3.den) : u74f_l0 0 v0 v1 v5 = none := by kernel_rfl
theorem u74f_l0_succ (k : Nat) (v0 : O39.den) (v1 : T3.den) (v5 : T3.den) : u74f_l0 (k + 1) v0 v1 v5 = br (decide (v5 < (List.length v0 : Int))) (br (decide (0 ≤ v5)) (br (decide (v5 < (List.length v0 : Int))) (bnd (some (List.getD v0 (Int.toNat v5) O88.zero)) (fun y1 => bnd (some (List.set v0 (Int.toNat v5) (v1, y1.2))) (fun y2 => br (!3 == 0) (br (decide (0 ≤ v5)) (br (decide (v5 < (↑y2.length : Int))) (bnd (some (y2.getD (Int.toNat v5) O88.zero)) (fun y3 => bnd (some (y2.set (Int.toNat v5) (y3.1, (IntKind.i64.wrap (v1 + 1)).tmod 3 == 0, y3.2.2))) (fun y4 => br (decide (0 ≤ v5)) (br (decide (v5 < (↑y4.length : Int))) (bnd (u73f k (y4.getD (Int.toNat v5) O88.zero).2.2.1 (IntKind.i64.wrap (IntKind.i64.wrap (v1 + 1) + 1))) (fun y5 => u74f_l0 k (y4.set (Int.toNat v5) ((y4.getD (Int.toNat v5) O88.zero).1, (y4.getD (Int.toNat v5) O88.zero).2.1, y5.2, (y4.getD (Int.toNat v5) O88.zero).2.2.2)) y5.1 (IntKind.i64.wrap (v5 + 1)))) (none)) (none)))) (none)) (none)) (none)))) (none)) (none)) (some (v0, v1)) := by kernel_rfl
def c_u74f : Con := ⟨[.io O39, .val T3], [T3, O39], fun k x => u74f k x.1 x.2.1⟩
theorem del_u74f {w0 : World} (hS : Stops w0) : DelOk Try.prog w0 d_u74f := .cons (ok_u73f hS) ent_u73f (.nil)
theorem ok_u74f {w0 : World} (hS : Stops w0) : Keeps Try.prog w0 21 c_u74f := .gn (y40q (A := a_u74f) y56q (del_u74f hS) (drawso (del_u74f hS)) Try.func21 (by kernel_rfl) (fun k x => by kernel_rfl) (by kernel_rfl)) (by kernel_rfl)
theorem ent_u74f : Enters' Try.prog 21 := enters' Try.func21 (by kernel_rfl)
attribute [irreducible] u74f u74f_l0
def a_u75f : Ann := ⟨[(0, [.val 0 T82, .val 1 T3, .val 5 T3], ⟨[.val 1 T3], false⟩)], []⟩
def d_u75f : List (Nat × Con) := [(53, c_u71f)]
def u75f (k : Nat) (a : T82.den) (b : T3.den) : Option (den1 [T3]) := evFn Γ d_u75f a_u75f Try.f55 [.val T82, .val T3] [T3] k (a, b, ())
def u75f_l0 (k : Nat) (v0 : T82.den) (v1 : T3.den) (v5 : T3.den) : Option ((Items.den [.val 1 T3]) ⊕ (den1 [T3])) := loopR (ρ := (den1 [T3])) 0 [.val 0 T82, .val 1 T3, .val 5 T3] [.val 1 T3] (runOf Γ d_u75f a_u75f Try.f55 [.val T82, .val T3] [T3] 0) k (v0, v1, v5)
theorem u75f_eq (k : Nat) (a : T82.den) (b : T3.den) : u75f k a b = bnd (u75f_l0 k a b 0) (fun y1 => onSum y1 (fun y2 => some y2) (fun y2 => some y2)) := by kernel_rfl
theorem u75f_l0_zero (v0 : T82.den) (v1 : T3.den) (v5 : T3.den) : u75f_l0 0 v0 v1 v5 = none := by kernel_rfl
theorem u75f_l0_succ (k : Nat) (v0 : T82.den) (v1 : T3.den) (v5 : T3.den) : u75f_l0 (k + 1) v0 v1 v5 = br (decide (v5 < (List.length v0 : Int))) (br (decide (0 ≤ v5)) (br (decide (v5 < (List.length v0 : Int))) (bnd (u71f k v1) (fun y1 => br (!(List.getD v0 (Int.toNat v5) T92.zero).1 == y1) (some (Sum.inr (-1))) (br (decide (0 ≤ v5)) (br (decide (v5 < (List.length v0 : Int))) (br ((List.getD v0 (Int.toNat v5) T92.zero).2.1.1 != IntKind.i64.wrap (v1 + 1)) (some (Sum.inr (-1))) (br (decide (0 ≤ v5)) (br (decide (v5 < (List.length v0 : Int))) (br ((List.getD v0 (Int.toNat v5) T92.zero).2.1.2.1 != IntKind.i64.wrap (IntKind.i64.wrap (v1 + 1) + 1)) (some (Sum.inr (-1))) (br (decide (0 ≤ v5)) (br (decide (v5 < (List.length v0 : Int))) (br (!3 == 0) (br (!(List.getD v0 (Int.toNat v5) T92.zero).2.2.1 == ((IntKind.i64.wrap (IntKind.i64.wrap (IntKind.i64.wrap (v1 + 1) + 1) + 1)).tmod 3 == 0)) (some (Sum.inr (-1))) (br (decide (0 ≤ v5)) (br (decide (v5 < (List.length v0 : Int))) (bnd (u71f k (IntKind.i64.wrap (IntKind.i64.wrap (IntKind.i64.wrap (IntKind.i64.wrap (v1 + 1) + 1) + 1) + 1))) (fun y2 => br (!(List.getD v0 (Int.toNat v5) T92.zero).2.2.2.1 == y2) (some (Sum.inr (-1))) (u75f_l0 k v0 (IntKind.i64.wrap (IntKind.i64.wrap (IntKind.i64.wrap (IntKind.i64.wrap (IntKind.i64.wrap (v1 + 1) + 1) + 1) + 1) + 1)) (IntKind.i64.wrap (v5 + 1))))) (none)) (none))) (none)) (none)) (none))) (none)) (none))) (none)) (none)))) (none)) (none)) (some (Sum.inl v1)) := by kernel_rfl
def c_u75f : Con := ⟨[.val T82, .val T3], [T3], fun k x => u75f k x.1 x.2.1⟩
theorem del_u75f {w0 : World} (hS : Stops w0) : DelOk Try.prog w0 d_u75f := .cons (ok_u71f hS) ent_u71f (.nil)
theorem ok_u75f {w0 : World} (hS : Stops w0) : Keeps Try.prog w0 55 c_u75f := .con (y12q (A := a_u75f) y30q (del_u75f hS) (draws (del_u75f hS)) Try.func55 (by kernel_rfl) (fun k x => by kernel_rfl) (by kernel_rfl)) (by kernel_rfl)
theorem ent_u75f : Enters' Try.prog 55 := enters' Try.func55 (by kernel_rfl)
attribute [irreducible] u75f u75f_l0
def a_u76f : Ann := ⟨[(0, [.val 0 T39, .val 1 T3, .val 5 T3], ⟨[.val 1 T3], false⟩)], []⟩
def d_u76f : List (Nat × Con) := [(55, c_u75f)]
def u76f (k : Nat) (a : T39.den) (b : T3.den) : Option (den1 [T3]) := evFn Γ d_u76f a_u76f Try.f22 [.val T39, .val T3] [T3] k (a, b, ())
def u76f_l0 (k : Nat) (v0 : T39.den) (v1 : T3.den) (v5 : T3.den) : Option ((Items.den [.val 1 T3]) ⊕ (den1 [T3])) := loopR (ρ := (den1 [T3])) 0 [.val 0 T39, .val 1 T3, .val 5 T3] [.val 1 T3] (runOf Γ d_u76f a_u76f Try.f22 [.val T39, .val T3] [T3] 0) k (v0, v1, v5)
theorem u76f_eq (k : Nat) (a : T39.den) (b : T3.den) : u76f k a b = bnd (u76f_l0 k a b 0) (fun y1 => onSum y1 (fun y2 => some y2) (fun y2 => some y2)) := by kernel_rfl
theorem u76f_l0_zero (v0 : T39.den) (v1 : T3.den) (v5 : T3.den) : u76f_l0 0 v0 v1 v5 = none := by kernel_rfl
theorem u76f_l0_succ (k : Nat) (v0 : T39.den) (v1 : T3.den) (v5 : T3.den) : u76f_l0 (k + 1) v0 v1 v5 = br (decide (v5 < (List.length v0 : Int))) (br (decide (0 ≤ v5)) (br (decide (v5 < (List.length v0 : Int))) (br ((List.getD v0 (Int.toNat v5) T88.zero).1 != v1) (some (Sum.inr (-1))) (br (decide (0 ≤ v5)) (br (decide (v5 < (List.length v0 : Int))) (br (!3 == 0) (br (!(List.getD v0 (Int.toNat v5) T88.zero).2.1 == ((IntKind.i64.wrap (v1 + 1)).tmod 3 == 0)) (some (Sum.inr (-1))) (br (decide (0 ≤ v5)) (br (decide (v5 < (List.length v0 : Int))) (bnd (u75f k (List.getD v0 (Int.toNat v5) T88.zero).2.2.1 (IntKind.i64.wrap (IntKind.i64.wrap (v1 + 1) + 1))) (fun y1 => br (decide (y1 < 0)) (some (Sum.inr (-1))) (u76f_l0 k v0 y1 (IntKind.i64.wrap (v5 + 1))))) (none)) (none))) (none)) (none)) (none))) (none)) (none)) (some (Sum.inl v1)) := by kernel_rfl
def c_u76f : Con := ⟨[.val T39, .val T3], [T3], fun k x => u76f k x.1 x.2.1⟩
theorem del_u76f {w0 : World} (hS : Stops w0) : DelOk Try.prog w0 d_u76f := .cons (ok_u75f hS) ent_u75f (.nil)
theorem ok_u76f {w0 : World} (hS : Stops w0) : Keeps Try.prog w0 22 c_u76f := .con (y12q (A := a_u76f) y30q (del_u76f hS) (draws (del_u76f hS)) Try.func22 (by kernel_rfl) (fun k x => by kernel_rfl) (by kernel_rfl)) (by kernel_rfl)
theorem ent_u76f : Enters' Try.prog 22 := enters' Try.func22 (by kernel_rfl)
attribute [irreducible] u76f u76f_l0
def a_u77f : Ann := ⟨[], []⟩
def d_u77f : List (Nat × Con) := [(14, c_u2f), (15, c_u32f), (16, c_u36f), (17, c_u63f), (18, c_u68f), (19, c_u70f), (20, c_u72f), (21, c_u74f), (22, c_u76f)]
def u77f (k : Nat) (a : T37.den) : Option (den1 [T4]) := evFn Γo d_u77f a_u77f Try.f4 [.val T37] [T4] k (a, ())
theorem u77f_eq (k : Nat) (a : T37.den) : u77f k a = bnd (u2f k a 1048576) (fun y1 => br (decide (y1 < 0)) (some true) (bnd (u36f k a) (fun y2 => bnd (u32f k y2) (fun y3 => bnd (u36f k a) (fun y4 => bnd (u63f k y4) (fun y5 => bnd (u68f k y5.1 y3.1) (fun y6 => br (!y6) (some false) (br (y5.2 != y3.2) (some false) (bnd (u36f k a) (fun y7 => bnd (u70f k y4 y7) (fun y8 => br (!y8) (some false) (bnd (u72f k y4 1) (fun y9 => br (decide (y9.1 < 0)) (some false) (bnd (u68f k y5.1 y3.1) (fun y10 => br (!y10) (some false) (br (y5.2 != y3.2) (some false) (bnd (u74f k y5.1 1) (fun y11 => bnd (u76f k y11.2 1) (fun y12 => br (decide (y12 < 0)) (some false) (br (y12 != y11.1) (some false) (bnd (u36f k a) (fun y13 => bnd (u63f k y13) (fun y14 => bnd (u68f k y14.1 y3.1) (fun y15 => br (!y15) (some false) (br (y14.2 != y3.2) (some false) (bnd (u76f k y11.2 1) (fun y16 => br (decide (y16 < 0)) (some false) (br (y16 != y11.1) (some false) (some true))))))))))))))))))))))))))))) := by kernel_rfl
def c_u77f : Con := ⟨[.val T37], [T4], fun k x => u77f k x.1⟩
theorem del_u77f {w0 : World} (hS : Stops w0) : DelOk Try.prog w0 d_u77f := .cons (ok_u2f hS) ent_u2f (.cons (ok_u32f hS) ent_u32f (.cons (ok_u36f hS) ent_u36f (.cons (ok_u63f hS) ent_u63f (.cons (ok_u68f hS) ent_u68f (.cons (ok_u70f hS) ent_u70f (.cons (ok_u72f hS) ent_u72f (.cons (ok_u74f hS) ent_u74f (.cons (ok_u76f hS) ent_u76f (.nil)))))))))
theorem ok_u77f {w0 : World} (hS : Stops w0) : Keeps Try.prog w0 4 c_u77f := .con (y12q (A := a_u77f) y56q (del_u77f hS) (drawso (del_u77f hS)) Try.func4 (by kernel_rfl) (fun k x => by kernel_rfl) (by kernel_rfl)) (by kernel_rfl)
theorem ent_u77f : Enters' Try.prog 4 := enters' Try.func4 (by kernel_rfl)
attribute [irreducible] u77f
end
end Go.Ev.T1
