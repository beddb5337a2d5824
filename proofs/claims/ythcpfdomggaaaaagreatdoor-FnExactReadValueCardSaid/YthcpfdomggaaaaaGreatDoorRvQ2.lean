/- Days: both ways the same. -/
import Derived.Test.YthcpfdomggaaaaaGreatDoorRvQ1
set_option linter.unusedSimpArgs false
set_option linter.unusedVariables false
set_option maxRecDepth 100000
namespace Go.Ev.T1
open Go Go.Proofs
theorem leapSame (y : Int) : F_spec_l01Leap y = F_impl_leap y := rfl
theorem leapSome (y : Int) : ∃ b, F_impl_leap y = some b := by
  unfold F_impl_leap
  have e4 : (!4 == 0) = true := by decide
  have e100 : (!100 == 0) = true := by decide
  have e400 : (!400 == 0) = true := by decide
  rw [e4, e100, e400, brT, brT, brT]
  cases (Int.tmod y 4 == 0) <;> cases (Int.tmod y 100 != 0) <;> exact ⟨_, rfl⟩
theorem monthSome (y m : Int) : ∃ r : Int, F_spec_l01Month y m = some r ∧ F_impl_monthDays y m = some r ∧ 28 ≤ r ∧ r ≤ 31 := by
  unfold F_spec_l01Month F_impl_monthDays
  obtain ⟨b, hb⟩ := leapSome y
  rw [leapSame, hb, bnd_some']
  cases (m == 2) <;> cases (m == 4) <;> cases (m == 6) <;> cases (m == 9) <;> cases (m == 11) <;> cases b <;> exact ⟨_, rfl, rfl, by decide, by decide⟩
/-- how long the i-th month is -/
noncomputable def mon (y m : Int) : Int := Classical.choose (monthSome y m)
theorem monSpec (y m : Int) : F_spec_l01Month y m = some (mon y m) := (Classical.choose_spec (monthSome y m)).1
theorem monImpl (y m : Int) : F_impl_monthDays y m = some (mon y m) := (Classical.choose_spec (monthSome y m)).2.1
theorem mon_ge (y m : Int) : 28 ≤ mon y m := (Classical.choose_spec (monthSome y m)).2.2.1
theorem mon_le (y m : Int) : mon y m ≤ 31 := (Classical.choose_spec (monthSome y m)).2.2.2
noncomputable def sumM (y : Int) : Nat → Int
  | 0 => 0
  | i + 1 => sumM y i + mon y ((i + 1 : Nat) : Int)
theorem sumM_le (y : Int) : ∀ i, 0 ≤ sumM y i ∧ sumM y i ≤ 31 * i
  | 0 => by simp [sumM]
  | i + 1 => by
    have := sumM_le y i
    have := mon_ge y ((i + 1 : Nat) : Int)
    have := mon_le y ((i + 1 : Nat) : Int)
    simp only [sumM]; omega
theorem specSum (y : Int) (b : Nat) (hb : b ≤ 12) (hb1 : 1 ≤ b) (v : DValue) (n : Int) (h0 : -1000 ≤ n) (h1 : n ≤ 100000000) : F_spec_DayOf_l0 y b v n 1 = some (v, n + sumM y (b - 1)) := by
  unfold F_spec_DayOf_l0
  have := loop_run (B := B_spec_DayOf_l0) (fun i => (y, (b : Int), v, n + sumM y i, ((i + 1 : Nat) : Int))) (b - 1) (some (v, n + sumM y (b - 1))) (fun i C hi => ?_) (fun C => ?_) ((b : Int).toNat + 1) 0 (Nat.zero_le _) (by omega)
  · simpa [sumM] using this
  · unfold B_spec_DayOf_l0
    have hs := sumM_le y i
    have hm := mon_le y ((i + 1 : Nat) : Int)
    have hm2 := mon_ge y ((i + 1 : Nat) : Int)
    simp (disch := omega) only [wrap_succ, monSpec, bnd_some']
    rw [br_pos (by omega), wrap_eq (by omega) (by omega)]
    simp only [sumM]
    congr 2
    rw [Int.add_assoc]
  · unfold B_spec_DayOf_l0
    rw [br_neg (by show ¬ ((b - 1 + 1 : Nat) : Int) < (b : Int); omega)]
theorem implSum (y : Int) (b : Nat) (hb : b ≤ 12) (hb1 : 1 ≤ b) (c : Int) (v : DValue) (n : Int) (h0 : -1000 ≤ n) (h1 : n ≤ 100000000) : F_impl_DayOf_l0 y b c v n 1 = some (c, v, n + sumM y (b - 1)) := by
  unfold F_impl_DayOf_l0
  have := loop_run (B := B_impl_DayOf_l0) (fun i => (y, (b : Int), c, v, n + sumM y i, ((i + 1 : Nat) : Int))) (b - 1) (some (c, v, n + sumM y (b - 1))) (fun i C hi => ?_) (fun C => ?_) ((b : Int).toNat + 1) 0 (Nat.zero_le _) (by omega)
  · simpa [sumM] using this
  · unfold B_impl_DayOf_l0
    have hs := sumM_le y i
    have hm := mon_le y ((i + 1 : Nat) : Int)
    have hm2 := mon_ge y ((i + 1 : Nat) : Int)
    simp (disch := omega) only [wrap_succ, monImpl, bnd_some']
    rw [br_pos (by omega), wrap_eq (by omega) (by omega)]
    simp only [sumM]
    congr 2
    rw [Int.add_assoc]
  · unfold B_impl_DayOf_l0
    rw [br_neg (by show ¬ ((b - 1 + 1 : Nat) : Int) < (b : Int); omega)]
/-- one answer, both ways -/
def Same (m m' : Option (DValue × Int)) : Prop := ∃ r, m = some r ∧ m' = some r
theorem same_rfl {r : DValue × Int} : Same (some r) (some r) := ⟨r, rfl, rfl⟩
theorem same_br {c : Prop} [Decidable c] {x y x' y' : Option (DValue × Int)} (h1 : c → Same x x') (h2 : ¬ c → Same y y') : Same (br (decide c) x y) (br (decide c) x' y') := by
  by_cases h : c
  · rw [br_pos h, br_pos h]; exact h1 h
  · rw [br_neg h, br_neg h]; exact h2 h
def ZDay : DValue := ((0 : Int), (0 : Int), (0 : Int), ([] : List UInt8), ())
theorem daySame (a b c : Int) : Same (F_spec_DayOf a b c) (F_impl_DayOf a b c) := by
  unfold F_spec_DayOf F_impl_DayOf
  refine same_br (fun _ => same_rfl) fun h1 => same_br (fun _ => same_rfl) fun h2 => same_br (fun _ => same_rfl) fun h3 => same_br (fun _ => same_rfl) fun h4 => same_br (fun _ => same_rfl) fun h5 => ?_
  rw [monSpec, monImpl, bnd_some', bnd_some']
  refine same_br (fun _ => same_rfl) fun h6 => ?_
  have hm := mon_le a b
  have e4 : (!4 == 0) = true := by decide
  have e100 : (!100 == 0) = true := by decide
  have e400 : (!400 == 0) = true := by decide
  obtain ⟨k, rfl⟩ : ∃ k : Nat, b = k := ⟨b.toNat, by omega⟩
  unfold F_spec_l01Ahead
  rw [e4, e100, e400]
  simp only [brT]
  rw [bnd_some']
  have w1 : IntKind.i64.wrap (a - 1) = a - 1 := wrap_eq (by omega) (by omega)
  rw [w1, Int.tdiv_eq_ediv_of_nonneg (by omega), Int.tdiv_eq_ediv_of_nonneg (by omega), Int.tdiv_eq_ediv_of_nonneg (by omega)]
  have w2 : IntKind.i64.wrap ((a - 1) * 365) = (a - 1) * 365 := wrap_eq (by omega) (by omega)
  have w3 : IntKind.i64.wrap (365 * (a - 1)) = (a - 1) * 365 := by rw [wrap_eq (by omega) (by omega)]; omega
  have w4 : IntKind.i64.wrap ((a - 1) / 4) = (a - 1) / 4 := wrap_eq (by omega) (by omega)
  have w5 : IntKind.i64.wrap ((a - 1) / 100) = (a - 1) / 100 := wrap_eq (by omega) (by omega)
  have w6 : IntKind.i64.wrap ((a - 1) / 400) = (a - 1) / 400 := wrap_eq (by omega) (by omega)
  rw [w2, w3, w4, w5, w6]
  generalize hA : IntKind.i64.wrap (IntKind.i64.wrap (IntKind.i64.wrap ((a - 1) * 365 + (a - 1) / 4) - (a - 1) / 100) + (a - 1) / 400) = A
  have hA' : A = (a - 1) * 365 + (a - 1) / 4 - (a - 1) / 100 + (a - 1) / 400 := by
    rw [← hA, wrap_eq (x := (a - 1) * 365 + (a - 1) / 4) (by omega) (by omega), wrap_eq (x := (a - 1) * 365 + (a - 1) / 4 - (a - 1) / 100) (by omega) (by omega), wrap_eq (by omega) (by omega)]
  clear hA
  have hA1 : 0 ≤ A := by omega
  have hA2 : A ≤ 10000000 := by omega
  have w7 : IntKind.i64.wrap (IntKind.i64.wrap (A + c) - 1) = A + c - 1 := by rw [wrap_eq (x := A + c) (by omega) (by omega), wrap_eq (by omega) (by omega)]
  have hs := sumM_le a (k - 1)
  rw [w7, specSum a k (by omega) (by omega) _ _ (by omega) (by omega), implSum a k (by omega) (by omega) _ _ _ (by omega) (by omega), bnd_some', bnd_some']
  refine ⟨_, rfl, ?_⟩
  show some (((5 : Int), IntKind.i64.wrap (IntKind.i64.wrap (A + sumM a (k - 1) + c) - 1), (0 : Int), ([] : List UInt8), ()), (0 : Int)) = _
  rw [wrap_eq (x := A + sumM a (k - 1) + c) (by omega) (by omega), wrap_eq (by omega) (by omega)]
  have : A + sumM a (k - 1) + c - 1 = A + c - 1 + sumM a (k - 1) := by omega
  rw [this]
end Go.Ev.T1
