/- The guard, copies, equality. -/
import Derived.Test.YtfdmjgmipnohkaaAnF
import Derived.Test.YtfdmjgmipnohkaaAnEvH
set_option linter.unusedSimpArgs false
set_option linter.unusedVariables false
namespace Go.Ev.T1
open Go Go.Proofs
def Sm_Value (n : Nat) (a : DValue) : Prop := Rng .i64 a.1 ∧ Rng .i64 a.2.1 ∧ Rng .i64 a.2.2.1 ∧ a.2.2.2.1.length ≤ n
theorem sz_Value (a : DValue) (b : Int) (h0 : 0 ≤ b) (h1 : b ≤ 1048576) (ha : Sm_Value maxLen a) : SzR (F_laws_szValue a b) (Sm_Value 1048576 a) := by
  unfold F_laws_szValue
  obtain ⟨p0, p1, p2, p3⟩ := ha
  generalize hw3 : IntKind.i64.wrap (b - (↑(List.length a.2.2.2.1) : Int)) = b3
  rcases sz_less hw3 h0 h1 p3 with e | ⟨g0_3, g1_3, q3⟩
  · exact ⟨-1, br_pos e _ _, .inl rfl⟩
  rw [br_neg (Int.not_lt.2 g0_3)]
  exact ⟨b3, rfl, .inr ⟨g0_3, g1_3, ⟨p0, p1, p2, q3⟩⟩⟩
theorem sz_ValueS (a : (List DValue)) (b : Int) (h0 : 0 ≤ b) (h1 : b ≤ 1048576) (ha : (a.length ≤ maxLen ∧ ∀ y ∈ a, Sm_Value maxLen y)) : SzR (F_laws_szValueS a b) ((a.length ≤ 1048576 ∧ ∀ y ∈ a, Sm_Value 1048576 y)) := by
  unfold F_laws_szValueS
  generalize hw : IntKind.i64.wrap (b - (↑(List.length a) : Int)) = c
  rcases sz_less hw h0 h1 ha.1 with e | ⟨g0, g1, q⟩
  · exact ⟨-1, br_pos e _ _, .inl rfl⟩
  rw [br_neg (Int.not_lt.2 g0)]
  unfold F_laws_szValueS_l0
  refine szr_and q (sz_loop (xs := a) ZValue (E := fun y => Sm_Value 1048576 y) (fun i r C hi r0 r1 => ?_) (fun r C => ?_) c g0 g1 (by omega))
  · obtain ⟨y, ey, hy⟩ := sz_Value (a.getD i ZValue) r r0 r1 (ha.2 _ (mem_getD hi))
    refine ⟨y, hy, ?_⟩
    unfold B_laws_szValueS_l0
    simp only
    rw [br_pos (show (i : Int) < a.length by omega), br_pos (show (0 : Int) ≤ (i : Int) by omega), br_pos (show (i : Int) < a.length by omega), Int.toNat_natCast, ey, bnd_some', wrap_succ (by simp only [maxLen] at ha; omega), br_if]
  · unfold B_laws_szValueS_l0
    exact br_neg (Int.lt_irrefl _) _ _
def Sm_LRow (n : Nat) (a : DLRow) : Prop := (a.1.length ≤ n ∧ ∀ y ∈ a.1, Sm_Value n y)
theorem sz_Row (a : DLRow) (b : Int) (h0 : 0 ≤ b) (h1 : b ≤ 1048576) (ha : Sm_LRow maxLen a) : SzR (F_laws_szRow a b) (Sm_LRow 1048576 a) := by
  unfold F_laws_szRow
  have p0 := ha
  obtain ⟨b0, e0, r0⟩ := sz_ValueS a.1 b h0 h1 p0
  rw [e0, bnd_some']
  rcases r0 with rfl | ⟨g0_0, g1_0, q0⟩
  · exact ⟨-1, br_pos (by decide) _ _, .inl rfl⟩
  rw [br_neg (Int.not_lt.2 g0_0)]
  exact ⟨b0, rfl, .inr ⟨g0_0, g1_0, q0⟩⟩
theorem sz_RowS (a : (List DLRow)) (b : Int) (h0 : 0 ≤ b) (h1 : b ≤ 1048576) (ha : (a.length ≤ maxLen ∧ ∀ y ∈ a, Sm_LRow maxLen y)) : SzR (F_laws_szRowS a b) ((a.length ≤ 1048576 ∧ ∀ y ∈ a, Sm_LRow 1048576 y)) := by
  unfold F_laws_szRowS
  generalize hw : IntKind.i64.wrap (b - (↑(List.length a) : Int)) = c
  rcases sz_less hw h0 h1 ha.1 with e | ⟨g0, g1, q⟩
  · exact ⟨-1, br_pos e _ _, .inl rfl⟩
  rw [br_neg (Int.not_lt.2 g0)]
  unfold F_laws_szRowS_l0
  refine szr_and q (sz_loop (xs := a) ZLRow (E := fun y => Sm_LRow 1048576 y) (fun i r C hi r0 r1 => ?_) (fun r C => ?_) c g0 g1 (by omega))
  · obtain ⟨y, ey, hy⟩ := sz_Row (a.getD i ZLRow) r r0 r1 (ha.2 _ (mem_getD hi))
    refine ⟨y, hy, ?_⟩
    unfold B_laws_szRowS_l0
    simp only
    rw [br_pos (show (i : Int) < a.length by omega), br_pos (show (0 : Int) ≤ (i : Int) by omega), br_pos (show (i : Int) < a.length by omega), Int.toNat_natCast, ey, bnd_some', wrap_succ (by simp only [maxLen] at ha; omega), br_if]
  · unfold B_laws_szRowS_l0
    exact br_neg (Int.lt_irrefl _) _ _
theorem to_Value (a : DValue) (ha : Sm_Value 1048576 a) : F_laws_toValue a = some a := by
  unfold F_laws_toValue
  try rfl
theorem to_ValueS (a : (List DValue)) (ha : (a.length ≤ 1048576 ∧ ∀ y ∈ a, Sm_Value 1048576 y)) : F_laws_toValueS a = some a := by
  unfold F_laws_toValueS
  unfold F_laws_toValueS_l0
  have hl := ha.1
  rw [show ((a.length : Int) == (a.length : Int)) = true from by simp]
  rw [br_true, br_pos (show (0 : Int) ≤ (a.length : Int) by omega), br_pos (show (a.length : Int) ≤ (capN : Int) by simp only [capN]; omega), Int.toNat_natCast]
  refine congrArg (fun m => bnd m _) (copy_loop a ZValue _ (fun i ys C hi hy => ?_) (fun ys C => ?_) (by omega))
  · unfold B_laws_toValueS_l0
    simp only
    rw [br_pos (show (i : Int) < a.length by omega), br_pos (show (0 : Int) ≤ (i : Int) by omega), br_pos (show (i : Int) < a.length by omega), Int.toNat_natCast, to_Value _ (ha.2 _ (mem_getD hi)), bnd_some', br_pos (show (0 : Int) ≤ (i : Int) by omega), br_pos (show (i : Int) < ys.length by omega), wrap_succ (by omega)]
  · unfold B_laws_toValueS_l0
    exact br_neg (Int.lt_irrefl _) _ _
theorem to_Row (a : DLRow) (ha : Sm_LRow 1048576 a) : F_laws_toRow a = some a := by
  unfold F_laws_toRow
  have p0 := ha
  rw [to_ValueS _ p0, bnd_some']
  try rfl
theorem to_RowS (a : (List DLRow)) (ha : (a.length ≤ 1048576 ∧ ∀ y ∈ a, Sm_LRow 1048576 y)) : F_laws_toRowS a = some a := by
  unfold F_laws_toRowS
  unfold F_laws_toRowS_l0
  have hl := ha.1
  rw [show ((a.length : Int) == (a.length : Int)) = true from by simp]
  rw [br_true, br_pos (show (0 : Int) ≤ (a.length : Int) by omega), br_pos (show (a.length : Int) ≤ (capN : Int) by simp only [capN]; omega), Int.toNat_natCast]
  refine congrArg (fun m => bnd m _) (copy_loop a ZLRow _ (fun i ys C hi hy => ?_) (fun ys C => ?_) (by omega))
  · unfold B_laws_toRowS_l0
    simp only
    rw [br_pos (show (i : Int) < a.length by omega), br_pos (show (0 : Int) ≤ (i : Int) by omega), br_pos (show (i : Int) < a.length by omega), Int.toNat_natCast, to_Row _ (ha.2 _ (mem_getD hi)), bnd_some', br_pos (show (0 : Int) ≤ (i : Int) by omega), br_pos (show (i : Int) < ys.length by omega), wrap_succ (by omega)]
  · unfold B_laws_toRowS_l0
    exact br_neg (Int.lt_irrefl _) _ _
theorem eq_Value (a : DValue) (ha : Sm_Value 1048576 a) : F_laws_eqValue a a = some true := by
  unfold F_laws_eqValue
  simp only [bne_self_eq_false, beq_self_eq_true, Bool.not_true, br_false, bnd_some']
theorem eq_ValueS (a : (List DValue)) (ha : (a.length ≤ 1048576 ∧ ∀ y ∈ a, Sm_Value 1048576 y)) : F_laws_eqValueS a a = some true := by
  unfold F_laws_eqValueS
  unfold F_laws_eqValueS_l0
  have hl := ha.1
  simp only [bne_self_eq_false, br_false]
  have key := eq_loop a (B := B_laws_eqValueS_l0) (fun i C hi => by
    unfold B_laws_eqValueS_l0
    simp only
    rw [br_pos (show (i : Int) < a.length by omega), br_pos (show (0 : Int) ≤ (i : Int) by omega), br_pos (show (i : Int) < a.length by omega), br_pos (show (0 : Int) ≤ (i : Int) by omega), br_pos (show (i : Int) < a.length by omega), wrap_succ (by omega)]
    simp only [Int.toNat_natCast]
    simp only [bne_self_eq_false, beq_self_eq_true, Bool.not_true, br_false, bnd_some', eq_Value (a.getD i ZValue) (ha.2 _ (mem_getD hi))]) (fun C => by
    unfold B_laws_eqValueS_l0
    exact br_neg (Int.lt_irrefl _) _ _) (n := ((a.length : Nat) : Int).toNat + 1) (by omega) 0 (Nat.zero_le _) (by omega)
  rw [show ((0 : Nat) : Int) = 0 from rfl] at key
  rw [key, bnd_some', onSum_inl]
theorem eq_IntS (a : (List Int)) (ha : (a.length ≤ 1048576 ∧ ∀ y ∈ a, Rng .i64 y)) : F_laws_eqIntS a a = some true := by
  unfold F_laws_eqIntS
  unfold F_laws_eqIntS_l0
  have hl := ha.1
  simp only [bne_self_eq_false, br_false]
  have key := eq_loop a (B := B_laws_eqIntS_l0) (fun i C hi => by
    unfold B_laws_eqIntS_l0
    simp only
    rw [br_pos (show (i : Int) < a.length by omega), br_pos (show (0 : Int) ≤ (i : Int) by omega), br_pos (show (i : Int) < a.length by omega), br_pos (show (0 : Int) ≤ (i : Int) by omega), br_pos (show (i : Int) < a.length by omega), wrap_succ (by omega)]
    simp only [Int.toNat_natCast]
    simp only [bne_self_eq_false, beq_self_eq_true, Bool.not_true, br_false, bnd_some']) (fun C => by
    unfold B_laws_eqIntS_l0
    exact br_neg (Int.lt_irrefl _) _ _) (n := ((a.length : Nat) : Int).toNat + 1) (by omega) 0 (Nat.zero_le _) (by omega)
  rw [show ((0 : Nat) : Int) = 0 from rfl] at key
  rw [key, bnd_some', onSum_inl]
def Sm_Hist (n : Nat) (a : DHist) : Prop := Rng .i64 a.1 ∧ Rng .i64 a.2.1 ∧ Rng .i64 a.2.2.1 ∧ (a.2.2.2.1.length ≤ n ∧ ∀ y ∈ a.2.2.2.1, Sm_Value n y) ∧ (a.2.2.2.2.1.length ≤ n ∧ ∀ y ∈ a.2.2.2.2.1, Rng .i64 y)
theorem eq_Hist (a : DHist) (ha : Sm_Hist 1048576 a) : F_laws_eqHist a a = some true := by
  unfold F_laws_eqHist
  obtain ⟨p0, p1, p2, p3, p4⟩ := ha
  simp only [bne_self_eq_false, beq_self_eq_true, Bool.not_true, br_false, bnd_some', eq_ValueS _ p3, eq_IntS _ p4]
def Sm_Row (n : Nat) (a : DRow) : Prop := (a.1.length ≤ n ∧ ∀ y ∈ a.1, Sm_Value n y)
theorem eq_Row (a : DRow) (ha : Sm_Row 1048576 a) : F_laws_eqRow a a = some true := by
  unfold F_laws_eqRow
  have p0 := ha
  simp only [bne_self_eq_false, beq_self_eq_true, Bool.not_true, br_false, bnd_some', eq_ValueS _ p0]
theorem eq_RowS (a : (List DRow)) (ha : (a.length ≤ 1048576 ∧ ∀ y ∈ a, Sm_Row 1048576 y)) : F_laws_eqRowS a a = some true := by
  unfold F_laws_eqRowS
  unfold F_laws_eqRowS_l0
  have hl := ha.1
  simp only [bne_self_eq_false, br_false]
  have key := eq_loop a (B := B_laws_eqRowS_l0) (fun i C hi => by
    unfold B_laws_eqRowS_l0
    simp only
    rw [br_pos (show (i : Int) < a.length by omega), br_pos (show (0 : Int) ≤ (i : Int) by omega), br_pos (show (i : Int) < a.length by omega), br_pos (show (0 : Int) ≤ (i : Int) by omega), br_pos (show (i : Int) < a.length by omega), wrap_succ (by omega)]
    simp only [Int.toNat_natCast]
    simp only [bne_self_eq_false, beq_self_eq_true, Bool.not_true, br_false, bnd_some', eq_Row (a.getD i ZRow) (ha.2 _ (mem_getD hi))]) (fun C => by
    unfold B_laws_eqRowS_l0
    exact br_neg (Int.lt_irrefl _) _ _) (n := ((a.length : Nat) : Int).toNat + 1) (by omega) 0 (Nat.zero_le _) (by omega)
  rw [show ((0 : Nat) : Int) = 0 from rfl] at key
  rw [key, bnd_some', onSum_inl]
end Go.Ev.T1
