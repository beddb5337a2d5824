/- The guard, copies, equality. -/
import Derived.Test.YticlnmiakaelkaaCat1F
import Derived.Test.YticlnmiakaelkaaEvSz
set_option linter.unusedSimpArgs false
set_option linter.unusedVariables false
namespace Go.Ev.T1
open Go Go.Proofs
def Sm_Column (n : Nat) (a : DColumn) : Prop := Rng .i64 a.1 ∧ a.2.1.length ≤ n ∧ Rng .i64 a.2.2.1
theorem sz_Column (a : DColumn) (b : Int) (h0 : 0 ≤ b) (h1 : b ≤ 1048576) (ha : Sm_Column maxLen a) : SzR (F_laws_szColumn a b) (Sm_Column 1048576 a) := by
  unfold F_laws_szColumn
  obtain ⟨p0, p1, p2⟩ := ha
  generalize hw1 : IntKind.i64.wrap (b - (↑(List.length a.2.1) : Int)) = b1
  rcases sz_less hw1 h0 h1 p1 with e | ⟨g0_1, g1_1, q1⟩
  · exact ⟨-1, br_pos e _ _, .inl rfl⟩
  rw [br_neg (Int.not_lt.2 g0_1)]
  exact ⟨b1, rfl, .inr ⟨g0_1, g1_1, ⟨p0, q1, p2⟩⟩⟩
theorem sz_ColumnS (a : (List DColumn)) (b : Int) (h0 : 0 ≤ b) (h1 : b ≤ 1048576) (ha : (a.length ≤ maxLen ∧ ∀ y ∈ a, Sm_Column maxLen y)) : SzR (F_laws_szColumnS a b) ((a.length ≤ 1048576 ∧ ∀ y ∈ a, Sm_Column 1048576 y)) := by
  unfold F_laws_szColumnS
  generalize hw : IntKind.i64.wrap (b - (↑(List.length a) : Int)) = c
  rcases sz_less hw h0 h1 ha.1 with e | ⟨g0, g1, q⟩
  · exact ⟨-1, br_pos e _ _, .inl rfl⟩
  rw [br_neg (Int.not_lt.2 g0)]
  unfold F_laws_szColumnS_l0
  refine szr_and q (sz_loop (xs := a) ZColumn (E := fun y => Sm_Column 1048576 y) (fun i r C hi r0 r1 => ?_) (fun r C => ?_) c g0 g1 (by omega))
  · obtain ⟨y, ey, hy⟩ := sz_Column (a.getD i ZColumn) r r0 r1 (ha.2 _ (mem_getD hi))
    refine ⟨y, hy, ?_⟩
    unfold B_laws_szColumnS_l0
    simp only
    rw [br_pos (show (i : Int) < a.length by omega), br_pos (show (0 : Int) ≤ (i : Int) by omega), br_pos (show (i : Int) < a.length by omega), Int.toNat_natCast, ey, bnd_some', wrap_succ (by simp only [maxLen] at ha; omega), br_if]
  · unfold B_laws_szColumnS_l0
    exact br_neg (Int.lt_irrefl _) _ _
theorem sz_IntS (a : (List Int)) (b : Int) (h0 : 0 ≤ b) (h1 : b ≤ 1048576) (ha : (a.length ≤ maxLen ∧ ∀ y ∈ a, Rng .i64 y)) : SzR (F_laws_szIntS a b) ((a.length ≤ 1048576 ∧ ∀ y ∈ a, Rng .i64 y)) := by
  unfold F_laws_szIntS
  generalize hw : IntKind.i64.wrap (b - (↑(List.length a) : Int)) = c
  rcases sz_less hw h0 h1 ha.1 with e | ⟨g0, g1, q⟩
  · exact ⟨-1, br_pos e _ _, .inl rfl⟩
  rw [br_neg (Int.not_lt.2 g0)]
  exact ⟨c, rfl, .inr ⟨g0, g1, q, ha.2⟩⟩
def Sm_Index (n : Nat) (a : DIndex) : Prop := Rng .i64 a.1 ∧ a.2.1.length ≤ n ∧ (a.2.2.1.length ≤ n ∧ ∀ y ∈ a.2.2.1, Rng .i64 y) ∧ Rng .i64 a.2.2.2.2.1
theorem sz_Index (a : DIndex) (b : Int) (h0 : 0 ≤ b) (h1 : b ≤ 1048576) (ha : Sm_Index maxLen a) : SzR (F_laws_szIndex a b) (Sm_Index 1048576 a) := by
  unfold F_laws_szIndex
  obtain ⟨p0, p1, p2, p4⟩ := ha
  generalize hw1 : IntKind.i64.wrap (b - (↑(List.length a.2.1) : Int)) = b1
  rcases sz_less hw1 h0 h1 p1 with e | ⟨g0_1, g1_1, q1⟩
  · exact ⟨-1, br_pos e _ _, .inl rfl⟩
  rw [br_neg (Int.not_lt.2 g0_1)]
  obtain ⟨b2, e2, r2⟩ := sz_IntS a.2.2.1 b1 g0_1 g1_1 p2
  rw [e2, bnd_some']
  rcases r2 with rfl | ⟨g0_2, g1_2, q2⟩
  · exact ⟨-1, br_pos (by decide) _ _, .inl rfl⟩
  rw [br_neg (Int.not_lt.2 g0_2)]
  exact ⟨b2, rfl, .inr ⟨g0_2, g1_2, ⟨p0, q1, q2, p4⟩⟩⟩
theorem sz_IndexS (a : (List DIndex)) (b : Int) (h0 : 0 ≤ b) (h1 : b ≤ 1048576) (ha : (a.length ≤ maxLen ∧ ∀ y ∈ a, Sm_Index maxLen y)) : SzR (F_laws_szIndexS a b) ((a.length ≤ 1048576 ∧ ∀ y ∈ a, Sm_Index 1048576 y)) := by
  unfold F_laws_szIndexS
  generalize hw : IntKind.i64.wrap (b - (↑(List.length a) : Int)) = c
  rcases sz_less hw h0 h1 ha.1 with e | ⟨g0, g1, q⟩
  · exact ⟨-1, br_pos e _ _, .inl rfl⟩
  rw [br_neg (Int.not_lt.2 g0)]
  unfold F_laws_szIndexS_l0
  refine szr_and q (sz_loop (xs := a) ZIndex (E := fun y => Sm_Index 1048576 y) (fun i r C hi r0 r1 => ?_) (fun r C => ?_) c g0 g1 (by omega))
  · obtain ⟨y, ey, hy⟩ := sz_Index (a.getD i ZIndex) r r0 r1 (ha.2 _ (mem_getD hi))
    refine ⟨y, hy, ?_⟩
    unfold B_laws_szIndexS_l0
    simp only
    rw [br_pos (show (i : Int) < a.length by omega), br_pos (show (0 : Int) ≤ (i : Int) by omega), br_pos (show (i : Int) < a.length by omega), Int.toNat_natCast, ey, bnd_some', wrap_succ (by simp only [maxLen] at ha; omega), br_if]
  · unfold B_laws_szIndexS_l0
    exact br_neg (Int.lt_irrefl _) _ _
def Sm_LTable (n : Nat) (a : DLTable) : Prop := Rng .i64 a.1 ∧ a.2.1.length ≤ n ∧ Rng .i64 a.2.2.1 ∧ (a.2.2.2.1.length ≤ n ∧ ∀ y ∈ a.2.2.2.1, Sm_Column n y) ∧ (a.2.2.2.2.1.length ≤ n ∧ ∀ y ∈ a.2.2.2.2.1, Rng .i64 y) ∧ (a.2.2.2.2.2.1.length ≤ n ∧ ∀ y ∈ a.2.2.2.2.2.1, Sm_Index n y)
theorem sz_Table (a : DLTable) (b : Int) (h0 : 0 ≤ b) (h1 : b ≤ 1048576) (ha : Sm_LTable maxLen a) : SzR (F_laws_szTable a b) (Sm_LTable 1048576 a) := by
  unfold F_laws_szTable
  obtain ⟨p0, p1, p2, p3, p4, p5⟩ := ha
  generalize hw1 : IntKind.i64.wrap (b - (↑(List.length a.2.1) : Int)) = b1
  rcases sz_less hw1 h0 h1 p1 with e | ⟨g0_1, g1_1, q1⟩
  · exact ⟨-1, br_pos e _ _, .inl rfl⟩
  rw [br_neg (Int.not_lt.2 g0_1)]
  obtain ⟨b3, e3, r3⟩ := sz_ColumnS a.2.2.2.1 b1 g0_1 g1_1 p3
  rw [e3, bnd_some']
  rcases r3 with rfl | ⟨g0_3, g1_3, q3⟩
  · exact ⟨-1, br_pos (by decide) _ _, .inl rfl⟩
  rw [br_neg (Int.not_lt.2 g0_3)]
  obtain ⟨b4, e4, r4⟩ := sz_IntS a.2.2.2.2.1 b3 g0_3 g1_3 p4
  rw [e4, bnd_some']
  rcases r4 with rfl | ⟨g0_4, g1_4, q4⟩
  · exact ⟨-1, br_pos (by decide) _ _, .inl rfl⟩
  rw [br_neg (Int.not_lt.2 g0_4)]
  obtain ⟨b5, e5, r5⟩ := sz_IndexS a.2.2.2.2.2.1 b4 g0_4 g1_4 p5
  rw [e5, bnd_some']
  rcases r5 with rfl | ⟨g0_5, g1_5, q5⟩
  · exact ⟨-1, br_pos (by decide) _ _, .inl rfl⟩
  rw [br_neg (Int.not_lt.2 g0_5)]
  exact ⟨b5, rfl, .inr ⟨g0_5, g1_5, ⟨p0, q1, p2, q3, q4, q5⟩⟩⟩
theorem sz_TableS (a : (List DLTable)) (b : Int) (h0 : 0 ≤ b) (h1 : b ≤ 1048576) (ha : (a.length ≤ maxLen ∧ ∀ y ∈ a, Sm_LTable maxLen y)) : SzR (F_laws_szTableS a b) ((a.length ≤ 1048576 ∧ ∀ y ∈ a, Sm_LTable 1048576 y)) := by
  unfold F_laws_szTableS
  generalize hw : IntKind.i64.wrap (b - (↑(List.length a) : Int)) = c
  rcases sz_less hw h0 h1 ha.1 with e | ⟨g0, g1, q⟩
  · exact ⟨-1, br_pos e _ _, .inl rfl⟩
  rw [br_neg (Int.not_lt.2 g0)]
  unfold F_laws_szTableS_l0
  refine szr_and q (sz_loop (xs := a) ZLTable (E := fun y => Sm_LTable 1048576 y) (fun i r C hi r0 r1 => ?_) (fun r C => ?_) c g0 g1 (by omega))
  · obtain ⟨y, ey, hy⟩ := sz_Table (a.getD i ZLTable) r r0 r1 (ha.2 _ (mem_getD hi))
    refine ⟨y, hy, ?_⟩
    unfold B_laws_szTableS_l0
    simp only
    rw [br_pos (show (i : Int) < a.length by omega), br_pos (show (0 : Int) ≤ (i : Int) by omega), br_pos (show (i : Int) < a.length by omega), Int.toNat_natCast, ey, bnd_some', wrap_succ (by simp only [maxLen] at ha; omega), br_if]
  · unfold B_laws_szTableS_l0
    exact br_neg (Int.lt_irrefl _) _ _
theorem to_Column (a : DColumn) (ha : Sm_Column 1048576 a) : F_laws_toColumn a = some a := by
  unfold F_laws_toColumn
  try rfl
theorem to_ColumnS (a : (List DColumn)) (ha : (a.length ≤ 1048576 ∧ ∀ y ∈ a, Sm_Column 1048576 y)) : F_laws_toColumnS a = some a := by
  unfold F_laws_toColumnS
  unfold F_laws_toColumnS_l0
  have hl := ha.1
  rw [show ((a.length : Int) == (a.length : Int)) = true from by simp]
  rw [br_true, br_pos (show (0 : Int) ≤ (a.length : Int) by omega), br_pos (show (a.length : Int) ≤ (capN : Int) by simp only [capN]; omega), Int.toNat_natCast]
  refine congrArg (fun m => bnd m _) (copy_loop a ZColumn _ (fun i ys C hi hy => ?_) (fun ys C => ?_) (by omega))
  · unfold B_laws_toColumnS_l0
    simp only
    rw [br_pos (show (i : Int) < a.length by omega), br_pos (show (0 : Int) ≤ (i : Int) by omega), br_pos (show (i : Int) < a.length by omega), Int.toNat_natCast, to_Column _ (ha.2 _ (mem_getD hi)), bnd_some', br_pos (show (0 : Int) ≤ (i : Int) by omega), br_pos (show (i : Int) < ys.length by omega), wrap_succ (by omega)]
  · unfold B_laws_toColumnS_l0
    exact br_neg (Int.lt_irrefl _) _ _
theorem to_IntS (a : (List Int)) (ha : (a.length ≤ 1048576 ∧ ∀ y ∈ a, Rng .i64 y)) : F_laws_toIntS a = some a := by
  unfold F_laws_toIntS
  unfold F_laws_toIntS_l0
  have hl := ha.1
  rw [show ((a.length : Int) == (a.length : Int)) = true from by simp]
  rw [br_true, br_pos (show (0 : Int) ≤ (a.length : Int) by omega), br_pos (show (a.length : Int) ≤ (capN : Int) by simp only [capN]; omega), Int.toNat_natCast]
  refine congrArg (fun m => bnd m _) (copy_loop a zInt _ (fun i ys C hi hy => ?_) (fun ys C => ?_) (by omega))
  · unfold B_laws_toIntS_l0
    simp only
    rw [br_pos (show (i : Int) < a.length by omega), br_pos (show (0 : Int) ≤ (i : Int) by omega), br_pos (show (i : Int) < a.length by omega), Int.toNat_natCast, br_pos (show (0 : Int) ≤ (i : Int) by omega), br_pos (show (i : Int) < ys.length by omega), wrap_succ (by omega)]
  · unfold B_laws_toIntS_l0
    exact br_neg (Int.lt_irrefl _) _ _
theorem to_Index (a : DIndex) (ha : Sm_Index 1048576 a) : F_laws_toIndex a = some a := by
  unfold F_laws_toIndex
  obtain ⟨p0, p1, p2, p4⟩ := ha
  rw [to_IntS _ p2, bnd_some']
  try rfl
theorem to_IndexS (a : (List DIndex)) (ha : (a.length ≤ 1048576 ∧ ∀ y ∈ a, Sm_Index 1048576 y)) : F_laws_toIndexS a = some a := by
  unfold F_laws_toIndexS
  unfold F_laws_toIndexS_l0
  have hl := ha.1
  rw [show ((a.length : Int) == (a.length : Int)) = true from by simp]
  rw [br_true, br_pos (show (0 : Int) ≤ (a.length : Int) by omega), br_pos (show (a.length : Int) ≤ (capN : Int) by simp only [capN]; omega), Int.toNat_natCast]
  refine congrArg (fun m => bnd m _) (copy_loop a ZIndex _ (fun i ys C hi hy => ?_) (fun ys C => ?_) (by omega))
  · unfold B_laws_toIndexS_l0
    simp only
    rw [br_pos (show (i : Int) < a.length by omega), br_pos (show (0 : Int) ≤ (i : Int) by omega), br_pos (show (i : Int) < a.length by omega), Int.toNat_natCast, to_Index _ (ha.2 _ (mem_getD hi)), bnd_some', br_pos (show (0 : Int) ≤ (i : Int) by omega), br_pos (show (i : Int) < ys.length by omega), wrap_succ (by omega)]
  · unfold B_laws_toIndexS_l0
    exact br_neg (Int.lt_irrefl _) _ _
theorem to_Table (a : DLTable) (ha : Sm_LTable 1048576 a) : F_laws_toTable a = some a := by
  unfold F_laws_toTable
  obtain ⟨p0, p1, p2, p3, p4, p5⟩ := ha
  rw [to_ColumnS _ p3, bnd_some', to_IntS _ p4, bnd_some', to_IndexS _ p5, bnd_some']
  try rfl
theorem to_TableS (a : (List DLTable)) (ha : (a.length ≤ 1048576 ∧ ∀ y ∈ a, Sm_LTable 1048576 y)) : F_laws_toTableS a = some a := by
  unfold F_laws_toTableS
  unfold F_laws_toTableS_l0
  have hl := ha.1
  rw [show ((a.length : Int) == (a.length : Int)) = true from by simp]
  rw [br_true, br_pos (show (0 : Int) ≤ (a.length : Int) by omega), br_pos (show (a.length : Int) ≤ (capN : Int) by simp only [capN]; omega), Int.toNat_natCast]
  refine congrArg (fun m => bnd m _) (copy_loop a ZLTable _ (fun i ys C hi hy => ?_) (fun ys C => ?_) (by omega))
  · unfold B_laws_toTableS_l0
    simp only
    rw [br_pos (show (i : Int) < a.length by omega), br_pos (show (0 : Int) ≤ (i : Int) by omega), br_pos (show (i : Int) < a.length by omega), Int.toNat_natCast, to_Table _ (ha.2 _ (mem_getD hi)), bnd_some', br_pos (show (0 : Int) ≤ (i : Int) by omega), br_pos (show (i : Int) < ys.length by omega), wrap_succ (by omega)]
  · unfold B_laws_toTableS_l0
    exact br_neg (Int.lt_irrefl _) _ _
theorem eq_Column (a : DColumn) (ha : Sm_Column 1048576 a) : F_laws_eqColumn a a = some true := by
  unfold F_laws_eqColumn
  simp only [bne_self_eq_false, beq_self_eq_true, Bool.not_true, br_false, bnd_some']
theorem eq_ColumnS (a : (List DColumn)) (ha : (a.length ≤ 1048576 ∧ ∀ y ∈ a, Sm_Column 1048576 y)) : F_laws_eqColumnS a a = some true := by
  unfold F_laws_eqColumnS
  unfold F_laws_eqColumnS_l0
  have hl := ha.1
  simp only [bne_self_eq_false, br_false]
  have key := eq_loop a (B := B_laws_eqColumnS_l0) (fun i C hi => by
    unfold B_laws_eqColumnS_l0
    simp only
    rw [br_pos (show (i : Int) < a.length by omega), br_pos (show (0 : Int) ≤ (i : Int) by omega), br_pos (show (i : Int) < a.length by omega), br_pos (show (0 : Int) ≤ (i : Int) by omega), br_pos (show (i : Int) < a.length by omega), wrap_succ (by omega)]
    simp only [Int.toNat_natCast]
    simp only [bne_self_eq_false, beq_self_eq_true, Bool.not_true, br_false, bnd_some', eq_Column (a.getD i ZColumn) (ha.2 _ (mem_getD hi))]) (fun C => by
    unfold B_laws_eqColumnS_l0
    exact br_neg (Int.lt_irrefl _) _ _) (n := ((a.length : Nat) : Int).toNat + 1) (by omega) 0 (Nat.zero_le _) (by omega)
  rw [show ((0 : Nat) : Int) = 0 from rfl] at key
  rw [key, bnd_some', onSum_inl]
theorem eq_IntS (a : (List Int)) (ha : (a.length ≤ 1048576 ∧ ∀ y ∈ a, Rng .i64 y)) : F_laws_eqIntS a a = some true := by
  unfold F_laws_eqIntS
  unfold F_laws_eqIntS_l0
  have hl := ha.1
  simp only [bne_self_eq_false, br_false]
  have key := eq_loop a (B := B_laws_eqIntS_l0) (fun i C hi => by
    unfold B_laws_eqIntS_l0
    simp only
    rw [br_pos (show (i : Int) < a.length by omega), br_pos (show (0 : Int) ≤ (i : Int) by omega), br_pos (show (i : Int) < a.length by omega), br_pos (show (0 : Int) ≤ (i : Int) by omega), br_pos (show (i : Int) < a.length by omega), wrap_succ (by omega)]
    simp only [Int.toNat_natCast]
    simp only [bne_self_eq_false, beq_self_eq_true, Bool.not_true, br_false, bnd_some']) (fun C => by
    unfold B_laws_eqIntS_l0
    exact br_neg (Int.lt_irrefl _) _ _) (n := ((a.length : Nat) : Int).toNat + 1) (by omega) 0 (Nat.zero_le _) (by omega)
  rw [show ((0 : Nat) : Int) = 0 from rfl] at key
  rw [key, bnd_some', onSum_inl]
theorem eq_Index (a : DIndex) (ha : Sm_Index 1048576 a) : F_laws_eqIndex a a = some true := by
  unfold F_laws_eqIndex
  obtain ⟨p0, p1, p2, p4⟩ := ha
  simp only [bne_self_eq_false, beq_self_eq_true, Bool.not_true, br_false, bnd_some', eq_IntS _ p2]
theorem eq_IndexS (a : (List DIndex)) (ha : (a.length ≤ 1048576 ∧ ∀ y ∈ a, Sm_Index 1048576 y)) : F_laws_eqIndexS a a = some true := by
  unfold F_laws_eqIndexS
  unfold F_laws_eqIndexS_l0
  have hl := ha.1
  simp only [bne_self_eq_false, br_false]
  have key := eq_loop a (B := B_laws_eqIndexS_l0) (fun i C hi => by
    unfold B_laws_eqIndexS_l0
    simp only
    rw [br_pos (show (i : Int) < a.length by omega), br_pos (show (0 : Int) ≤ (i : Int) by omega), br_pos (show (i : Int) < a.length by omega), br_pos (show (0 : Int) ≤ (i : Int) by omega), br_pos (show (i : Int) < a.length by omega), wrap_succ (by omega)]
    simp only [Int.toNat_natCast]
    simp only [bne_self_eq_false, beq_self_eq_true, Bool.not_true, br_false, bnd_some', eq_Index (a.getD i ZIndex) (ha.2 _ (mem_getD hi))]) (fun C => by
    unfold B_laws_eqIndexS_l0
    exact br_neg (Int.lt_irrefl _) _ _) (n := ((a.length : Nat) : Int).toNat + 1) (by omega) 0 (Nat.zero_le _) (by omega)
  rw [show ((0 : Nat) : Int) = 0 from rfl] at key
  rw [key, bnd_some', onSum_inl]
def Sm_Table (n : Nat) (a : DTable) : Prop := Rng .i64 a.1 ∧ a.2.1.length ≤ n ∧ Rng .i64 a.2.2.1 ∧ (a.2.2.2.1.length ≤ n ∧ ∀ y ∈ a.2.2.2.1, Sm_Column n y) ∧ (a.2.2.2.2.1.length ≤ n ∧ ∀ y ∈ a.2.2.2.2.1, Rng .i64 y) ∧ (a.2.2.2.2.2.1.length ≤ n ∧ ∀ y ∈ a.2.2.2.2.2.1, Sm_Index n y)
theorem eq_Table (a : DTable) (ha : Sm_Table 1048576 a) : F_laws_eqTable a a = some true := by
  unfold F_laws_eqTable
  obtain ⟨p0, p1, p2, p3, p4, p5⟩ := ha
  simp only [bne_self_eq_false, beq_self_eq_true, Bool.not_true, br_false, bnd_some', eq_ColumnS _ p3, eq_IntS _ p4, eq_IndexS _ p5]
theorem eq_TableS (a : (List DTable)) (ha : (a.length ≤ 1048576 ∧ ∀ y ∈ a, Sm_Table 1048576 y)) : F_laws_eqTableS a a = some true := by
  unfold F_laws_eqTableS
  unfold F_laws_eqTableS_l0
  have hl := ha.1
  simp only [bne_self_eq_false, br_false]
  have key := eq_loop a (B := B_laws_eqTableS_l0) (fun i C hi => by
    unfold B_laws_eqTableS_l0
    simp only
    rw [br_pos (show (i : Int) < a.length by omega), br_pos (show (0 : Int) ≤ (i : Int) by omega), br_pos (show (i : Int) < a.length by omega), br_pos (show (0 : Int) ≤ (i : Int) by omega), br_pos (show (i : Int) < a.length by omega), wrap_succ (by omega)]
    simp only [Int.toNat_natCast]
    simp only [bne_self_eq_false, beq_self_eq_true, Bool.not_true, br_false, bnd_some', eq_Table (a.getD i ZTable) (ha.2 _ (mem_getD hi))]) (fun C => by
    unfold B_laws_eqTableS_l0
    exact br_neg (Int.lt_irrefl _) _ _) (n := ((a.length : Nat) : Int).toNat + 1) (by omega) 0 (Nat.zero_le _) (by omega)
  rw [show ((0 : Nat) : Int) = 0 from rfl] at key
  rw [key, bnd_some', onSum_inl]
end Go.Ev.T1
