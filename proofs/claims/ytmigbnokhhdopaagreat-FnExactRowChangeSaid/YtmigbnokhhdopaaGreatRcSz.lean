import Derived.Test.YtmigbnokhhdopaaGreatRcF
import Derived.Test.YtmigbnokhhdopaaGreatRcEvG
set_option linter.unusedSimpArgs false
set_option linter.unusedVariables false
namespace Go.Ev.T1
open Go Go.Proofs
def Sm_Column (n : Nat) (a : y12q) : Prop := Rng .i64 a.1 ∧ a.2.1.length ≤ n ∧ Rng .i64 a.2.2.1
theorem sz_Column (a : y12q) (b : Int) (h0 : 0 ≤ b) (h1 : b ≤ 1048576) (ha : Sm_Column maxLen a) : SzR (F_u1f a b) (Sm_Column 1048576 a) := by
 unfold F_u1f
 obtain ⟨p0, p1, p2⟩ := ha
 generalize hw1 : IntKind.i64.wrap (b - (List.length a.2.1 : Int)) = b1
 rcases sz_less hw1 h0 h1 p1 with e | ⟨g0_1, g1_1, q1⟩
 ·exact ⟨-1, y6q e _ _, .inl rfl⟩
 rw [y16q (Int.not_lt.2 g0_1)]
 exact ⟨b1, rfl, .inr ⟨g0_1, g1_1, ⟨p0, q1, p2⟩⟩⟩
theorem sz_ColumnS (a : (List y12q)) (b : Int) (h0 : 0 ≤ b) (h1 : b ≤ 1048576) (ha : (a.length ≤ maxLen ∧ ∀ y ∈ a, Sm_Column maxLen y)) : SzR (F_u2f a b) ((a.length ≤ 1048576 ∧ ∀ y ∈ a, Sm_Column 1048576 y)) := by
 unfold F_u2f
 generalize hw : IntKind.i64.wrap (b - (List.length a : Int)) = c
 rcases sz_less hw h0 h1 ha.1 with e | ⟨g0, g1, q⟩
 ·exact ⟨-1, y6q e _ _, .inl rfl⟩
 rw [y16q (Int.not_lt.2 g0)]
 unfold F_u2f_l0
 refine szr_and q (sz_loop (xs := a) y21q (E := fun y => Sm_Column 1048576 y) (fun i r C hi r0 r1 => ?_) (fun r C => ?_) c g0 g1 (by omega))
 ·obtain ⟨y, ey, hy⟩ := sz_Column (a.getD i y21q) r r0 r1 (ha.2 _ (y105q hi))
  refine ⟨y, hy, ?_⟩
  unfold B_u2f_l0
  simp only
  rw [y6q (show (i : Int) < a.length by omega), y6q (show (0 : Int) ≤ (i : Int) by omega), y6q (show (i : Int) < a.length by omega), Int.toNat_natCast, ey, y0q, y10q (by simp only [maxLen] at ha; omega), br_if]
 ·unfold B_u2f_l0
  exact y16q (Int.lt_irrefl _) _ _
theorem sz_IntS (a : (List Int)) (b : Int) (h0 : 0 ≤ b) (h1 : b ≤ 1048576) (ha : (a.length ≤ maxLen ∧ ∀ y ∈ a, Rng .i64 y)) : SzR (F_u3f a b) ((a.length ≤ 1048576 ∧ ∀ y ∈ a, Rng .i64 y)) := by
 unfold F_u3f
 generalize hw : IntKind.i64.wrap (b - (List.length a : Int)) = c
 rcases sz_less hw h0 h1 ha.1 with e | ⟨g0, g1, q⟩
 ·exact ⟨-1, y6q e _ _, .inl rfl⟩
 rw [y16q (Int.not_lt.2 g0)]
 exact ⟨c, rfl, .inr ⟨g0, g1, q, ha.2⟩⟩
def Sm_Index (n : Nat) (a : y13q) : Prop := Rng .i64 a.1 ∧ a.2.1.length ≤ n ∧ (a.2.2.1.length ≤ n ∧ ∀ y ∈ a.2.2.1, Rng .i64 y) ∧ Rng .i64 a.2.2.2.2.1
theorem sz_Index (a : y13q) (b : Int) (h0 : 0 ≤ b) (h1 : b ≤ 1048576) (ha : Sm_Index maxLen a) : SzR (F_u4f a b) (Sm_Index 1048576 a) := by
 unfold F_u4f
 obtain ⟨p0, p1, p2, p4⟩ := ha
 generalize hw1 : IntKind.i64.wrap (b - (List.length a.2.1 : Int)) = b1
 rcases sz_less hw1 h0 h1 p1 with e | ⟨g0_1, g1_1, q1⟩
 ·exact ⟨-1, y6q e _ _, .inl rfl⟩
 rw [y16q (Int.not_lt.2 g0_1)]
 obtain ⟨b2, e2, r2⟩ := sz_IntS a.2.2.1 b1 g0_1 g1_1 p2
 rw [e2, y0q]
 rcases r2 with rfl | ⟨g0_2, g1_2, q2⟩
 ·exact ⟨-1, y6q (by decide) _ _, .inl rfl⟩
 rw [y16q (Int.not_lt.2 g0_2)]
 exact ⟨b2, rfl, .inr ⟨g0_2, g1_2, ⟨p0, q1, q2, p4⟩⟩⟩
theorem sz_IndexS (a : (List y13q)) (b : Int) (h0 : 0 ≤ b) (h1 : b ≤ 1048576) (ha : (a.length ≤ maxLen ∧ ∀ y ∈ a, Sm_Index maxLen y)) : SzR (F_u5f a b) ((a.length ≤ 1048576 ∧ ∀ y ∈ a, Sm_Index 1048576 y)) := by
 unfold F_u5f
 generalize hw : IntKind.i64.wrap (b - (List.length a : Int)) = c
 rcases sz_less hw h0 h1 ha.1 with e | ⟨g0, g1, q⟩
 ·exact ⟨-1, y6q e _ _, .inl rfl⟩
 rw [y16q (Int.not_lt.2 g0)]
 unfold F_u5f_l0
 refine szr_and q (sz_loop (xs := a) y47q (E := fun y => Sm_Index 1048576 y) (fun i r C hi r0 r1 => ?_) (fun r C => ?_) c g0 g1 (by omega))
 ·obtain ⟨y, ey, hy⟩ := sz_Index (a.getD i y47q) r r0 r1 (ha.2 _ (y105q hi))
  refine ⟨y, hy, ?_⟩
  unfold B_u5f_l0
  simp only
  rw [y6q (show (i : Int) < a.length by omega), y6q (show (0 : Int) ≤ (i : Int) by omega), y6q (show (i : Int) < a.length by omega), Int.toNat_natCast, ey, y0q, y10q (by simp only [maxLen] at ha; omega), br_if]
 ·unfold B_u5f_l0
  exact y16q (Int.lt_irrefl _) _ _
def Sm_LTable (n : Nat) (a : DLTable) : Prop := Rng .i64 a.1 ∧ a.2.1.length ≤ n ∧ Rng .i64 a.2.2.1 ∧ (a.2.2.2.1.length ≤ n ∧ ∀ y ∈ a.2.2.2.1, Sm_Column n y) ∧ (a.2.2.2.2.1.length ≤ n ∧ ∀ y ∈ a.2.2.2.2.1, Rng .i64 y) ∧ (a.2.2.2.2.2.1.length ≤ n ∧ ∀ y ∈ a.2.2.2.2.2.1, Sm_Index n y)
theorem sz_Table (a : DLTable) (b : Int) (h0 : 0 ≤ b) (h1 : b ≤ 1048576) (ha : Sm_LTable maxLen a) : SzR (F_u6f a b) (Sm_LTable 1048576 a) := by
 unfold F_u6f
 obtain ⟨p0, p1, p2, p3, p4, p5⟩ := ha
 generalize hw1 : IntKind.i64.wrap (b - (List.length a.2.1 : Int)) = b1
 rcases sz_less hw1 h0 h1 p1 with e | ⟨g0_1, g1_1, q1⟩
 ·exact ⟨-1, y6q e _ _, .inl rfl⟩
 rw [y16q (Int.not_lt.2 g0_1)]
 obtain ⟨b3, e3, r3⟩ := sz_ColumnS a.2.2.2.1 b1 g0_1 g1_1 p3
 rw [e3, y0q]
 rcases r3 with rfl | ⟨g0_3, g1_3, q3⟩
 ·exact ⟨-1, y6q (by decide) _ _, .inl rfl⟩
 rw [y16q (Int.not_lt.2 g0_3)]
 obtain ⟨b4, e4, r4⟩ := sz_IntS a.2.2.2.2.1 b3 g0_3 g1_3 p4
 rw [e4, y0q]
 rcases r4 with rfl | ⟨g0_4, g1_4, q4⟩
 ·exact ⟨-1, y6q (by decide) _ _, .inl rfl⟩
 rw [y16q (Int.not_lt.2 g0_4)]
 obtain ⟨b5, e5, r5⟩ := sz_IndexS a.2.2.2.2.2.1 b4 g0_4 g1_4 p5
 rw [e5, y0q]
 rcases r5 with rfl | ⟨g0_5, g1_5, q5⟩
 ·exact ⟨-1, y6q (by decide) _ _, .inl rfl⟩
 rw [y16q (Int.not_lt.2 g0_5)]
 exact ⟨b5, rfl, .inr ⟨g0_5, g1_5, ⟨p0, q1, p2, q3, q4, q5⟩⟩⟩
def Sm_Value (n : Nat) (a : y3q) : Prop := Rng .i64 a.1 ∧ Rng .i64 a.2.1 ∧ Rng .i64 a.2.2.1 ∧ a.2.2.2.1.length ≤ n
theorem sz_Value (a : y3q) (b : Int) (h0 : 0 ≤ b) (h1 : b ≤ 1048576) (ha : Sm_Value maxLen a) : SzR (F_u28f a b) (Sm_Value 1048576 a) := by
 unfold F_u28f
 obtain ⟨p0, p1, p2, p3⟩ := ha
 generalize hw3 : IntKind.i64.wrap (b - (List.length a.2.2.2.1 : Int)) = b3
 rcases sz_less hw3 h0 h1 p3 with e | ⟨g0_3, g1_3, q3⟩
 ·exact ⟨-1, y6q e _ _, .inl rfl⟩
 rw [y16q (Int.not_lt.2 g0_3)]
 exact ⟨b3, rfl, .inr ⟨g0_3, g1_3, ⟨p0, p1, p2, q3⟩⟩⟩
theorem sz_ValueS (a : (List y3q)) (b : Int) (h0 : 0 ≤ b) (h1 : b ≤ 1048576) (ha : (a.length ≤ maxLen ∧ ∀ y ∈ a, Sm_Value maxLen y)) : SzR (F_u29f a b) ((a.length ≤ 1048576 ∧ ∀ y ∈ a, Sm_Value 1048576 y)) := by
 unfold F_u29f
 generalize hw : IntKind.i64.wrap (b - (List.length a : Int)) = c
 rcases sz_less hw h0 h1 ha.1 with e | ⟨g0, g1, q⟩
 ·exact ⟨-1, y6q e _ _, .inl rfl⟩
 rw [y16q (Int.not_lt.2 g0)]
 unfold F_u29f_l0
 refine szr_and q (sz_loop (xs := a) y19q (E := fun y => Sm_Value 1048576 y) (fun i r C hi r0 r1 => ?_) (fun r C => ?_) c g0 g1 (by omega))
 ·obtain ⟨y, ey, hy⟩ := sz_Value (a.getD i y19q) r r0 r1 (ha.2 _ (y105q hi))
  refine ⟨y, hy, ?_⟩
  unfold B_u29f_l0
  simp only
  rw [y6q (show (i : Int) < a.length by omega), y6q (show (0 : Int) ≤ (i : Int) by omega), y6q (show (i : Int) < a.length by omega), Int.toNat_natCast, ey, y0q, y10q (by simp only [maxLen] at ha; omega), br_if]
 ·unfold B_u29f_l0
  exact y16q (Int.lt_irrefl _) _ _
theorem to_Column (a : y12q) (ha : Sm_Column 1048576 a) : F_u7f a = some a := by
 unfold F_u7f
 try rfl
theorem to_ColumnS (a : (List y12q)) (ha : (a.length ≤ 1048576 ∧ ∀ y ∈ a, Sm_Column 1048576 y)) : F_u8f a = some a := by
 unfold F_u8f
 unfold F_u8f_l0
 have hl := ha.1
 rw [show ((a.length : Int) == (a.length : Int)) = true from by simp]
 rw [y106q, y6q (show (0 : Int) ≤ (a.length : Int) by omega), y6q (show (a.length : Int) ≤ (capN : Int) by simp only [capN]; omega), Int.toNat_natCast]
 refine congrArg (fun m => bnd m _) (copy_loop a y21q _ (fun i ys C hi hy => ?_) (fun ys C => ?_) (by omega))
 ·unfold B_u8f_l0
  simp only
  rw [y6q (show (i : Int) < a.length by omega), y6q (show (0 : Int) ≤ (i : Int) by omega), y6q (show (i : Int) < a.length by omega), Int.toNat_natCast, to_Column _ (ha.2 _ (y105q hi)), y0q, y6q (show (0 : Int) ≤ (i : Int) by omega), y6q (show (i : Int) < ys.length by omega), y10q (by omega)]
 ·unfold B_u8f_l0
  exact y16q (Int.lt_irrefl _) _ _
theorem to_IntS (a : (List Int)) (ha : (a.length ≤ 1048576 ∧ ∀ y ∈ a, Rng .i64 y)) : F_u9f a = some a := by
 unfold F_u9f
 unfold F_u9f_l0
 have hl := ha.1
 rw [show ((a.length : Int) == (a.length : Int)) = true from by simp]
 rw [y106q, y6q (show (0 : Int) ≤ (a.length : Int) by omega), y6q (show (a.length : Int) ≤ (capN : Int) by simp only [capN]; omega), Int.toNat_natCast]
 refine congrArg (fun m => bnd m _) (copy_loop a zInt _ (fun i ys C hi hy => ?_) (fun ys C => ?_) (by omega))
 ·unfold B_u9f_l0
  simp only
  rw [y6q (show (i : Int) < a.length by omega), y6q (show (0 : Int) ≤ (i : Int) by omega), y6q (show (i : Int) < a.length by omega), Int.toNat_natCast, y6q (show (0 : Int) ≤ (i : Int) by omega), y6q (show (i : Int) < ys.length by omega), y10q (by omega)]
 ·unfold B_u9f_l0
  exact y16q (Int.lt_irrefl _) _ _
theorem to_Index (a : y13q) (ha : Sm_Index 1048576 a) : F_u10f a = some a := by
 unfold F_u10f
 obtain ⟨p0, p1, p2, p4⟩ := ha
 rw [to_IntS _ p2, y0q]
 try rfl
theorem to_IndexS (a : (List y13q)) (ha : (a.length ≤ 1048576 ∧ ∀ y ∈ a, Sm_Index 1048576 y)) : F_u11f a = some a := by
 unfold F_u11f
 unfold F_u11f_l0
 have hl := ha.1
 rw [show ((a.length : Int) == (a.length : Int)) = true from by simp]
 rw [y106q, y6q (show (0 : Int) ≤ (a.length : Int) by omega), y6q (show (a.length : Int) ≤ (capN : Int) by simp only [capN]; omega), Int.toNat_natCast]
 refine congrArg (fun m => bnd m _) (copy_loop a y47q _ (fun i ys C hi hy => ?_) (fun ys C => ?_) (by omega))
 ·unfold B_u11f_l0
  simp only
  rw [y6q (show (i : Int) < a.length by omega), y6q (show (0 : Int) ≤ (i : Int) by omega), y6q (show (i : Int) < a.length by omega), Int.toNat_natCast, to_Index _ (ha.2 _ (y105q hi)), y0q, y6q (show (0 : Int) ≤ (i : Int) by omega), y6q (show (i : Int) < ys.length by omega), y10q (by omega)]
 ·unfold B_u11f_l0
  exact y16q (Int.lt_irrefl _) _ _
theorem to_Table (a : DLTable) (ha : Sm_LTable 1048576 a) : F_u12f a = some a := by
 unfold F_u12f
 obtain ⟨p0, p1, p2, p3, p4, p5⟩ := ha
 rw [to_ColumnS _ p3, y0q, to_IntS _ p4, y0q, to_IndexS _ p5, y0q]
 try rfl
theorem to_Value (a : y3q) (ha : Sm_Value 1048576 a) : F_u30f a = some a := by
 unfold F_u30f
 try rfl
theorem to_ValueS (a : (List y3q)) (ha : (a.length ≤ 1048576 ∧ ∀ y ∈ a, Sm_Value 1048576 y)) : F_u31f a = some a := by
 unfold F_u31f
 unfold F_u31f_l0
 have hl := ha.1
 rw [show ((a.length : Int) == (a.length : Int)) = true from by simp]
 rw [y106q, y6q (show (0 : Int) ≤ (a.length : Int) by omega), y6q (show (a.length : Int) ≤ (capN : Int) by simp only [capN]; omega), Int.toNat_natCast]
 refine congrArg (fun m => bnd m _) (copy_loop a y19q _ (fun i ys C hi hy => ?_) (fun ys C => ?_) (by omega))
 ·unfold B_u31f_l0
  simp only
  rw [y6q (show (i : Int) < a.length by omega), y6q (show (0 : Int) ≤ (i : Int) by omega), y6q (show (i : Int) < a.length by omega), Int.toNat_natCast, to_Value _ (ha.2 _ (y105q hi)), y0q, y6q (show (0 : Int) ≤ (i : Int) by omega), y6q (show (i : Int) < ys.length by omega), y10q (by omega)]
 ·unfold B_u31f_l0
  exact y16q (Int.lt_irrefl _) _ _
def Sm_Pair (n : Nat) (a : DPair) : Prop := a.1.length ≤ n ∧ a.2.1.length ≤ n
theorem eq_Pair (a : DPair) (ha : Sm_Pair 1048576 a) : F_u13f a a = some true := by
 unfold F_u13f
 simp only [bne_self_eq_false, beq_self_eq_true, Bool.not_true, y33q, y0q]
theorem eq_PairS (a : (List DPair)) (ha : (a.length ≤ 1048576 ∧ ∀ y ∈ a, Sm_Pair 1048576 y)) : F_u14f a a = some true := by
 unfold F_u14f
 unfold F_u14f_l0
 have hl := ha.1
 simp only [bne_self_eq_false, y33q]
 have key := eq_loop a (B := B_u14f_l0) (fun i C hi => by
  unfold B_u14f_l0
  simp only
  rw [y6q (show (i : Int) < a.length by omega), y6q (show (0 : Int) ≤ (i : Int) by omega), y6q (show (i : Int) < a.length by omega), y6q (show (0 : Int) ≤ (i : Int) by omega), y6q (show (i : Int) < a.length by omega), y10q (by omega)]
  simp only [Int.toNat_natCast]
  simp only [bne_self_eq_false, beq_self_eq_true, Bool.not_true, y33q, y0q, eq_Pair (a.getD i ZPair) (ha.2 _ (y105q hi))]) (fun C => by
  unfold B_u14f_l0
  exact y16q (Int.lt_irrefl _) _ _) (n := ((a.length : Nat) : Int).toNat + 1) (by omega) 0 (Nat.zero_le _) (by omega)
 rw [show ((0 : Nat) : Int) = 0 from rfl] at key
 rw [key, y0q, y42q]
theorem eq_Column (a : y12q) (ha : Sm_Column 1048576 a) : F_u15f a a = some true := by
 unfold F_u15f
 simp only [bne_self_eq_false, beq_self_eq_true, Bool.not_true, y33q, y0q]
theorem eq_ColumnS (a : (List y12q)) (ha : (a.length ≤ 1048576 ∧ ∀ y ∈ a, Sm_Column 1048576 y)) : F_u16f a a = some true := by
 unfold F_u16f
 unfold F_u16f_l0
 have hl := ha.1
 simp only [bne_self_eq_false, y33q]
 have key := eq_loop a (B := B_u16f_l0) (fun i C hi => by
  unfold B_u16f_l0
  simp only
  rw [y6q (show (i : Int) < a.length by omega), y6q (show (0 : Int) ≤ (i : Int) by omega), y6q (show (i : Int) < a.length by omega), y6q (show (0 : Int) ≤ (i : Int) by omega), y6q (show (i : Int) < a.length by omega), y10q (by omega)]
  simp only [Int.toNat_natCast]
  simp only [bne_self_eq_false, beq_self_eq_true, Bool.not_true, y33q, y0q, eq_Column (a.getD i y21q) (ha.2 _ (y105q hi))]) (fun C => by
  unfold B_u16f_l0
  exact y16q (Int.lt_irrefl _) _ _) (n := ((a.length : Nat) : Int).toNat + 1) (by omega) 0 (Nat.zero_le _) (by omega)
 rw [show ((0 : Nat) : Int) = 0 from rfl] at key
 rw [key, y0q, y42q]
theorem eq_IntS (a : (List Int)) (ha : (a.length ≤ 1048576 ∧ ∀ y ∈ a, Rng .i64 y)) : F_u17f a a = some true := by
 unfold F_u17f
 unfold F_u17f_l0
 have hl := ha.1
 simp only [bne_self_eq_false, y33q]
 have key := eq_loop a (B := B_u17f_l0) (fun i C hi => by
  unfold B_u17f_l0
  simp only
  rw [y6q (show (i : Int) < a.length by omega), y6q (show (0 : Int) ≤ (i : Int) by omega), y6q (show (i : Int) < a.length by omega), y6q (show (0 : Int) ≤ (i : Int) by omega), y6q (show (i : Int) < a.length by omega), y10q (by omega)]
  simp only [Int.toNat_natCast]
  simp only [bne_self_eq_false, beq_self_eq_true, Bool.not_true, y33q, y0q]) (fun C => by
  unfold B_u17f_l0
  exact y16q (Int.lt_irrefl _) _ _) (n := ((a.length : Nat) : Int).toNat + 1) (by omega) 0 (Nat.zero_le _) (by omega)
 rw [show ((0 : Nat) : Int) = 0 from rfl] at key
 rw [key, y0q, y42q]
theorem eq_Index (a : y13q) (ha : Sm_Index 1048576 a) : F_u18f a a = some true := by
 unfold F_u18f
 obtain ⟨p0, p1, p2, p4⟩ := ha
 simp only [bne_self_eq_false, beq_self_eq_true, Bool.not_true, y33q, y0q, eq_IntS _ p2]
theorem eq_IndexS (a : (List y13q)) (ha : (a.length ≤ 1048576 ∧ ∀ y ∈ a, Sm_Index 1048576 y)) : F_u19f a a = some true := by
 unfold F_u19f
 unfold F_u19f_l0
 have hl := ha.1
 simp only [bne_self_eq_false, y33q]
 have key := eq_loop a (B := B_u19f_l0) (fun i C hi => by
  unfold B_u19f_l0
  simp only
  rw [y6q (show (i : Int) < a.length by omega), y6q (show (0 : Int) ≤ (i : Int) by omega), y6q (show (i : Int) < a.length by omega), y6q (show (0 : Int) ≤ (i : Int) by omega), y6q (show (i : Int) < a.length by omega), y10q (by omega)]
  simp only [Int.toNat_natCast]
  simp only [bne_self_eq_false, beq_self_eq_true, Bool.not_true, y33q, y0q, eq_Index (a.getD i y47q) (ha.2 _ (y105q hi))]) (fun C => by
  unfold B_u19f_l0
  exact y16q (Int.lt_irrefl _) _ _) (n := ((a.length : Nat) : Int).toNat + 1) (by omega) 0 (Nat.zero_le _) (by omega)
 rw [show ((0 : Nat) : Int) = 0 from rfl] at key
 rw [key, y0q, y42q]
def Sm_Table (n : Nat) (a : y4q) : Prop := Rng .i64 a.1 ∧ a.2.1.length ≤ n ∧ Rng .i64 a.2.2.1 ∧ (a.2.2.2.1.length ≤ n ∧ ∀ y ∈ a.2.2.2.1, Sm_Column n y) ∧ (a.2.2.2.2.1.length ≤ n ∧ ∀ y ∈ a.2.2.2.2.1, Rng .i64 y) ∧ (a.2.2.2.2.2.1.length ≤ n ∧ ∀ y ∈ a.2.2.2.2.2.1, Sm_Index n y)
theorem eq_Table (a : y4q) (ha : Sm_Table 1048576 a) : F_u20f a a = some true := by
 unfold F_u20f
 obtain ⟨p0, p1, p2, p3, p4, p5⟩ := ha
 simp only [bne_self_eq_false, beq_self_eq_true, Bool.not_true, y33q, y0q, eq_ColumnS _ p3, eq_IntS _ p4, eq_IndexS _ p5]
theorem eq_Value (a : y3q) (ha : Sm_Value 1048576 a) : F_u32f a a = some true := by
 unfold F_u32f
 simp only [bne_self_eq_false, beq_self_eq_true, Bool.not_true, y33q, y0q]
theorem eq_ValueS (a : (List y3q)) (ha : (a.length ≤ 1048576 ∧ ∀ y ∈ a, Sm_Value 1048576 y)) : F_u33f a a = some true := by
 unfold F_u33f
 unfold F_u33f_l0
 have hl := ha.1
 simp only [bne_self_eq_false, y33q]
 have key := eq_loop a (B := B_u33f_l0) (fun i C hi => by
  unfold B_u33f_l0
  simp only
  rw [y6q (show (i : Int) < a.length by omega), y6q (show (0 : Int) ≤ (i : Int) by omega), y6q (show (i : Int) < a.length by omega), y6q (show (0 : Int) ≤ (i : Int) by omega), y6q (show (i : Int) < a.length by omega), y10q (by omega)]
  simp only [Int.toNat_natCast]
  simp only [bne_self_eq_false, beq_self_eq_true, Bool.not_true, y33q, y0q, eq_Value (a.getD i y19q) (ha.2 _ (y105q hi))]) (fun C => by
  unfold B_u33f_l0
  exact y16q (Int.lt_irrefl _) _ _) (n := ((a.length : Nat) : Int).toNat + 1) (by omega) 0 (Nat.zero_le _) (by omega)
 rw [show ((0 : Nat) : Int) = 0 from rfl] at key
 rw [key, y0q, y42q]
theorem eq_StringS (a : (List (List UInt8))) (ha : (a.length ≤ 1048576 ∧ ∀ y ∈ a, y.length ≤ 1048576)) : F_u78f a a = some true := by
 unfold F_u78f
 unfold F_u78f_l0
 have hl := ha.1
 simp only [bne_self_eq_false, y33q]
 have key := eq_loop a (B := B_u78f_l0) (fun i C hi => by
  unfold B_u78f_l0
  simp only
  rw [y6q (show (i : Int) < a.length by omega), y6q (show (0 : Int) ≤ (i : Int) by omega), y6q (show (i : Int) < a.length by omega), y6q (show (0 : Int) ≤ (i : Int) by omega), y6q (show (i : Int) < a.length by omega), y10q (by omega)]
  simp only [Int.toNat_natCast]
  simp only [bne_self_eq_false, beq_self_eq_true, Bool.not_true, y33q, y0q]) (fun C => by
  unfold B_u78f_l0
  exact y16q (Int.lt_irrefl _) _ _) (n := ((a.length : Nat) : Int).toNat + 1) (by omega) 0 (Nat.zero_le _) (by omega)
 rw [show ((0 : Nat) : Int) = 0 from rfl] at key
 rw [key, y0q, y42q]
end Go.Ev.T1
