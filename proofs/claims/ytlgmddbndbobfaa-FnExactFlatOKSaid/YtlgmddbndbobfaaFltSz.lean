/- The guard, copies, equality. -/
import Derived.Test.YtlgmddbndbobfaaFltF
import Derived.Test.YtlgmddbndbobfaaEvD
set_option linter.unusedSimpArgs false
set_option linter.unusedVariables false
namespace Go.Ev.T1
open Go Go.Proofs
theorem sz_IntS (a : (List Int)) (b : Int) (h0 : 0 ≤ b) (h1 : b ≤ 1048576) (ha : (a.length ≤ maxLen ∧ ∀ y ∈ a, Rng .i64 y)) : SzR (F_laws_szIntS a b) ((a.length ≤ 1048576 ∧ ∀ y ∈ a, Rng .i64 y)) := by
  unfold F_laws_szIntS
  generalize hw : IntKind.i64.wrap (b - (↑(List.length a) : Int)) = c
  rcases sz_less hw h0 h1 ha.1 with e | ⟨g0, g1, q⟩
  · exact ⟨-1, br_pos e _ _, .inl rfl⟩
  rw [br_neg (Int.not_lt.2 g0)]
  exact ⟨c, rfl, .inr ⟨g0, g1, q, ha.2⟩⟩
def Sm_Column (n : Nat) (a : DColumn) : Prop := Rng .i64 a.1 ∧ a.2.1.length ≤ n ∧ Rng .i64 a.2.2.1
theorem sz_Column (a : DColumn) (b : Int) (h0 : 0 ≤ b) (h1 : b ≤ 1048576) (ha : Sm_Column maxLen a) : SzR (F_laws_szColumn a b) (Sm_Column 1048576 a) := by
  unfold F_laws_szColumn
  obtain ⟨p0, p1, p2⟩ := ha
  generalize hw1 : IntKind.i64.wrap (b - (↑(List.length a.2.1) : Int)) = b1
  rcases sz_less hw1 h0 h1 p1 with e | ⟨g0_1, g1_1, q1⟩
  · exact ⟨-1, br_pos e _ _, .inl rfl⟩
  rw [br_neg (Int.not_lt.2 g0_1)]
  exact ⟨b1, rfl, .inr ⟨g0_1, g1_1, ⟨p0, q1, p2⟩⟩⟩
theorem sz_ColumnS (a : (List DColumn)) (b : Int) (h0 : 0 ≤ b) (h1 : b ≤ 1048576) (ha : (a.length ≤ maxLen ∧ ∀ y ∈ a, Sm_Column maxLen y)) : SzR (F_laws_szColumnS a b) ((a.length ≤ 1048576 ∧ ∀ y ∈ a, Sm_Column 1048576 y)) := by
  unfold F_laws_szColumnS
  generalize hw : IntKind.i64.wrap (b - (↑(List.length a) : Int)) = c
  rcases sz_less hw h0 h1 ha.1 with e | ⟨g0, g1, q⟩
  · exact ⟨-1, br_pos e _ _, .inl rfl⟩
  rw [br_neg (Int.not_lt.2 g0)]
  unfold F_laws_szColumnS_l0
  refine szr_and q (sz_loop (xs := a) ZColumn (E := fun y => Sm_Column 1048576 y) (fun i r C hi r0 r1 => ?_) (fun r C => ?_) c g0 g1 (by omega))
  · obtain ⟨y, ey, hy⟩ := sz_Column (a.getD i ZColumn) r r0 r1 (ha.2 _ (mem_getD hi))
    refine ⟨y, hy, ?_⟩
    unfold B_laws_szColumnS_l0
    simp only
    rw [br_pos (show (i : Int) < a.length by omega), br_pos (show (0 : Int) ≤ (i : Int) by omega), br_pos (show (i : Int) < a.length by omega), Int.toNat_natCast, ey, bnd_some', wrap_succ (by simp only [maxLen] at ha; omega), br_if]
  · unfold B_laws_szColumnS_l0
    exact br_neg (Int.lt_irrefl _) _ _
def Sm_Index (n : Nat) (a : DIndex) : Prop := Rng .i64 a.1 ∧ a.2.1.length ≤ n ∧ (a.2.2.1.length ≤ n ∧ ∀ y ∈ a.2.2.1, Rng .i64 y) ∧ Rng .i64 a.2.2.2.2.1
theorem sz_Index (a : DIndex) (b : Int) (h0 : 0 ≤ b) (h1 : b ≤ 1048576) (ha : Sm_Index maxLen a) : SzR (F_laws_szIndex a b) (Sm_Index 1048576 a) := by
  unfold F_laws_szIndex
  obtain ⟨p0, p1, p2, p4⟩ := ha
  generalize hw1 : IntKind.i64.wrap (b - (↑(List.length a.2.1) : Int)) = b1
  rcases sz_less hw1 h0 h1 p1 with e | ⟨g0_1, g1_1, q1⟩
  · exact ⟨-1, br_pos e _ _, .inl rfl⟩
  rw [br_neg (Int.not_lt.2 g0_1)]
  obtain ⟨b2, e2, r2⟩ := sz_IntS a.2.2.1 b1 g0_1 g1_1 p2
  rw [e2, bnd_some']
  rcases r2 with rfl | ⟨g0_2, g1_2, q2⟩
  · exact ⟨-1, br_pos (by decide) _ _, .inl rfl⟩
  rw [br_neg (Int.not_lt.2 g0_2)]
  exact ⟨b2, rfl, .inr ⟨g0_2, g1_2, ⟨p0, q1, q2, p4⟩⟩⟩
theorem sz_IndexS (a : (List DIndex)) (b : Int) (h0 : 0 ≤ b) (h1 : b ≤ 1048576) (ha : (a.length ≤ maxLen ∧ ∀ y ∈ a, Sm_Index maxLen y)) : SzR (F_laws_szIndexS a b) ((a.length ≤ 1048576 ∧ ∀ y ∈ a, Sm_Index 1048576 y)) := by
  unfold F_laws_szIndexS
  generalize hw : IntKind.i64.wrap (b - (↑(List.length a) : Int)) = c
  rcases sz_less hw h0 h1 ha.1 with e | ⟨g0, g1, q⟩
  · exact ⟨-1, br_pos e _ _, .inl rfl⟩
  rw [br_neg (Int.not_lt.2 g0)]
  unfold F_laws_szIndexS_l0
  refine szr_and q (sz_loop (xs := a) ZIndex (E := fun y => Sm_Index 1048576 y) (fun i r C hi r0 r1 => ?_) (fun r C => ?_) c g0 g1 (by omega))
  · obtain ⟨y, ey, hy⟩ := sz_Index (a.getD i ZIndex) r r0 r1 (ha.2 _ (mem_getD hi))
    refine ⟨y, hy, ?_⟩
    unfold B_laws_szIndexS_l0
    simp only
    rw [br_pos (show (i : Int) < a.length by omega), br_pos (show (0 : Int) ≤ (i : Int) by omega), br_pos (show (i : Int) < a.length by omega), Int.toNat_natCast, ey, bnd_some', wrap_succ (by simp only [maxLen] at ha; omega), br_if]
  · unfold B_laws_szIndexS_l0
    exact br_neg (Int.lt_irrefl _) _ _
def Sm_LTable (n : Nat) (a : DLTable) : Prop := Rng .i64 a.1 ∧ a.2.1.length ≤ n ∧ Rng .i64 a.2.2.1 ∧ (a.2.2.2.1.length ≤ n ∧ ∀ y ∈ a.2.2.2.1, Sm_Column n y) ∧ (a.2.2.2.2.1.length ≤ n ∧ ∀ y ∈ a.2.2.2.2.1, Rng .i64 y) ∧ (a.2.2.2.2.2.1.length ≤ n ∧ ∀ y ∈ a.2.2.2.2.2.1, Sm_Index n y)
theorem sz_Table (a : DLTable) (b : Int) (h0 : 0 ≤ b) (h1 : b ≤ 1048576) (ha : Sm_LTable maxLen a) : SzR (F_laws_szTable a b) (Sm_LTable 1048576 a) := by
  unfold F_laws_szTable
  obtain ⟨p0, p1, p2, p3, p4, p5⟩ := ha
  generalize hw1 : IntKind.i64.wrap (b - (↑(List.length a.2.1) : Int)) = b1
  rcases sz_less hw1 h0 h1 p1 with e | ⟨g0_1, g1_1, q1⟩
  · exact ⟨-1, br_pos e _ _, .inl rfl⟩
  rw [br_neg (Int.not_lt.2 g0_1)]
  obtain ⟨b3, e3, r3⟩ := sz_ColumnS a.2.2.2.1 b1 g0_1 g1_1 p3
  rw [e3, bnd_some']
  rcases r3 with rfl | ⟨g0_3, g1_3, q3⟩
  · exact ⟨-1, br_pos (by decide) _ _, .inl rfl⟩
  rw [br_neg (Int.not_lt.2 g0_3)]
  obtain ⟨b4, e4, r4⟩ := sz_IntS a.2.2.2.2.1 b3 g0_3 g1_3 p4
  rw [e4, bnd_some']
  rcases r4 with rfl | ⟨g0_4, g1_4, q4⟩
  · exact ⟨-1, br_pos (by decide) _ _, .inl rfl⟩
  rw [br_neg (Int.not_lt.2 g0_4)]
  obtain ⟨b5, e5, r5⟩ := sz_IndexS a.2.2.2.2.2.1 b4 g0_4 g1_4 p5
  rw [e5, bnd_some']
  rcases r5 with rfl | ⟨g0_5, g1_5, q5⟩
  · exact ⟨-1, br_pos (by decide) _ _, .inl rfl⟩
  rw [br_neg (Int.not_lt.2 g0_5)]
  exact ⟨b5, rfl, .inr ⟨g0_5, g1_5, ⟨p0, q1, p2, q3, q4, q5⟩⟩⟩
theorem sz_TableS (a : (List DLTable)) (b : Int) (h0 : 0 ≤ b) (h1 : b ≤ 1048576) (ha : (a.length ≤ maxLen ∧ ∀ y ∈ a, Sm_LTable maxLen y)) : SzR (F_laws_szTableS a b) ((a.length ≤ 1048576 ∧ ∀ y ∈ a, Sm_LTable 1048576 y)) := by
  unfold F_laws_szTableS
  generalize hw : IntKind.i64.wrap (b - (↑(List.length a) : Int)) = c
  rcases sz_less hw h0 h1 ha.1 with e | ⟨g0, g1, q⟩
  · exact ⟨-1, br_pos e _ _, .inl rfl⟩
  rw [br_neg (Int.not_lt.2 g0)]
  unfold F_laws_szTableS_l0
  refine szr_and q (sz_loop (xs := a) ZLTable (E := fun y => Sm_LTable 1048576 y) (fun i r C hi r0 r1 => ?_) (fun r C => ?_) c g0 g1 (by omega))
  · obtain ⟨y, ey, hy⟩ := sz_Table (a.getD i ZLTable) r r0 r1 (ha.2 _ (mem_getD hi))
    refine ⟨y, hy, ?_⟩
    unfold B_laws_szTableS_l0
    simp only
    rw [br_pos (show (i : Int) < a.length by omega), br_pos (show (0 : Int) ≤ (i : Int) by omega), br_pos (show (i : Int) < a.length by omega), Int.toNat_natCast, ey, bnd_some', wrap_succ (by simp only [maxLen] at ha; omega), br_if]
  · unfold B_laws_szTableS_l0
    exact br_neg (Int.lt_irrefl _) _ _
theorem sz_StringS (a : (List (List UInt8))) (b : Int) (h0 : 0 ≤ b) (h1 : b ≤ 1048576) (ha : (a.length ≤ maxLen ∧ ∀ y ∈ a, y.length ≤ maxLen)) : SzR (F_laws_szStringS a b) ((a.length ≤ 1048576 ∧ ∀ y ∈ a, y.length ≤ 1048576)) := by
  unfold F_laws_szStringS
  generalize hw : IntKind.i64.wrap (b - (↑(List.length a) : Int)) = c
  rcases sz_less hw h0 h1 ha.1 with e | ⟨g0, g1, q⟩
  · exact ⟨-1, br_pos e _ _, .inl rfl⟩
  rw [br_neg (Int.not_lt.2 g0)]
  unfold F_laws_szStringS_l0
  refine szr_and q (sz_loop (xs := a) zStr (E := fun y => y.length ≤ 1048576) (fun i r C hi r0 r1 => ?_) (fun r C => ?_) c g0 g1 (by omega))
  · generalize hy : IntKind.i64.wrap (r - (↑(List.length (a.getD i zStr)) : Int)) = y
    obtain ⟨q1, q2, q3⟩ := sz_less' hy r0 r1 (ha.2 _ (mem_getD hi))
    refine ⟨q1, q2, ?_⟩
    unfold B_laws_szStringS_l0
    simp only
    rw [br_pos (show (i : Int) < a.length by omega), br_pos (show (0 : Int) ≤ (i : Int) by omega), br_pos (show (i : Int) < a.length by omega), Int.toNat_natCast, hy, wrap_succ (by simp only [maxLen] at ha; omega), br_if]
    rcases q3 with ⟨q3, rfl⟩ | rfl
    · rw [if_pos q3, if_pos (by decide)]
    · rfl
  · unfold B_laws_szStringS_l0
    exact br_neg (Int.lt_irrefl _) _ _
def Sm_Value (n : Nat) (a : DValue) : Prop := Rng .i64 a.1 ∧ Rng .i64 a.2.1 ∧ Rng .i64 a.2.2.1 ∧ a.2.2.2.1.length ≤ n
theorem sz_Value (a : DValue) (b : Int) (h0 : 0 ≤ b) (h1 : b ≤ 1048576) (ha : Sm_Value maxLen a) : SzR (F_laws_szValue a b) (Sm_Value 1048576 a) := by
  unfold F_laws_szValue
  obtain ⟨p0, p1, p2, p3⟩ := ha
  generalize hw3 : IntKind.i64.wrap (b - (↑(List.length a.2.2.2.1) : Int)) = b3
  rcases sz_less hw3 h0 h1 p3 with e | ⟨g0_3, g1_3, q3⟩
  · exact ⟨-1, br_pos e _ _, .inl rfl⟩
  rw [br_neg (Int.not_lt.2 g0_3)]
  exact ⟨b3, rfl, .inr ⟨g0_3, g1_3, ⟨p0, p1, p2, q3⟩⟩⟩
def Sm_LPred (n : Nat) (a : DLPred) : Prop := a.1.length ≤ n ∧ Rng .i64 a.2.1 ∧ Rng .i64 a.2.2.1 ∧ Sm_Value n a.2.2.2.1
theorem sz_Pred (a : DLPred) (b : Int) (h0 : 0 ≤ b) (h1 : b ≤ 1048576) (ha : Sm_LPred maxLen a) : SzR (F_laws_szPred a b) (Sm_LPred 1048576 a) := by
  unfold F_laws_szPred
  obtain ⟨p0, p1, p2, p3⟩ := ha
  generalize hw0 : IntKind.i64.wrap (b - (↑(List.length a.1) : Int)) = b0
  rcases sz_less hw0 h0 h1 p0 with e | ⟨g0_0, g1_0, q0⟩
  · exact ⟨-1, br_pos e _ _, .inl rfl⟩
  rw [br_neg (Int.not_lt.2 g0_0)]
  obtain ⟨b3, e3, r3⟩ := sz_Value a.2.2.2.1 b0 g0_0 g1_0 p3
  rw [e3, bnd_some']
  rcases r3 with rfl | ⟨g0_3, g1_3, q3⟩
  · exact ⟨-1, br_pos (by decide) _ _, .inl rfl⟩
  rw [br_neg (Int.not_lt.2 g0_3)]
  exact ⟨b3, rfl, .inr ⟨g0_3, g1_3, ⟨q0, p1, p2, q3⟩⟩⟩
theorem sz_PredS (a : (List DLPred)) (b : Int) (h0 : 0 ≤ b) (h1 : b ≤ 1048576) (ha : (a.length ≤ maxLen ∧ ∀ y ∈ a, Sm_LPred maxLen y)) : SzR (F_laws_szPredS a b) ((a.length ≤ 1048576 ∧ ∀ y ∈ a, Sm_LPred 1048576 y)) := by
  unfold F_laws_szPredS
  generalize hw : IntKind.i64.wrap (b - (↑(List.length a) : Int)) = c
  rcases sz_less hw h0 h1 ha.1 with e | ⟨g0, g1, q⟩
  · exact ⟨-1, br_pos e _ _, .inl rfl⟩
  rw [br_neg (Int.not_lt.2 g0)]
  unfold F_laws_szPredS_l0
  refine szr_and q (sz_loop (xs := a) ZLPred (E := fun y => Sm_LPred 1048576 y) (fun i r C hi r0 r1 => ?_) (fun r C => ?_) c g0 g1 (by omega))
  · obtain ⟨y, ey, hy⟩ := sz_Pred (a.getD i ZLPred) r r0 r1 (ha.2 _ (mem_getD hi))
    refine ⟨y, hy, ?_⟩
    unfold B_laws_szPredS_l0
    simp only
    rw [br_pos (show (i : Int) < a.length by omega), br_pos (show (0 : Int) ≤ (i : Int) by omega), br_pos (show (i : Int) < a.length by omega), Int.toNat_natCast, ey, bnd_some', wrap_succ (by simp only [maxLen] at ha; omega), br_if]
  · unfold B_laws_szPredS_l0
    exact br_neg (Int.lt_irrefl _) _ _
def Sm_Out (n : Nat) (a : DOut) : Prop := a.1.length ≤ n ∧ Rng .i64 a.2.1
theorem sz_Out (a : DOut) (b : Int) (h0 : 0 ≤ b) (h1 : b ≤ 1048576) (ha : Sm_Out maxLen a) : SzR (F_laws_szOut a b) (Sm_Out 1048576 a) := by
  unfold F_laws_szOut
  obtain ⟨p0, p1⟩ := ha
  generalize hw0 : IntKind.i64.wrap (b - (↑(List.length a.1) : Int)) = b0
  rcases sz_less hw0 h0 h1 p0 with e | ⟨g0_0, g1_0, q0⟩
  · exact ⟨-1, br_pos e _ _, .inl rfl⟩
  rw [br_neg (Int.not_lt.2 g0_0)]
  exact ⟨b0, rfl, .inr ⟨g0_0, g1_0, ⟨q0, p1⟩⟩⟩
theorem sz_OutS (a : (List DOut)) (b : Int) (h0 : 0 ≤ b) (h1 : b ≤ 1048576) (ha : (a.length ≤ maxLen ∧ ∀ y ∈ a, Sm_Out maxLen y)) : SzR (F_laws_szOutS a b) ((a.length ≤ 1048576 ∧ ∀ y ∈ a, Sm_Out 1048576 y)) := by
  unfold F_laws_szOutS
  generalize hw : IntKind.i64.wrap (b - (↑(List.length a) : Int)) = c
  rcases sz_less hw h0 h1 ha.1 with e | ⟨g0, g1, q⟩
  · exact ⟨-1, br_pos e _ _, .inl rfl⟩
  rw [br_neg (Int.not_lt.2 g0)]
  unfold F_laws_szOutS_l0
  refine szr_and q (sz_loop (xs := a) ZOut (E := fun y => Sm_Out 1048576 y) (fun i r C hi r0 r1 => ?_) (fun r C => ?_) c g0 g1 (by omega))
  · obtain ⟨y, ey, hy⟩ := sz_Out (a.getD i ZOut) r r0 r1 (ha.2 _ (mem_getD hi))
    refine ⟨y, hy, ?_⟩
    unfold B_laws_szOutS_l0
    simp only
    rw [br_pos (show (i : Int) < a.length by omega), br_pos (show (0 : Int) ≤ (i : Int) by omega), br_pos (show (i : Int) < a.length by omega), Int.toNat_natCast, ey, bnd_some', wrap_succ (by simp only [maxLen] at ha; omega), br_if]
  · unfold B_laws_szOutS_l0
    exact br_neg (Int.lt_irrefl _) _ _
def Sm_LFlat (n : Nat) (a : DLFlat) : Prop := (a.1.length ≤ n ∧ ∀ y ∈ a.1, y.length ≤ n) ∧ (a.2.1.length ≤ n ∧ ∀ y ∈ a.2.1, Sm_LPred n y) ∧ (a.2.2.1.length ≤ n ∧ ∀ y ∈ a.2.2.1, Rng .i64 y) ∧ (a.2.2.2.1.length ≤ n ∧ ∀ y ∈ a.2.2.2.1, Sm_Out n y)
theorem sz_Flat (a : DLFlat) (b : Int) (h0 : 0 ≤ b) (h1 : b ≤ 1048576) (ha : Sm_LFlat maxLen a) : SzR (F_laws_szFlat a b) (Sm_LFlat 1048576 a) := by
  unfold F_laws_szFlat
  obtain ⟨p0, p1, p2, p3⟩ := ha
  obtain ⟨b0, e0, r0⟩ := sz_StringS a.1 b h0 h1 p0
  rw [e0, bnd_some']
  rcases r0 with rfl | ⟨g0_0, g1_0, q0⟩
  · exact ⟨-1, br_pos (by decide) _ _, .inl rfl⟩
  rw [br_neg (Int.not_lt.2 g0_0)]
  obtain ⟨b1, e1, r1⟩ := sz_PredS a.2.1 b0 g0_0 g1_0 p1
  rw [e1, bnd_some']
  rcases r1 with rfl | ⟨g0_1, g1_1, q1⟩
  · exact ⟨-1, br_pos (by decide) _ _, .inl rfl⟩
  rw [br_neg (Int.not_lt.2 g0_1)]
  obtain ⟨b2, e2, r2⟩ := sz_IntS a.2.2.1 b1 g0_1 g1_1 p2
  rw [e2, bnd_some']
  rcases r2 with rfl | ⟨g0_2, g1_2, q2⟩
  · exact ⟨-1, br_pos (by decide) _ _, .inl rfl⟩
  rw [br_neg (Int.not_lt.2 g0_2)]
  obtain ⟨b3, e3, r3⟩ := sz_OutS a.2.2.2.1 b2 g0_2 g1_2 p3
  rw [e3, bnd_some']
  rcases r3 with rfl | ⟨g0_3, g1_3, q3⟩
  · exact ⟨-1, br_pos (by decide) _ _, .inl rfl⟩
  rw [br_neg (Int.not_lt.2 g0_3)]
  exact ⟨b3, rfl, .inr ⟨g0_3, g1_3, ⟨q0, q1, q2, q3⟩⟩⟩
theorem to_IntS (a : (List Int)) (ha : (a.length ≤ 1048576 ∧ ∀ y ∈ a, Rng .i64 y)) : F_laws_toIntS a = some a := by
  unfold F_laws_toIntS
  unfold F_laws_toIntS_l0
  have hl := ha.1
  rw [show ((a.length : Int) == (a.length : Int)) = true from by simp]
  rw [br_true, br_pos (show (0 : Int) ≤ (a.length : Int) by omega), br_pos (show (a.length : Int) ≤ (capN : Int) by simp only [capN]; omega), Int.toNat_natCast]
  refine congrArg (fun m => bnd m _) (copy_loop a zInt _ (fun i ys C hi hy => ?_) (fun ys C => ?_) (by omega))
  · unfold B_laws_toIntS_l0
    simp only
    rw [br_pos (show (i : Int) < a.length by omega), br_pos (show (0 : Int) ≤ (i : Int) by omega), br_pos (show (i : Int) < a.length by omega), Int.toNat_natCast, br_pos (show (0 : Int) ≤ (i : Int) by omega), br_pos (show (i : Int) < ys.length by omega), wrap_succ (by omega)]
  · unfold B_laws_toIntS_l0
    exact br_neg (Int.lt_irrefl _) _ _
theorem to_Column (a : DColumn) (ha : Sm_Column 1048576 a) : F_laws_toColumn a = some a := by
  unfold F_laws_toColumn
  try rfl
theorem to_ColumnS (a : (List DColumn)) (ha : (a.length ≤ 1048576 ∧ ∀ y ∈ a, Sm_Column 1048576 y)) : F_laws_toColumnS a = some a := by
  unfold F_laws_toColumnS
  unfold F_laws_toColumnS_l0
  have hl := ha.1
  rw [show ((a.length : Int) == (a.length : Int)) = true from by simp]
  rw [br_true, br_pos (show (0 : Int) ≤ (a.length : Int) by omega), br_pos (show (a.length : Int) ≤ (capN : Int) by simp only [capN]; omega), Int.toNat_natCast]
  refine congrArg (fun m => bnd m _) (copy_loop a ZColumn _ (fun i ys C hi hy => ?_) (fun ys C => ?_) (by omega))
  · unfold B_laws_toColumnS_l0
    simp only
    rw [br_pos (show (i : Int) < a.length by omega), br_pos (show (0 : Int) ≤ (i : Int) by omega), br_pos (show (i : Int) < a.length by omega), Int.toNat_natCast, to_Column _ (ha.2 _ (mem_getD hi)), bnd_some', br_pos (show (0 : Int) ≤ (i : Int) by omega), br_pos (show (i : Int) < ys.length by omega), wrap_succ (by omega)]
  · unfold B_laws_toColumnS_l0
    exact br_neg (Int.lt_irrefl _) _ _
theorem to_Index (a : DIndex) (ha : Sm_Index 1048576 a) : F_laws_toIndex a = some a := by
  unfold F_laws_toIndex
  obtain ⟨p0, p1, p2, p4⟩ := ha
  rw [to_IntS _ p2, bnd_some']
  try rfl
theorem to_IndexS (a : (List DIndex)) (ha : (a.length ≤ 1048576 ∧ ∀ y ∈ a, Sm_Index 1048576 y)) : F_laws_toIndexS a = some a := by
  unfold F_laws_toIndexS
  unfold F_laws_toIndexS_l0
  have hl := ha.1
  rw [show ((a.length : Int) == (a.length : Int)) = true from by simp]
  rw [br_true, br_pos (show (0 : Int) ≤ (a.length : Int) by omega), br_pos (show (a.length : Int) ≤ (capN : Int) by simp only [capN]; omega), Int.toNat_natCast]
  refine congrArg (fun m => bnd m _) (copy_loop a ZIndex _ (fun i ys C hi hy => ?_) (fun ys C => ?_) (by omega))
  · unfold B_laws_toIndexS_l0
    simp only
    rw [br_pos (show (i : Int) < a.length by omega), br_pos (show (0 : Int) ≤ (i : Int) by omega), br_pos (show (i : Int) < a.length by omega), Int.toNat_natCast, to_Index _ (ha.2 _ (mem_getD hi)), bnd_some', br_pos (show (0 : Int) ≤ (i : Int) by omega), br_pos (show (i : Int) < ys.length by omega), wrap_succ (by omega)]
  · unfold B_laws_toIndexS_l0
    exact br_neg (Int.lt_irrefl _) _ _
theorem to_Table (a : DLTable) (ha : Sm_LTable 1048576 a) : F_laws_toTable a = some a := by
  unfold F_laws_toTable
  obtain ⟨p0, p1, p2, p3, p4, p5⟩ := ha
  rw [to_ColumnS _ p3, bnd_some', to_IntS _ p4, bnd_some', to_IndexS _ p5, bnd_some']
  try rfl
theorem to_TableS (a : (List DLTable)) (ha : (a.length ≤ 1048576 ∧ ∀ y ∈ a, Sm_LTable 1048576 y)) : F_laws_toTableS a = some a := by
  unfold F_laws_toTableS
  unfold F_laws_toTableS_l0
  have hl := ha.1
  rw [show ((a.length : Int) == (a.length : Int)) = true from by simp]
  rw [br_true, br_pos (show (0 : Int) ≤ (a.length : Int) by omega), br_pos (show (a.length : Int) ≤ (capN : Int) by simp only [capN]; omega), Int.toNat_natCast]
  refine congrArg (fun m => bnd m _) (copy_loop a ZLTable _ (fun i ys C hi hy => ?_) (fun ys C => ?_) (by omega))
  · unfold B_laws_toTableS_l0
    simp only
    rw [br_pos (show (i : Int) < a.length by omega), br_pos (show (0 : Int) ≤ (i : Int) by omega), br_pos (show (i : Int) < a.length by omega), Int.toNat_natCast, to_Table _ (ha.2 _ (mem_getD hi)), bnd_some', br_pos (show (0 : Int) ≤ (i : Int) by omega), br_pos (show (i : Int) < ys.length by omega), wrap_succ (by omega)]
  · unfold B_laws_toTableS_l0
    exact br_neg (Int.lt_irrefl _) _ _
theorem to_StringS (a : (List (List UInt8))) (ha : (a.length ≤ 1048576 ∧ ∀ y ∈ a, y.length ≤ 1048576)) : F_laws_toStringS a = some a := by
  unfold F_laws_toStringS
  unfold F_laws_toStringS_l0
  have hl := ha.1
  rw [show ((a.length : Int) == (a.length : Int)) = true from by simp]
  rw [br_true, br_pos (show (0 : Int) ≤ (a.length : Int) by omega), br_pos (show (a.length : Int) ≤ (capN : Int) by simp only [capN]; omega), Int.toNat_natCast]
  refine congrArg (fun m => bnd m _) (copy_loop a zStr _ (fun i ys C hi hy => ?_) (fun ys C => ?_) (by omega))
  · unfold B_laws_toStringS_l0
    simp only
    rw [br_pos (show (i : Int) < a.length by omega), br_pos (show (0 : Int) ≤ (i : Int) by omega), br_pos (show (i : Int) < a.length by omega), Int.toNat_natCast, br_pos (show (0 : Int) ≤ (i : Int) by omega), br_pos (show (i : Int) < ys.length by omega), wrap_succ (by omega)]
  · unfold B_laws_toStringS_l0
    exact br_neg (Int.lt_irrefl _) _ _
theorem to_Value (a : DValue) (ha : Sm_Value 1048576 a) : F_laws_toValue a = some a := by
  unfold F_laws_toValue
  try rfl
theorem to_Pred (a : DLPred) (ha : Sm_LPred 1048576 a) : F_laws_toPred a = some a := by
  unfold F_laws_toPred
  obtain ⟨p0, p1, p2, p3⟩ := ha
  rw [to_Value _ p3, bnd_some']
  try rfl
theorem to_PredS (a : (List DLPred)) (ha : (a.length ≤ 1048576 ∧ ∀ y ∈ a, Sm_LPred 1048576 y)) : F_laws_toPredS a = some a := by
  unfold F_laws_toPredS
  unfold F_laws_toPredS_l0
  have hl := ha.1
  rw [show ((a.length : Int) == (a.length : Int)) = true from by simp]
  rw [br_true, br_pos (show (0 : Int) ≤ (a.length : Int) by omega), br_pos (show (a.length : Int) ≤ (capN : Int) by simp only [capN]; omega), Int.toNat_natCast]
  refine congrArg (fun m => bnd m _) (copy_loop a ZLPred _ (fun i ys C hi hy => ?_) (fun ys C => ?_) (by omega))
  · unfold B_laws_toPredS_l0
    simp only
    rw [br_pos (show (i : Int) < a.length by omega), br_pos (show (0 : Int) ≤ (i : Int) by omega), br_pos (show (i : Int) < a.length by omega), Int.toNat_natCast, to_Pred _ (ha.2 _ (mem_getD hi)), bnd_some', br_pos (show (0 : Int) ≤ (i : Int) by omega), br_pos (show (i : Int) < ys.length by omega), wrap_succ (by omega)]
  · unfold B_laws_toPredS_l0
    exact br_neg (Int.lt_irrefl _) _ _
theorem to_Out (a : DOut) (ha : Sm_Out 1048576 a) : F_laws_toOut a = some a := by
  unfold F_laws_toOut
  try rfl
theorem to_OutS (a : (List DOut)) (ha : (a.length ≤ 1048576 ∧ ∀ y ∈ a, Sm_Out 1048576 y)) : F_laws_toOutS a = some a := by
  unfold F_laws_toOutS
  unfold F_laws_toOutS_l0
  have hl := ha.1
  rw [show ((a.length : Int) == (a.length : Int)) = true from by simp]
  rw [br_true, br_pos (show (0 : Int) ≤ (a.length : Int) by omega), br_pos (show (a.length : Int) ≤ (capN : Int) by simp only [capN]; omega), Int.toNat_natCast]
  refine congrArg (fun m => bnd m _) (copy_loop a ZOut _ (fun i ys C hi hy => ?_) (fun ys C => ?_) (by omega))
  · unfold B_laws_toOutS_l0
    simp only
    rw [br_pos (show (i : Int) < a.length by omega), br_pos (show (0 : Int) ≤ (i : Int) by omega), br_pos (show (i : Int) < a.length by omega), Int.toNat_natCast, to_Out _ (ha.2 _ (mem_getD hi)), bnd_some', br_pos (show (0 : Int) ≤ (i : Int) by omega), br_pos (show (i : Int) < ys.length by omega), wrap_succ (by omega)]
  · unfold B_laws_toOutS_l0
    exact br_neg (Int.lt_irrefl _) _ _
theorem to_Flat (a : DLFlat) (ha : Sm_LFlat 1048576 a) : F_laws_toFlat a = some a := by
  unfold F_laws_toFlat
  obtain ⟨p0, p1, p2, p3⟩ := ha
  rw [to_StringS _ p0, bnd_some', to_PredS _ p1, bnd_some', to_IntS _ p2, bnd_some', to_OutS _ p3, bnd_some']
  try rfl
theorem eq_IntS (a : (List Int)) (ha : (a.length ≤ 1048576 ∧ ∀ y ∈ a, Rng .i64 y)) : F_laws_eqIntS a a = some true := by
  unfold F_laws_eqIntS
  unfold F_laws_eqIntS_l0
  have hl := ha.1
  simp only [bne_self_eq_false, br_false]
  have key := eq_loop a (B := B_laws_eqIntS_l0) (fun i C hi => by
    unfold B_laws_eqIntS_l0
    simp only
    rw [br_pos (show (i : Int) < a.length by omega), br_pos (show (0 : Int) ≤ (i : Int) by omega), br_pos (show (i : Int) < a.length by omega), br_pos (show (0 : Int) ≤ (i : Int) by omega), br_pos (show (i : Int) < a.length by omega), wrap_succ (by omega)]
    simp only [Int.toNat_natCast]
    simp only [bne_self_eq_false, beq_self_eq_true, Bool.not_true, br_false, bnd_some']) (fun C => by
    unfold B_laws_eqIntS_l0
    exact br_neg (Int.lt_irrefl _) _ _) (n := ((a.length : Nat) : Int).toNat + 1) (by omega) 0 (Nat.zero_le _) (by omega)
  rw [show ((0 : Nat) : Int) = 0 from rfl] at key
  rw [key, bnd_some', onSum_inl]
theorem eq_Column (a : DColumn) (ha : Sm_Column 1048576 a) : F_laws_eqColumn a a = some true := by
  unfold F_laws_eqColumn
  simp only [bne_self_eq_false, beq_self_eq_true, Bool.not_true, br_false, bnd_some']
theorem eq_ColumnS (a : (List DColumn)) (ha : (a.length ≤ 1048576 ∧ ∀ y ∈ a, Sm_Column 1048576 y)) : F_laws_eqColumnS a a = some true := by
  unfold F_laws_eqColumnS
  unfold F_laws_eqColumnS_l0
  have hl := ha.1
  simp only [bne_self_eq_false, br_false]
  have key := eq_loop a (B := B_laws_eqColumnS_l0) (fun i C hi => by
    unfold B_laws_eqColumnS_l0
    simp only
    rw [br_pos (show (i : Int) < a.length by omega), br_pos (show (0 : Int) ≤ (i : Int) by omega), br_pos (show (i : Int) < a.length by omega), br_pos (show (0 : Int) ≤ (i : Int) by omega), br_pos (show (i : Int) < a.length by omega), wrap_succ (by omega)]
    simp only [Int.toNat_natCast]
    simp only [bne_self_eq_false, beq_self_eq_true, Bool.not_true, br_false, bnd_some', eq_Column (a.getD i ZColumn) (ha.2 _ (mem_getD hi))]) (fun C => by
    unfold B_laws_eqColumnS_l0
    exact br_neg (Int.lt_irrefl _) _ _) (n := ((a.length : Nat) : Int).toNat + 1) (by omega) 0 (Nat.zero_le _) (by omega)
  rw [show ((0 : Nat) : Int) = 0 from rfl] at key
  rw [key, bnd_some', onSum_inl]
theorem eq_Index (a : DIndex) (ha : Sm_Index 1048576 a) : F_laws_eqIndex a a = some true := by
  unfold F_laws_eqIndex
  obtain ⟨p0, p1, p2, p4⟩ := ha
  simp only [bne_self_eq_false, beq_self_eq_true, Bool.not_true, br_false, bnd_some', eq_IntS _ p2]
theorem eq_IndexS (a : (List DIndex)) (ha : (a.length ≤ 1048576 ∧ ∀ y ∈ a, Sm_Index 1048576 y)) : F_laws_eqIndexS a a = some true := by
  unfold F_laws_eqIndexS
  unfold F_laws_eqIndexS_l0
  have hl := ha.1
  simp only [bne_self_eq_false, br_false]
  have key := eq_loop a (B := B_laws_eqIndexS_l0) (fun i C hi => by
    unfold B_laws_eqIndexS_l0
    simp only
    rw [br_pos (show (i : Int) < a.length by omega), br_pos (show (0 : Int) ≤ (i : Int) by omega), br_pos (show (i : Int) < a.length by omega), br_pos (show (0 : Int) ≤ (i : Int) by omega), br_pos (show (i : Int) < a.length by omega), wrap_succ (by omega)]
    simp only [Int.toNat_natCast]
    simp only [bne_self_eq_false, beq_self_eq_true, Bool.not_true, br_false, bnd_some', eq_Index (a.getD i ZIndex) (ha.2 _ (mem_getD hi))]) (fun C => by
    unfold B_laws_eqIndexS_l0
    exact br_neg (Int.lt_irrefl _) _ _) (n := ((a.length : Nat) : Int).toNat + 1) (by omega) 0 (Nat.zero_le _) (by omega)
  rw [show ((0 : Nat) : Int) = 0 from rfl] at key
  rw [key, bnd_some', onSum_inl]
def Sm_Table (n : Nat) (a : DTable) : Prop := Rng .i64 a.1 ∧ a.2.1.length ≤ n ∧ Rng .i64 a.2.2.1 ∧ (a.2.2.2.1.length ≤ n ∧ ∀ y ∈ a.2.2.2.1, Sm_Column n y) ∧ (a.2.2.2.2.1.length ≤ n ∧ ∀ y ∈ a.2.2.2.2.1, Rng .i64 y) ∧ (a.2.2.2.2.2.1.length ≤ n ∧ ∀ y ∈ a.2.2.2.2.2.1, Sm_Index n y)
theorem eq_Table (a : DTable) (ha : Sm_Table 1048576 a) : F_laws_eqTable a a = some true := by
  unfold F_laws_eqTable
  obtain ⟨p0, p1, p2, p3, p4, p5⟩ := ha
  simp only [bne_self_eq_false, beq_self_eq_true, Bool.not_true, br_false, bnd_some', eq_ColumnS _ p3, eq_IntS _ p4, eq_IndexS _ p5]
theorem eq_TableS (a : (List DTable)) (ha : (a.length ≤ 1048576 ∧ ∀ y ∈ a, Sm_Table 1048576 y)) : F_laws_eqTableS a a = some true := by
  unfold F_laws_eqTableS
  unfold F_laws_eqTableS_l0
  have hl := ha.1
  simp only [bne_self_eq_false, br_false]
  have key := eq_loop a (B := B_laws_eqTableS_l0) (fun i C hi => by
    unfold B_laws_eqTableS_l0
    simp only
    rw [br_pos (show (i : Int) < a.length by omega), br_pos (show (0 : Int) ≤ (i : Int) by omega), br_pos (show (i : Int) < a.length by omega), br_pos (show (0 : Int) ≤ (i : Int) by omega), br_pos (show (i : Int) < a.length by omega), wrap_succ (by omega)]
    simp only [Int.toNat_natCast]
    simp only [bne_self_eq_false, beq_self_eq_true, Bool.not_true, br_false, bnd_some', eq_Table (a.getD i ZTable) (ha.2 _ (mem_getD hi))]) (fun C => by
    unfold B_laws_eqTableS_l0
    exact br_neg (Int.lt_irrefl _) _ _) (n := ((a.length : Nat) : Int).toNat + 1) (by omega) 0 (Nat.zero_le _) (by omega)
  rw [show ((0 : Nat) : Int) = 0 from rfl] at key
  rw [key, bnd_some', onSum_inl]
theorem eq_StringS (a : (List (List UInt8))) (ha : (a.length ≤ 1048576 ∧ ∀ y ∈ a, y.length ≤ 1048576)) : F_laws_eqStringS a a = some true := by
  unfold F_laws_eqStringS
  unfold F_laws_eqStringS_l0
  have hl := ha.1
  simp only [bne_self_eq_false, br_false]
  have key := eq_loop a (B := B_laws_eqStringS_l0) (fun i C hi => by
    unfold B_laws_eqStringS_l0
    simp only
    rw [br_pos (show (i : Int) < a.length by omega), br_pos (show (0 : Int) ≤ (i : Int) by omega), br_pos (show (i : Int) < a.length by omega), br_pos (show (0 : Int) ≤ (i : Int) by omega), br_pos (show (i : Int) < a.length by omega), wrap_succ (by omega)]
    simp only [Int.toNat_natCast]
    simp only [bne_self_eq_false, beq_self_eq_true, Bool.not_true, br_false, bnd_some']) (fun C => by
    unfold B_laws_eqStringS_l0
    exact br_neg (Int.lt_irrefl _) _ _) (n := ((a.length : Nat) : Int).toNat + 1) (by omega) 0 (Nat.zero_le _) (by omega)
  rw [show ((0 : Nat) : Int) = 0 from rfl] at key
  rw [key, bnd_some', onSum_inl]
theorem eq_Value (a : DValue) (ha : Sm_Value 1048576 a) : F_laws_eqValue a a = some true := by
  unfold F_laws_eqValue
  simp only [bne_self_eq_false, beq_self_eq_true, Bool.not_true, br_false, bnd_some']
def Sm_Pred (n : Nat) (a : DPred) : Prop := a.1.length ≤ n ∧ Rng .i64 a.2.1 ∧ Rng .i64 a.2.2.1 ∧ Sm_Value n a.2.2.2.1
theorem eq_Pred (a : DPred) (ha : Sm_Pred 1048576 a) : F_laws_eqPred a a = some true := by
  unfold F_laws_eqPred
  obtain ⟨p0, p1, p2, p3⟩ := ha
  simp only [bne_self_eq_false, beq_self_eq_true, Bool.not_true, br_false, bnd_some', eq_Value _ p3]
theorem eq_PredS (a : (List DPred)) (ha : (a.length ≤ 1048576 ∧ ∀ y ∈ a, Sm_Pred 1048576 y)) : F_laws_eqPredS a a = some true := by
  unfold F_laws_eqPredS
  unfold F_laws_eqPredS_l0
  have hl := ha.1
  simp only [bne_self_eq_false, br_false]
  have key := eq_loop a (B := B_laws_eqPredS_l0) (fun i C hi => by
    unfold B_laws_eqPredS_l0
    simp only
    rw [br_pos (show (i : Int) < a.length by omega), br_pos (show (0 : Int) ≤ (i : Int) by omega), br_pos (show (i : Int) < a.length by omega), br_pos (show (0 : Int) ≤ (i : Int) by omega), br_pos (show (i : Int) < a.length by omega), wrap_succ (by omega)]
    simp only [Int.toNat_natCast]
    simp only [bne_self_eq_false, beq_self_eq_true, Bool.not_true, br_false, bnd_some', eq_Pred (a.getD i ZPred) (ha.2 _ (mem_getD hi))]) (fun C => by
    unfold B_laws_eqPredS_l0
    exact br_neg (Int.lt_irrefl _) _ _) (n := ((a.length : Nat) : Int).toNat + 1) (by omega) 0 (Nat.zero_le _) (by omega)
  rw [show ((0 : Nat) : Int) = 0 from rfl] at key
  rw [key, bnd_some', onSum_inl]
theorem eq_Out (a : DOut) (ha : Sm_Out 1048576 a) : F_laws_eqOut a a = some true := by
  unfold F_laws_eqOut
  simp only [bne_self_eq_false, beq_self_eq_true, Bool.not_true, br_false, bnd_some']
theorem eq_OutS (a : (List DOut)) (ha : (a.length ≤ 1048576 ∧ ∀ y ∈ a, Sm_Out 1048576 y)) : F_laws_eqOutS a a = some true := by
  unfold F_laws_eqOutS
  unfold F_laws_eqOutS_l0
  have hl := ha.1
  simp only [bne_self_eq_false, br_false]
  have key := eq_loop a (B := B_laws_eqOutS_l0) (fun i C hi => by
    unfold B_laws_eqOutS_l0
    simp only
    rw [br_pos (show (i : Int) < a.length by omega), br_pos (show (0 : Int) ≤ (i : Int) by omega), br_pos (show (i : Int) < a.length by omega), br_pos (show (0 : Int) ≤ (i : Int) by omega), br_pos (show (i : Int) < a.length by omega), wrap_succ (by omega)]
    simp only [Int.toNat_natCast]
    simp only [bne_self_eq_false, beq_self_eq_true, Bool.not_true, br_false, bnd_some', eq_Out (a.getD i ZOut) (ha.2 _ (mem_getD hi))]) (fun C => by
    unfold B_laws_eqOutS_l0
    exact br_neg (Int.lt_irrefl _) _ _) (n := ((a.length : Nat) : Int).toNat + 1) (by omega) 0 (Nat.zero_le _) (by omega)
  rw [show ((0 : Nat) : Int) = 0 from rfl] at key
  rw [key, bnd_some', onSum_inl]
def Sm_Flat (n : Nat) (a : DFlat) : Prop := (a.1.length ≤ n ∧ ∀ y ∈ a.1, y.length ≤ n) ∧ (a.2.1.length ≤ n ∧ ∀ y ∈ a.2.1, Sm_Pred n y) ∧ (a.2.2.1.length ≤ n ∧ ∀ y ∈ a.2.2.1, Rng .i64 y) ∧ (a.2.2.2.1.length ≤ n ∧ ∀ y ∈ a.2.2.2.1, Sm_Out n y)
theorem eq_Flat (a : DFlat) (ha : Sm_Flat 1048576 a) : F_laws_eqFlat a a = some true := by
  unfold F_laws_eqFlat
  obtain ⟨p0, p1, p2, p3⟩ := ha
  simp only [bne_self_eq_false, beq_self_eq_true, Bool.not_true, br_false, bnd_some', eq_StringS _ p0, eq_PredS _ p1, eq_IntS _ p2, eq_OutS _ p3]
end Go.Ev.T1
