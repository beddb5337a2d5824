/- The guard, copies, equality. -/
import Derived.Test.YticlnmiakaelkaaCoF
import Derived.Test.YticlnmiakaelkaaCoEvH
set_option linter.unusedSimpArgs false
set_option linter.unusedVariables false
namespace Go.Ev.T1
open Go Go.Proofs
def Sm_Time (n : Nat) (a : DTime) : Prop := Rng .i64 a.1 ∧ Rng .i64 a.2.1
def Sm_LVersion (n : Nat) (a : DLVersion) : Prop := a.1.length ≤ n ∧ Sm_Time n a.2.1 ∧ a.2.2.2.1.length ≤ n
theorem sz_Version (a : DLVersion) (b : Int) (h0 : 0 ≤ b) (h1 : b ≤ 1048576) (ha : Sm_LVersion maxLen a) : SzR (F_laws_szVersion a b) (Sm_LVersion 1048576 a) := by
  unfold F_laws_szVersion
  obtain ⟨p0, p1, p3⟩ := ha
  generalize hw0 : IntKind.i64.wrap (b - (↑(List.length a.1) : Int)) = b0
  rcases sz_less hw0 h0 h1 p0 with e | ⟨g0_0, g1_0, q0⟩
  · exact ⟨-1, br_pos e _ _, .inl rfl⟩
  rw [br_neg (Int.not_lt.2 g0_0)]
  generalize hw3 : IntKind.i64.wrap (b0 - (↑(List.length a.2.2.2.1) : Int)) = b3
  rcases sz_less hw3 g0_0 g1_0 p3 with e | ⟨g0_3, g1_3, q3⟩
  · exact ⟨-1, br_pos e _ _, .inl rfl⟩
  rw [br_neg (Int.not_lt.2 g0_3)]
  exact ⟨b3, rfl, .inr ⟨g0_3, g1_3, ⟨q0, p1, q3⟩⟩⟩
theorem sz_VersionS (a : (List DLVersion)) (b : Int) (h0 : 0 ≤ b) (h1 : b ≤ 1048576) (ha : (a.length ≤ maxLen ∧ ∀ y ∈ a, Sm_LVersion maxLen y)) : SzR (F_laws_szVersionS a b) ((a.length ≤ 1048576 ∧ ∀ y ∈ a, Sm_LVersion 1048576 y)) := by
  unfold F_laws_szVersionS
  generalize hw : IntKind.i64.wrap (b - (↑(List.length a) : Int)) = c
  rcases sz_less hw h0 h1 ha.1 with e | ⟨g0, g1, q⟩
  · exact ⟨-1, br_pos e _ _, .inl rfl⟩
  rw [br_neg (Int.not_lt.2 g0)]
  unfold F_laws_szVersionS_l0
  refine szr_and q (sz_loop (xs := a) ZLVersion (E := fun y => Sm_LVersion 1048576 y) (fun i r C hi r0 r1 => ?_) (fun r C => ?_) c g0 g1 (by omega))
  · obtain ⟨y, ey, hy⟩ := sz_Version (a.getD i ZLVersion) r r0 r1 (ha.2 _ (mem_getD hi))
    refine ⟨y, hy, ?_⟩
    unfold B_laws_szVersionS_l0
    simp only
    rw [br_pos (show (i : Int) < a.length by omega), br_pos (show (0 : Int) ≤ (i : Int) by omega), br_pos (show (i : Int) < a.length by omega), Int.toNat_natCast, ey, bnd_some', wrap_succ (by simp only [maxLen] at ha; omega), br_if]
  · unfold B_laws_szVersionS_l0
    exact br_neg (Int.lt_irrefl _) _ _
def Sm_LRun (n : Nat) (a : DLRun) : Prop := (a.1.length ≤ n ∧ ∀ y ∈ a.1, Sm_LVersion n y) ∧ a.2.1.length ≤ n
theorem sz_Run (a : DLRun) (b : Int) (h0 : 0 ≤ b) (h1 : b ≤ 1048576) (ha : Sm_LRun maxLen a) : SzR (F_laws_szRun a b) (Sm_LRun 1048576 a) := by
  unfold F_laws_szRun
  obtain ⟨p0, p1⟩ := ha
  obtain ⟨b0, e0, r0⟩ := sz_VersionS a.1 b h0 h1 p0
  rw [e0, bnd_some']
  rcases r0 with rfl | ⟨g0_0, g1_0, q0⟩
  · exact ⟨-1, br_pos (by decide) _ _, .inl rfl⟩
  rw [br_neg (Int.not_lt.2 g0_0)]
  generalize hw1 : IntKind.i64.wrap (b0 - (↑(List.length a.2.1) : Int)) = b1
  rcases sz_less hw1 g0_0 g1_0 p1 with e | ⟨g0_1, g1_1, q1⟩
  · exact ⟨-1, br_pos e _ _, .inl rfl⟩
  rw [br_neg (Int.not_lt.2 g0_1)]
  exact ⟨b1, rfl, .inr ⟨g0_1, g1_1, ⟨q0, q1⟩⟩⟩
theorem sz_RunS (a : (List DLRun)) (b : Int) (h0 : 0 ≤ b) (h1 : b ≤ 1048576) (ha : (a.length ≤ maxLen ∧ ∀ y ∈ a, Sm_LRun maxLen y)) : SzR (F_laws_szRunS a b) ((a.length ≤ 1048576 ∧ ∀ y ∈ a, Sm_LRun 1048576 y)) := by
  unfold F_laws_szRunS
  generalize hw : IntKind.i64.wrap (b - (↑(List.length a) : Int)) = c
  rcases sz_less hw h0 h1 ha.1 with e | ⟨g0, g1, q⟩
  · exact ⟨-1, br_pos e _ _, .inl rfl⟩
  rw [br_neg (Int.not_lt.2 g0)]
  unfold F_laws_szRunS_l0
  refine szr_and q (sz_loop (xs := a) ZLRun (E := fun y => Sm_LRun 1048576 y) (fun i r C hi r0 r1 => ?_) (fun r C => ?_) c g0 g1 (by omega))
  · obtain ⟨y, ey, hy⟩ := sz_Run (a.getD i ZLRun) r r0 r1 (ha.2 _ (mem_getD hi))
    refine ⟨y, hy, ?_⟩
    unfold B_laws_szRunS_l0
    simp only
    rw [br_pos (show (i : Int) < a.length by omega), br_pos (show (0 : Int) ≤ (i : Int) by omega), br_pos (show (i : Int) < a.length by omega), Int.toNat_natCast, ey, bnd_some', wrap_succ (by simp only [maxLen] at ha; omega), br_if]
  · unfold B_laws_szRunS_l0
    exact br_neg (Int.lt_irrefl _) _ _
def Sm_LStore (n : Nat) (a : DLStore) : Prop := (a.1.length ≤ n ∧ ∀ y ∈ a.1, Sm_LVersion n y) ∧ (a.2.1.length ≤ n ∧ ∀ y ∈ a.2.1, Sm_LRun n y) ∧ Sm_Time n a.2.2.1
theorem sz_Store (a : DLStore) (b : Int) (h0 : 0 ≤ b) (h1 : b ≤ 1048576) (ha : Sm_LStore maxLen a) : SzR (F_laws_szStore a b) (Sm_LStore 1048576 a) := by
  unfold F_laws_szStore
  obtain ⟨p0, p1, p2⟩ := ha
  obtain ⟨b0, e0, r0⟩ := sz_VersionS a.1 b h0 h1 p0
  rw [e0, bnd_some']
  rcases r0 with rfl | ⟨g0_0, g1_0, q0⟩
  · exact ⟨-1, br_pos (by decide) _ _, .inl rfl⟩
  rw [br_neg (Int.not_lt.2 g0_0)]
  obtain ⟨b1, e1, r1⟩ := sz_RunS a.2.1 b0 g0_0 g1_0 p1
  rw [e1, bnd_some']
  rcases r1 with rfl | ⟨g0_1, g1_1, q1⟩
  · exact ⟨-1, br_pos (by decide) _ _, .inl rfl⟩
  rw [br_neg (Int.not_lt.2 g0_1)]
  exact ⟨b1, rfl, .inr ⟨g0_1, g1_1, ⟨q0, q1, p2⟩⟩⟩
theorem to_Time (a : DTime) (ha : Sm_Time 1048576 a) : F_laws_toTime a = some a := by
  unfold F_laws_toTime
  try rfl
theorem to_Version (a : DLVersion) (ha : Sm_LVersion 1048576 a) : F_laws_toVersion a = some a := by
  unfold F_laws_toVersion
  obtain ⟨p0, p1, p3⟩ := ha
  rw [to_Time _ p1, bnd_some']
  try rfl
theorem to_VersionS (a : (List DLVersion)) (ha : (a.length ≤ 1048576 ∧ ∀ y ∈ a, Sm_LVersion 1048576 y)) : F_laws_toVersionS a = some a := by
  unfold F_laws_toVersionS
  unfold F_laws_toVersionS_l0
  have hl := ha.1
  rw [show ((a.length : Int) == (a.length : Int)) = true from by simp]
  rw [br_true, br_pos (show (0 : Int) ≤ (a.length : Int) by omega), br_pos (show (a.length : Int) ≤ (capN : Int) by simp only [capN]; omega), Int.toNat_natCast]
  refine congrArg (fun m => bnd m _) (copy_loop a ZLVersion _ (fun i ys C hi hy => ?_) (fun ys C => ?_) (by omega))
  · unfold B_laws_toVersionS_l0
    simp only
    rw [br_pos (show (i : Int) < a.length by omega), br_pos (show (0 : Int) ≤ (i : Int) by omega), br_pos (show (i : Int) < a.length by omega), Int.toNat_natCast, to_Version _ (ha.2 _ (mem_getD hi)), bnd_some', br_pos (show (0 : Int) ≤ (i : Int) by omega), br_pos (show (i : Int) < ys.length by omega), wrap_succ (by omega)]
  · unfold B_laws_toVersionS_l0
    exact br_neg (Int.lt_irrefl _) _ _
theorem to_Run (a : DLRun) (ha : Sm_LRun 1048576 a) : F_laws_toRun a = some a := by
  unfold F_laws_toRun
  obtain ⟨p0, p1⟩ := ha
  rw [to_VersionS _ p0, bnd_some']
  try rfl
theorem to_RunS (a : (List DLRun)) (ha : (a.length ≤ 1048576 ∧ ∀ y ∈ a, Sm_LRun 1048576 y)) : F_laws_toRunS a = some a := by
  unfold F_laws_toRunS
  unfold F_laws_toRunS_l0
  have hl := ha.1
  rw [show ((a.length : Int) == (a.length : Int)) = true from by simp]
  rw [br_true, br_pos (show (0 : Int) ≤ (a.length : Int) by omega), br_pos (show (a.length : Int) ≤ (capN : Int) by simp only [capN]; omega), Int.toNat_natCast]
  refine congrArg (fun m => bnd m _) (copy_loop a ZLRun _ (fun i ys C hi hy => ?_) (fun ys C => ?_) (by omega))
  · unfold B_laws_toRunS_l0
    simp only
    rw [br_pos (show (i : Int) < a.length by omega), br_pos (show (0 : Int) ≤ (i : Int) by omega), br_pos (show (i : Int) < a.length by omega), Int.toNat_natCast, to_Run _ (ha.2 _ (mem_getD hi)), bnd_some', br_pos (show (0 : Int) ≤ (i : Int) by omega), br_pos (show (i : Int) < ys.length by omega), wrap_succ (by omega)]
  · unfold B_laws_toRunS_l0
    exact br_neg (Int.lt_irrefl _) _ _
theorem to_Store (a : DLStore) (ha : Sm_LStore 1048576 a) : F_laws_toStore a = some a := by
  unfold F_laws_toStore
  obtain ⟨p0, p1, p2⟩ := ha
  rw [to_VersionS _ p0, bnd_some', to_RunS _ p1, bnd_some', to_Time _ p2, bnd_some']
  try rfl
theorem eq_Time (a : DTime) (ha : Sm_Time 1048576 a) : F_laws_eqTime a a = some true := by
  unfold F_laws_eqTime
  simp only [bne_self_eq_false, beq_self_eq_true, Bool.not_true, br_false, bnd_some']
def Sm_Version (n : Nat) (a : DVersion) : Prop := a.1.length ≤ n ∧ Sm_Time n a.2.1 ∧ a.2.2.2.1.length ≤ n
theorem eq_Version (a : DVersion) (ha : Sm_Version 1048576 a) : F_laws_eqVersion a a = some true := by
  unfold F_laws_eqVersion
  obtain ⟨p0, p1, p3⟩ := ha
  simp only [bne_self_eq_false, beq_self_eq_true, Bool.not_true, br_false, bnd_some', eq_Time _ p1]
theorem eq_VersionS (a : (List DVersion)) (ha : (a.length ≤ 1048576 ∧ ∀ y ∈ a, Sm_Version 1048576 y)) : F_laws_eqVersionS a a = some true := by
  unfold F_laws_eqVersionS
  unfold F_laws_eqVersionS_l0
  have hl := ha.1
  simp only [bne_self_eq_false, br_false]
  have key := eq_loop a (B := B_laws_eqVersionS_l0) (fun i C hi => by
    unfold B_laws_eqVersionS_l0
    simp only
    rw [br_pos (show (i : Int) < a.length by omega), br_pos (show (0 : Int) ≤ (i : Int) by omega), br_pos (show (i : Int) < a.length by omega), br_pos (show (0 : Int) ≤ (i : Int) by omega), br_pos (show (i : Int) < a.length by omega), wrap_succ (by omega)]
    simp only [Int.toNat_natCast]
    simp only [bne_self_eq_false, beq_self_eq_true, Bool.not_true, br_false, bnd_some', eq_Version (a.getD i ZVersion) (ha.2 _ (mem_getD hi))]) (fun C => by
    unfold B_laws_eqVersionS_l0
    exact br_neg (Int.lt_irrefl _) _ _) (n := ((a.length : Nat) : Int).toNat + 1) (by omega) 0 (Nat.zero_le _) (by omega)
  rw [show ((0 : Nat) : Int) = 0 from rfl] at key
  rw [key, bnd_some', onSum_inl]
def Sm_Run (n : Nat) (a : DRun) : Prop := (a.1.length ≤ n ∧ ∀ y ∈ a.1, Sm_Version n y) ∧ a.2.1.length ≤ n
theorem eq_Run (a : DRun) (ha : Sm_Run 1048576 a) : F_laws_eqRun a a = some true := by
  unfold F_laws_eqRun
  obtain ⟨p0, p1⟩ := ha
  simp only [bne_self_eq_false, beq_self_eq_true, Bool.not_true, br_false, bnd_some', eq_VersionS _ p0]
theorem eq_RunS (a : (List DRun)) (ha : (a.length ≤ 1048576 ∧ ∀ y ∈ a, Sm_Run 1048576 y)) : F_laws_eqRunS a a = some true := by
  unfold F_laws_eqRunS
  unfold F_laws_eqRunS_l0
  have hl := ha.1
  simp only [bne_self_eq_false, br_false]
  have key := eq_loop a (B := B_laws_eqRunS_l0) (fun i C hi => by
    unfold B_laws_eqRunS_l0
    simp only
    rw [br_pos (show (i : Int) < a.length by omega), br_pos (show (0 : Int) ≤ (i : Int) by omega), br_pos (show (i : Int) < a.length by omega), br_pos (show (0 : Int) ≤ (i : Int) by omega), br_pos (show (i : Int) < a.length by omega), wrap_succ (by omega)]
    simp only [Int.toNat_natCast]
    simp only [bne_self_eq_false, beq_self_eq_true, Bool.not_true, br_false, bnd_some', eq_Run (a.getD i ZRun) (ha.2 _ (mem_getD hi))]) (fun C => by
    unfold B_laws_eqRunS_l0
    exact br_neg (Int.lt_irrefl _) _ _) (n := ((a.length : Nat) : Int).toNat + 1) (by omega) 0 (Nat.zero_le _) (by omega)
  rw [show ((0 : Nat) : Int) = 0 from rfl] at key
  rw [key, bnd_some', onSum_inl]
def Sm_Store (n : Nat) (a : DStore) : Prop := (a.1.length ≤ n ∧ ∀ y ∈ a.1, Sm_Version n y) ∧ (a.2.1.length ≤ n ∧ ∀ y ∈ a.2.1, Sm_Run n y) ∧ Sm_Time n a.2.2.1
theorem eq_Store (a : DStore) (ha : Sm_Store 1048576 a) : F_laws_eqStore a a = some true := by
  unfold F_laws_eqStore
  obtain ⟨p0, p1, p2⟩ := ha
  simp only [bne_self_eq_false, beq_self_eq_true, Bool.not_true, br_false, bnd_some', eq_VersionS _ p0, eq_RunS _ p1, eq_Time _ p2]
end Go.Ev.T1
