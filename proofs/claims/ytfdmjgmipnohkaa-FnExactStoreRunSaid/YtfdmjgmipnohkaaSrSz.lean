import Derived.Test.YtfdmjgmipnohkaaSrF
import Derived.Test.YtfdmjgmipnohkaaSrEvH
set_option linter.unusedSimpArgs false
set_option linter.unusedVariables false
namespace Go.Ev.T1
open Go Go.Proofs
def Sm_Time (n : Nat) (a : DTime) : Prop := Rng .i64 a.1 ∧ Rng .i64 a.2.1
def Sm_LVersion (n : Nat) (a : y85q) : Prop := a.1.length ≤ n ∧ Sm_Time n a.2.1 ∧ a.2.2.2.1.length ≤ n
theorem sz_Version (a : y85q) (b : Int) (h0 : 0 ≤ b) (h1 : b ≤ 1048576) (ha : Sm_LVersion maxLen a) : SzR (F_u0f a b) (Sm_LVersion 1048576 a) := by
 unfold F_u0f
 obtain ⟨p0, p1, p3⟩ := ha
 generalize hw0 : IntKind.i64.wrap (b - (List.length a.1 : Int)) = b0
 rcases sz_less hw0 h0 h1 p0 with e | ⟨g0_0, g1_0, q0⟩
 ·exact ⟨-1, y2q e _ _, .inl rfl⟩
 rw [y11q (Int.not_lt.2 g0_0)]
 generalize hw3 : IntKind.i64.wrap (b0 - (List.length a.2.2.2.1 : Int)) = b3
 rcases sz_less hw3 g0_0 g1_0 p3 with e | ⟨g0_3, g1_3, q3⟩
 ·exact ⟨-1, y2q e _ _, .inl rfl⟩
 rw [y11q (Int.not_lt.2 g0_3)]
 exact ⟨b3, rfl, .inr ⟨g0_3, g1_3, ⟨q0, p1, q3⟩⟩⟩
def Sm_LStoreOp (n : Nat) (a : y23q) : Prop := Rng .i64 a.1 ∧ Sm_LVersion n a.2.1 ∧ a.2.2.1.length ≤ n ∧ a.2.2.2.1.length ≤ n ∧ Sm_Time n a.2.2.2.2.1 ∧ Rng .i64 a.2.2.2.2.2.1
theorem sz_StoreOp (a : y23q) (b : Int) (h0 : 0 ≤ b) (h1 : b ≤ 1048576) (ha : Sm_LStoreOp maxLen a) : SzR (F_u1f a b) (Sm_LStoreOp 1048576 a) := by
 unfold F_u1f
 obtain ⟨p0, p1, p2, p3, p4, p5⟩ := ha
 obtain ⟨b1, e1, r1⟩ := sz_Version a.2.1 b h0 h1 p1
 rw [e1, y6q]
 rcases r1 with rfl | ⟨g0_1, g1_1, q1⟩
 ·exact ⟨-1, y2q (by decide) _ _, .inl rfl⟩
 rw [y11q (Int.not_lt.2 g0_1)]
 generalize hw2 : IntKind.i64.wrap (b1 - (List.length a.2.2.1 : Int)) = b2
 rcases sz_less hw2 g0_1 g1_1 p2 with e | ⟨g0_2, g1_2, q2⟩
 ·exact ⟨-1, y2q e _ _, .inl rfl⟩
 rw [y11q (Int.not_lt.2 g0_2)]
 generalize hw3 : IntKind.i64.wrap (b2 - (List.length a.2.2.2.1 : Int)) = b3
 rcases sz_less hw3 g0_2 g1_2 p3 with e | ⟨g0_3, g1_3, q3⟩
 ·exact ⟨-1, y2q e _ _, .inl rfl⟩
 rw [y11q (Int.not_lt.2 g0_3)]
 exact ⟨b3, rfl, .inr ⟨g0_3, g1_3, ⟨p0, q1, q2, q3, p4, p5⟩⟩⟩
theorem sz_StoreOpS (a : (List y23q)) (b : Int) (h0 : 0 ≤ b) (h1 : b ≤ 1048576) (ha : (a.length ≤ maxLen ∧ ∀ y ∈ a, Sm_LStoreOp maxLen y)) : SzR (F_u2f a b) ((a.length ≤ 1048576 ∧ ∀ y ∈ a, Sm_LStoreOp 1048576 y)) := by
 unfold F_u2f
 generalize hw : IntKind.i64.wrap (b - (List.length a : Int)) = c
 rcases sz_less hw h0 h1 ha.1 with e | ⟨g0, g1, q⟩
 ·exact ⟨-1, y2q e _ _, .inl rfl⟩
 rw [y11q (Int.not_lt.2 g0)]
 unfold F_u2f_l0
 refine szr_and q (sz_loop (xs := a) ZLStoreOp (E := fun y => Sm_LStoreOp 1048576 y) (fun i r C hi r0 r1 => ?_) (fun r C => ?_) c g0 g1 (by omega))
 ·obtain ⟨y, ey, hy⟩ := sz_StoreOp (a.getD i ZLStoreOp) r r0 r1 (ha.2 _ (mem_getD hi))
  refine ⟨y, hy, ?_⟩
  unfold B_u2f_l0
  simp only
  rw [y2q (show (i : Int) < a.length by omega), y2q (show (0 : Int) ≤ (i : Int) by omega), y2q (show (i : Int) < a.length by omega), Int.toNat_natCast, ey, y6q, y9q (by simp only [maxLen] at ha; omega), br_if]
 ·unfold B_u2f_l0
  exact y11q (Int.lt_irrefl _) _ _
theorem to_Time (a : DTime) (ha : Sm_Time 1048576 a) : F_u33f a = some a := by
 unfold F_u33f
 try rfl
theorem to_Version (a : y85q) (ha : Sm_LVersion 1048576 a) : F_u34f a = some a := by
 unfold F_u34f
 obtain ⟨p0, p1, p3⟩ := ha
 rw [to_Time _ p1, y6q]
 try rfl
theorem to_StoreOp (a : y23q) (ha : Sm_LStoreOp 1048576 a) : F_u35f a = some a := by
 unfold F_u35f
 obtain ⟨p0, p1, p2, p3, p4, p5⟩ := ha
 rw [to_Version _ p1, y6q, to_Time _ p4, y6q]
 try rfl
theorem to_StoreOpS (a : (List y23q)) (ha : (a.length ≤ 1048576 ∧ ∀ y ∈ a, Sm_LStoreOp 1048576 y)) : F_u36f a = some a := by
 unfold F_u36f
 unfold F_u36f_l0
 have hl := ha.1
 rw [show ((a.length : Int) == (a.length : Int)) = true from by simp]
 rw [br_true, y2q (show (0 : Int) ≤ (a.length : Int) by omega), y2q (show (a.length : Int) ≤ (capN : Int) by simp only [capN]; omega), Int.toNat_natCast]
 refine congrArg (fun m => bnd m _) (copy_loop a ZLStoreOp _ (fun i ys C hi hy => ?_) (fun ys C => ?_) (by omega))
 ·unfold B_u36f_l0
  simp only
  rw [y2q (show (i : Int) < a.length by omega), y2q (show (0 : Int) ≤ (i : Int) by omega), y2q (show (i : Int) < a.length by omega), Int.toNat_natCast, to_StoreOp _ (ha.2 _ (mem_getD hi)), y6q, y2q (show (0 : Int) ≤ (i : Int) by omega), y2q (show (i : Int) < ys.length by omega), y9q (by omega)]
 ·unfold B_u36f_l0
  exact y11q (Int.lt_irrefl _) _ _
theorem eq_Time (a : DTime) (ha : Sm_Time 1048576 a) : F_u64f a a = some true := by
 unfold F_u64f
 simp only [bne_self_eq_false, beq_self_eq_true, Bool.not_true, y58q, y6q]
def Sm_Version (n : Nat) (a : y0q) : Prop := a.1.length ≤ n ∧ Sm_Time n a.2.1 ∧ a.2.2.2.1.length ≤ n
theorem eq_Version (a : y0q) (ha : Sm_Version 1048576 a) : F_u65f a a = some true := by
 unfold F_u65f
 obtain ⟨p0, p1, p3⟩ := ha
 simp only [bne_self_eq_false, beq_self_eq_true, Bool.not_true, y58q, y6q, eq_Time _ p1]
theorem eq_VersionS (a : (List y0q)) (ha : (a.length ≤ 1048576 ∧ ∀ y ∈ a, Sm_Version 1048576 y)) : F_u66f a a = some true := by
 unfold F_u66f
 unfold F_u66f_l0
 have hl := ha.1
 simp only [bne_self_eq_false, y58q]
 have key := eq_loop a (B := B_u66f_l0) (fun i C hi => by
  unfold B_u66f_l0
  simp only
  rw [y2q (show (i : Int) < a.length by omega), y2q (show (0 : Int) ≤ (i : Int) by omega), y2q (show (i : Int) < a.length by omega), y2q (show (0 : Int) ≤ (i : Int) by omega), y2q (show (i : Int) < a.length by omega), y9q (by omega)]
  simp only [Int.toNat_natCast]
  simp only [bne_self_eq_false, beq_self_eq_true, Bool.not_true, y58q, y6q, eq_Version (a.getD i y1q) (ha.2 _ (mem_getD hi))]) (fun C => by
  unfold B_u66f_l0
  exact y11q (Int.lt_irrefl _) _ _) (n := ((a.length : Nat) : Int).toNat + 1) (by omega) 0 (Nat.zero_le _) (by omega)
 rw [show ((0 : Nat) : Int) = 0 from rfl] at key
 rw [key, y6q, y99q]
def Sm_StoreObs (n : Nat) (a : y8q) : Prop := Rng .i64 a.1 ∧ (a.2.2.1.length ≤ n ∧ ∀ y ∈ a.2.2.1, Sm_Version n y)
theorem eq_StoreObs (a : y8q) (ha : Sm_StoreObs 1048576 a) : F_u67f a a = some true := by
 unfold F_u67f
 obtain ⟨p0, p2⟩ := ha
 simp only [bne_self_eq_false, beq_self_eq_true, Bool.not_true, y58q, y6q, eq_VersionS _ p2]
theorem eq_StoreObsS (a : (List y8q)) (ha : (a.length ≤ 1048576 ∧ ∀ y ∈ a, Sm_StoreObs 1048576 y)) : F_u68f a a = some true := by
 unfold F_u68f
 unfold F_u68f_l0
 have hl := ha.1
 simp only [bne_self_eq_false, y58q]
 have key := eq_loop a (B := B_u68f_l0) (fun i C hi => by
  unfold B_u68f_l0
  simp only
  rw [y2q (show (i : Int) < a.length by omega), y2q (show (0 : Int) ≤ (i : Int) by omega), y2q (show (i : Int) < a.length by omega), y2q (show (0 : Int) ≤ (i : Int) by omega), y2q (show (i : Int) < a.length by omega), y9q (by omega)]
  simp only [Int.toNat_natCast]
  simp only [bne_self_eq_false, beq_self_eq_true, Bool.not_true, y58q, y6q, eq_StoreObs (a.getD i ZStoreObs) (ha.2 _ (mem_getD hi))]) (fun C => by
  unfold B_u68f_l0
  exact y11q (Int.lt_irrefl _) _ _) (n := ((a.length : Nat) : Int).toNat + 1) (by omega) 0 (Nat.zero_le _) (by omega)
 rw [show ((0 : Nat) : Int) = 0 from rfl] at key
 rw [key, y6q, y99q]
def Sm_StoreOp (n : Nat) (a : y10q) : Prop := Rng .i64 a.1 ∧ Sm_Version n a.2.1 ∧ a.2.2.1.length ≤ n ∧ a.2.2.2.1.length ≤ n ∧ Sm_Time n a.2.2.2.2.1 ∧ Rng .i64 a.2.2.2.2.2.1
theorem eq_StoreOp (a : y10q) (ha : Sm_StoreOp 1048576 a) : F_u69f a a = some true := by
 unfold F_u69f
 obtain ⟨p0, p1, p2, p3, p4, p5⟩ := ha
 simp only [bne_self_eq_false, beq_self_eq_true, Bool.not_true, y58q, y6q, eq_Version _ p1, eq_Time _ p4]
theorem eq_StoreOpS (a : (List y10q)) (ha : (a.length ≤ 1048576 ∧ ∀ y ∈ a, Sm_StoreOp 1048576 y)) : F_u70f a a = some true := by
 unfold F_u70f
 unfold F_u70f_l0
 have hl := ha.1
 simp only [bne_self_eq_false, y58q]
 have key := eq_loop a (B := B_u70f_l0) (fun i C hi => by
  unfold B_u70f_l0
  simp only
  rw [y2q (show (i : Int) < a.length by omega), y2q (show (0 : Int) ≤ (i : Int) by omega), y2q (show (i : Int) < a.length by omega), y2q (show (0 : Int) ≤ (i : Int) by omega), y2q (show (i : Int) < a.length by omega), y9q (by omega)]
  simp only [Int.toNat_natCast]
  simp only [bne_self_eq_false, beq_self_eq_true, Bool.not_true, y58q, y6q, eq_StoreOp (a.getD i y24q) (ha.2 _ (mem_getD hi))]) (fun C => by
  unfold B_u70f_l0
  exact y11q (Int.lt_irrefl _) _ _) (n := ((a.length : Nat) : Int).toNat + 1) (by omega) 0 (Nat.zero_le _) (by omega)
 rw [show ((0 : Nat) : Int) = 0 from rfl] at key
 rw [key, y6q, y99q]
end Go.Ev.T1
