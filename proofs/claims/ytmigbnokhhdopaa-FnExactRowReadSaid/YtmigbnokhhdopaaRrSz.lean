import Derived.Test.YtmigbnokhhdopaaRrF
import Derived.Test.YtmigbnokhhdopaaRrEvG
set_option linter.unusedSimpArgs false
set_option linter.unusedVariables false
namespace Go.Ev.T1
open Go Go.Proofs
def Sm_Column (n : Nat) (a : y11q) : Prop:=Rng .i64 a.1 ∧ a.2.1.length ≤ n ∧ Rng .i64 a.2.2.1
theorem sz_Column (a : y11q) (b : Int) (h0 : 0 ≤ b) (h1 : b ≤ 1048576) (ha : Sm_Column maxLen a) : SzR (F_u1f a b) (Sm_Column 1048576 a):=by
 unfold F_u1f
 obtain ⟨p0,p1,p2⟩:=ha
 generalize hw1 : IntKind.i64.wrap (b - (List.length a.2.1 : Int)) = b1
 rcases sz_less hw1 h0 h1 p1 with e | ⟨g0_1,g1_1,q1⟩
 ·exact ⟨-1,y2q e _ _, .inl rfl⟩
 rw [y15q (Int.not_lt.2 g0_1)]
 exact ⟨b1,rfl, .inr ⟨g0_1,g1_1,⟨p0,q1,p2⟩⟩⟩
theorem sz_ColumnS (a : (List y11q)) (b : Int) (h0 : 0 ≤ b) (h1 : b ≤ 1048576) (ha : (a.length ≤ maxLen ∧ ∀ y ∈ a,Sm_Column maxLen y)) : SzR (F_u2f a b) ((a.length ≤ 1048576 ∧ ∀ y ∈ a,Sm_Column 1048576 y)):=by
 unfold F_u2f
 generalize hw : IntKind.i64.wrap (b - (List.length a : Int)) = c
 rcases sz_less hw h0 h1 ha.1 with e | ⟨g0,g1,q⟩
 ·exact ⟨-1,y2q e _ _, .inl rfl⟩
 rw [y15q (Int.not_lt.2 g0)]
 unfold F_u2f_l0
 refine szr_and q (sz_loop (xs:=a) y22q (E:=fun y=>Sm_Column 1048576 y) (fun i r C hi r0 r1=>?_) (fun r C=>?_) c g0 g1 (by omega))
 ·obtain ⟨y,ey,hy⟩:=sz_Column (a.getD i y22q) r r0 r1 (ha.2 _ (mem_getD hi))
  refine ⟨y,hy, ?_⟩
  unfold B_u2f_l0
  simp only
  rw [y2q (show (i : Int) < a.length by omega),y2q (show (0 : Int) ≤ (i : Int) by omega),y2q (show (i : Int) < a.length by omega),Int.toNat_natCast,ey,y8q,y10q (by simp only [maxLen] at ha; omega),br_if]
 ·unfold B_u2f_l0
  exact y15q (Int.lt_irrefl _) _ _
theorem sz_IntS (a : (List Int)) (b : Int) (h0 : 0 ≤ b) (h1 : b ≤ 1048576) (ha : (a.length ≤ maxLen ∧ ∀ y ∈ a,Rng .i64 y)) : SzR (F_u3f a b) ((a.length ≤ 1048576 ∧ ∀ y ∈ a,Rng .i64 y)):=by
 unfold F_u3f
 generalize hw : IntKind.i64.wrap (b - (List.length a : Int)) = c
 rcases sz_less hw h0 h1 ha.1 with e | ⟨g0,g1,q⟩
 ·exact ⟨-1,y2q e _ _, .inl rfl⟩
 rw [y15q (Int.not_lt.2 g0)]
 exact ⟨c,rfl, .inr ⟨g0,g1,q,ha.2⟩⟩
def Sm_Index (n : Nat) (a : y16q) : Prop:=Rng .i64 a.1 ∧ a.2.1.length ≤ n ∧ (a.2.2.1.length ≤ n ∧ ∀ y ∈ a.2.2.1,Rng .i64 y) ∧ Rng .i64 a.2.2.2.2.1
theorem sz_Index (a : y16q) (b : Int) (h0 : 0 ≤ b) (h1 : b ≤ 1048576) (ha : Sm_Index maxLen a) : SzR (F_u4f a b) (Sm_Index 1048576 a):=by
 unfold F_u4f
 obtain ⟨p0,p1,p2,p4⟩:=ha
 generalize hw1 : IntKind.i64.wrap (b - (List.length a.2.1 : Int)) = b1
 rcases sz_less hw1 h0 h1 p1 with e | ⟨g0_1,g1_1,q1⟩
 ·exact ⟨-1,y2q e _ _, .inl rfl⟩
 rw [y15q (Int.not_lt.2 g0_1)]
 obtain ⟨b2,e2,r2⟩:=sz_IntS a.2.2.1 b1 g0_1 g1_1 p2
 rw [e2,y8q]
 rcases r2 with rfl | ⟨g0_2,g1_2,q2⟩
 ·exact ⟨-1,y2q (by decide) _ _, .inl rfl⟩
 rw [y15q (Int.not_lt.2 g0_2)]
 exact ⟨b2,rfl, .inr ⟨g0_2,g1_2,⟨p0,q1,q2,p4⟩⟩⟩
theorem sz_IndexS (a : (List y16q)) (b : Int) (h0 : 0 ≤ b) (h1 : b ≤ 1048576) (ha : (a.length ≤ maxLen ∧ ∀ y ∈ a,Sm_Index maxLen y)) : SzR (F_u5f a b) ((a.length ≤ 1048576 ∧ ∀ y ∈ a,Sm_Index 1048576 y)):=by
 unfold F_u5f
 generalize hw : IntKind.i64.wrap (b - (List.length a : Int)) = c
 rcases sz_less hw h0 h1 ha.1 with e | ⟨g0,g1,q⟩
 ·exact ⟨-1,y2q e _ _, .inl rfl⟩
 rw [y15q (Int.not_lt.2 g0)]
 unfold F_u5f_l0
 refine szr_and q (sz_loop (xs:=a) y57q (E:=fun y=>Sm_Index 1048576 y) (fun i r C hi r0 r1=>?_) (fun r C=>?_) c g0 g1 (by omega))
 ·obtain ⟨y,ey,hy⟩:=sz_Index (a.getD i y57q) r r0 r1 (ha.2 _ (mem_getD hi))
  refine ⟨y,hy, ?_⟩
  unfold B_u5f_l0
  simp only
  rw [y2q (show (i : Int) < a.length by omega),y2q (show (0 : Int) ≤ (i : Int) by omega),y2q (show (i : Int) < a.length by omega),Int.toNat_natCast,ey,y8q,y10q (by simp only [maxLen] at ha; omega),br_if]
 ·unfold B_u5f_l0
  exact y15q (Int.lt_irrefl _) _ _
def Sm_LTable (n : Nat) (a : DLTable) : Prop:=Rng .i64 a.1 ∧ a.2.1.length ≤ n ∧ Rng .i64 a.2.2.1 ∧ (a.2.2.2.1.length ≤ n ∧ ∀ y ∈ a.2.2.2.1,Sm_Column n y) ∧ (a.2.2.2.2.1.length ≤ n ∧ ∀ y ∈ a.2.2.2.2.1,Rng .i64 y) ∧ (a.2.2.2.2.2.1.length ≤ n ∧ ∀ y ∈ a.2.2.2.2.2.1,Sm_Index n y)
theorem sz_Table (a : DLTable) (b : Int) (h0 : 0 ≤ b) (h1 : b ≤ 1048576) (ha : Sm_LTable maxLen a) : SzR (F_u6f a b) (Sm_LTable 1048576 a):=by
 unfold F_u6f
 obtain ⟨p0,p1,p2,p3,p4,p5⟩:=ha
 generalize hw1 : IntKind.i64.wrap (b - (List.length a.2.1 : Int)) = b1
 rcases sz_less hw1 h0 h1 p1 with e | ⟨g0_1,g1_1,q1⟩
 ·exact ⟨-1,y2q e _ _, .inl rfl⟩
 rw [y15q (Int.not_lt.2 g0_1)]
 obtain ⟨b3,e3,r3⟩:=sz_ColumnS a.2.2.2.1 b1 g0_1 g1_1 p3
 rw [e3,y8q]
 rcases r3 with rfl | ⟨g0_3,g1_3,q3⟩
 ·exact ⟨-1,y2q (by decide) _ _, .inl rfl⟩
 rw [y15q (Int.not_lt.2 g0_3)]
 obtain ⟨b4,e4,r4⟩:=sz_IntS a.2.2.2.2.1 b3 g0_3 g1_3 p4
 rw [e4,y8q]
 rcases r4 with rfl | ⟨g0_4,g1_4,q4⟩
 ·exact ⟨-1,y2q (by decide) _ _, .inl rfl⟩
 rw [y15q (Int.not_lt.2 g0_4)]
 obtain ⟨b5,e5,r5⟩:=sz_IndexS a.2.2.2.2.2.1 b4 g0_4 g1_4 p5
 rw [e5,y8q]
 rcases r5 with rfl | ⟨g0_5,g1_5,q5⟩
 ·exact ⟨-1,y2q (by decide) _ _, .inl rfl⟩
 rw [y15q (Int.not_lt.2 g0_5)]
 exact ⟨b5,rfl, .inr ⟨g0_5,g1_5,⟨p0,q1,p2,q3,q4,q5⟩⟩⟩
def Sm_Pair (n : Nat) (a : DPair) : Prop:=a.1.length ≤ n ∧ a.2.1.length ≤ n
theorem sz_Pair (a : DPair) (b : Int) (h0 : 0 ≤ b) (h1 : b ≤ 1048576) (ha : Sm_Pair maxLen a) : SzR (F_u7f a b) (Sm_Pair 1048576 a):=by
 unfold F_u7f
 obtain ⟨p0,p1⟩:=ha
 generalize hw0 : IntKind.i64.wrap (b - (List.length a.1 : Int)) = b0
 rcases sz_less hw0 h0 h1 p0 with e | ⟨g0_0,g1_0,q0⟩
 ·exact ⟨-1,y2q e _ _, .inl rfl⟩
 rw [y15q (Int.not_lt.2 g0_0)]
 generalize hw1 : IntKind.i64.wrap (b0 - (List.length a.2.1 : Int)) = b1
 rcases sz_less hw1 g0_0 g1_0 p1 with e | ⟨g0_1,g1_1,q1⟩
 ·exact ⟨-1,y2q e _ _, .inl rfl⟩
 rw [y15q (Int.not_lt.2 g0_1)]
 exact ⟨b1,rfl, .inr ⟨g0_1,g1_1,⟨q0,q1⟩⟩⟩
theorem to_Column (a : y11q) (ha : Sm_Column 1048576 a) : F_u32f a = some a:=by
 unfold F_u32f
 try rfl
theorem to_ColumnS (a : (List y11q)) (ha : (a.length ≤ 1048576 ∧ ∀ y ∈ a,Sm_Column 1048576 y)) : F_u33f a = some a:=by
 unfold F_u33f
 unfold F_u33f_l0
 have hl:=ha.1
 rw [show ((a.length : Int) == (a.length : Int)) = true from by simp]
 rw [br_true,y2q (show (0 : Int) ≤ (a.length : Int) by omega),y2q (show (a.length : Int) ≤ (capN : Int) by simp only [capN]; omega),Int.toNat_natCast]
 refine congrArg (fun m=>bnd m _) (copy_loop a y22q _ (fun i ys C hi hy=>?_) (fun ys C=>?_) (by omega))
 ·unfold B_u33f_l0
  simp only
  rw [y2q (show (i : Int) < a.length by omega),y2q (show (0 : Int) ≤ (i : Int) by omega),y2q (show (i : Int) < a.length by omega),Int.toNat_natCast,to_Column _ (ha.2 _ (mem_getD hi)),y8q,y2q (show (0 : Int) ≤ (i : Int) by omega),y2q (show (i : Int) < ys.length by omega),y10q (by omega)]
 ·unfold B_u33f_l0
  exact y15q (Int.lt_irrefl _) _ _
theorem to_IntS (a : (List Int)) (ha : (a.length ≤ 1048576 ∧ ∀ y ∈ a,Rng .i64 y)) : F_u34f a = some a:=by
 unfold F_u34f
 unfold F_u34f_l0
 have hl:=ha.1
 rw [show ((a.length : Int) == (a.length : Int)) = true from by simp]
 rw [br_true,y2q (show (0 : Int) ≤ (a.length : Int) by omega),y2q (show (a.length : Int) ≤ (capN : Int) by simp only [capN]; omega),Int.toNat_natCast]
 refine congrArg (fun m=>bnd m _) (copy_loop a zInt _ (fun i ys C hi hy=>?_) (fun ys C=>?_) (by omega))
 ·unfold B_u34f_l0
  simp only
  rw [y2q (show (i : Int) < a.length by omega),y2q (show (0 : Int) ≤ (i : Int) by omega),y2q (show (i : Int) < a.length by omega),Int.toNat_natCast,y2q (show (0 : Int) ≤ (i : Int) by omega),y2q (show (i : Int) < ys.length by omega),y10q (by omega)]
 ·unfold B_u34f_l0
  exact y15q (Int.lt_irrefl _) _ _
theorem to_Index (a : y16q) (ha : Sm_Index 1048576 a) : F_u35f a = some a:=by
 unfold F_u35f
 obtain ⟨p0,p1,p2,p4⟩:=ha
 rw [to_IntS _ p2,y8q]
 try rfl
theorem to_IndexS (a : (List y16q)) (ha : (a.length ≤ 1048576 ∧ ∀ y ∈ a,Sm_Index 1048576 y)) : F_u36f a = some a:=by
 unfold F_u36f
 unfold F_u36f_l0
 have hl:=ha.1
 rw [show ((a.length : Int) == (a.length : Int)) = true from by simp]
 rw [br_true,y2q (show (0 : Int) ≤ (a.length : Int) by omega),y2q (show (a.length : Int) ≤ (capN : Int) by simp only [capN]; omega),Int.toNat_natCast]
 refine congrArg (fun m=>bnd m _) (copy_loop a y57q _ (fun i ys C hi hy=>?_) (fun ys C=>?_) (by omega))
 ·unfold B_u36f_l0
  simp only
  rw [y2q (show (i : Int) < a.length by omega),y2q (show (0 : Int) ≤ (i : Int) by omega),y2q (show (i : Int) < a.length by omega),Int.toNat_natCast,to_Index _ (ha.2 _ (mem_getD hi)),y8q,y2q (show (0 : Int) ≤ (i : Int) by omega),y2q (show (i : Int) < ys.length by omega),y10q (by omega)]
 ·unfold B_u36f_l0
  exact y15q (Int.lt_irrefl _) _ _
theorem to_Table (a : DLTable) (ha : Sm_LTable 1048576 a) : F_u37f a = some a:=by
 unfold F_u37f
 obtain ⟨p0,p1,p2,p3,p4,p5⟩:=ha
 rw [to_ColumnS _ p3,y8q,to_IntS _ p4,y8q,to_IndexS _ p5,y8q]
 try rfl
theorem to_Pair (a : DPair) (ha : Sm_Pair 1048576 a) : F_u38f a = some a:=by
 unfold F_u38f
 try rfl
def Sm_Value (n : Nat) (a : y0q) : Prop:=Rng .i64 a.1 ∧ Rng .i64 a.2.1 ∧ Rng .i64 a.2.2.1 ∧ a.2.2.2.1.length ≤ n
theorem eq_Value (a : y0q) (ha : Sm_Value 1048576 a) : F_u56f a a = some true:=by
 unfold F_u56f
 simp only [bne_self_eq_false,beq_self_eq_true,Bool.not_true,y43q,y8q]
theorem eq_ValueS (a : (List y0q)) (ha : (a.length ≤ 1048576 ∧ ∀ y ∈ a,Sm_Value 1048576 y)) : F_u57f a a = some true:=by
 unfold F_u57f
 unfold F_u57f_l0
 have hl:=ha.1
 simp only [bne_self_eq_false,y43q]
 have key:=eq_loop a (B:=B_u57f_l0) (fun i C hi=>by
  unfold B_u57f_l0
  simp only
  rw [y2q (show (i : Int) < a.length by omega),y2q (show (0 : Int) ≤ (i : Int) by omega),y2q (show (i : Int) < a.length by omega),y2q (show (0 : Int) ≤ (i : Int) by omega),y2q (show (i : Int) < a.length by omega),y10q (by omega)]
  simp only [Int.toNat_natCast]
  simp only [bne_self_eq_false,beq_self_eq_true,Bool.not_true,y43q,y8q,eq_Value (a.getD i y18q) (ha.2 _ (mem_getD hi))]) (fun C=>by
  unfold B_u57f_l0
  exact y15q (Int.lt_irrefl _) _ _) (n:=((a.length : Nat) : Int).toNat + 1) (by omega) 0 (Nat.zero_le _) (by omega)
 rw [show ((0 : Nat) : Int) = 0 from rfl] at key
 rw [key,y8q,y70q]
theorem eq_Column (a : y11q) (ha : Sm_Column 1048576 a) : F_u58f a a = some true:=by
 unfold F_u58f
 simp only [bne_self_eq_false,beq_self_eq_true,Bool.not_true,y43q,y8q]
theorem eq_ColumnS (a : (List y11q)) (ha : (a.length ≤ 1048576 ∧ ∀ y ∈ a,Sm_Column 1048576 y)) : F_u59f a a = some true:=by
 unfold F_u59f
 unfold F_u59f_l0
 have hl:=ha.1
 simp only [bne_self_eq_false,y43q]
 have key:=eq_loop a (B:=B_u59f_l0) (fun i C hi=>by
  unfold B_u59f_l0
  simp only
  rw [y2q (show (i : Int) < a.length by omega),y2q (show (0 : Int) ≤ (i : Int) by omega),y2q (show (i : Int) < a.length by omega),y2q (show (0 : Int) ≤ (i : Int) by omega),y2q (show (i : Int) < a.length by omega),y10q (by omega)]
  simp only [Int.toNat_natCast]
  simp only [bne_self_eq_false,beq_self_eq_true,Bool.not_true,y43q,y8q,eq_Column (a.getD i y22q) (ha.2 _ (mem_getD hi))]) (fun C=>by
  unfold B_u59f_l0
  exact y15q (Int.lt_irrefl _) _ _) (n:=((a.length : Nat) : Int).toNat + 1) (by omega) 0 (Nat.zero_le _) (by omega)
 rw [show ((0 : Nat) : Int) = 0 from rfl] at key
 rw [key,y8q,y70q]
theorem eq_IntS (a : (List Int)) (ha : (a.length ≤ 1048576 ∧ ∀ y ∈ a,Rng .i64 y)) : F_u60f a a = some true:=by
 unfold F_u60f
 unfold F_u60f_l0
 have hl:=ha.1
 simp only [bne_self_eq_false,y43q]
 have key:=eq_loop a (B:=B_u60f_l0) (fun i C hi=>by
  unfold B_u60f_l0
  simp only
  rw [y2q (show (i : Int) < a.length by omega),y2q (show (0 : Int) ≤ (i : Int) by omega),y2q (show (i : Int) < a.length by omega),y2q (show (0 : Int) ≤ (i : Int) by omega),y2q (show (i : Int) < a.length by omega),y10q (by omega)]
  simp only [Int.toNat_natCast]
  simp only [bne_self_eq_false,beq_self_eq_true,Bool.not_true,y43q,y8q]) (fun C=>by
  unfold B_u60f_l0
  exact y15q (Int.lt_irrefl _) _ _) (n:=((a.length : Nat) : Int).toNat + 1) (by omega) 0 (Nat.zero_le _) (by omega)
 rw [show ((0 : Nat) : Int) = 0 from rfl] at key
 rw [key,y8q,y70q]
theorem eq_Index (a : y16q) (ha : Sm_Index 1048576 a) : F_u61f a a = some true:=by
 unfold F_u61f
 obtain ⟨p0,p1,p2,p4⟩:=ha
 simp only [bne_self_eq_false,beq_self_eq_true,Bool.not_true,y43q,y8q,eq_IntS _ p2]
theorem eq_IndexS (a : (List y16q)) (ha : (a.length ≤ 1048576 ∧ ∀ y ∈ a,Sm_Index 1048576 y)) : F_u62f a a = some true:=by
 unfold F_u62f
 unfold F_u62f_l0
 have hl:=ha.1
 simp only [bne_self_eq_false,y43q]
 have key:=eq_loop a (B:=B_u62f_l0) (fun i C hi=>by
  unfold B_u62f_l0
  simp only
  rw [y2q (show (i : Int) < a.length by omega),y2q (show (0 : Int) ≤ (i : Int) by omega),y2q (show (i : Int) < a.length by omega),y2q (show (0 : Int) ≤ (i : Int) by omega),y2q (show (i : Int) < a.length by omega),y10q (by omega)]
  simp only [Int.toNat_natCast]
  simp only [bne_self_eq_false,beq_self_eq_true,Bool.not_true,y43q,y8q,eq_Index (a.getD i y57q) (ha.2 _ (mem_getD hi))]) (fun C=>by
  unfold B_u62f_l0
  exact y15q (Int.lt_irrefl _) _ _) (n:=((a.length : Nat) : Int).toNat + 1) (by omega) 0 (Nat.zero_le _) (by omega)
 rw [show ((0 : Nat) : Int) = 0 from rfl] at key
 rw [key,y8q,y70q]
def Sm_Table (n : Nat) (a : y6q) : Prop:=Rng .i64 a.1 ∧ a.2.1.length ≤ n ∧ Rng .i64 a.2.2.1 ∧ (a.2.2.2.1.length ≤ n ∧ ∀ y ∈ a.2.2.2.1,Sm_Column n y) ∧ (a.2.2.2.2.1.length ≤ n ∧ ∀ y ∈ a.2.2.2.2.1,Rng .i64 y) ∧ (a.2.2.2.2.2.1.length ≤ n ∧ ∀ y ∈ a.2.2.2.2.2.1,Sm_Index n y)
theorem eq_Table (a : y6q) (ha : Sm_Table 1048576 a) : F_u63f a a = some true:=by
 unfold F_u63f
 obtain ⟨p0,p1,p2,p3,p4,p5⟩:=ha
 simp only [bne_self_eq_false,beq_self_eq_true,Bool.not_true,y43q,y8q,eq_ColumnS _ p3,eq_IntS _ p4,eq_IndexS _ p5]
end Go.Ev.T1
