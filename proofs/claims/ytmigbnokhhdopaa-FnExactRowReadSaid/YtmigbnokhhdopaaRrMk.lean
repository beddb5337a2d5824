import Derived.Test.YtmigbnokhhdopaaRrSz
import Derived.Test.YtmigbnokhhdopaaRrEvG
set_option linter.unusedSimpArgs false
set_option linter.unusedVariables false
namespace Go.Ev.T1
open Go Go.Proofs
theorem mk_text (k : Int) (h0 : 0 ≤ k) (hk : k ≤ 9000000000000000000) : ∃ t,F_u64f k = some t:=by
 unfold F_u64f
 by_cases h : k ≤ 0
 ·exact ⟨_,y2q h _ _⟩
 rw [y15q h]
 unfold F_u64f_l0
 obtain ⟨t,e,g⟩:=text_loop (B:=B_u64f_l0) (fun k=>UInt8.ofNat (IntKind.u8.wrap (IntKind.i64.wrap (48 + Int.tmod k 10))).toNat) (fun k s C hk hk2 hs=>by
   unfold B_u64f_l0
   have hd : k.tdiv 10 = k / 10:=Int.tdiv_eq_ediv_of_nonneg (by omega)
   simp only
   rw [y2q (show k > 0 by omega),not10,br_true,y2q (by simp only [List.length_map,List.length_cons,List.length_nil,capN]; omega),br_true]
   rw [y27q (x:=k.tdiv 10) (by rw [hd]; omega) (by rw [hd]; omega)]
   rfl) (fun s C=>y15q (Int.lt_irrefl 0) _ _) 19 k [] (k.toNat + 1) h0 hk (by omega) (by decide) (by omega)
 rw [e,y8q]
 exact ⟨_,y2q (by simp only [List.length_cons,List.length_nil,capN]; omega) _ _⟩
theorem mks_ColumnS : MkStepo y22q B_u65f_l0 4 (fun y=>Sm_Column 1048576 y):=by
 intro i x k hP h0 hk hi
 have hP : Sm_Column 1048576 x:=hP
 unfold MkMax at hk
 have w2 : IntKind.i64.wrap (k + 1) = k + 1:=y27q (by omega) (by omega)
 obtain ⟨t3,e3⟩:=mk_text (k + 1) (by omega) (by omega)
 have w4 : IntKind.i64.wrap (k + 1 + 1) = k + 1 + 1:=y27q (by omega) (by omega)
 have w6 : IntKind.i64.wrap (k + 1 + 1 + 1) = k + 1 + 1 + 1:=y27q (by omega) (by omega)
 have w8 : IntKind.i64.wrap (k + 1 + 1 + 1 + 1) = k + 1 + 1 + 1 + 1:=y27q (by omega) (by omega)
 have b1 : decide ((0 : Int) ≤ (i : Int)) = true:=decide_eq_true (by omega)
 refine ⟨k + 1 + 1 + 1 + 1,(k,t3,k + 1 + 1,((k + 1 + 1 + 1).tmod 3 == 0),()),fun l C hi hx=>?_,by omega,by omega⟩
 have b2 : decide ((i : Int) < (l.length : Int)) = true:=decide_eq_true (by omega)
 unfold B_u65f_l0
 simp only [b1,b2,hx,Int.toNat_natCast,List.length_set,getD_setl hi,List.set_set,not3,br_true,y43q,y8q,y70q,beq_self_eq_true,bne_self_eq_false,Bool.not_true,y10q (show i < 9223372036854775807 by omega),w2,e3,w4,w6,w8]
 try rfl
theorem mk_ColumnS : MKo F_u65f 4194304 (fun a=>(a.length ≤ 1048576 ∧ ∀ y ∈ a,Sm_Column 1048576 y)):=by
 intro a k hP h0 hk
 unfold MkMax at hk
 obtain ⟨k',l',e1,g1,g2⟩:=mk_sliceo mks_ColumnS (by decide) (fun l k C=>by unfold B_u65f_l0; exact y15q (Int.lt_irrefl _) _ _) a k hP h0 (by unfold MkMax; omega)
 refine ⟨k',l', ?_,g1,by omega⟩
 unfold F_u65f F_u65f_l0; rw [e1]; rfl
theorem mks_IntS : MkStepo (0 : Int) B_u66f_l0 1 (fun y=>Rng .i64 y):=by
 intro i x k hP h0 hk hi
 have hP : Rng .i64 x:=hP
 unfold MkMax at hk
 have w2 : IntKind.i64.wrap (k + 1) = k + 1:=y27q (by omega) (by omega)
 have b1 : decide ((0 : Int) ≤ (i : Int)) = true:=decide_eq_true (by omega)
 refine ⟨k + 1,k,fun l C hi hx=>?_,by omega,by omega⟩
 have b2 : decide ((i : Int) < (l.length : Int)) = true:=decide_eq_true (by omega)
 unfold B_u66f_l0
 simp only [b1,b2,hx,Int.toNat_natCast,List.length_set,getD_setl hi,List.set_set,not3,br_true,y43q,y8q,y70q,beq_self_eq_true,bne_self_eq_false,Bool.not_true,y10q (show i < 9223372036854775807 by omega),w2]
 try rfl
theorem mk_IntS : MKo F_u66f 1048576 (fun a=>(a.length ≤ 1048576 ∧ ∀ y ∈ a,Rng .i64 y)):=by
 intro a k hP h0 hk
 unfold MkMax at hk
 obtain ⟨k',l',e1,g1,g2⟩:=mk_sliceo mks_IntS (by decide) (fun l k C=>by unfold B_u66f_l0; exact y15q (Int.lt_irrefl _) _ _) a k hP h0 (by unfold MkMax; omega)
 refine ⟨k',l', ?_,g1,by omega⟩
 unfold F_u66f F_u66f_l0; rw [e1]; rfl
theorem mks_IndexS : MkStepo ZoIndex B_u67f_l0 1048581 (fun y=>Sm_Index 1048576 y):=by
 intro i x k hP h0 hk hi
 have hP : Sm_Index 1048576 x:=hP
 unfold MkMax at hk
 have w2 : IntKind.i64.wrap (k + 1) = k + 1:=y27q (by omega) (by omega)
 obtain ⟨t3,e3⟩:=mk_text (k + 1) (by omega) (by omega)
 have w4 : IntKind.i64.wrap (k + 1 + 1) = k + 1 + 1:=y27q (by omega) (by omega)
 obtain ⟨k5,m5,e5,g5,g5'⟩:=mk_IntS x.2.2.1 (k + 1 + 1) (hP.2.2.1) (by omega) (by unfold MkMax; omega)
 have n5 : decide (k5 < 0) = false:=decide_eq_false (by omega)
 have w7 : IntKind.i64.wrap (k5 + 1) = k5 + 1:=y27q (by omega) (by omega)
 have w9 : IntKind.i64.wrap (k5 + 1 + 1) = k5 + 1 + 1:=y27q (by omega) (by omega)
 have w11 : IntKind.i64.wrap (k5 + 1 + 1 + 1) = k5 + 1 + 1 + 1:=y27q (by omega) (by omega)
 have b1 : decide ((0 : Int) ≤ (i : Int)) = true:=decide_eq_true (by omega)
 refine ⟨k5 + 1 + 1 + 1,(k,t3,m5,((k5).tmod 3 == 0),k5 + 1,((k5 + 1 + 1).tmod 3 == 0),()),fun l C hi hx=>?_,by omega,by omega⟩
 have b2 : decide ((i : Int) < (l.length : Int)) = true:=decide_eq_true (by omega)
 unfold B_u67f_l0
 simp only [b1,b2,hx,Int.toNat_natCast,List.length_set,getD_setl hi,List.set_set,not3,br_true,y43q,y8q,y70q,beq_self_eq_true,bne_self_eq_false,Bool.not_true,y10q (show i < 9223372036854775807 by omega),w2,e3,w4,e5,n5,w7,w9,w11]
 try rfl
theorem mk_IndexS : MKo F_u67f 1099516870656 (fun a=>(a.length ≤ 1048576 ∧ ∀ y ∈ a,Sm_Index 1048576 y)):=by
 intro a k hP h0 hk
 unfold MkMax at hk
 obtain ⟨k',l',e1,g1,g2⟩:=mk_sliceo mks_IndexS (by decide) (fun l k C=>by unfold B_u67f_l0; exact y15q (Int.lt_irrefl _) _ _) a k hP h0 (by unfold MkMax; omega)
 refine ⟨k',l', ?_,g1,by omega⟩
 unfold F_u67f F_u67f_l0; rw [e1]; rfl
theorem mkx_Table (a : y6q) (k : Int) (hP : Sm_Table 1048576 a) (h0 : 0 ≤ k) (hk : k + 1099522113536 ≤ MkMax) : ∃ k' m1 m2 m3,F_u68f a k = some (k',(a.1,a.2.1,a.2.2.1,m1,m2,m3,())) ∧ k ≤ k' ∧ k' ≤ k + 1099522113536:=by
 unfold MkMax at hk
 obtain ⟨k1,m1,e1,g1,g1'⟩:=mk_ColumnS a.2.2.2.1 (k) (hP.2.2.2.1) (by omega) (by unfold MkMax; omega)
 have n1 : decide (k1 < 0) = false:=decide_eq_false (by omega)
 obtain ⟨k2,m2,e2,g2,g2'⟩:=mk_IntS a.2.2.2.2.1 (k1) (hP.2.2.2.2.1) (by omega) (by unfold MkMax; omega)
 have n2 : decide (k2 < 0) = false:=decide_eq_false (by omega)
 obtain ⟨k3,m3,e3,g3,g3'⟩:=mk_IndexS a.2.2.2.2.2.1 (k2) (hP.2.2.2.2.2) (by omega) (by unfold MkMax; omega)
 have n3 : decide (k3 < 0) = false:=decide_eq_false (by omega)
 refine ⟨k3,m1,m2,m3, ?_,by omega,by omega⟩
 unfold F_u68f
 simp only [br_true,y43q,y8q,y70q,beq_self_eq_true,bne_self_eq_false,Bool.not_true,e1,n1,e2,n2,e3,n3]
 try rfl
theorem mk_Table : MKo F_u68f 1099522113536 (fun y=>Sm_Table 1048576 y):=by
 intro a k hP h0 hk
 obtain ⟨k',m1,m2,m3,e,g⟩:=mkx_Table a k hP h0 hk
 exact ⟨k',_,e,g⟩
theorem mks_ValueS : MkStep y18q y18q B_u69f_l0 B_u70f_l0 4 (fun y=>Sm_Value 1048576 y):=by
 intro i x k hP h0 hk hi
 have hP : Sm_Value 1048576 x:=hP
 unfold MkMax at hk
 have w2 : IntKind.i64.wrap (k + 1) = k + 1:=y27q (by omega) (by omega)
 have w4 : IntKind.i64.wrap (k + 1 + 1) = k + 1 + 1:=y27q (by omega) (by omega)
 have w6 : IntKind.i64.wrap (k + 1 + 1 + 1) = k + 1 + 1 + 1:=y27q (by omega) (by omega)
 obtain ⟨t7,e7⟩:=mk_text (k + 1 + 1 + 1) (by omega) (by omega)
 have w8 : IntKind.i64.wrap (k + 1 + 1 + 1 + 1) = k + 1 + 1 + 1 + 1:=y27q (by omega) (by omega)
 have b1 : decide ((0 : Int) ≤ (i : Int)) = true:=decide_eq_true (by omega)
 refine ⟨k + 1 + 1 + 1 + 1,(k,k + 1,k + 1 + 1,t7,()),fun l C hi hx=>?_,fun l C hi hx=>?_,by omega,by omega⟩
 ·have b2 : decide ((i : Int) < (l.length : Int)) = true:=decide_eq_true (by omega)
  unfold B_u69f_l0
  simp only [b1,b2,hx,Int.toNat_natCast,List.length_set,getD_setl hi,List.set_set,not3,br_true,y43q,y8q,y70q,beq_self_eq_true,bne_self_eq_false,Bool.not_true,y10q (show i < 9223372036854775807 by omega),w2,w4,w6,e7,w8]
  try rfl
 ·have b2 : decide ((i : Int) < (l.length : Int)) = true:=decide_eq_true (by omega)
  unfold B_u70f_l0
  simp only [b1,b2,hx,Int.toNat_natCast,List.length_set,getD_setl hi,List.set_set,not3,br_true,y43q,y8q,y70q,beq_self_eq_true,bne_self_eq_false,Bool.not_true,y10q (show i < 9223372036854775807 by omega),w2,w4,w6,e7,w8]
  try rfl
theorem mk_ValueS : MK F_u69f F_u70f 4194304 (fun a=>(a.length ≤ 1048576 ∧ ∀ y ∈ a,Sm_Value 1048576 y)):=by
 intro a k hP h0 hk
 unfold MkMax at hk
 obtain ⟨k',l',e1,e2,g1,g2⟩:=mk_slice mks_ValueS (by decide) (fun l k C=>by unfold B_u69f_l0; exact y15q (Int.lt_irrefl _) _ _) (fun l k C=>by unfold B_u70f_l0; exact y15q (Int.lt_irrefl _) _ _) a k hP h0 (by unfold MkMax; omega)
 refine ⟨k',l', ?_, ?_,g1,by omega⟩
 ·unfold F_u69f F_u69f_l0; rw [e1]; rfl
 ·unfold F_u70f F_u70f_l0; rw [e2]; rfl
end Go.Ev.T1
