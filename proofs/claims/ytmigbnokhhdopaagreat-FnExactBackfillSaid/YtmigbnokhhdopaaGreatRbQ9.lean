import Derived.Test.YtmigbnokhhdopaaGreatRbR3
import Derived.Test.YtmigbnokhhdopaaGreatRbMk
set_option linter.unusedSimpArgs false
set_option linter.unusedVariables false
set_option maxRecDepth 100000
namespace Go.Ev.T1
open Go Go.Proofs
variable {t : y7q} {row : List y1q}
theorem cols_of (hl : row.length = t.2.2.2.1.length) {need : Bool} {l : List Int} (h : ∀ j,j < l.length → ColIs t need (l.getD j zInt)) : Cols t row l:=by
 intro id hid
 obtain ⟨j,hj,rfl⟩:=List.mem_iff_getElem.1 hid
 have:=(h j hj).1
 rw [show l.getD j zInt = l[j] by simp [List.getD_eq_getElem?_getD,hj]] at this
 exact ⟨by omega,by rw [hl]; exact idx_lt⟩
noncomputable def rowOf (t : y7q) (p : DPair) : List y1q:=fill t (KVr p.2.1).1 ((KVr p.2.1).1.length / 2)
def PairOK (t : y7q) (p : DPair) : Prop:=RPair t (KVr p.1) (KVr p.2.1)
noncomputable def outs (t : y7q) (k : Nat) (c : List DPair) (n : Nat) : List DPair:=(c.take n).map fun p=>entry t (ix t k) (rowOf t p)
theorem outs_succ {c : List DPair} {k n : Nat} (h : n < c.length) : outs t k c n ++ [entry t (ix t k) (rowOf t (c.getD n ZPair))] = outs t k c (n + 1) :=
 take_map (fun p=>entry t (ix t k) (rowOf t p)) ZPair c h
theorem outs_len {c : List DPair} {k n : Nat} (h : n ≤ c.length) : (outs t k c n).length = n:=by
 simp [outs,Nat.min_eq_left h]
theorem rowOf_len (p : DPair) : (rowOf t p).length = t.2.2.2.1.length:=fill_len _
theorem rowOf_sm (p : DPair) : ∀ v ∈ rowOf t p,v.2.2.2.1.length ≤ 1048576:=fill_sm (kvr_sm p.2.1).2 _
theorem specLoopB (hT : SpecTable t) (hS : Sm_Table 1048576 t) {k : Nat} (hk : k < t.2.2.2.2.2.1.length) {c : List DPair} (hc : c.length ≤ 4000) :
  Ans (F_u39f_l0 c t [] (k : Int) 0) (some (.inl (outs t k c c.length))) (some (.inr ([],5))) (∀ i,i < c.length → PairOK t (c.getD i ZPair)):=by
 have ht:=hS.2.2.2.1.1
 have hkey:=hT.2.2.2.2.2.2.2.2.2.1
 have hco:=(hT.2.2.2.2.2.2.2.2.2.2 k hk).2.2.2.2.2.1
 unfold F_u39f_l0
 refine y35q (fun i=>(c,t,outs t k c i,(k : Int),((i : Nat) : Int))) c.length _ (fun i C hi hb=>?_) (fun C _=>?_) (by omega)
 ·unfold B_u39f_l0
  rw [← outs_succ hi]
  have hl:=outs_len (t:=t) (k:=k) (Nat.le_of_lt hi)
  simp (disch:=omega) only [y10q,Int.toNat_natCast,y106q]
  refine y20q (y4q (by omega) (y4q (by omega) (y4q (by omega) (y13q (specRead hT hS (c.getD i ZPair)) rfl fun hp=>ans_chkn (by simp) (y4q (by omega) (y4q (by omega)
   (y73q (specEntry (row:=rowOf t (c.getD i ZPair)) ht (rowOf_sm _) (ix t k) hco.2.1 hkey.2.1 (cols_of (rowOf_len _) hco.2.2.2) (cols_of (rowOf_len _) hkey.2.2.2)) (y4q (y159q (by simp only [List.length_singleton]; omega)) y37q)))))))) ?_
  simp only [and_true]
  exact Iff.rfl
 ·unfold B_u39f_l0
  exact y14q (by dsimp only; omega) _ _
theorem implLoopB (hT : SpecTable t) (hS : Sm_Table 1048576 t) {k : Nat} (hk : k < t.2.2.2.2.2.1.length) {c : List DPair} (hc : c.length ≤ 4000) :
  Ans (F_u68f_l0 t (k : Int) [] c (c.length : Int) 0) (some (.inl (outs t k c c.length))) (some (.inr ([],5))) (∀ i,i < c.length → PairOK t (c.getD i ZPair)):=by
 have ht:=hS.2.2.2.1.1
 have hkey:=hT.2.2.2.2.2.2.2.2.2.1
 have hco:=(hT.2.2.2.2.2.2.2.2.2.2 k hk).2.2.2.2.2.1
 unfold F_u68f_l0
 refine y35q (fun i=>(t,(k : Int),outs t k c i,c,(c.length : Int),((i : Nat) : Int))) c.length _ (fun i C hi hb=>?_) (fun C _=>?_) (by omega)
 ·unfold B_u68f_l0
  rw [← outs_succ hi]
  have hl:=outs_len (t:=t) (k:=k) (Nat.le_of_lt hi)
  simp (disch:=omega) only [y10q,Int.toNat_natCast,y106q]
  refine y20q (y4q (by omega) (y4q (by omega) (y4q (by omega) (y13q (implRead hT hS (c.getD i ZPair)) rfl fun hp=>ans_chkn (by simp) (y4q (by omega) (y4q (by omega)
   (y73q (implEntry (row:=rowOf t (c.getD i ZPair)) ht (rowOf_sm _) (ix t k) hco.2.1 hkey.2.1 (cols_of (rowOf_len _) hco.2.2.2) (cols_of (rowOf_len _) hkey.2.2.2)) (y4q (y159q (by simp only [List.length_singleton]; omega)) y37q)))))))) ?_
  simp only [and_true]
  exact Iff.rfl
 ·unfold B_u68f_l0
  exact y14q (by dsimp only; omega) _ _
def ixAt (t : y7q) (nm : List UInt8) : Int:=idx (fun c=>decide (c.2.1 = nm)) t.2.2.2.2.2.1
theorem specIx (nm : List UInt8) (ht : t.2.2.2.2.2.1.length ≤ 1048576) : F_u20f t nm = some (ixAt t nm):=by
 unfold F_u20f F_u20f_l0
 refine Eq.trans (bnd_eq (idx_loop (xs:=t.2.2.2.2.2.1) (z:=y51q) (B:=B_u20f_l0) (fun i=>(nm,t,((i : Nat) : Int))) (fun i=>.inr ((i : Nat) : Int)) (.inl ()) (fun i C hi=>?_) (fun C=>?_) (by omega))) (idx_some _ _)
 ·unfold B_u20f_l0
  simp (disch:=omega) only [y10q,Int.toNat_natCast,y42q,br_if,if_pos,decide_eq_true_eq]
 ·unfold B_u20f_l0
  exact y14q (by simp) _ _
theorem implIx (nm : List UInt8) (ht : t.2.2.2.2.2.1.length ≤ 1048576) : F_slices_IndexFunc_Index t.2.2.2.2.2.1 (nm,()) = some (ixAt t nm):=by
 unfold F_slices_IndexFunc_Index F_slices_IndexFunc_Index_l0
 refine Eq.trans (bnd_eq (idx_loop (xs:=t.2.2.2.2.2.1) (z:=y51q) (B:=B_slices_IndexFunc_Index_l0) (fun i=>(t.2.2.2.2.2.1,(nm,()),(t.2.2.2.2.2.1.length : Int),((i : Nat) : Int))) (fun i=>.inr ((i : Nat) : Int)) (.inl ()) (fun i C hi=>?_) (fun C=>?_) (by omega))) (idx_some _ _)
 ·unfold B_slices_IndexFunc_Index_l0 F_u55f
  simp (disch:=omega) only [y10q,Int.toNat_natCast,y42q,br_if,if_pos,y5q,decide_eq_true_eq]
 ·unfold B_slices_IndexFunc_Index_l0
  exact y14q (by simp) _ _
open Classical in
noncomputable def backOf (t : y7q) (nm : List UInt8) (c : List DPair) : List DPair × Int :=
 if SpecTable t then (if (c.length : Int) > 4000 then ([],1) else if ixAt t nm < 0 then ([],14) else if ∀ i,i < c.length → PairOK t (c.getD i ZPair) then (outs t (ixAt t nm).toNat c c.length,0) else ([],5)) else ([],1)
theorem implTable' (hs : Sm_Table 1048576 t) : Ans (F_u54f t) (some true) (some false) (SpecTable t):=y20q (implTable hs) (table_iff t).symm
theorem ix_ok {nm : List UInt8} (h : ¬ ixAt t nm < 0) : ∃ k : Nat,ixAt t nm = (k : Int) ∧ k < t.2.2.2.2.2.1.length:=by
 have : ixAt t nm < t.2.2.2.2.2.1.length:=idx_lt
 exact ⟨(ixAt t nm).toNat,by omega,by omega⟩
theorem specBack (hs : Sm_Table 1048576 t) (nm : List UInt8) (c : List DPair) : F_u39f t nm c = some (backOf t nm c):=by
 unfold F_u39f backOf
 by_cases hT : SpecTable t
 ·rw [(specTable hs).1 hT,y5q,if_pos hT]
  show br (decide ((c.length : Int) > 4000)) _ _ = _
  by_cases h4 : (c.length : Int) > 4000
  ·rw [y2q h4,if_pos h4]
  ·rw [y14q h4,if_neg h4,specIx nm hs.2.2.2.2.2.1,y5q]
   by_cases hi : ixAt t nm < 0
   ·rw [y2q hi,if_pos hi]
   ·rw [y14q hi,if_neg hi]
    obtain ⟨k,e,hk⟩:=ix_ok hi
    rw [e]
    have hL:=specLoopB hT hs hk (c:=c) (by omega)
    by_cases hp : ∀ i,i < c.length → PairOK t (c.getD i ZPair)
    ·rw [hL.1 hp,if_pos hp]; rfl
    ·rw [hL.2 hp,if_neg hp]; rfl
 ·rw [(specTable hs).2 hT,y5q,if_neg hT]
  rfl
theorem implBack (hs : Sm_Table 1048576 t) (nm : List UInt8) (c : List DPair) : F_u68f t nm c = some (backOf t nm c):=by
 unfold F_u68f backOf
 by_cases hT : SpecTable t
 ·rw [(implTable' hs).1 hT,y5q,if_pos hT]
  show br (decide ((c.length : Int) > 4000)) _ _ = _
  by_cases h4 : (c.length : Int) > 4000
  ·rw [y2q h4,if_pos h4]
  ·rw [y14q h4,if_neg h4,implIx nm hs.2.2.2.2.2.1,y5q]
   by_cases hi : ixAt t nm < 0
   ·rw [y2q hi,if_pos hi]
   ·rw [y14q hi,if_neg hi]
    obtain ⟨k,e,hk⟩:=ix_ok hi
    rw [e]
    have hL:=implLoopB hT hs hk (c:=c) (by omega)
    by_cases hp : ∀ i,i < c.length → PairOK t (c.getD i ZPair)
    ·rw [hL.1 hp,if_pos hp]; rfl
    ·rw [hL.2 hp,if_neg hp]; rfl
 ·rw [(implTable' hs).2 hT,y5q,if_neg hT]
  rfl
theorem KB_le (l : List KV) : (KB l).1.length ≤ 3232:=by
 unfold KB
 split
 ·rename_i h
  have:=flat_le' l h.2
  have:=h.1
  show (l.flatMap encV).length ≤ 3232
  omega
 ·simp
theorem back_sm {nm : List UInt8} {c : List DPair} : (backOf t nm c).1.length ≤ 1048576 ∧ ∀ y ∈ (backOf t nm c).1,Sm_Pair 1048576 y:=by
 have hn : (([] : List DPair),(1 : Int)).1.length ≤ 1048576 ∧ ∀ y ∈ ([] : List DPair),Sm_Pair 1048576 y:=⟨by decide,fun y hy=>absurd hy (by simp)⟩
 unfold backOf
 split
 ·split
  ·exact hn
  ·split
   ·exact hn
   ·split
    ·rename_i h4 _ _
     refine ⟨by rw [outs_len (Nat.le_refl _)]; omega,fun y hy=>?_⟩
     unfold outs at hy
     obtain ⟨p,_,rfl⟩:=List.mem_map.1 hy
     refine ⟨?_,by simp [entry]⟩
     exact Nat.le_trans (KB_le _) (by decide)
    ·exact hn
 ·exact hn
theorem law_Backfill (a : DLTable) (ha : Sm_LTable maxLen a) (b : List UInt8) (hb : b.length ≤ maxLen) (c : List DPair) (hc : c.length ≤ maxLen ∧ ∀ y ∈ c,Sm_Pair maxLen y) : F_u84f a b c = some true:=by
 unfold F_u84f
 by_cases hbl : (b.length : Int) > 1048576
 ·exact y2q hbl _ _
 rw [y14q hbl]
 obtain ⟨r,hr,h⟩:=sz_Table a 1048576 (by decide) (by decide) ha
 rw [hr,y5q]
 rcases h with rfl | ⟨r0,r1,hs⟩
 ·exact y2q (by decide) _ _
 rw [y14q (by omega)]
 obtain ⟨q,hq,h⟩:=sz_PairS c r (by omega) (by omega) hc
 rw [hq,y5q]
 rcases h with rfl | ⟨q0,q1,hv⟩
 ·exact y2q (by decide) _ _
 rw [y14q (by omega)]
 have hs' : Sm_Table 1048576 a:=hs
 have h1:=specBack hs' b c
 have h2:=implBack hs' b c
 have h3:=back_sm (t:=a) (nm:=b) (c:=c)
 obtain ⟨k1,x1,x2,x3,e1,g1,g1'⟩:=mkx_Table a 1 hs' (by decide) (by decide)
 obtain ⟨k0,y1,e0,f0,g0,g0'⟩:=mk_PairS c k1 hv (by omega) (by have : (MkMax : Int) = MkMax:=rfl; unfold MkMax; omega)
 obtain ⟨k2,z1,e2,f2,g2,g2'⟩:=mk_PairS (backOf a b c).1 1 h3 (by decide) (by decide)
 have n1 : decide (k0 < 0) = false:=decide_eq_false (by omega)
 have n2 : decide (k2 < 0) = false:=decide_eq_false (by omega)
 simp only [to_Table a hs,to_PairS c hv,y5q,h1,h2,eq_PairS _ h3,eq_Table (a : y7q) hs',eq_PairS c hv,e1,e0,e2,f2,n1,n2,beq_self_eq_true,bne_self_eq_false,Bool.not_true,y44q]
end Go.Ev.T1
