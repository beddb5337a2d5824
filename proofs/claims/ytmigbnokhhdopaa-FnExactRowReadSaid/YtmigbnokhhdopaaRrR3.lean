import Derived.Test.YtmigbnokhhdopaaRrR2
set_option linter.unusedSimpArgs false
set_option linter.unusedVariables false
set_option maxRecDepth 100000
namespace Go.Ev.T1
open Go Go.Proofs
variable {t : y6q} {row kl vl : List y0q}
theorem pick_at {ids : List Int} {j : Nat} (hj : j < ids.length) : vAt (pick t row ids) j = vAt row (colAt t (ids.getD j zInt)).toNat:=by
 simp [pick,List.getD_eq_getElem?_getD,hj]
theorem drop_at (l : List y0q) (j : Nat) : vAt (List.drop (0 + Int.toNat 2) (List.take (0 + l.length) l)) j = vAt l (j + 2):=by
 show (List.drop 2 (List.take (0 + l.length) l)).getD j y18q = l.getD (j + 2) y18q
 rw [Nat.zero_add,List.take_length]
 simp [List.getD_eq_getElem?_getD,List.getElem?_drop,Nat.add_comm]
theorem even_iff (n : Nat) : (((n : Int)).tmod 2 = 0) ↔ n % 2 = 0:=by
 rw [Int.tmod_eq_emod_of_nonneg (by omega)]
 omega
theorem keyCols (hT : SpecTable t) (hl : row.length = t.2.2.2.1.length) : Cols t row t.2.2.2.2.1:=by
 intro id hid
 obtain ⟨j,hj,rfl⟩:=List.mem_iff_getElem.1 hid
 obtain ⟨c1,c2,_⟩:=key_at hT hj
 have : t.2.2.2.2.1.getD j zInt = t.2.2.2.2.1[j]:=by simp [List.getD_eq_getElem?_getD,hj]
 rw [this] at c1 c2
 exact ⟨c1,by rw [hl]; exact c2⟩
theorem pair_kinds (hT : SpecTable t) {K V : List y0q × Int} (h : RPair t K V) : ∀ j,j < t.2.2.2.2.1.length → (vAt K.1 (j + 2)).1 = (t.2.2.2.1.getD (colAt t (t.2.2.2.2.1.getD j zInt)).toNat y22q).2.2.1:=fun j hj=>by
 obtain ⟨_,_,_,_,_,_,_,⟨hl,hf⟩,hs⟩:=h
 obtain ⟨c1,c2,c3⟩:=key_at hT hj
 obtain ⟨g1,g2,g3⟩:=hf (colAt t (t.2.2.2.2.1.getD j zInt)).toNat (by omega)
 rw [c3] at g3
 rw [← (hs j hj).1]
 refine g2 fun h0=>?_
 exact absurd (g3 h0) (by decide)
theorem specRead (hT : SpecTable t) (hS : Sm_Table 1048576 t) (p : DPair) :
  Ans (F_u31f t p) (some (fill t (KVr p.2.1).1 ((KVr p.2.1).1.length / 2),0)) (some ([],5)) (RPair t (KVr p.1) (KVr p.2.1)):=by
 have ht:=hS.2.2.2.1.1
 have hpk:=hT.2.2.2.2.2.2.2.2.2.1.2.1
 unfold F_u31f
 rw [(specTable hS).1 hT,y8q]
 refine ans_brf ?_
 obtain ⟨kN,kS⟩:=kvr_sm p.1
 obtain ⟨vN,vS⟩:=kvr_sm p.2.1
 have hK:=specKV p.1
 have hV:=specKV p.2.1
 generalize KVr p.1 = K at *
 generalize KVr p.2.1 = V at *
 rw [hK,hV,y8q,y8q]
 simp (disch:=omega) only [wrap_two,Int.toNat_natCast,y130q,y44q,eqI_dec,eqS_dec,andB_true,andB_dec,not_dec]
 refine y21q (y5q fun h1=>y5q fun h2=>y5q fun h3=>y4q (by decide) (y5q fun h4=>y4q (by omega) (y4q (by omega) (y98q (v:=num t.1) rfl (y5q fun h5=>y4q (by omega) (y4q (by omega) (y98q (v:=num 0) rfl (y5q fun h6=>y4q trivial (y4q (by omega) (y4q (by unfold capN; omega)
  (y13q (specFill ht (N:=V.1.length / 2) (by omega) (by have:=(even_iff V.1.length).1 (Decidable.not_not.1 h4); omega)) rfl fun h7=>y13q (specRowOK ⟨by rw [fill_len]; exact ht,fill_sm vS _⟩) rfl fun h8=>ans_brf (y26q (specSame (t:=t) (kl:=K.1) (row:=fill t V.1 (V.1.length / 2)) hT ht (fill_len _) (by omega) (by omega)) rfl rfl)))))))))))) ?_
 unfold RPair EqN
 simp only [Decidable.not_not,even_iff]
 have e : ((K.1.length : Int) = ((t.2.2.2.2.1.length + 2 : Nat) : Int)) ↔ K.1.length = t.2.2.2.2.1.length + 2:=by omega
 rw [e]
 exact Iff.rfl
theorem implRead (hT : SpecTable t) (hS : Sm_Table 1048576 t) (p : DPair) :
  Ans (F_u55f t p) (some (fill t (KVr p.2.1).1 ((KVr p.2.1).1.length / 2),0)) (some ([],5)) (RPair t (KVr p.1) (KVr p.2.1)):=by
 have ht:=hS.2.2.2.1.1
 have hpk:=hT.2.2.2.2.2.2.2.2.2.1.2.1
 unfold F_u55f
 rw [(implTable hS).1 ((table_iff t).1 hT),y8q]
 refine ans_brf ?_
 obtain ⟨kN,kS⟩:=kvr_sm p.1
 obtain ⟨vN,vS⟩:=kvr_sm p.2.1
 have hK:=implKV p.1
 have hV:=implKV p.2.1
 generalize KVr p.1 = K at *
 generalize KVr p.2.1 = V at *
 rw [hK,y8q]
 simp (disch:=omega) only [wrap_two',Int.toNat_natCast,y130q,y44q,eqI_dec,eqS_dec,andB_true,andB_dec,not_dec]
 refine y21q (y5q fun h1=>y5q fun h3=>y4q (by omega) (y4q (by omega) (y98q (v:=num t.1) rfl (y5q fun h5=>y4q (by omega) (y4q (by omega) (y98q (v:=num 0) rfl (y5q fun h6 =>
  y13q (implKinds hT ht p (by omega) (by omega)) rfl fun h7=>y98q hV (y5q fun h2=>y4q (by decide) (y5q fun h4=>y4q trivial (y4q (Int.natCast_nonneg _) (y4q (show (t.2.2.2.1.length : Int) ≤ (capN : Int) by unfold capN; omega)
   (y13q (implFill ht (N:=V.1.length / 2) (by omega) (by have:=(even_iff V.1.length).1 (Decidable.not_not.1 h4); omega)) rfl fun h8=>y13q (implRowOK ⟨by rw [fill_len]; exact ht,fill_sm vS _⟩) rfl fun h9=>ans_brf
    (y98q (implPick ht t.2.2.2.2.1 (by omega) (keyCols hT (fill_len _))) (y4q (by omega) (y4q (show (2 : Int) ≤ (K.1.length : Int) by omega) (y26q (implEqual (by rw [pick_len]; omega) (by rw [pick_len]; simp; omega)) rfl rfl)))))))))))))))) ?_
 constructor
 ·rintro ⟨h1,h3,h5,h6,h7,h2,h4,h8,h9,h10⟩
  refine ⟨Decidable.not_not.1 h1,Decidable.not_not.1 h2,by omega,(even_iff _).1 (Decidable.not_not.1 h4),Classical.not_not.1 h5,Classical.not_not.1 h6,h8,h9,fun j hj=>?_⟩
  have:=h10 j (by rw [pick_len]; exact hj)
  rw [pick_at hj,drop_at] at this
  exact this
 ·intro h
  have hk:=pair_kinds hT h
  obtain ⟨h1,h2,h3,h4,h5,h6,h8,h9,h10⟩:=h
  refine ⟨fun g=>g h1,fun g=>g (by omega),fun g=>g h5,fun g=>g h6,hk,fun g=>g h2,fun g=>g ((even_iff _).2 h4),h8,h9,fun j hj=>?_⟩
  rw [pick_len] at hj
  rw [pick_at hj,drop_at]
  exact h10 j hj
end Go.Ev.T1
