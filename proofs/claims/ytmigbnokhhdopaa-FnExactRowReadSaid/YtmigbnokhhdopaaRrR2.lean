import Derived.Test.YtmigbnokhhdopaaRrR1
set_option linter.unusedSimpArgs false
set_option linter.unusedVariables false
set_option maxRecDepth 100000
namespace Go.Ev.T1
open Go Go.Proofs
def EqN (v : y0q) (n : Int) : Prop:=v.1 = 2 ∧ v.2.1 = n ∧ v.2.2.1 = 0 ∧ v.2.2.2.1 = []
def SameV (a b : y0q) : Prop:=a.1 = b.1 ∧ a.2.1 = b.2.1 ∧ a.2.2.1 = b.2.2.1 ∧ a.2.2.2.1 = b.2.2.2.1
theorem kvr_sm (s : List UInt8) : (KVr s).1.length ≤ 16 ∧ ∀ v ∈ (KVr s).1,v.2.2.2.1.length ≤ 1048576:=by
 rcases kvr_cases s with ⟨l,h1,h2,h3,e⟩ | e
 ·rw [e]
  refine ⟨h3,fun v hv=>?_⟩
  have:=h2.1 v hv
  rcases this with h | h | h | h | h | h
  ·rw [h.2.2.2]; decide
  ·rw [h.2.2.2.2]; decide
  ·rw [h.2.2.2.2]; decide
  ·rw [h.2.2.2.2.2.2]; decide
  ·have:=h.2.2.2.2; omega
  ·rw [h.2.2.2.2]; decide
 ·rw [e]
  exact ⟨by decide,fun v hv=>absurd hv (by simp)⟩
def RPair (t : y6q) (K V : List y0q × Int) : Prop :=
 K.2 = 0 ∧ V.2 = 0 ∧ K.1.length = t.2.2.2.2.1.length + 2 ∧ V.1.length % 2 = 0 ∧ EqN (vAt K.1 0) t.1 ∧ EqN (vAt K.1 1) 0 ∧ (∀ j,j < V.1.length / 2 → PStep V.1 j) ∧
 RowFits t (fill t V.1 (V.1.length / 2)) ∧ ∀ j,j < t.2.2.2.2.1.length → SameV (vAt (fill t V.1 (V.1.length / 2)) (colAt t (t.2.2.2.2.1.getD j zInt)).toNat) (vAt K.1 (j + 2))
variable {t : y6q} {row kl vl : List y0q}
theorem wrap_two' (x : Nat) (h : x ≤ 1048576) : IntKind.i64.wrap (2 + (x : Int)) = ((x + 2 : Nat) : Int):=by
 rw [y27q (by omega) (by omega)]
 omega
theorem key_at (hT : SpecTable t) {j : Nat} (hj : j < t.2.2.2.2.1.length) : 0 ≤ colAt t (t.2.2.2.2.1.getD j zInt) ∧ colAt t (t.2.2.2.2.1.getD j zInt) < t.2.2.2.1.length ∧ (t.2.2.2.1.getD (colAt t (t.2.2.2.2.1.getD j zInt)).toNat y22q).2.2.2.1 = true:=by
 have h:=hT.2.2.2.2.2.2.2.2.2.1.2.2.2 j hj
 exact ⟨Int.not_lt.1 h.1,idx_lt,h.2 rfl⟩
theorem specSame (hT : SpecTable t) (ht : t.2.2.2.1.length ≤ 1048576) (hl : row.length = t.2.2.2.1.length) (hk : kl.length = t.2.2.2.2.1.length + 2) (hk2 : kl.length ≤ 1000) :
  Ans (F_u31f_l2 t [] kl row 0) (some (.inl row)) (some (.inr ([],5))) (∀ j,j < t.2.2.2.2.1.length → SameV (vAt row (colAt t (t.2.2.2.2.1.getD j zInt)).toNat) (vAt kl (j + 2))):=by
 unfold F_u31f_l2
 refine y36q (fun j=>(t,([] : List y0q),kl,row,((j : Nat) : Int))) _ _ (fun j C hj hb=>?_) (fun C _=>?_) (by omega)
 ·unfold B_u31f_l2
  obtain ⟨c1,c2,c3⟩:=key_at hT hj
  simp (disch:=omega) only [y10q,wrap_two,Int.toNat_natCast,eqI_dec,eqS_dec,andB_true,andB_dec,not_dec]
  refine y21q (y4q (by omega) (y4q (by omega) (y4q (by omega) (y98q (specCol t _ ht) (y4q c1 (y4q (by rw [hl]; exact c2) (y4q (by omega) (y4q (by omega) (y5q fun h=>y39q))))))))) ?_
  simp only [and_true,Decidable.not_not]
  exact Iff.rfl
 ·unfold B_u31f_l2
  exact y15q (by dsimp only; omega) _ _
theorem implKinds (hT : SpecTable t) (ht : t.2.2.2.1.length ≤ 1048576) (p : DPair) (hk : kl.length = t.2.2.2.2.1.length + 2) (hk2 : kl.length ≤ 1000) :
  Ans (F_u55f_l0 t p kl t.2.2.2.2.1 (t.2.2.2.2.1.length : Int) 0) (some (.inl (t,p,kl))) (some (.inr ([],5))) (∀ j,j < t.2.2.2.2.1.length → (vAt kl (j + 2)).1 = (t.2.2.2.1.getD (colAt t (t.2.2.2.2.1.getD j zInt)).toNat y22q).2.2.1):=by
 unfold F_u55f_l0
 refine y36q (fun j=>(t,p,kl,t.2.2.2.2.1,(t.2.2.2.2.1.length : Int),((j : Nat) : Int))) t.2.2.2.2.1.length _ (fun j C hj hb=>?_) (fun C _=>?_) (by omega)
 ·unfold B_u55f_l0
  obtain ⟨c1,c2,c3⟩:=key_at hT hj
  simp (disch:=omega) only [y10q,wrap_two',Int.toNat_natCast,y130q]
  refine y21q (y4q (by omega) (y4q (by omega) (y4q (by omega) (y4q (by omega) (y4q (by omega) (y98q (implCol t _ ht) (y4q c1 (y4q c2 (y5q fun h=>y39q))))))))) ?_
  simp only [and_true,Decidable.not_not]
 ·unfold B_u55f_l0
  exact y15q (by dsimp only; omega) _ _
theorem implEqual {a b : List y0q} (ha : a.length ≤ 1048576) (hab : a.length = b.length) : Ans (F_slices_Equal_Value a b) (some true) (some false) (∀ j,j < a.length → SameV (vAt a j) (vAt b j)):=by
 unfold F_slices_Equal_Value
 simp only [y130q]
 rw [y15q (by omega)]
 refine y26q (a:=.inl ()) (b:=.inr false) ?_ rfl rfl
 unfold F_slices_Equal_Value_l0
 refine y36q (fun j=>(a,b,(a.length : Int),((j : Nat) : Int))) a.length _ (fun j C hj hb=>?_) (fun C _=>?_) (by omega)
 ·unfold B_slices_Equal_Value_l0
  simp (disch:=omega) only [y10q,Int.toNat_natCast,eqI_dec,eqS_dec,andB_true,andB_dec,not_dec]
  refine y21q (y4q (by omega) (y4q (by omega) (y4q (by omega) (y4q (by omega) (y4q (by omega) (y5q fun h=>y39q)))))) ?_
  simp only [and_true,Decidable.not_not]
  exact Iff.rfl
 ·unfold B_slices_Equal_Value_l0
  exact y15q (by dsimp only; omega) _ _
end Go.Ev.T1
