import Derived.Test.YtmigbnokhhdopaaGreatRbCatQ2
set_option linter.unusedSimpArgs false
set_option linter.unusedVariables false
set_option maxRecDepth 100000
namespace Go.Ev.T1
open Go Go.Proofs
def namedAt (t : y7q) (nm : List UInt8) : Int:=idx (fun c=>decide (c.2.1 = nm)) t.2.2.2.1
abbrev col (t : y7q) (i : Nat) : y12q:=t.2.2.2.1.getD i y23q
abbrev ix (t : y7q) (i : Nat) : y15q:=t.2.2.2.2.2.1.getD i y51q
def ColsOK (t : y7q) (ids : List Int) (need : Bool) : Prop:=ids ≠ [] ∧ ids.length ≤ 16 ∧ ids.Nodup ∧ ∀ j,j < ids.length → ColIs t need (ids.getD j zInt)
def SpecColP (t : y7q) (i : Nat) : Prop:=1 ≤ (col t i).1 ∧ (col t i).1 ≤ 1000 ∧ Name (col t i).2.1 ∧ 1 ≤ (col t i).2.2.1 ∧ (col t i).2.2.1 ≤ 5 ∧ colAt t (col t i).1 = i ∧ namedAt t (col t i).2.1 = i
def SpecIxP (t : y7q) (i : Nat) : Prop:=1 ≤ (ix t i).1 ∧ (ix t i).1 ≤ 1000 ∧ Name (ix t i).2.1 ∧ 1 ≤ (ix t i).2.2.2.2.1 ∧ (ix t i).2.2.2.2.1 ≤ 3 ∧ ColsOK t (ix t i).2.2.1 false ∧
 ((ix t i).2.2.1.length : Int) + t.2.2.2.2.1.length ≤ 14 ∧ ∀ k,k < i → (ix t k).1 ≠ (ix t i).1 ∧ (ix t k).2.1 ≠ (ix t i).2.1
def SpecTable (t : y7q) : Prop:=1 ≤ t.1 ∧ t.1 ≤ 40 ∧ Name t.2.1 ∧ 1 ≤ t.2.2.1 ∧ t.2.2.1 ≤ 1000000 ∧ 1 ≤ (t.2.2.2.1.length : Int) ∧ (t.2.2.2.1.length : Int) ≤ 14 ∧ (t.2.2.2.2.2.1.length : Int) ≤ 8 ∧
 (∀ i,i < t.2.2.2.1.length → SpecColP t i) ∧ ColsOK t t.2.2.2.2.1 true ∧ ∀ i,i < t.2.2.2.2.2.1.length → SpecIxP t i
variable {t : y7q} (ht : Sm_Table 1048576 t)
include ht
theorem colSm {i : Nat} (hi : i < t.2.2.2.1.length) : Sm_Column 1048576 (col t i):=ht.2.2.2.1.2 _ (y122q hi)
theorem ixSm {i : Nat} (hi : i < t.2.2.2.2.2.1.length) : Sm_Index 1048576 (ix t i):=ht.2.2.2.2.2.2 _ (y122q hi)
theorem u86f_l0 : Ans (F_u19f_l0 t 0) (some (.inl t)) (some (.inr false)) (∀ i,i < t.2.2.2.1.length → SpecColP t i):=by
 have hc:=ht.2.2.2.1.1
 unfold F_u19f_l0
 refine y35q (fun i=>(t,((i : Nat) : Int))) _ _ (fun i C hi hb=>?_) (fun C _=>?_) (by omega)
 ·unfold B_u19f_l0
  simp (disch:=omega) only [y10q,Int.toNat_natCast,y106q]
  refine y20q (y4q (by omega) (y4q (by omega) (y4q (by omega) (y6q fun _=>y6q fun _=>y13q (specName _ (colSm ht hi).2.1) rfl fun _=>y6q fun _=>y6q fun _ =>
   y73q (specCol t _ hc) (y6q fun _=>y73q (specNamed t _ hc) (y6q fun _=>y37q)))))) ?_
  simp only [and_true,Int.not_lt,Decidable.not_not,gt_iff_lt]
  exact Iff.rfl
 ·unfold B_u19f_l0
  exact y14q (by simp) _ _
theorem u86f_l4 {i : Nat} (hi : i < t.2.2.2.2.2.1.length) (x : y15q) : Ans (F_u19f_l4 t (i : Int) x 0) (some (.inl (t,(i : Int)))) (some (.inr false)) (∀ k,k < i → (ix t k).1 ≠ x.1 ∧ (ix t k).2.1 ≠ x.2.1):=by
 have hc:=ht.2.2.2.2.2.1
 unfold F_u19f_l4
 refine y35q (fun k=>(t,(i : Int),x,((k : Nat) : Int))) _ _ (fun k C hk hb=>?_) (fun C _=>?_) (by omega)
 ·unfold B_u19f_l4
  simp (disch:=omega) only [y10q,Int.toNat_natCast,y42q]
  refine y20q (y4q (by omega) (y4q (by omega) (y4q (by omega) (y6q fun _=>y4q (by omega) (y4q (by omega) (y6q fun _=>y37q)))))) ?_
  simp only [and_true]
  try exact Iff.rfl
 ·unfold B_u19f_l4
  exact y14q (by simp) _ _
theorem u86f_l2 : Ans (F_u19f_l2 t 0) (some (.inl ())) (some (.inr false)) (∀ i,i < t.2.2.2.2.2.1.length → SpecIxP t i):=by
 have hc:=ht.2.2.2.1.1
 have hx:=ht.2.2.2.2.2.1
 have hk:=ht.2.2.2.2.1.1
 unfold F_u19f_l2
 refine y35q (fun i=>(t,((i : Nat) : Int))) _ _ (fun i C hi hb=>?_) (fun C _=>?_) (by omega)
 ·have h3:=(ixSm ht hi).2.2.1.1
  simp only [ix] at h3
  unfold B_u19f_l2
  simp (disch:=omega) only [Int.toNat_natCast,y21q]
  refine y20q (y4q (by omega) (y4q (by omega) (y4q (by omega) (y6q fun _=>y6q fun _=>y13q (specName _ (ixSm ht hi).2.1) rfl fun _=>y6q fun _=>y6q fun _ =>
   y13q (specColsOK t _ false hc h3) rfl fun _=>y6q fun _=>y28q (u86f_l4 ht hi _) (congrArg C (Prod.ext rfl (y10q (by omega)))) rfl)))) ?_
  simp only [and_true,Int.not_lt,Decidable.not_not,gt_iff_lt]
  exact Iff.rfl
 ·unfold B_u19f_l2
  exact y14q (by simp) _ _
theorem specTable : Ans (F_u19f t) (some true) (some false) (SpecTable t):=by
 unfold F_u19f
 refine y20q (y6q fun _=>y6q fun _=>y13q (specName _ ht.2.1) rfl fun _=>y6q fun _=>y6q fun _=>y6q fun _=>y6q fun _=>y6q fun _ =>
  y13q (u86f_l0 ht) rfl fun _=>y13q (specColsOK t _ true ht.2.2.2.1.1 ht.2.2.2.2.1.1) rfl fun _=>y28q (u86f_l2 ht) rfl rfl) ?_
 simp only [and_true,Int.not_lt,Decidable.not_not,gt_iff_lt]
 exact Iff.rfl
end Go.Ev.T1
