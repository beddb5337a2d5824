import Derived.Test.YtmigbnokhhdopaaRrCatQ2
set_option linter.unusedSimpArgs false
set_option linter.unusedVariables false
set_option maxRecDepth 100000
namespace Go.Ev.T1
open Go Go.Proofs
def namedAt (t : y6q) (nm : List UInt8) : Int:=idx (fun c=>decide (c.2.1 = nm)) t.2.2.2.1
abbrev col (t : y6q) (i : Nat) : y11q:=t.2.2.2.1.getD i y22q
abbrev ix (t : y6q) (i : Nat) : y16q:=t.2.2.2.2.2.1.getD i y57q
def ColsOK (t : y6q) (ids : List Int) (need : Bool) : Prop:=ids ≠ [] ∧ ids.length ≤ 16 ∧ ids.Nodup ∧ ∀ j,j < ids.length → ColIs t need (ids.getD j zInt)
def SpecColP (t : y6q) (i : Nat) : Prop:=1 ≤ (col t i).1 ∧ (col t i).1 ≤ 1000 ∧ Name (col t i).2.1 ∧ 1 ≤ (col t i).2.2.1 ∧ (col t i).2.2.1 ≤ 5 ∧ colAt t (col t i).1 = i ∧ namedAt t (col t i).2.1 = i
def SpecIxP (t : y6q) (i : Nat) : Prop:=1 ≤ (ix t i).1 ∧ (ix t i).1 ≤ 1000 ∧ Name (ix t i).2.1 ∧ 1 ≤ (ix t i).2.2.2.2.1 ∧ (ix t i).2.2.2.2.1 ≤ 3 ∧ ColsOK t (ix t i).2.2.1 false ∧
 ((ix t i).2.2.1.length : Int) + t.2.2.2.2.1.length ≤ 14 ∧ ∀ k,k < i → (ix t k).1 ≠ (ix t i).1 ∧ (ix t k).2.1 ≠ (ix t i).2.1
def SpecTable (t : y6q) : Prop:=1 ≤ t.1 ∧ t.1 ≤ 40 ∧ Name t.2.1 ∧ 1 ≤ t.2.2.1 ∧ t.2.2.1 ≤ 1000000 ∧ 1 ≤ (t.2.2.2.1.length : Int) ∧ (t.2.2.2.1.length : Int) ≤ 14 ∧ (t.2.2.2.2.2.1.length : Int) ≤ 8 ∧
 (∀ i,i < t.2.2.2.1.length → SpecColP t i) ∧ ColsOK t t.2.2.2.2.1 true ∧ ∀ i,i < t.2.2.2.2.2.1.length → SpecIxP t i
variable {t : y6q} (ht : Sm_Table 1048576 t)
include ht
theorem colSm {i : Nat} (hi : i < t.2.2.2.1.length) : Sm_Column 1048576 (col t i):=ht.2.2.2.1.2 _ (mem_getD hi)
theorem ixSm {i : Nat} (hi : i < t.2.2.2.2.2.1.length) : Sm_Index 1048576 (ix t i):=ht.2.2.2.2.2.2 _ (mem_getD hi)
theorem u73f_l0 : Ans (F_u18f_l0 t 0) (some (.inl t)) (some (.inr false)) (∀ i,i < t.2.2.2.1.length → SpecColP t i):=by
 have hc:=ht.2.2.2.1.1
 unfold F_u18f_l0
 refine y36q (fun i=>(t,((i : Nat) : Int))) _ _ (fun i C hi hb=>?_) (fun C _=>?_) (by omega)
 ·unfold B_u18f_l0
  simp (disch:=omega) only [y10q,Int.toNat_natCast,y130q]
  refine y21q (y4q (by omega) (y4q (by omega) (y4q (by omega) (y5q fun _=>y5q fun _=>y13q (specName _ (colSm ht hi).2.1) rfl fun _=>y5q fun _=>y5q fun _ =>
   y98q (specCol t _ hc) (y5q fun _=>y98q (specNamed t _ hc) (y5q fun _=>y39q)))))) ?_
  simp only [and_true,Int.not_lt,Decidable.not_not,gt_iff_lt]
  exact Iff.rfl
 ·unfold B_u18f_l0
  exact y15q (by simp) _ _
theorem u73f_l4 {i : Nat} (hi : i < t.2.2.2.2.2.1.length) (x : y16q) : Ans (F_u18f_l4 t (i : Int) x 0) (some (.inl (t,(i : Int)))) (some (.inr false)) (∀ k,k < i → (ix t k).1 ≠ x.1 ∧ (ix t k).2.1 ≠ x.2.1):=by
 have hc:=ht.2.2.2.2.2.1
 unfold F_u18f_l4
 refine y36q (fun k=>(t,(i : Int),x,((k : Nat) : Int))) _ _ (fun k C hk hb=>?_) (fun C _=>?_) (by omega)
 ·unfold B_u18f_l4
  simp (disch:=omega) only [y10q,Int.toNat_natCast,y44q]
  refine y21q (y4q (by omega) (y4q (by omega) (y4q (by omega) (y5q fun _=>y4q (by omega) (y4q (by omega) (y5q fun _=>y39q)))))) ?_
  simp only [and_true]
  try exact Iff.rfl
 ·unfold B_u18f_l4
  exact y15q (by simp) _ _
theorem u73f_l2 : Ans (F_u18f_l2 t 0) (some (.inl ())) (some (.inr false)) (∀ i,i < t.2.2.2.2.2.1.length → SpecIxP t i):=by
 have hc:=ht.2.2.2.1.1
 have hx:=ht.2.2.2.2.2.1
 have hk:=ht.2.2.2.2.1.1
 unfold F_u18f_l2
 refine y36q (fun i=>(t,((i : Nat) : Int))) _ _ (fun i C hi hb=>?_) (fun C _=>?_) (by omega)
 ·have h3:=(ixSm ht hi).2.2.1.1
  simp only [ix] at h3
  unfold B_u18f_l2
  simp (disch:=omega) only [Int.toNat_natCast,y27q]
  refine y21q (y4q (by omega) (y4q (by omega) (y4q (by omega) (y5q fun _=>y5q fun _=>y13q (specName _ (ixSm ht hi).2.1) rfl fun _=>y5q fun _=>y5q fun _ =>
   y13q (specColsOK t _ false hc h3) rfl fun _=>y5q fun _=>y26q (u73f_l4 ht hi _) (congrArg C (Prod.ext rfl (y10q (by omega)))) rfl)))) ?_
  simp only [and_true,Int.not_lt,Decidable.not_not,gt_iff_lt]
  exact Iff.rfl
 ·unfold B_u18f_l2
  exact y15q (by simp) _ _
theorem specTable : Ans (F_u18f t) (some true) (some false) (SpecTable t):=by
 unfold F_u18f
 refine y21q (y5q fun _=>y5q fun _=>y13q (specName _ ht.2.1) rfl fun _=>y5q fun _=>y5q fun _=>y5q fun _=>y5q fun _=>y5q fun _ =>
  y13q (u73f_l0 ht) rfl fun _=>y13q (specColsOK t _ true ht.2.2.2.1.1 ht.2.2.2.2.1.1) rfl fun _=>y26q (u73f_l2 ht) rfl rfl) ?_
 simp only [and_true,Int.not_lt,Decidable.not_not,gt_iff_lt]
 exact Iff.rfl
end Go.Ev.T1
