import Derived.Test.YtmigbnokhhdopaaRrCatQ3
set_option linter.unusedSimpArgs false
set_option linter.unusedVariables false
set_option maxRecDepth 100000
namespace Go.Ev.T1
open Go Go.Proofs
theorem idx_nonneg {α : Type} {p : α → Bool} {xs : List α} : idx p xs ≥ 0 ↔ ∃ x ∈ xs,p x = true:=by
 have:=idx_neg (p:=p) (xs:=xs)
 constructor
 ·intro h
  refine Classical.byContradiction fun hn=>?_
  have : idx p xs < 0:=this.2 fun x hx=>by
   cases hp : p x with
   | false=>rfl
   | true=>exact absurd ⟨x,hx,hp⟩ hn
  omega
 ·rintro ⟨x,hx,hp⟩
  refine Classical.byContradiction fun hn=>?_
  have:=this.1 (by omega) x hx
  rw [hp] at this; cases this
theorem take_map {α β : Type} (f : α → β) (z : α) (xs : List α) {i : Nat} (hi : i < xs.length) : (xs.take i).map f ++ [f (xs.getD i z)] = (xs.take (i + 1)).map f:=by
 rw [List.take_succ_eq_append_getElem hi]
 simp only [List.map_append,List.map_cons,List.map_nil,List.getD_eq_getElem?_getD,List.getElem?_eq_getElem hi,Option.getD_some]
theorem implIndexI (xs : List Int) (n : Int) (ht : xs.length ≤ 1048576) : F_slices_Index_int_int xs n = some (idx (fun x=>decide (n = x)) xs):=by
 unfold F_slices_Index_int_int F_slices_Index_int_int_l0
 refine Eq.trans (bnd_eq (idx_loop (xs:=xs) (z:=zInt) (B:=B_slices_Index_int_int_l0) (fun i=>(xs,n,(xs.length : Int),((i : Nat) : Int))) (fun i=>.inr ((i : Nat) : Int)) (.inl ()) (fun i C hi=>?_) (fun C=>?_) (by omega))) (idx_some _ _)
 ·unfold B_slices_Index_int_int_l0
  simp (disch:=omega) only [y10q,Int.toNat_natCast,y44q,br_if,if_pos,decide_eq_true_eq]
 ·unfold B_slices_Index_int_int_l0
  exact y15q (by simp) _ _
theorem implIndexS (xs : List (List UInt8)) (n : List UInt8) (ht : xs.length ≤ 1048576) : F_slices_Index_string_string xs n = some (idx (fun x=>decide (n = x)) xs):=by
 unfold F_slices_Index_string_string F_slices_Index_string_string_l0
 refine Eq.trans (bnd_eq (idx_loop (xs:=xs) (z:=zStr) (B:=B_slices_Index_string_string_l0) (fun i=>(xs,n,(xs.length : Int),((i : Nat) : Int))) (fun i=>.inr ((i : Nat) : Int)) (.inl ()) (fun i C hi=>?_) (fun C=>?_) (by omega))) (idx_some _ _)
 ·unfold B_slices_Index_string_string_l0
  simp (disch:=omega) only [y10q,Int.toNat_natCast,y44q,br_if,if_pos,decide_eq_true_eq]
 ·unfold B_slices_Index_string_string_l0
  exact y15q (by simp) _ _
theorem idx_mem {α : Type} [DecidableEq α] {xs : List α} {n : α} : idx (fun x=>decide (n = x)) xs ≥ 0 ↔ n ∈ xs:=by
 rw [idx_nonneg]
 exact ⟨fun ⟨x,hx,h⟩=>by simp at h; exact h ▸ hx,fun h=>⟨n,h,by simp⟩⟩
theorem implContainsI (xs : List Int) (n : Int) (ht : xs.length ≤ 1048576) : Ans (F_slices_Contains_int_int xs n) (some true) (some false) (n ∈ xs):=by
 unfold F_slices_Contains_int_int
 exact y21q (y98q (implIndexI xs n ht) y20q) idx_mem
theorem implContainsS (xs : List (List UInt8)) (n : List UInt8) (ht : xs.length ≤ 1048576) : Ans (F_slices_Contains_string_string xs n) (some true) (some false) (n ∈ xs):=by
 unfold F_slices_Contains_string_string
 exact y21q (y98q (implIndexS xs n ht) y20q) idx_mem
theorem implTwiceI (xs : List Int) (ht : xs.length ≤ 1048576) : Ans (F_u43f xs) (some false) (some true) xs.Nodup:=by
 refine y21q ?_ (once_nodup zInt xs)
 unfold F_u43f F_u43f_l0
 refine y26q (a:=.inl ()) (b:=.inr true) (y36q (fun i=>(xs,(xs.length : Int),((i : Nat) : Int))) xs.length (fun i=>¬ xs.getD i zInt ∈ xs.take i) (fun i C hi hb=>?_) (fun C _=>?_) (by omega)) rfl rfl
 ·unfold B_u43f_l0
  simp (disch:=omega) only [y10q,Int.toNat_natCast]
  refine y4q (by omega) (y4q (by omega) (y4q (by omega) (y4q (by omega) (y4q (by omega) ?_))))
  exact ans_bnd_end' (implContainsI _ _ (by simp; omega)) rfl rfl
 ·unfold B_u43f_l0
  exact y15q (by simp) _ _
theorem implTwiceS (xs : List (List UInt8)) (ht : xs.length ≤ 1048576) : Ans (F_u44f xs) (some false) (some true) xs.Nodup:=by
 refine y21q ?_ (once_nodup zStr xs)
 unfold F_u44f F_u44f_l0
 refine y26q (a:=.inl ()) (b:=.inr true) (y36q (fun i=>(xs,(xs.length : Int),((i : Nat) : Int))) xs.length (fun i=>¬ xs.getD i zStr ∈ xs.take i) (fun i C hi hb=>?_) (fun C _=>?_) (by omega)) rfl rfl
 ·unfold B_u44f_l0
  simp (disch:=omega) only [y10q,Int.toNat_natCast]
  refine y4q (by omega) (y4q (by omega) (y4q (by omega) (y4q (by omega) (y4q (by omega) ?_))))
  exact ans_bnd_end' (implContainsS _ _ (by simp; omega)) rfl rfl
 ·unfold B_u44f_l0
  exact y15q (by simp) _ _
theorem y122q (a b c : Int) : Ans (F_u41f a b c) (some true) (some false) (b ≤ a ∧ a ≤ c):=by
 unfold F_u41f
 exact y32q fun _=>y20q
theorem implCol (t : y6q) (id : Int) (ht : t.2.2.2.1.length ≤ 1048576) : F_u40f t id = some (colAt t id):=by
 have key : F_slices_IndexFunc_Column t.2.2.2.1 (id,()) = some (colAt t id):=by
  unfold F_slices_IndexFunc_Column F_slices_IndexFunc_Column_l0
  refine Eq.trans (bnd_eq (idx_loop (xs:=t.2.2.2.1) (z:=y22q) (B:=B_slices_IndexFunc_Column_l0) (fun i=>(t.2.2.2.1,(id,()),(t.2.2.2.1.length : Int),((i : Nat) : Int))) (fun i=>.inr ((i : Nat) : Int)) (.inl ()) (fun i C hi=>?_) (fun C=>?_) (by omega))) (idx_some _ _)
  ·unfold B_slices_IndexFunc_Column_l0 F_u39f
   simp (disch:=omega) only [y10q,Int.toNat_natCast,y44q,br_if,if_pos,y8q,decide_eq_true_eq]
  ·unfold B_slices_IndexFunc_Column_l0
   exact y15q (by simp) _ _
 unfold F_u40f
 rw [key]; rfl
def ImplColP (t : y6q) (i : Nat) : Prop:=(1 ≤ (col t i).1 ∧ (col t i).1 ≤ 1000) ∧ Name (col t i).2.1 ∧ 1 ≤ (col t i).2.2.1 ∧ (col t i).2.2.1 ≤ 5
def ImplIxP (t : y6q) (i : Nat) : Prop:=(1 ≤ (ix t i).1 ∧ (ix t i).1 ≤ 1000) ∧ Name (ix t i).2.1 ∧ ¬ ((ix t i).2.2.1.length : Int) = 0 ∧ (ix t i).2.2.1.Nodup ∧ (1 ≤ (ix t i).2.2.2.2.1 ∧ (ix t i).2.2.2.2.1 ≤ 3) ∧
 ((ix t i).2.2.1.length : Int) + t.2.2.2.2.1.length ≤ 14 ∧ ∀ j,j < (ix t i).2.2.1.length → 0 ≤ colAt t ((ix t i).2.2.1.getD j zInt)
def ImplTable (t : y6q) : Prop:=(1 ≤ t.1 ∧ t.1 ≤ 40) ∧ (1 ≤ t.2.2.1 ∧ t.2.2.1 ≤ 1000000) ∧ Name t.2.1 ∧ (1 ≤ (t.2.2.2.1.length : Int) ∧ (t.2.2.2.1.length : Int) ≤ 14) ∧ ¬ (t.2.2.2.2.1.length : Int) = 0 ∧ t.2.2.2.2.1.Nodup ∧ (t.2.2.2.2.2.1.length : Int) ≤ 8 ∧
 (∀ i,i < t.2.2.2.1.length → ImplColP t i) ∧ (t.2.2.2.1.map (·.1)).Nodup ∧ (t.2.2.2.1.map (·.2.1)).Nodup ∧ (∀ j,j < t.2.2.2.2.1.length → ColIs t true (t.2.2.2.2.1.getD j zInt)) ∧
 (∀ i,i < t.2.2.2.2.2.1.length → ImplIxP t i) ∧ (t.2.2.2.2.2.1.map (·.1)).Nodup ∧ (t.2.2.2.2.2.1.map (·.2.1)).Nodup
variable {t : y6q} (ht : Sm_Table 1048576 t)
include ht
theorem u74f_l0 : Ans (F_u45f_l0 t [] [] t.2.2.2.1 (t.2.2.2.1.length : Int) 0) (some (.inl (t,t.2.2.2.1.map (·.1),t.2.2.2.1.map (·.2.1)))) (some (.inr false)) (∀ i,i < t.2.2.2.1.length → ImplColP t i):=by
 have hc:=ht.2.2.2.1.1
 unfold F_u45f_l0
 refine y36q (fun i=>(t,(t.2.2.2.1.take i).map (·.1),(t.2.2.2.1.take i).map (·.2.1),t.2.2.2.1,(t.2.2.2.1.length : Int),((i : Nat) : Int))) _ _ (fun i C hi hb=>?_) (fun C _=>?_) (by omega)
 ·unfold B_u45f_l0
  simp (disch:=omega) only [y10q,Int.toNat_natCast]
  refine y21q (y4q (by omega) (y4q (by omega) (y4q (by omega) (y13q (y122q _ _ _) rfl fun _=>y13q (implName _ (colSm ht hi).2.1) rfl fun _=>y13q (y122q _ _ _) rfl fun _ =>
   y4q (by simp [capN]; omega) (y4q (by simp [capN]; omega) (ans_end ?_)))))) ?_
  ·rw [take_map (fun c : y11q=>c.1) y22q _ hi,take_map (fun c : y11q=>c.2.1) y22q _ hi]
  ·simp only [and_true]
   exact Iff.rfl
 ·unfold B_u45f_l0
  simp only [List.take_length]
  exact y15q (by simp) _ _
theorem u74f_l2 : Ans (F_u45f_l2 t t.2.2.2.2.1 (t.2.2.2.2.1.length : Int) 0) (some (.inl t)) (some (.inr false)) (∀ j,j < t.2.2.2.2.1.length → ColIs t true (t.2.2.2.2.1.getD j zInt)):=by
 have hc:=ht.2.2.2.1.1
 have hk:=ht.2.2.2.2.1.1
 unfold F_u45f_l2
 refine y36q (fun i=>(t,t.2.2.2.2.1,(t.2.2.2.2.1.length : Int),((i : Nat) : Int))) _ _ (fun i C hi hb=>?_) (fun C _=>?_) (by omega)
 ·unfold B_u45f_l2
  simp (disch:=omega) only [y10q,Int.toNat_natCast,br_swap]
  have hlt : colAt t (t.2.2.2.2.1.getD i zInt) < t.2.2.2.1.length:=idx_lt
  refine y21q (y4q (by omega) (y4q (by omega) (y4q (by omega) (y98q (implCol t _ hc) (y5q fun h4=>y4q (Int.not_lt.1 h4) (y4q hlt (ans_bool_no' fun _=>y39q))))))) ?_
  simp [ColIs]
 ·unfold B_u45f_l2
  exact y15q (by simp) _ _
theorem u74f_l6 {i : Nat} (hi : i < t.2.2.2.2.2.1.length) (a : List Int) (b : List (List UInt8)) (x : List y16q) (n m : Int) : Ans (F_u45f_l6 t a b (ix t i) x n m (ix t i).2.2.1 ((ix t i).2.2.1.length : Int) 0) (some (.inl (t,a,b,ix t i,x,n,m))) (some (.inr false)) (∀ j,j < (ix t i).2.2.1.length → ¬ colAt t ((ix t i).2.2.1.getD j zInt) < 0):=by
 have hc:=ht.2.2.2.1.1
 have hk:=(ixSm ht hi).2.2.1.1
 unfold F_u45f_l6
 refine y36q (fun j=>(t,a,b,ix t i,x,n,m,(ix t i).2.2.1,((ix t i).2.2.1.length : Int),((j : Nat) : Int))) _ _ (fun j C hj hb=>?_) (fun C _=>?_) (by omega)
 ·unfold B_u45f_l6
  simp (disch:=omega) only [y10q,Int.toNat_natCast]
  refine y21q (y4q (by omega) (y4q (by omega) (y4q (by omega) (y98q (implCol t _ hc) (y5q fun h4=>y39q))))) ?_
  simp
 ·unfold B_u45f_l6
  exact y15q (by simp) _ _
theorem u74f_l4 : Ans (F_u45f_l4 t [] [] t.2.2.2.2.2.1 (t.2.2.2.2.2.1.length : Int) 0) (some (.inl (t.2.2.2.2.2.1.map (·.1),t.2.2.2.2.2.1.map (·.2.1)))) (some (.inr false)) (∀ i,i < t.2.2.2.2.2.1.length → ImplIxP t i):=by
 have hc:=ht.2.2.2.2.2.1
 have hk:=ht.2.2.2.2.1.1
 unfold F_u45f_l4
 refine y36q (fun i=>(t,(t.2.2.2.2.2.1.take i).map (·.1),(t.2.2.2.2.2.1.take i).map (·.2.1),t.2.2.2.2.2.1,(t.2.2.2.2.2.1.length : Int),((i : Nat) : Int))) _ _ (fun i C hi hb=>?_) (fun C _=>?_) (by omega)
 ·have h3:=(ixSm ht hi).2.2.1.1
  have h3':=h3
  simp only [ix] at h3'
  unfold B_u45f_l4
  simp (disch:=omega) only [y27q,Int.toNat_natCast,y44q]
  refine y21q (y4q (by omega) (y4q (by omega) (y4q (by omega) (y13q (y122q _ _ _) rfl fun _=>y13q (implName _ (ixSm ht hi).2.1) rfl fun _=>y5q fun _=>y13q (implTwiceI _ h3) rfl fun _=>y13q (y122q _ _ _) rfl fun _=>y5q fun _ =>
   y26q (u74f_l6 ht hi _ _ _ _ _) ?_ rfl)))) ?_
  ·simp only [y70q]
   rw [y2q (by simp [capN]; omega),y2q (by simp [capN]; omega),y10q (by omega)]
   rw [take_map (fun c : y16q=>c.1) y57q _ hi,take_map (fun c : y16q=>c.2.1) y57q _ hi]
  ·simp only [gt_iff_lt,Int.not_lt]
   exact Iff.rfl
 ·unfold B_u45f_l4
  simp only [List.take_length]
  exact y15q (by simp) _ _
theorem implTable : Ans (F_u45f t) (some true) (some false) (ImplTable t):=by
 have hc:=ht.2.2.2.1.1
 have hx:=ht.2.2.2.2.2.1
 unfold F_u45f
 simp only [y44q]
 refine y21q (y13q (y122q _ _ _) rfl fun _=>y13q (y122q _ _ _) rfl fun _=>y13q (implName _ ht.2.1) rfl fun _=>y13q (y122q _ _ _) rfl fun _=>y5q fun _ =>
  y13q (implTwiceI _ ht.2.2.2.2.1.1) rfl fun _=>y5q fun _=>y13q (u74f_l0 ht) rfl fun _=>y13q (implTwiceI _ (by simpa using hc)) rfl fun _=>y13q (implTwiceS _ (by simpa using hc)) rfl fun _ =>
  y13q (u74f_l2 ht) rfl fun _=>y13q (u74f_l4 ht) rfl fun _=>y13q (implTwiceI _ (by simpa using hx)) rfl fun _=>y26q (implTwiceS _ (by simpa using hx)) rfl rfl) ?_
 simp only [Int.not_lt,gt_iff_lt]
 exact Iff.rfl
end Go.Ev.T1
