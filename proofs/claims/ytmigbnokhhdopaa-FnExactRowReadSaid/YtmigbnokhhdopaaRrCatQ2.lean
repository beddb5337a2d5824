import Derived.Test.YtmigbnokhhdopaaRrSz
import Derived.Test.YtmigbnokhhdopaaRrCatQ1
set_option linter.unusedSimpArgs false
set_option linter.unusedVariables false
set_option maxRecDepth 100000
namespace Go.Ev.T1
open Go Go.Proofs
theorem mem_idx {α : Type} [DecidableEq α] {xs : List α} {b : α} : xs.findIdx (fun x=>decide (x = b)) < xs.length ↔ b ∈ xs:=by
 rw [List.findIdx_lt_length]
 exact ⟨fun ⟨x,hx,h⟩=>by simp at h; exact h ▸ hx,fun h=>⟨b,h,by simp⟩⟩
theorem idx_some {α : Type} (p : α → Bool) (xs : List α) : (onSum (if xs.findIdx p < xs.length then (.inr ((xs.findIdx p : Nat) : Int) : Unit ⊕ Int) else .inl ()) (fun _=>some (-1)) fun y=>some y) = some (idx p xs):=by
 unfold idx
 split <;> rfl
theorem specCol (t : y6q) (id : Int) (ht : t.2.2.2.1.length ≤ 1048576) : F_u8f t id = some (idx (fun c=>decide (c.1 = id)) t.2.2.2.1):=by
 unfold F_u8f F_u8f_l0
 refine Eq.trans (bnd_eq (idx_loop (xs:=t.2.2.2.1) (z:=y22q) (B:=B_u8f_l0) (fun i=>(id,t,((i : Nat) : Int))) (fun i=>.inr ((i : Nat) : Int)) (.inl ()) (fun i C hi=>?_) (fun C=>?_) (by omega))) (idx_some _ _)
 ·unfold B_u8f_l0
  simp (disch:=omega) only [y10q,Int.toNat_natCast,y44q,br_if,if_pos,decide_eq_true_eq]
 ·unfold B_u8f_l0
  exact y15q (by simp) _ _
theorem specNamed (t : y6q) (nm : List UInt8) (ht : t.2.2.2.1.length ≤ 1048576) : F_u14f t nm = some (idx (fun c=>decide (c.2.1 = nm)) t.2.2.2.1):=by
 unfold F_u14f F_u14f_l0
 refine Eq.trans (bnd_eq (idx_loop (xs:=t.2.2.2.1) (z:=y22q) (B:=B_u14f_l0) (fun i=>(nm,t,((i : Nat) : Int))) (fun i=>.inr ((i : Nat) : Int)) (.inl ()) (fun i C hi=>?_) (fun C=>?_) (by omega))) (idx_some _ _)
 ·unfold B_u14f_l0
  simp (disch:=omega) only [y10q,Int.toNat_natCast,y44q,br_if,if_pos,decide_eq_true_eq]
 ·unfold B_u14f_l0
  exact y15q (by simp) _ _
theorem specHas (xs : List Int) (n : Int) (ht : xs.length ≤ 1048576) : Ans (F_u15f xs n) (some true) (some false) (n ∈ xs):=by
 unfold F_u15f F_u15f_l0
 refine y98q (idx_loop (xs:=xs) (p:=fun x=>decide (x = n)) (z:=zInt) (B:=B_u15f_l0) (fun i=>(xs,n,((i : Nat) : Int))) (fun i=>.inr true) (.inl ()) (fun i C hi=>?_) (fun C=>?_) (by omega)) ?_
 rotate_left 2
 ·by_cases h : xs.findIdx (fun x=>decide (x = n)) < xs.length
  ·rw [if_pos h]
   exact ⟨fun _=>rfl,fun h'=>absurd (mem_idx.1 h) h'⟩
  ·rw [if_neg h]
   exact ⟨fun h'=>absurd (mem_idx.2 h') h,fun _=>rfl⟩
 ·unfold B_u15f_l0
  simp (disch:=omega) only [y10q,Int.toNat_natCast,y44q,br_if,if_pos,decide_eq_true_eq]
 ·unfold B_u15f_l0
  exact y15q (by simp) _ _
def Once {α : Type} (z : α) (xs : List α) : Prop:=∀ i,i < xs.length → ¬ xs.getD i z ∈ xs.take i
theorem once_nodup {α : Type} (z : α) (xs : List α) : Once z xs ↔ xs.Nodup:=by
 unfold Once
 rw [List.Nodup,List.pairwise_iff_getElem]
 constructor
 ·intro h i j hi hj hij e
  refine h j hj ?_
  rw [show xs.getD j z = xs[j] by simp [List.getD_eq_getElem?_getD,hj],← e,List.mem_take_iff_getElem]
  exact ⟨i,by omega,rfl⟩
 ·intro h i hi hm
  rw [show xs.getD i z = xs[i] by simp [List.getD_eq_getElem?_getD,hi],List.mem_take_iff_getElem] at hm
  obtain ⟨j,hj,e⟩:=hm
  exact h j i (by omega) hi (by omega) e
theorem specOnce (xs : List Int) (ht : xs.length ≤ 1048576) : Ans (F_u16f xs) (some true) (some false) xs.Nodup:=by
 refine y21q ?_ (once_nodup zInt xs)
 unfold F_u16f F_u16f_l0
 refine y26q (a:=.inl ()) (b:=.inr false) (y36q (fun i=>(xs,((i : Nat) : Int))) xs.length (fun i=>¬ xs.getD i zInt ∈ xs.take i) (fun i C hi hb=>?_) (fun C _=>?_) (by omega)) rfl rfl
 ·unfold B_u16f_l0
  simp (disch:=omega) only [y10q,Int.toNat_natCast]
  refine y4q (by omega) (y4q (by omega) (y4q (by omega) (y4q (by omega) (y4q (by omega) ?_))))
  exact ans_bnd_end' (specHas _ _ (by simp; omega)) rfl rfl
 ·unfold B_u16f_l0
  exact y15q (by simp) _ _
def colAt (t : y6q) (id : Int) : Int:=idx (fun c=>decide (c.1 = id)) t.2.2.2.1
def ColIs (t : y6q) (need : Bool) (id : Int) : Prop:=¬ colAt t id < 0 ∧ (need = true → (t.2.2.2.1.getD (colAt t id).toNat y22q).2.2.2.1 = true)
theorem specColsOK (t : y6q) (ids : List Int) (need : Bool) (ht : t.2.2.2.1.length ≤ 1048576) (hi : ids.length ≤ 1048576) :
  Ans (F_u17f t ids need) (some true) (some false) (ids ≠ [] ∧ ids.length ≤ 16 ∧ ids.Nodup ∧ ∀ j,j < ids.length → ColIs t need (ids.getD j zInt)):=by
 unfold F_u17f
 simp only [y44q]
 refine y21q (y5q fun h1=>y5q fun h2=>y13q (specOnce _ hi) rfl fun h3=>y26q (P:=∀ j,j < ids.length → ColIs t need (ids.getD j zInt)) (a:=.inl ()) (b:=.inr false) ?_ rfl rfl) ?_
 ·unfold F_u17f_l0
  refine y36q (fun i=>(ids,need,t,((i : Nat) : Int))) ids.length _ (fun i C hi hb=>?_) (fun C _=>?_) (by omega)
  ·unfold B_u17f_l0
   simp (disch:=omega) only [y10q,Int.toNat_natCast]
   have hlt : colAt t (ids.getD i zInt) < t.2.2.2.1.length:=idx_lt
   simp only [br_swap]
   refine y21q (y4q (by omega) (y4q (by omega) (y4q (by omega) (y98q (specCol t _ ht) (y5q fun h4=>ans_bool_yes' fun h5=>y4q (Int.not_lt.1 h4) (y4q hlt (ans_bool_no' fun _=>y39q))))))) ?_
   simp only [and_true]
   exact Iff.rfl
  ·unfold B_u17f_l0
   exact y15q (by simp) _ _
 ·have : ids ≠ [] ↔ ¬ ((ids.length : Int) = 0):=by
   rw [← List.length_pos_iff]; omega
  rw [this]
  have : ids.length ≤ 16 ↔ ¬ ((ids.length : Int) > 16):=by omega
  rw [this]
end Go.Ev.T1
