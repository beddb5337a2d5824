import Derived.Test.YtmigbnokhhdopaaRrV8
set_option linter.unusedSimpArgs false
set_option linter.unusedVariables false
set_option maxRecDepth 100000
namespace Go.Ev.T1
open Go Go.Proofs
abbrev vAt (l : List y0q) (i : Nat) : y0q:=l.getD i y18q
def PStep (vl : List y0q) (j : Nat) : Prop:=(vAt vl (2 * j)).1 = 2 ∧ (vAt vl (2 * j + 1)).1 ≠ 0 ∧ (j = 0 ∨ (vAt vl (2 * (j - 1))).2.1 < (vAt vl (2 * j)).2.1)
def fill (t : y6q) (vl : List y0q) : Nat → List y0q
 | 0=>List.replicate t.2.2.2.1.length y18q
 | j + 1=>if colAt t (vAt vl (2 * j)).2.1 ≥ 0 then (fill t vl j).set (colAt t (vAt vl (2 * j)).2.1).toNat (vAt vl (2 * j + 1)) else fill t vl j
def lastN (vl : List y0q) : Nat → Int
 | 0=>0
 | j + 1=>(vAt vl (2 * j)).2.1
variable {t : y6q} {kl vl : List y0q}
theorem fill_len : ∀ j,(fill t vl j).length = t.2.2.2.1.length
 | 0=>by simp [fill]
 | j + 1=>by
  unfold fill
  split
  ·rw [List.length_set,fill_len j]
  ·exact fill_len j
theorem fill_sm (hv : ∀ v ∈ vl,v.2.2.2.1.length ≤ 1048576) : ∀ j,∀ v ∈ fill t vl j,v.2.2.2.1.length ≤ 1048576
 | 0,v,h=>by
  unfold fill at h
  rw [(List.mem_replicate.1 h).2]
  decide
 | j + 1,v,h=>by
  unfold fill at h
  split at h
  ·rcases List.mem_or_eq_of_mem_set h with h | rfl
   ·exact fill_sm hv j v h
   ·show (vl.getD (2 * j + 1) y18q).2.2.2.1.length ≤ 1048576
    by_cases hj : 2 * j + 1 < vl.length
    ·rw [List.getD_eq_getElem?_getD,List.getElem?_eq_getElem hj]
     exact hv _ (List.getElem_mem hj)
    ·rw [List.getD_eq_getElem?_getD,List.getElem?_eq_none (by omega)]
     decide
  ·exact fill_sm hv j v h
theorem wrap_two (x : Nat) (h : x ≤ 1048576) : IntKind.i64.wrap ((x : Int) + 2) = ((x + 2 : Nat) : Int):=by
 rw [y27q (by omega) (by omega)]
 omega
theorem specFill (ht : t.2.2.2.1.length ≤ 1048576) {N : Nat} (hN : N ≤ 1000) (hv : vl.length = 2 * N) :
  Ans (F_u31f_l0 t [] kl vl (List.replicate t.2.2.2.1.length y18q) 0 0) (some (.inl (t,[],kl,fill t vl N))) (some (.inr ([],5))) (∀ j,j < N → PStep vl j):=by
 unfold F_u31f_l0
 refine y36q (fun j=>(t,([] : List y0q),kl,vl,fill t vl j,lastN vl j,((2 * j : Nat) : Int))) N (fun j=>PStep vl j) (fun j C hj hb=>?_) (fun C _=>?_) (by omega)
 ·unfold B_u31f_l0
  have hlt : colAt t (vAt vl (2 * j)).2.1 < t.2.2.2.1.length:=idx_lt
  have hfl:=fill_len (t:=t) (vl:=vl) j
  simp (disch:=omega) only [y10q,Int.toNat_natCast,y130q,y44q]
  refine y4q (by omega) (y26q (a:=.inl (t,([] : List y0q),kl,vl,fill t vl j,((2 * j : Nat) : Int))) (b:=.inr ([],5)) (P:=PStep vl j) ?_ ?_ rfl)
  ·refine y21q (y4q (by omega) (y4q (by omega) (y5q fun h1=>y4q (by omega) (y4q (by omega) (y60q (fun h2=>y5q fun h3=>y4q (by omega) (y4q (by omega) (y5q fun h4=>y39q))) fun h2=>y4q (by omega) (y4q (by omega) (y5q fun h4=>y39q))))))) ?_
   unfold PStep
   cases j with
   | zero=>simp [lastN]; grind
   | succ j=>simp only [lastN,Nat.add_sub_cancel]; grind
  ·show br (decide ((0 : Int) ≤ ((2 * j : Nat) : Int))) (br (decide (((2 * j : Nat) : Int) < (vl.length : Int))) (bnd (F_u8f t (vAt vl ((2 * j : Nat) : Int).toNat).2.1) _) none) none = _
   rw [y2q (by omega),y2q (by omega),Int.toNat_natCast,specCol t _ ht,y8q]
   show br (decide (colAt t (vAt vl (2 * j)).2.1 ≥ 0)) _ _ = _
   rw [fill]
   by_cases hc : colAt t (vAt vl (2 * j)).2.1 ≥ 0
   ·rw [y2q hc,if_pos hc]
    simp (disch:=omega) only [y10q,wrap_two,Int.toNat_natCast]
    rw [y2q (by omega),y2q (by omega)]
    show br (decide ((0 : Int) ≤ colAt t (vAt vl (2 * j)).2.1)) (br (decide (colAt t (vAt vl (2 * j)).2.1 < ((fill t vl j).length : Int))) _ none) none = _
    rw [y2q (by omega),y2q (by omega)]
    rfl
   ·rw [y15q hc,if_neg hc]
    simp (disch:=omega) only [y10q,wrap_two,Int.toNat_natCast]
    rfl
 ·unfold B_u31f_l0
  exact y15q (by dsimp only; omega) _ _
theorem implFill (ht : t.2.2.2.1.length ≤ 1048576) {N : Nat} (hN : N ≤ 1000) (hv : vl.length = 2 * N) :
  Ans (F_u55f_l2 t kl vl (List.replicate t.2.2.2.1.length y18q) 0) (some (.inl (t,kl,fill t vl N))) (some (.inr ([],5))) (∀ j,j < N → PStep vl j):=by
 unfold F_u55f_l2
 refine y36q (fun j=>(t,kl,vl,fill t vl j,((2 * j : Nat) : Int))) N (fun j=>PStep vl j) (fun j C hj hb=>?_) (fun C _=>?_) (by omega)
 ·unfold B_u55f_l2
  have hlt : colAt t (vAt vl (2 * j)).2.1 < t.2.2.2.1.length:=idx_lt
  have hfl:=fill_len (t:=t) (vl:=vl) j
  have hw : IntKind.i64.wrap (((2 * j : Nat) : Int) - 2) = ((2 * j : Nat) : Int) - 2:=y27q (by omega) (by omega)
  simp (disch:=omega) only [y10q,Int.toNat_natCast,y130q,y44q,hw]
  refine y4q (by omega) (y26q (a:=.inl (t,kl,vl,fill t vl j,((2 * j : Nat) : Int))) (b:=.inr ([],5)) (P:=PStep vl j) ?_ ?_ rfl)
  ·refine y21q (y4q (by omega) (y4q (by omega) (y5q fun h1=>y4q (by omega) (y4q (by omega) (y5q fun h4=>y60q (fun h2=>y4q (by omega) (y4q (by omega) (y4q (by omega) (y4q (by omega) (y5q fun h3=>y39q))))) fun h2=>y39q))))) ?_
   unfold PStep
   rw [show (((2 * j : Nat) : Int) - 2).toNat = 2 * (j - 1) by omega]
   cases j with
   | zero=>simp <;> grind
   | succ j=>simp only [Nat.add_sub_cancel]; grind
  ·show br (decide ((0 : Int) ≤ ((2 * j : Nat) : Int))) (br (decide (((2 * j : Nat) : Int) < (vl.length : Int))) (bnd (F_u40f t (vAt vl ((2 * j : Nat) : Int).toNat).2.1) _) none) none = _
   rw [y2q (by omega),y2q (by omega),Int.toNat_natCast,implCol t _ ht,y8q]
   show br (decide (colAt t (vAt vl (2 * j)).2.1 ≥ 0)) _ _ = _
   rw [fill]
   by_cases hc : colAt t (vAt vl (2 * j)).2.1 ≥ 0
   ·rw [y2q hc,if_pos hc]
    simp (disch:=omega) only [y10q,wrap_two,Int.toNat_natCast]
    rw [y2q (by omega),y2q (by omega)]
    show br (decide ((0 : Int) ≤ colAt t (vAt vl (2 * j)).2.1)) (br (decide (colAt t (vAt vl (2 * j)).2.1 < ((fill t vl j).length : Int))) _ none) none = _
    rw [y2q (by omega),y2q (by omega)]
    rfl
   ·rw [y15q hc,if_neg hc]
    simp (disch:=omega) only [y10q,wrap_two,Int.toNat_natCast]
    rfl
 ·unfold B_u55f_l2
  exact y15q (by dsimp only; omega) _ _
end Go.Ev.T1
