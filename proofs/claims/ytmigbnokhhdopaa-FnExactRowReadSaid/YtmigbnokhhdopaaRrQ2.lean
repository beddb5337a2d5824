import Derived.Test.YtmigbnokhhdopaaRrQ1
import Derived.Test.YtmigbnokhhdopaaRrCatQ5
set_option linter.unusedSimpArgs false
set_option linter.unusedVariables false
set_option maxRecDepth 100000
namespace Go.Ev.T1
open Go Go.Proofs
def num (n : Int) : y0q:=(2,n,0,[],())
def pick (t : y6q) (row : List y0q) (ids : List Int) : List y0q:=ids.map fun id=>row.getD (colAt t id).toNat y18q
def Cols (t : y6q) (row : List y0q) (ids : List Int) : Prop:=∀ id ∈ ids,0 ≤ colAt t id ∧ colAt t id < row.length
theorem implKey (l : List y0q) (hs : ∀ v ∈ l,v.2.2.2.1.length ≤ 1048576) : u0f 0 l = some (KB l):=by
 unfold u0f chk
 rw [show (l.all fun v=>Nat.ble v.2.2.2.1.length 1048576) = true from List.all_eq_true.2 fun v hv=>Nat.ble_eq_true_of_le (hs v hv)]
 rfl
theorem intMem {l : List Int} {i : Nat} (hi : i < l.length) : l.getD i zInt ∈ l:=by
 simp [List.getD_eq_getElem?_getD,hi]
theorem pick_next (t : y6q) (row : List y0q) (ids : List Int) {i : Nat} (hi : i < ids.length) : pick t row (ids.take i) ++ [row.getD (colAt t (ids.getD i zInt)).toNat y18q] = pick t row (ids.take (i + 1)):=by
 exact take_map (fun id=>row.getD (colAt t id).toNat y18q) zInt ids hi
variable {t : y6q} {row : List y0q}
theorem implPick (ht : t.2.2.2.1.length ≤ 1048576) (ids : List Int) (hi : ids.length ≤ 1048576) (hc : Cols t row ids) : F_u54f t row ids = some (pick t row ids):=by
 unfold F_u54f
 refine Eq.trans (bnd_eq (v:=pick t row ids) ?_) rfl
 unfold F_u54f_l0
 refine loop_run (fun i=>(row,t,pick t row (ids.take i),ids,(ids.length : Int),((i : Nat) : Int))) ids.length _ (fun i C h=>?_) (fun C=>?_) _ 0 (Nat.zero_le _) (by omega)
 ·unfold B_u54f_l0
  obtain ⟨c1,c2⟩:=hc _ (intMem h)
  simp (disch:=omega) only [y10q,Int.toNat_natCast]
  rw [y2q (by omega),y2q (by omega),y2q (by omega),implCol t _ ht,y8q,y2q c1,y2q c2,y2q (by simp [pick,capN]; omega),pick_next t row ids h]
 ·unfold B_u54f_l0
  rw [List.take_length]
  exact y15q (by simp) _ _
def SmRow (row : List y0q) : Prop:=row.length ≤ 1048576 ∧ ∀ v ∈ row,v.2.2.2.1.length ≤ 1048576
theorem pick_sm (hr : ∀ v ∈ row,v.2.2.2.1.length ≤ 1048576) (ids : List Int) : ∀ v ∈ pick t row ids,v.2.2.2.1.length ≤ 1048576:=by
 intro v hv
 obtain ⟨id,_,rfl⟩:=List.mem_map.1 hv
 by_cases h : (colAt t id).toNat < row.length
 ·simp only [List.getD_eq_getElem?_getD,List.getElem?_eq_getElem h,Option.getD_some]
  exact hr _ (List.getElem_mem h)
 ·simp only [List.getD_eq_getElem?_getD,List.getElem?_eq_none (Nat.not_lt.1 h),Option.getD_none]
  decide
theorem nums_sm (a b : Int) {l : List y0q} (hl : ∀ v ∈ l,v.2.2.2.1.length ≤ 1048576) : ∀ v ∈ [num a,num b] ++ l,v.2.2.2.1.length ≤ 1048576:=by
 intro v hv
 rcases List.mem_append.1 hv with h | h
 ·simp only [List.mem_cons,List.not_mem_nil,or_false] at h
  rcases h with rfl | rfl <;> simp [num]
 ·exact hl v h
noncomputable def entry (t : y6q) (x : y16q) (row : List y0q) : DPair:=((KB ([num t.1,num x.1] ++ pick t row x.2.2.1 ++ pick t row t.2.2.2.2.1)).1,[],())
theorem pick_len (ids : List Int) : (pick t row ids).length = ids.length:=by simp [pick]
theorem entry_sm (hr : ∀ v ∈ row,v.2.2.2.1.length ≤ 1048576) (a b : Int) (k1 k2 : List Int) : ∀ v ∈ [num a,num b] ++ pick t row k1 ++ pick t row k2,v.2.2.2.1.length ≤ 1048576:=by
 intro v hv
 rcases List.mem_append.1 hv with h | h
 ·exact nums_sm a b (pick_sm hr k1) v h
 ·exact pick_sm hr k2 v h
noncomputable def key (t : y6q) (row : List y0q) : List UInt8:=(KB ([num t.1,num 0] ++ pick t row t.2.2.2.2.1)).1
def ValFits (t : y6q) (row : List y0q) (i : Nat) : Prop:=VOK (row.getD i y18q) ∧ ((row.getD i y18q).1 ≠ 0 → (row.getD i y18q).1 = (t.2.2.2.1.getD i y22q).2.2.1) ∧ ((row.getD i y18q).1 = 0 → (t.2.2.2.1.getD i y22q).2.2.2.1 = false)
def RowFits (t : y6q) (row : List y0q) : Prop:=row.length = t.2.2.2.1.length ∧ ∀ i,i < row.length → ValFits t row i
theorem rowMem {i : Nat} (hi : i < row.length) : row.getD i y18q ∈ row:=by
 simp [List.getD_eq_getElem?_getD,hi]
theorem specRowOK (hr : SmRow row) : Ans (F_u30f t row) (some true) (some false) (RowFits t row):=by
 unfold F_u30f
 simp only [y130q]
 refine y21q (y5q fun hl=>y26q (a:=.inl ()) (b:=.inr false) (P:=∀ i,i < row.length → ValFits t row i) ?_ rfl rfl) ?_
 ·have hl : row.length = t.2.2.2.1.length:=by simp at hl; omega
  have hlen:=hr.1
  unfold F_u30f_l0
  refine y36q (fun i=>(row,t,((i : Nat) : Int))) row.length (fun i=>ValFits t row i) (fun i C hi hb=>?_) (fun C _=>?_) (by omega)
  ·unfold B_u30f_l0
   simp (disch:=omega) only [y10q,Int.toNat_natCast,y44q,y130q]
   refine y21q (y4q (by omega) (y4q (by omega) (y4q (by omega) (y13q (specValue _ (hr.2 _ (rowMem hi))) rfl fun hv=>ans_brf (y4q (by omega) (y4q (by omega) (y60q
    (fun h0=>y4q (by omega) (y4q (by omega) (y4q (by omega) (y4q (by omega) (y5q fun hk=>y4q (by omega) (y4q (by omega) (y60q (fun hz=>y4q (by omega) (y4q (by omega) (y147q fun hn=>y39q))) fun hz=>y39q)))))))
    fun h0=>y4q (by omega) (y4q (by omega) (y60q (fun hz=>y4q (by omega) (y4q (by omega) (y147q fun hn=>y39q))) fun hz=>y39q))))))))) ?_
   unfold ValFits
   simp only [and_true,Bool.not_eq_true]
   grind
  ·unfold B_u30f_l0
   exact y15q (by simp) _ _
 ·unfold RowFits
  have : (¬ ¬ (row.length : Int) = t.2.2.2.1.length) ↔ row.length = t.2.2.2.1.length:=by omega
  rw [this]
theorem implRowOK (hr : SmRow row) : Ans (F_u53f t row) (some true) (some false) (RowFits t row):=by
 unfold F_u53f
 simp only [y130q]
 refine y21q (y5q fun hl=>y26q (a:=.inl ()) (b:=.inr false) (P:=∀ i,i < row.length → ValFits t row i) ?_ rfl rfl) ?_
 ·have hl : row.length = t.2.2.2.1.length:=by simp at hl; omega
  have hlen:=hr.1
  unfold F_u53f_l0
  refine y36q (fun i=>(t,row,(row.length : Int),((i : Nat) : Int))) row.length (fun i=>ValFits t row i) (fun i C hi hb=>?_) (fun C _=>?_) (by omega)
  ·unfold B_u53f_l0
   simp (disch:=omega) only [y10q,Int.toNat_natCast,y44q,y130q]
   refine y21q (y4q (by omega) (y4q (by omega) (y4q (by omega) (y13q (implValue _ (hr.2 _ (rowMem hi))) rfl fun hv=>ans_brf (y60q
    (fun h0=>y4q (by omega) (y4q (by omega) (y5q fun hk=>y60q (fun hz=>y4q (by omega) (y4q (by omega) (y147q fun hn=>y39q))) fun hz=>y39q)))
    fun h0=>y60q (fun hz=>y4q (by omega) (y4q (by omega) (y147q fun hn=>y39q))) fun hz=>y39q))))) ?_
   unfold ValFits
   simp only [and_true,Bool.not_eq_true]
   grind
  ·unfold B_u53f_l0
   exact y15q (by simp) _ _
 ·unfold RowFits
  have : (¬ ¬ (row.length : Int) = t.2.2.2.1.length) ↔ row.length = t.2.2.2.1.length:=by omega
  rw [this]
end Go.Ev.T1
