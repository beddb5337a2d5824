import Derived.Test.YtmigbnokhhdopaaGreatRbQ1
import Derived.Test.YtmigbnokhhdopaaGreatRbCatQ5
set_option linter.unusedSimpArgs false
set_option linter.unusedVariables false
set_option maxRecDepth 100000
namespace Go.Ev.T1
open Go Go.Proofs
def num (n : Int) : y1q:=(2,n,0,[],())
def pick (t : y7q) (row : List y1q) (ids : List Int) : List y1q:=ids.map fun id=>row.getD (colAt t id).toNat y16q
def Cols (t : y7q) (row : List y1q) (ids : List Int) : Prop:=∀ id ∈ ids,0 ≤ colAt t id ∧ colAt t id < row.length
theorem implKey (l : List y1q) (hs : ∀ v ∈ l,v.2.2.2.1.length ≤ 1048576) : u0f 0 l = some (KB l):=by
 unfold u0f chk
 rw [show (l.all fun v=>Nat.ble v.2.2.2.1.length 1048576) = true from List.all_eq_true.2 fun v hv=>Nat.ble_eq_true_of_le (hs v hv)]
 rfl
theorem intMem {l : List Int} {i : Nat} (hi : i < l.length) : l.getD i zInt ∈ l:=by
 simp [List.getD_eq_getElem?_getD,hi]
theorem pick_next (t : y7q) (row : List y1q) (ids : List Int) {i : Nat} (hi : i < ids.length) : pick t row (ids.take i) ++ [row.getD (colAt t (ids.getD i zInt)).toNat y16q] = pick t row (ids.take (i + 1)):=by
 exact take_map (fun id=>row.getD (colAt t id).toNat y16q) zInt ids hi
variable {t : y7q} {row : List y1q}
theorem specPick (ht : t.2.2.2.1.length ≤ 1048576) (ids : List Int) (hi : ids.length ≤ 1048576) (hc : Cols t row ids) : F_u34f t row ids = some (pick t row ids):=by
 unfold F_u34f
 refine Eq.trans (bnd_eq (v:=pick t row ids) ?_) rfl
 unfold F_u34f_l0
 refine loop_run (fun i=>(row,ids,t,pick t row (ids.take i),((i : Nat) : Int))) ids.length _ (fun i C h=>?_) (fun C=>?_) _ 0 (Nat.zero_le _) (by omega)
 ·unfold B_u34f_l0
  obtain ⟨c1,c2⟩:=hc _ (intMem h)
  simp (disch:=omega) only [y10q,Int.toNat_natCast]
  rw [y2q (by omega),y2q (by omega),y2q (by omega),specCol t _ ht,y5q]
  show br (decide (0 ≤ colAt t (ids.getD i zInt))) (br (decide (colAt t (ids.getD i zInt) < _)) _ _) _ = _
  rw [y2q c1,y2q c2,y2q (by simp [pick,capN]; omega)]
  show C (row,ids,t,pick t row (ids.take i) ++ [row.getD (colAt t (ids.getD i zInt)).toNat y16q],_) = _
  rw [pick_next t row ids h]
 ·unfold B_u34f_l0
  rw [List.take_length]
  exact y14q (by simp) _ _
theorem implPick (ht : t.2.2.2.1.length ≤ 1048576) (ids : List Int) (hi : ids.length ≤ 1048576) (hc : Cols t row ids) : F_u64f t row ids = some (pick t row ids):=by
 unfold F_u64f
 refine Eq.trans (bnd_eq (v:=pick t row ids) ?_) rfl
 unfold F_u64f_l0
 refine loop_run (fun i=>(row,t,pick t row (ids.take i),ids,(ids.length : Int),((i : Nat) : Int))) ids.length _ (fun i C h=>?_) (fun C=>?_) _ 0 (Nat.zero_le _) (by omega)
 ·unfold B_u64f_l0
  obtain ⟨c1,c2⟩:=hc _ (intMem h)
  simp (disch:=omega) only [y10q,Int.toNat_natCast]
  rw [y2q (by omega),y2q (by omega),y2q (by omega),implCol t _ ht,y5q,y2q c1,y2q c2,y2q (by simp [pick,capN]; omega),pick_next t row ids h]
 ·unfold B_u64f_l0
  rw [List.take_length]
  exact y14q (by simp) _ _
def SmRow (row : List y1q) : Prop:=row.length ≤ 1048576 ∧ ∀ v ∈ row,v.2.2.2.1.length ≤ 1048576
theorem pick_sm (hr : ∀ v ∈ row,v.2.2.2.1.length ≤ 1048576) (ids : List Int) : ∀ v ∈ pick t row ids,v.2.2.2.1.length ≤ 1048576:=by
 intro v hv
 obtain ⟨id,_,rfl⟩:=List.mem_map.1 hv
 by_cases h : (colAt t id).toNat < row.length
 ·simp only [List.getD_eq_getElem?_getD,List.getElem?_eq_getElem h,Option.getD_some]
  exact hr _ (List.getElem_mem h)
 ·simp only [List.getD_eq_getElem?_getD,List.getElem?_eq_none (Nat.not_lt.1 h),Option.getD_none]
  decide
theorem nums_sm (a b : Int) {l : List y1q} (hl : ∀ v ∈ l,v.2.2.2.1.length ≤ 1048576) : ∀ v ∈ [num a,num b] ++ l,v.2.2.2.1.length ≤ 1048576:=by
 intro v hv
 rcases List.mem_append.1 hv with h | h
 ·simp only [List.mem_cons,List.not_mem_nil,or_false] at h
  rcases h with rfl | rfl <;> simp [num]
 ·exact hl v h
noncomputable def entry (t : y7q) (x : y15q) (row : List y1q) : DPair:=((KB ([num t.1,num x.1] ++ pick t row x.2.2.1 ++ pick t row t.2.2.2.2.1)).1,[],())
theorem y146q (ids : List Int) : (pick t row ids).length = ids.length:=by simp [pick]
theorem entry_sm (hr : ∀ v ∈ row,v.2.2.2.1.length ≤ 1048576) (a b : Int) (k1 k2 : List Int) : ∀ v ∈ [num a,num b] ++ pick t row k1 ++ pick t row k2,v.2.2.2.1.length ≤ 1048576:=by
 intro v hv
 rcases List.mem_append.1 hv with h | h
 ·exact nums_sm a b (pick_sm hr k1) v h
 ·exact pick_sm hr k2 v h
theorem specEntry (ht : t.2.2.2.1.length ≤ 1048576) (hr : ∀ v ∈ row,v.2.2.2.1.length ≤ 1048576) (x : y15q) (h1 : x.2.2.1.length ≤ 16) (h2 : t.2.2.2.2.1.length ≤ 16) (c1 : Cols t row x.2.2.1) (c2 : Cols t row t.2.2.2.2.1) :
  F_u38f t x row = some (entry t x row):=by
 unfold F_u38f
 show bnd (some (num t.1)) (fun y1=>bnd (some (num x.1)) fun y2=>bnd (F_u34f t row x.2.2.1) _) = _
 rw [y5q,y5q,specPick ht _ (by omega) c1,y5q,y2q (y159q (by rw [y146q]; simp; omega)),specPick ht _ (by omega) c2,y5q,y2q (y159q (by rw [y146q,List.length_append,y146q]; simp; omega)),specKey _ (entry_sm hr _ _ _ _),y5q]
 rfl
theorem implEntry (ht : t.2.2.2.1.length ≤ 1048576) (hr : ∀ v ∈ row,v.2.2.2.1.length ≤ 1048576) (x : y15q) (h1 : x.2.2.1.length ≤ 16) (h2 : t.2.2.2.2.1.length ≤ 16) (c1 : Cols t row x.2.2.1) (c2 : Cols t row t.2.2.2.2.1) :
  F_u67f t x row = some (entry t x row):=by
 unfold F_u67f
 show bnd (some (num t.1)) (fun y1=>bnd (some (num x.1)) fun y2=>bnd (F_u64f t row x.2.2.1) _) = _
 rw [y5q,y5q,implPick ht _ (by omega) c1,y5q,y2q (y159q (by rw [y146q]; simp; omega)),implPick ht _ (by omega) c2,y5q,y2q (y159q (by rw [y146q,List.length_append,y146q]; simp; omega))]
 unfold F_u66f
 rw [implKey _ (entry_sm hr _ _ _ _)]
 rfl
noncomputable def key (t : y7q) (row : List y1q) : List UInt8:=(KB ([num t.1,num 0] ++ pick t row t.2.2.2.2.1)).1
def ValFits (t : y7q) (row : List y1q) (i : Nat) : Prop:=VOK (row.getD i y16q) ∧ ((row.getD i y16q).1 ≠ 0 → (row.getD i y16q).1 = (t.2.2.2.1.getD i y23q).2.2.1) ∧ ((row.getD i y16q).1 = 0 → (t.2.2.2.1.getD i y23q).2.2.2.1 = false)
def RowFits (t : y7q) (row : List y1q) : Prop:=row.length = t.2.2.2.1.length ∧ ∀ i,i < row.length → ValFits t row i
theorem rowMem {i : Nat} (hi : i < row.length) : row.getD i y16q ∈ row:=by
 simp [List.getD_eq_getElem?_getD,hi]
theorem specRowOK (hr : SmRow row) : Ans (F_u23f t row) (some true) (some false) (RowFits t row):=by
 unfold F_u23f
 simp only [y106q]
 refine y20q (y6q fun hl=>y28q (a:=.inl ()) (b:=.inr false) (P:=∀ i,i < row.length → ValFits t row i) ?_ rfl rfl) ?_
 ·have hl : row.length = t.2.2.2.1.length:=by simp at hl; omega
  have hlen:=hr.1
  unfold F_u23f_l0
  refine y35q (fun i=>(row,t,((i : Nat) : Int))) row.length (fun i=>ValFits t row i) (fun i C hi hb=>?_) (fun C _=>?_) (by omega)
  ·unfold B_u23f_l0
   simp (disch:=omega) only [y10q,Int.toNat_natCast,y42q,y106q]
   refine y20q (y4q (by omega) (y4q (by omega) (y4q (by omega) (y13q (specValue _ (hr.2 _ (rowMem hi))) rfl fun hv=>ans_brf (y4q (by omega) (y4q (by omega) (y62q
    (fun h0=>y4q (by omega) (y4q (by omega) (y4q (by omega) (y4q (by omega) (y6q fun hk=>y4q (by omega) (y4q (by omega) (y62q (fun hz=>y4q (by omega) (y4q (by omega) (y154q fun hn=>y37q))) fun hz=>y37q)))))))
    fun h0=>y4q (by omega) (y4q (by omega) (y62q (fun hz=>y4q (by omega) (y4q (by omega) (y154q fun hn=>y37q))) fun hz=>y37q))))))))) ?_
   unfold ValFits
   simp only [and_true,Bool.not_eq_true]
   grind
  ·unfold B_u23f_l0
   exact y14q (by simp) _ _
 ·unfold RowFits
  have : (¬ ¬ (row.length : Int) = t.2.2.2.1.length) ↔ row.length = t.2.2.2.1.length:=by omega
  rw [this]
theorem implRowOK (hr : SmRow row) : Ans (F_u58f t row) (some true) (some false) (RowFits t row):=by
 unfold F_u58f
 simp only [y106q]
 refine y20q (y6q fun hl=>y28q (a:=.inl ()) (b:=.inr false) (P:=∀ i,i < row.length → ValFits t row i) ?_ rfl rfl) ?_
 ·have hl : row.length = t.2.2.2.1.length:=by simp at hl; omega
  have hlen:=hr.1
  unfold F_u58f_l0
  refine y35q (fun i=>(t,row,(row.length : Int),((i : Nat) : Int))) row.length (fun i=>ValFits t row i) (fun i C hi hb=>?_) (fun C _=>?_) (by omega)
  ·unfold B_u58f_l0
   simp (disch:=omega) only [y10q,Int.toNat_natCast,y42q,y106q]
   refine y20q (y4q (by omega) (y4q (by omega) (y4q (by omega) (y13q (implValue _ (hr.2 _ (rowMem hi))) rfl fun hv=>ans_brf (y62q
    (fun h0=>y4q (by omega) (y4q (by omega) (y6q fun hk=>y62q (fun hz=>y4q (by omega) (y4q (by omega) (y154q fun hn=>y37q))) fun hz=>y37q)))
    fun h0=>y62q (fun hz=>y4q (by omega) (y4q (by omega) (y154q fun hn=>y37q))) fun hz=>y37q))))) ?_
   unfold ValFits
   simp only [and_true,Bool.not_eq_true]
   grind
  ·unfold B_u58f_l0
   exact y14q (by simp) _ _
 ·unfold RowFits
  have : (¬ ¬ (row.length : Int) = t.2.2.2.1.length) ↔ row.length = t.2.2.2.1.length:=by omega
  rw [this]
end Go.Ev.T1
