import Derived.Test.YtmigbnokhhdopaaRrR3
import Derived.Test.YtmigbnokhhdopaaRrMk
set_option linter.unusedSimpArgs false
set_option linter.unusedVariables false
set_option maxRecDepth 100000
namespace Go.Ev.T1
open Go Go.Proofs
variable {t : y6q} {row : List y0q}
noncomputable def rowOf (t : y6q) (p : DPair) : List y0q:=fill t (KVr p.2.1).1 ((KVr p.2.1).1.length / 2)
def PairOK (t : y6q) (p : DPair) : Prop:=RPair t (KVr p.1) (KVr p.2.1)
open Classical in
noncomputable def readOf (t : y6q) (p : DPair) : List y0q × Int:=if SpecTable t then (if PairOK t p then (rowOf t p,0) else ([],5)) else ([],1)
theorem implTable' (hs : Sm_Table 1048576 t) : Ans (F_u45f t) (some true) (some false) (SpecTable t):=y21q (implTable hs) (table_iff t).symm
theorem specRead' (hs : Sm_Table 1048576 t) (p : DPair) : F_u31f t p = some (readOf t p):=by
 unfold readOf
 by_cases hT : SpecTable t
 ·rw [if_pos hT]
  by_cases hp : PairOK t p
  ·rw [if_pos hp]
   exact (specRead hT hs p).1 hp
  ·rw [if_neg hp]
   exact (specRead hT hs p).2 hp
 ·rw [if_neg hT]
  unfold F_u31f
  rw [(specTable hs).2 hT,y8q]
  rfl
theorem implRead' (hs : Sm_Table 1048576 t) (p : DPair) : F_u55f t p = some (readOf t p):=by
 unfold readOf
 by_cases hT : SpecTable t
 ·rw [if_pos hT]
  by_cases hp : PairOK t p
  ·rw [if_pos hp]
   exact (implRead hT hs p).1 hp
  ·rw [if_neg hp]
   exact (implRead hT hs p).2 hp
 ·rw [if_neg hT]
  unfold F_u55f
  rw [(implTable' hs).2 hT,y8q]
  rfl
theorem vok_sm {v : y0q} (h : VOK v) : Sm_Value 1048576 v:=by
 have r : ∀ x : Int, -1000000000000000 ≤ x → x ≤ 1000000000000000 → Rng .i64 x:=fun x h1 h2=>by
  show (decide ((-9223372036854775808 : Int) ≤ x) && decide (x ≤ 9223372036854775807)) = true
  rw [decide_eq_true (by omega),decide_eq_true (by omega)]
  rfl
 rcases h with h | h | h | h | h | h
 ·exact ⟨r _ (by omega) (by omega),r _ (by omega) (by omega),r _ (by omega) (by omega),by rw [h.2.2.2]; decide⟩
 ·exact ⟨r _ (by omega) (by omega),r _ (by omega) (by omega),r _ (by omega) (by omega),by rw [h.2.2.2.2]; decide⟩
 ·exact ⟨r _ (by omega) (by omega),r _ (by omega) (by omega),r _ (by omega) (by omega),by rw [h.2.2.2.2]; decide⟩
 ·exact ⟨r _ (by omega) (by omega),r _ (by omega) (by omega),r _ (by omega) (by omega),by rw [h.2.2.2.2.2.2]; decide⟩
 ·exact ⟨r _ (by omega) (by omega),r _ (by omega) (by omega),r _ (by omega) (by omega),by have:=h.2.2.2.2; omega⟩
 ·exact ⟨r _ (by omega) (by omega),r _ (by omega) (by omega),r _ (by omega) (by omega),by rw [h.2.2.2.2]; decide⟩
theorem zv_ok : VOK y18q:=.inl ⟨rfl,rfl,rfl,rfl⟩
theorem kvr_vok (s : List UInt8) : ∀ v ∈ (KVr s).1,VOK v:=by
 rcases kvr_cases s with ⟨l,h1,h2,h3,e⟩ | e
 ·rw [e]; exact h2.1
 ·rw [e]; exact fun v hv=>absurd hv (by simp)
theorem fill_vok {vl : List y0q} (hv : ∀ v ∈ vl,VOK v) : ∀ j,∀ v ∈ fill t vl j,VOK v
 | 0,v,h=>by
  unfold fill at h
  rw [(List.mem_replicate.1 h).2]
  exact zv_ok
 | j + 1,v,h=>by
  unfold fill at h
  split at h
  ·rcases List.mem_or_eq_of_mem_set h with h | rfl
   ·exact fill_vok hv j v h
   ·show VOK (vl.getD (2 * j + 1) y18q)
    by_cases hj : 2 * j + 1 < vl.length
    ·rw [List.getD_eq_getElem?_getD,List.getElem?_eq_getElem hj]
     exact hv _ (List.getElem_mem hj)
    ·rw [List.getD_eq_getElem?_getD,List.getElem?_eq_none (by omega)]
     exact zv_ok
  ·exact fill_vok hv j v h
theorem read_sm (hs : Sm_Table 1048576 t) {p : DPair} : (readOf t p).1.length ≤ 1048576 ∧ ∀ y ∈ (readOf t p).1,Sm_Value 1048576 y:=by
 have hn : (([] : List y0q),(1 : Int)).1.length ≤ 1048576 ∧ ∀ y ∈ ([] : List y0q),Sm_Value 1048576 y:=⟨by decide,fun y hy=>absurd hy (by simp)⟩
 unfold readOf
 split
 ·split
  ·refine ⟨?_,fun y hy=>vok_sm (fill_vok (kvr_vok p.2.1) _ y hy)⟩
   show (fill t _ _).length ≤ _
   rw [fill_len]
   exact hs.2.2.2.1.1
  ·exact hn
 ·exact hn
theorem law_RowRead (a : DLTable) (ha : Sm_LTable maxLen a) (b : DPair) (hb : Sm_Pair maxLen b) : F_u71f a b = some true:=by
 unfold F_u71f
 obtain ⟨r,hr,h⟩:=sz_Table a 1048576 (by decide) (by decide) ha
 rw [hr,y8q]
 rcases h with rfl | ⟨r0,r1,hs⟩
 ·exact y2q (by decide) _ _
 rw [y15q (by omega)]
 obtain ⟨q,hq,h⟩:=sz_Pair b r (by omega) (by omega) hb
 rw [hq,y8q]
 rcases h with rfl | ⟨q0,q1,hv⟩
 ·exact y2q (by decide) _ _
 rw [y15q (by omega)]
 have hs' : Sm_Table 1048576 a:=hs
 have h1:=specRead' hs' b
 have h2:=implRead' hs' b
 have h3:=read_sm hs' (p:=b)
 obtain ⟨k1,x1,x2,x3,e1,g1,g1'⟩:=mkx_Table a 1 hs' (by decide) (by decide)
 obtain ⟨k2,z1,e2,f2,g2,g2'⟩:=mk_ValueS (readOf a b).1 1 h3 (by decide) (by decide)
 have n1 : decide (k1 < 0) = false:=decide_eq_false (by omega)
 have n2 : decide (k2 < 0) = false:=decide_eq_false (by omega)
 simp only [to_Table a hs,to_Pair b hv,y8q,h1,h2,eq_ValueS _ h3,eq_Table (a : y6q) hs',e1,e2,f2,n1,n2,beq_self_eq_true,bne_self_eq_false,Bool.not_true,y43q]
end Go.Ev.T1
