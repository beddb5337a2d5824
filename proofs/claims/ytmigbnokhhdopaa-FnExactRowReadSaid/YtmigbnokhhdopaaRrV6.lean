import Derived.Test.YtmigbnokhhdopaaRrV5
set_option linter.unusedSimpArgs false
set_option linter.unusedVariables false
set_option maxRecDepth 100000
namespace Go.Ev.T1
open Go Go.Proofs
theorem head_of {b : UInt8} {r : List UInt8} {n : Nat} {K : KV → Prop} (hb : b = UInt8.ofNat n) (h : ∀ v,(v.1 = 0 ∧ b = 1) ∨ (v.1 = 1 ∧ b = 2) ∨ ((v.1 = 2 ∨ v.1 = 3) ∧ b = 3) ∨ (v.1 = 4 ∧ b = 4) ∨ (v.1 = 5 ∧ b = 5) → K v) : ∀ v',Begins (b :: r) v' → K v':=fun v' hv=>h v' (y63q hv)
theorem idx_at : ∀ (l : List UInt8) (n : Nat),Go.Lib.indexByte l 0 = (n : Int) → n < l.length ∧ l.getD n 0 = 0 ∧ ∀ k,k < n → l.getD k 0 ≠ 0
 | [],n,h=>by
  have : (-1 : Int) = (n : Int):=h
  omega
 | b :: l,n,h=>by
  unfold Go.Lib.indexByte at h
  by_cases hb : b = 0
  ·subst hb
   rw [show ((0 : UInt8) == 0) = true from rfl,if_pos rfl] at h
   obtain rfl : n = 0:=by omega
   exact ⟨by simp,rfl,fun k hk=>absurd hk (by omega)⟩
  ·rw [show (b == (0 : UInt8)) = false by simpa using hb,if_neg (by simp)] at h
   by_cases hi : Go.Lib.indexByte l 0 = -1
   ·rw [hi] at h
    have : (-1 : Int) = (n : Int):=h
    omega
   ·rw [if_neg (by simpa using hi)] at h
    obtain ⟨m,hm⟩ : ∃ m : Nat,Go.Lib.indexByte l 0 = (m : Int):=⟨_,(Int.toNat_of_nonneg (by have:=(idxB_range l).1; omega)).symm⟩
    obtain ⟨g1,g2,g3⟩:=idx_at l m hm
    obtain rfl : n = m + 1:=by omega
    refine ⟨by simp; omega,by simpa using g2,fun k hk=>?_⟩
    cases k with
    | zero=>simpa using hb
    | succ k=>simpa using g3 k (by omega)
theorem text_of {r : List UInt8} {v : KV} (h : Begins (4 :: r) v) (k : v.1 = 4) {n : Nat} (hn : Go.Lib.indexByte (4 :: r) 0 = (n : Int)) : v = (4,0,0,((4 :: r).take n).drop 1,()) ∧ (encV v).length = n + 1:=by
 obtain ⟨g1,g2,g3⟩:=vok4 h.1 k
 obtain ⟨_,q,e⟩:=h
 rw [enc4 k] at e
 have e2 : 4 :: r = (4 :: v.2.2.2.1) ++ 0 :: q:=by rw [e]; simp
 have hz : (0 : UInt8) ∉ 4 :: v.2.2.2.1:=by
  intro hm
  rcases List.mem_cons.1 hm with h | h
  ·exact absurd h (by decide)
  ·exact prn_nz g1 h
 have hn2 : (n : Int) = ((4 :: v.2.2.2.1).length : Int):=by rw [← hn,e2]; exact idxB_cons _ _ hz
 have hn' : n = v.2.2.2.1.length + 1:=by simp at hn2; omega
 refine ⟨?_,by rw [enc4 k]; simp; omega⟩
 refine g3.trans (kv_eq rfl rfl rfl ?_)
 show v.2.2.2.1 = ((4 :: r).take n).drop 1
 rw [e2,hn',List.take_append_of_le_length (by simp)]
 simp
theorem spec4 {r : List UInt8} (hl : (4 :: r).length ≤ 4000) (hk : ∀ v',Begins (4 :: r) v' → v'.1 = 4) : SN (4 :: r):=by
 obtain ⟨i1,i2,i3⟩:=idxB_range (4 :: r)
 have hlen : (0 : Int) < ((4 :: r).length : Int):=by simp <;> omega
 have hF : F_u28f (4 :: r) = bnd (F_u28f_l1 (4 :: r) ZV 1) (fun y1=>onSum y1 (fun y2=>some (ZV,0)) (fun y2=>some y2)):=by
  unfold F_u28f
  rw [y2q (by omega),y2q hlen]
  rfl
 by_cases hi : Go.Lib.indexByte (4 :: r) 0 < 0
 ·have hnz : ∀ k,k < (4 :: r).length → ¬ ((((4 :: r).getD k 0).toNat : Nat) : Int) = 0:=fun k hk h0=>by
   refine i3 hi ?_
   have : (4 :: r).getD k 0 = 0:=UInt8.toNat_inj.1 (by show _ = 0; omega)
   rw [← this,List.getD_eq_getElem?_getD,List.getElem?_eq_getElem hk]
   exact List.getElem_mem hk
  have hL : F_u28f_l1 (4 :: r) ZV 1 = some (.inl ZV):=by
   unfold F_u28f_l1
   refine loop_run (fun i=>(4 :: r,ZV,((i : Nat) : Int))) (4 :: r).length _ (fun i C h=>?_) (fun C=>?_) _ 1 (by simp) (by simp only [Int.toNat_natCast]; omega)
   ·unfold B_u28f_l1
    simp (disch:=omega) only [y10q,Int.toNat_natCast]
    rw [y2q (by omega),y2q (by omega),y2q (by omega),beqF _ _ (hnz i h)]
    rfl
   ·unfold B_u28f_l1
    exact y15q (by simp) _ _
  refine sn_no (w:=ZV) (by rw [hF,hL]; rfl) fun v' hv=>?_
  have k:=hk v' hv
  obtain ⟨_,q,e⟩:=hv
  rw [enc4 k] at e
  refine i3 hi ?_
  rw [e]
  simp
 ·obtain ⟨n,hn⟩ : ∃ n : Nat,Go.Lib.indexByte (4 :: r) 0 = (n : Int):=⟨_,(Int.toNat_of_nonneg (by omega)).symm⟩
  obtain ⟨a1,a2,a3⟩:=idx_at _ _ hn
  have hn1 : 1 ≤ n:=by
   rcases Nat.eq_zero_or_pos n with h | h
   ·rw [h] at a2; exact absurd a2 (show ¬ (4 : UInt8) = 0 by decide)
   ·exact h
  have hS : (((4 :: r).take n).drop 1).length ≤ 1048576:=by simp only [List.length_drop,List.length_take]; omega
  have hV:=specValue ((4 : Int),(0 : Int),(0 : Int),((4 :: r).take n).drop 1,()) hS
  have hL : ∀ (R : y0q ⊕ (y0q × Int)),bnd (F_u21f ((4 : Int),(0 : Int),(0 : Int),((4 :: r).take n).drop 1,())) (fun y2=>br (!y2) (some (Sum.inr (ZV,0))) (some (Sum.inr (((4 : Int),(0 : Int),(0 : Int),((4 :: r).take n).drop 1,()),((n + 1 : Nat) : Int))))) = some R → F_u28f_l1 (4 :: r) ZV 1 = some R:=fun R hR=>by
   unfold F_u28f_l1
   refine loop_run (fun i=>(4 :: r,ZV,((i + 1 : Nat) : Int))) (n - 1) _ (fun i C h=>?_) (fun C=>?_) _ 0 (by omega) (by simp only [Int.toNat_natCast]; omega)
   ·unfold B_u28f_l1
    have hz : ¬ ((((4 :: r).getD (i + 1) 0).toNat : Nat) : Int) = 0:=fun h0=>a3 (i + 1) (by omega) (UInt8.toNat_inj.1 (by show _ = 0; omega))
    simp (disch:=omega) only [y10q,Int.toNat_natCast]
    rw [y2q (by omega),y2q (by omega),y2q (by omega),beqF _ _ hz]
    rfl
   ·unfold B_u28f_l1
    rw [show n - 1 + 1 = n by omega]
    simp (disch:=omega) only [y10q,Int.toNat_natCast]
    rw [y2q (by omega),y2q (by omega),y2q (by omega),a2,beqT _ _ (by rfl)]
    show br (decide ((0 : Int) ≤ 1)) (br (decide ((1 : Int) ≤ (n : Int))) (br (decide ((n : Int) ≤ ((4 :: r).length : Int))) _ none) none) none = _
    rw [y2q (by omega),y2q (by omega),y2q (by omega)]
    exact hR
  by_cases hv : VOK ((4 : Int),(0 : Int),(0 : Int),((4 :: r).take n).drop 1,())
  ·refine sn_yes (w:=((4 : Int),(0 : Int),(0 : Int),((4 :: r).take n).drop 1,())) (n:=n + 1) ?_ ⟨hv,r.drop n, ?_⟩ ?_
   ·rw [hF,hL _ (by rw [hV.1 hv]; rfl)]; rfl
   ·rw [enc4 rfl]
    show 4 :: r = 4 :: (List.drop 1 (List.take n (4 :: r)) ++ [0]) ++ List.drop n r
    obtain ⟨m,rfl⟩ : ∃ m,n = m + 1:=⟨n - 1,by omega⟩
    have hm : m < r.length:=by simp at a1; exact a1
    rw [List.take_succ_cons,List.drop_succ_cons,List.drop_zero,List.cons_append,List.append_assoc]
    congr 1
    have g : r.getD m 0 = 0:=by simpa using a2
    have e1 : r = r.take m ++ r.drop m:=(List.take_append_drop m r).symm
    have e2 : r.drop m = 0 :: r.drop (m + 1):=by
     rw [List.drop_eq_getElem_cons hm]
     congr 1
     simpa [List.getD_eq_getElem?_getD,hm] using g
    rw [e2] at e1
    exact e1
   ·rw [enc4 rfl]
    show (4 :: (List.drop 1 (List.take n (4 :: r)) ++ [0])).length = n + 1
    simp only [List.length_cons,List.length_append,List.length_drop,List.length_take,List.length_nil] at *
    omega
  ·refine sn_no (w:=ZV) ?_ fun v' hb=>?_
   ·rw [hF,hL _ (by rw [hV.2 hv]; rfl)]; rfl
   ·obtain ⟨e,_⟩:=text_of hb (hk v' hb) hn
    rw [← e] at hv
    exact hv hb.1
theorem spec5 {r : List UInt8} (hl : (5 :: r).length ≤ 4000) (hk : ∀ v',Begins (5 :: r) v' → v'.1 = 5) : SN (5 :: r):=by
 have hlen : (0 : Int) < ((5 :: r).length : Int):=by simp <;> omega
 have hx : ∀ v',Begins (5 :: r) v' → 4 ≤ (5 :: r).length ∧ r.take 3 = be v'.2.1.toNat 3 ∧ v'.2.1 = ((rd (r.take 3) : Nat) : Int) ∧ v'.2.1 ≤ 3652058:=fun v' hv=>by
  have k:=hk v' hv
  obtain ⟨g1,g2,g3⟩:=vok5 hv.1 k
  obtain ⟨_,q,e⟩:=hv
  rw [enc5 k] at e
  have e1 : r = be v'.2.1.toNat 3 ++ q:=by simpa using e
  have e2 : r.take 3 = be v'.2.1.toNat 3:=by rw [e1,List.take_append_of_le_length (by simp [y34q]),List.take_of_length_le (by simp [y34q])]
  refine ⟨by rw [e1]; simp [y34q] <;> omega,e2, ?_,g2⟩
  rw [e2,rd_be' (by show v'.2.1.toNat < 16777216; omega),Int.toNat_of_nonneg g1]
 by_cases hn : ((5 :: r).length : Int) ≥ 4
 ·have l3 : (r.take 3).length = 3:=by simp at hn ⊢; omega
  have hr:=rd_lt (r.take 3)
  rw [l3] at hr
  have hrd : rd (r.take 3) < 16777216:=hr
  have hR : F_u23f (List.drop (Int.toNat 1) (List.take (Int.toNat 4) (5 :: r))) = some ((rd (r.take 3) : Nat) : Int):=specNum' (r.take 3) (by omega) (by omega)
  have hF : F_u28f (5 :: r) = br (decide (((rd (r.take 3) : Nat) : Int) ≤ 3652058)) (some (((5 : Int),((rd (r.take 3) : Nat) : Int),(0 : Int),([] : List UInt8),()),4)) (some (ZV,0)):=by
   unfold F_u28f
   rw [y2q (by omega),y2q hlen]
   show br (decide (((5 :: r).length : Int) ≥ 4)) _ _ = _
   rw [y2q hn,y2q (by omega),y2q (by omega),y2q (by omega),hR,y8q]
   refine br_cg ?_ rfl
   rw [y2q (by omega),y2q (by omega),y2q (by omega),y8q]
  by_cases hy : ((rd (r.take 3) : Nat) : Int) ≤ 3652058
  ·rw [y2q hy] at hF
   refine sn_yes (n:=4) hF ⟨?_,r.drop 3, ?_⟩ ?_
   ·exact .inr (.inr (.inr (.inr (.inr ⟨rfl,by show (0 : Int) ≤ ((rd (r.take 3) : Nat) : Int); omega,hy,rfl,rfl⟩))))
   ·rw [enc5 rfl]
    show 5 :: r = 5 :: be ((rd (r.take 3) : Nat) : Int).toNat 3 ++ r.drop 3
    have:=be_rd (r.take 3)
    rw [l3] at this
    rw [Int.toNat_natCast,this,List.cons_append,List.take_append_drop]
   ·rw [enc5 rfl]
    simp [y34q]
  ·rw [y15q hy] at hF
   refine sn_no hF fun v' hv=>?_
   obtain ⟨_,_,g1,g2⟩:=hx v' hv
   omega
 ·refine sn_no (w:=ZV) ?_ fun v' hv=>?_
  ·unfold F_u28f
   rw [y2q (by omega),y2q hlen]
   show br (decide (((5 :: r).length : Int) ≥ 4)) _ _ = _
   rw [y15q hn]
   rfl
  ·obtain ⟨g,_⟩:=hx v' hv
   omega
end Go.Ev.T1
