import Derived.Test.YtmigbnokhhdopaaRrV6
set_option linter.unusedSimpArgs false
set_option linter.unusedVariables false
set_option maxRecDepth 100000
namespace Go.Ev.T1
open Go Go.Proofs
theorem spec3 {r : List UInt8} (hl : (3 :: r).length ≤ 4000) (hk : ∀ v',Begins (3 :: r) v' → v'.1 = 2 ∨ v'.1 = 3) : SN (3 :: r):=by
 have hlen : (0 : Int) < ((3 :: r).length : Int):=by simp <;> omega
 by_cases hn : ((3 :: r).length : Int) < 13
 ·refine sn_no (w:=ZV) ?_ fun v' hv=>?_
  ·unfold F_u28f
   rw [y2q (by omega),y2q hlen]
   show br (decide (((3 :: r).length : Int) < 13)) _ _ = _
   rw [y2q hn]
   rfl
  ·obtain ⟨g,_⟩:=parts23 hv (hk v' hv)
   omega
 have hlr : 12 ≤ r.length:=by simp at hn; omega
 have hX:=fun v' (hv : Begins (3 :: r) v')=>read23s hv (hk v' hv)
 have hN:=fun v' (hv : Begins (3 :: r) v')=>nums23 hv.1 (hk v' hv)
 have hM:=fun v' (hv : Begins (3 :: r) v')=>rem_lt hv.1 (hk v' hv)
 have h12 : ∀ v',Begins (3 :: r) v' → ((List.getD (3 :: r) (Int.toNat 12) 0).toNat : Int) = v'.1:=fun v' hv=>by
  obtain ⟨_,_,_,p,q⟩:=parts23 hv (hk v' hv)
  show (((3 :: r).getD 12 0).toNat : Int) = _
  rw [p,UInt8.toNat_ofNat']
  have:=hk v' hv
  omega
 have l8 : (r.take 8).length = 8:=by simp; omega
 have l3 : ((r.take 11).drop 8).length = 3:=by simp; omega
 have hr:=rd_lt ((r.take 11).drop 8)
 rw [l3] at hr
 have hrd : rd ((r.take 11).drop 8) < 16777216:=hr
 have hr8:=rd_lt (r.take 8)
 rw [l8] at hr8
 have hhead : ((List.getD (3 :: r) (Int.toNat 1) 0).toNat) * 72057594037927936 ≤ rd (r.take 8) ∧ rd (r.take 8) < (((List.getD (3 :: r) (Int.toNat 1) 0).toNat) + 1) * 72057594037927936:=by
  cases r with
  | nil=>simp at hlr
  | cons c t =>
   rw [List.take_succ_cons,rd_cons]
   have l7 : (t.take 7).length = 7:=by simp at hlr ⊢; omega
   have:=rd_lt (t.take 7)
   rw [l7] at this ⊢
   have h7 : (256 : Nat) ^ 7 = 72057594037927936:=by decide
   rw [h7] at this ⊢
   have hc : List.getD (3 :: c :: t) (Int.toNat 1) 0 = c:=rfl
   rw [hc]
   omega
 by_cases hb : ((List.getD (3 :: r) (Int.toNat 1) 0).toNat : Int) ≥ 128
 ·refine sn_no (w:=ZV) ?_ fun v' hv=>?_
  ·unfold F_u28f
   rw [y2q (by omega),y2q hlen]
   show br (decide (((3 :: r).length : Int) < 13)) _ _ = _
   rw [y15q hn,y2q (by omega),y2q (by omega),y2q hb]
   rfl
  ·obtain ⟨e1,e2⟩:=hX v' hv
   obtain ⟨n1,n2,n3,_⟩:=hN v' hv
   omega
 have h8 : rd (r.take 8) < 9223372036854775808:=by omega
 have hR8 : F_u23f (List.drop (Int.toNat 1) (List.take (Int.toNat 9) (3 :: r))) = some ((rd (r.take 8) : Nat) : Int):=specNum' (r.take 8) (by omega) h8
 have hR3 : F_u23f (List.drop (Int.toNat 9) (List.take (Int.toNat 12) (3 :: r))) = some ((rd ((r.take 11).drop 8) : Nat) : Int):=specNum' ((r.take 11).drop 8) (by omega) (by omega)
 have b8:=be_rd (r.take 8)
 have b3:=be_rd ((r.take 11).drop 8)
 rw [l8] at b8
 rw [l3] at b3
 have hkb : ∀ x : KV,x.1 = ((List.getD (3 :: r) (Int.toNat 12) 0).toNat : Int) → r.getD 11 0 = UInt8.ofNat x.1.toNat:=fun x hx=>by
  rw [hx,Int.toNat_natCast]
  show r.getD 11 0 = UInt8.ofNat ((r.getD 11 0).toNat)
  exact (UInt8.ofNat_toNat).symm
 generalize hY1 : rd (r.take 8) = y1 at *
 generalize hY2 : rd ((r.take 11).drop 8) = y2 at *
 have hF : F_u28f (3 :: r) = br (decide ((y1 : Int) - 1152921504606846976 > 1000000000000000)) (some (ZV,0)) (br (decide ((y1 : Int) - 1152921504606846976 < -1000000000000000)) (some (ZV,0)) (br (decide ((y2 : Int) > 999999)) (some (ZV,0))
   (bnd (br ((↑(List.getD (3 :: r) (Int.toNat 12) 0).toNat : Int) == 2) (br ((y2 : Int) == 0) (some (Sum.inr ((((2 : Int),(y1 : Int) - 1152921504606846976,(0 : Int),([] : List UInt8),()) : y0q),(13 : Int)))) (some (Sum.inl (3 :: r,ZV,(y1 : Int) - 1152921504606846976,(y2 : Int))))) (some (Sum.inl (3 :: r,ZV,(y1 : Int) - 1152921504606846976,(y2 : Int)))))
    (fun y3=>onSum y3 (fun y4=>br (decide (0 ≤ 12)) (br (decide (12 < (List.length y4.1 : Int))) (br ((↑(List.getD y4.1 (Int.toNat 12) 0).toNat : Int) == 3) (br (decide (y4.2.2.1 ≤ 1000000000)) (br (decide (y4.2.2.1 ≥ -1000000000)) (bnd (F_u26f (IntKind.i64.wrap (IntKind.i64.wrap (y4.2.2.1 * 1000000) + y4.2.2.2)) 6) (fun y5=>br (y5.2 == 0) (some (y5.1,13)) (some (ZV,0)))) (some (ZV,0))) (some (ZV,0))) (some (ZV,0))) (none)) (none)) (fun y4=>some y4))))):=by
  unfold F_u28f
  rw [y2q (by omega),y2q hlen]
  show br (decide (((3 :: r).length : Int) < 13)) _ _ = _
  rw [y15q hn,y2q (by omega),y2q (by omega),y15q hb,y2q (by omega),y2q (by omega),y2q (by omega),hR8,y8q,y2q (by omega),y2q (by omega),y2q (by omega),hR3,y8q,y27q (x:=(y1 : Int) - 1152921504606846976) (by omega) (by omega)]
  refine br_cg rfl (br_cg rfl (br_cg rfl ?_))
  rw [y2q (by omega),y2q (by omega)]
  rfl
 by_cases c1 : (y1 : Int) - 1152921504606846976 > 1000000000000000
 ·rw [y2q c1] at hF
  refine sn_no hF fun v' hv=>?_
  obtain ⟨e1,e2⟩:=hX v' hv
  obtain ⟨n1,n2,n3,_⟩:=hN v' hv
  omega
 rw [y15q c1] at hF
 by_cases c2 : (y1 : Int) - 1152921504606846976 < -1000000000000000
 ·rw [y2q c2] at hF
  refine sn_no hF fun v' hv=>?_
  obtain ⟨e1,e2⟩:=hX v' hv
  obtain ⟨n1,n2,n3,_⟩:=hN v' hv
  omega
 rw [y15q c2] at hF
 by_cases c3 : (y2 : Int) > 999999
 ·rw [y2q c3] at hF
  refine sn_no hF fun v' hv=>?_
  obtain ⟨e1,e2⟩:=hX v' hv
  have:=hM v' hv
  omega
 rw [y15q c3] at hF
 have hi1 : ((1152921504606846976 : Int) + ((y1 : Int) - 1152921504606846976)).toNat = y1:=by omega
 by_cases k2 : ((List.getD (3 :: r) (Int.toNat 12) 0).toNat : Int) = 2
 ·rw [beqT _ _ k2,brTT] at hF
  by_cases z : (y2 : Int) = 0
  ·rw [beqT _ _ z,brTT] at hF
   refine sn_yes (n:=13) hF (begins23 ?_ (.inl rfl) hlr ?_ ?_ (hkb _ k2.symm)) ?_
   ·exact .inr (.inr (.inl ⟨rfl,by show (-1000000000000000 : Int) ≤ (y1 : Int) - 1152921504606846976; omega,by show (y1 : Int) - 1152921504606846976 ≤ 1000000000000000; omega,rfl,rfl⟩))
   ·show r.take 8 = be (1152921504606846976 + ((y1 : Int) - 1152921504606846976) / pow10 0).toNat 8
    rw [show pow10 0 = 1 from rfl,Int.ediv_one,hi1,b8]
   ·show (r.take 11).drop 8 = be (((y1 : Int) - 1152921504606846976) % pow10 0 * pow10 (6 - 0)).toNat 3
    rw [show pow10 0 = 1 from rfl,Int.emod_one,Int.zero_mul,show (0 : Int).toNat = y2 by omega,b3]
   ·rw [enc23 (.inl rfl)]
    simp [y34q]
  ·rw [beqF _ _ z,brFF,y8q] at hF
   refine sn_no (w:=ZV) ?_ fun v' hv=>?_
   ·rw [hF]
    show br (decide ((0 : Int) ≤ 12)) (br (decide ((12 : Int) < ((3 :: r).length : Int))) (br ((↑(List.getD (3 :: r) (Int.toNat 12) 0).toNat : Int) == 3) _ _) _) _ = _
    rw [y2q (by omega),y2q (by omega),beqF _ _ (by omega)]
    rfl
   ·have e:=h12 v' hv
    rw [k2] at e
    have:=(rem2 hv.1 e.symm).2
    obtain ⟨e1,e2⟩:=hX v' hv
    omega
 ·rw [beqF _ _ k2,brFF,y8q] at hF
  by_cases k3 : ((List.getD (3 :: r) (Int.toNat 12) 0).toNat : Int) = 3
  ·have hF' : F_u28f (3 :: r) = br (decide ((y1 : Int) - 1152921504606846976 ≤ 1000000000)) (br (decide ((y1 : Int) - 1152921504606846976 ≥ -1000000000)) (bnd (F_u26f (IntKind.i64.wrap (IntKind.i64.wrap (((y1 : Int) - 1152921504606846976) * 1000000) + (y2 : Int))) 6) (fun y5=>br (y5.2 == 0) (some (y5.1,13)) (some (ZV,0)))) (some (ZV,0))) (some (ZV,0)):=by
    rw [hF]
    show br (decide ((0 : Int) ≤ 12)) (br (decide ((12 : Int) < ((3 :: r).length : Int))) (br ((↑(List.getD (3 :: r) (Int.toNat 12) 0).toNat : Int) == 3) _ _) _) _ = _
    rw [y2q (by omega),y2q (by omega),beqT _ _ k3]
    rfl
   have hlo : ∀ v',Begins (3 :: r) v' → -1000000000 ≤ (y1 : Int) - 1152921504606846976 ∧ (y1 : Int) - 1152921504606846976 ≤ 1000000000:=fun v' hv=>by
    have k3' : v'.1 = 3:=by rw [← h12 v' hv]; exact k3
    obtain ⟨g1,g2,g3,g4,_⟩:=vok3 hv.1 k3'
    obtain ⟨p0,_⟩:=pow_pos _ g3 g4
    rw [(hX v' hv).1,show (1152921504606846976 : Int) + v'.2.1 / pow10 v'.2.2.1 - 1152921504606846976 = v'.2.1 / pow10 v'.2.2.1 by omega]
    refine ⟨Int.le_ediv_of_mul_le p0 ?_,Int.ediv_le_of_le_mul p0 ?_⟩ <;> omega
   by_cases c4 : (y1 : Int) - 1152921504606846976 ≤ 1000000000
   ·by_cases c5 : (y1 : Int) - 1152921504606846976 ≥ -1000000000
    ·rw [y2q c4,y2q c5,y27q (x:=((y1 : Int) - 1152921504606846976) * 1000000) (by omega) (by omega),y27q (x:=((y1 : Int) - 1152921504606846976) * 1000000 + (y2 : Int)) (by omega) (by omega),specDec _ (by omega) (by omega),y8q] at hF'
     by_cases c6 : (strip 6 (((y1 : Int) - 1152921504606846976) * 1000000 + (y2 : Int))).1 > 1000000000 ∨ (strip 6 (((y1 : Int) - 1152921504606846976) * 1000000 + (y2 : Int))).1 < -1000000000
     ·rw [if_pos c6] at hF'
      refine sn_no (w:=ZV) hF' fun v' hv=>?_
      have k3' : v'.1 = 3:=by rw [← h12 v' hv]; exact k3
      obtain ⟨g1,g2,_⟩:=vok3 hv.1 k3'
      obtain ⟨_,_,_,_,_,e⟩:=hN v' hv
      rw [(hX v' hv).1,(hX v' hv).2,show (1152921504606846976 : Int) + v'.2.1 / pow10 v'.2.2.1 - 1152921504606846976 = v'.2.1 / pow10 v'.2.2.1 by omega,e,dec_of hv.1 k3'] at c6
      simp only at c6
      omega
     ·rw [if_neg c6] at hF'
      obtain ⟨j,j1,j2,j3,j4⟩:=strip_spec 6 (((y1 : Int) - 1152921504606846976) * 1000000 + (y2 : Int))
      generalize strip 6 (((y1 : Int) - 1152921504606846976) * 1000000 + (y2 : Int)) = S at *
      obtain ⟨m,s⟩:=S
      simp only at c6 j2 j3 j4
      have hv : VOK ((3 : Int),m,s,([] : List UInt8),()):=.inr (.inr (.inr (.inl ⟨rfl,by show (-1000000000 : Int) ≤ m; omega,by show m ≤ 1000000000; omega,by show (0 : Int) ≤ s; omega,by show s ≤ 6; omega,j4,rfl⟩)))
      obtain ⟨n1,n2,n3,n4,n5,n6⟩:=nums23 hv (.inr rfl)
      have n7:=rem_lt hv (.inr rfl)
      have e10 : (10 : Int) ^ (6 - j) = pow10 (6 - s):=by unfold pow10; rw [j2,show (6 - (j : Int)).toNat = 6 - j by omega]
      rw [e10] at j3
      simp only at n1 n2 n3 n4 n5 n6 n7
      rw [← j3] at n6
      have q1 : m / pow10 s = (y1 : Int) - 1152921504606846976:=by omega
      have q2 : m % pow10 s * pow10 (6 - s) = (y2 : Int):=by omega
      refine sn_yes (n:=13) hF' (begins23 hv (.inr rfl) hlr ?_ ?_ (hkb _ k3.symm)) ?_
      ·show r.take 8 = be (1152921504606846976 + m / pow10 s).toNat 8
       rw [q1,hi1,b8]
      ·show (r.take 11).drop 8 = be (m % pow10 s * pow10 (6 - s)).toNat 3
       rw [q2,Int.toNat_natCast,b3]
      ·rw [enc23 (.inr rfl)]
       simp [y34q]
    ·rw [y2q c4,y15q c5] at hF'
     refine sn_no hF' fun v' hv=>?_
     have:=hlo v' hv
     omega
   ·rw [y15q c4] at hF'
    refine sn_no hF' fun v' hv=>?_
    have:=hlo v' hv
    omega
  ·refine sn_no (w:=ZV) ?_ fun v' hv=>?_
   ·rw [hF]
    show br (decide ((0 : Int) ≤ 12)) (br (decide ((12 : Int) < ((3 :: r).length : Int))) (br ((↑(List.getD (3 :: r) (Int.toNat 12) 0).toNat : Int) == 3) _ _) _) _ = _
    rw [y2q (by omega),y2q (by omega),beqF _ _ k3]
    rfl
   ·have e:=h12 v' hv
    rcases hk v' hv with k | k <;> omega
end Go.Ev.T1
