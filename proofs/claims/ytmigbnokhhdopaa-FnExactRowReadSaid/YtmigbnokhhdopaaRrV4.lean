import Derived.Test.YtmigbnokhhdopaaRrV3
set_option linter.unusedSimpArgs false
set_option linter.unusedVariables false
set_option maxRecDepth 100000
namespace Go.Ev.T1
open Go Go.Proofs
theorem implDec (n : Int) (h1 : -4611686018427387904 ≤ n) (h2 : n ≤ 4611686018427387904) : F_u47f n 6 = some (if (strip 6 n).1 < -1000000000 ∨ (strip 6 n).1 > 1000000000 then (ZV,3) else ((3,(strip 6 n).1,(strip 6 n).2,[],()),0)):=by
 unfold F_u47f F_u47f_l0
 have h:=implStrip 6 n ((6 : Int).toNat + 1) h1 h2 (by omega) (by decide)
 refine Eq.trans (bnd_eq h) ?_
 show br (decide ((strip 6 n).1 < -1000000000)) _ (br (decide ((strip 6 n).1 > 1000000000)) _ _) = _
 by_cases a : (strip 6 n).1 < -1000000000
 ·rw [y2q a,if_pos (.inl a)]; rfl
 ·rw [y15q a]
  by_cases b : (strip 6 n).1 > 1000000000
  ·rw [y2q b,if_pos (.inr b)]; rfl
  ·rw [y15q b,if_neg (by omega)]
variable {acc : List y0q} {C : (List y0q × List UInt8) → Option KvR}
theorem dec_of {v : KV} (h : VOK v) (k : v.1 = 3) : strip 6 (v.2.1 * pow10 (6 - v.2.2.1)) = (v.2.1,v.2.2.1):=by
 obtain ⟨h1,h2,h3,h4,h5,_⟩:=vok3 h k
 have e:=strip_mul v.2.2.1.toNat v.2.1 (by rcases h5 with h5 | h5 <;> first | (left; omega) | (right; exact h5)) (6 - v.2.2.1).toNat
 rw [show v.2.2.1.toNat + (6 - v.2.2.1).toNat = 6 by omega,Int.toNat_of_nonneg h3] at e
 exact e
theorem read23 {s : List UInt8} {v : KV} (h : Begins s v) (k : v.1 = 2 ∨ v.1 = 3) :
  ((s.take 9).drop 1).foldl nW 0 = 1152921504606846976 + v.2.1 / pow10 v.2.2.1 ∧ ((rd ((s.take 12).drop 9) : Nat) : Int) = v.2.1 % pow10 v.2.2.1 * pow10 (6 - v.2.2.1):=by
 obtain ⟨_,p1,p2,_,_⟩:=parts23 h k
 obtain ⟨n1,n2,n3,n4,n5,_⟩:=nums23 h.1 k
 rw [p1,p2]
 generalize v.2.1 / pow10 v.2.2.1 = q at *
 generalize v.2.1 % pow10 v.2.2.1 * pow10 (6 - v.2.2.1) = m at *
 obtain ⟨a,ha⟩ : ∃ a : Nat,1152921504606846976 + q = (a : Int):=⟨_,(Int.toNat_of_nonneg n1).symm⟩
 obtain ⟨c,rfl⟩ : ∃ c : Nat,m = (c : Int):=⟨_,(Int.toNat_of_nonneg n4).symm⟩
 rw [ha,Int.toNat_natCast,Int.toNat_natCast,rd_be' (by show c < 16777216; omega)]
 refine ⟨?_,rfl⟩
 have e:=rd_be' (k:=8) (n:=a) (by show a < 18446744073709551616; omega)
 have:=fold_eq nW_eq (be a 8) 0 (by show rd (be a 8) < _; rw [e]; omega)
 refine Eq.trans this ?_
 show ((rd (be a 8) : Nat) : Int) = _
 rw [e]
theorem p10_6 : F_u48f 6 = some 1000000:=by decide +kernel
theorem wrap_range (n : Int) : -9223372036854775808 ≤ IntKind.i64.wrap n ∧ IntKind.i64.wrap n < 9223372036854775808:=by
 have h1:=Int.emod_nonneg n (show (18446744073709551616 : Int) ≠ 0 by decide)
 have h2:=Int.emod_lt_of_pos n (show (0 : Int) < 18446744073709551616 by decide)
 show -9223372036854775808 ≤ (if (true && decide (n % 18446744073709551616 ≥ 9223372036854775808)) = true then n % 18446744073709551616 - 18446744073709551616 else n % 18446744073709551616) ∧ (if (true && decide (n % 18446744073709551616 ≥ 9223372036854775808)) = true then n % 18446744073709551616 - 18446744073709551616 else n % 18446744073709551616) < 9223372036854775808
 split
 ·rename_i h
  simp at h
  omega
 ·rename_i h
  simp at h
  omega
theorem nW_range (n : Int) (b : UInt8) : -9223372036854775808 ≤ nW n b ∧ nW n b < 9223372036854775808:=by
 unfold nW bits
 exact wrap_range _
theorem implStep3 (b : UInt8) (r : List UInt8) (hl : (b :: r).length ≤ 4000) (ha : acc.length ≤ 10000) (hb0 : (!((b :: r) == ([] : List UInt8))) = true) (hlen : (0 : Int) < ((b :: r).length : Int))
  (h1 : ¬ ((b.toNat : Nat) : Int) = 1) (h2 : ¬ ((b.toNat : Nat) : Int) = 2) (h3 : ((b.toNat : Nat) : Int) = 3) (hk : ∀ v',Begins (b :: r) v' → v'.1 = 2 ∨ v'.1 = 3) : StepI acc (b :: r) C:=by
 by_cases hn : ((b :: r).length : Int) ≥ 13
 ·have l8 : (List.drop (Int.toNat 1) (List.take (Int.toNat 9) (b :: r))).length ≤ 1048576:=by simp only [List.length_drop,List.length_take]; omega
  have l3 : (List.drop (Int.toNat 9) (List.take (Int.toNat 12) (b :: r))).length = 3:=by simp only [List.length_drop,List.length_take]; show min 12 _ - 9 = 3; omega
  have hr:=rd_lt (List.drop (Int.toNat 9) (List.take (Int.toNat 12) (b :: r)))
  rw [l3] at hr
  have hrd : rd (List.drop (Int.toNat 9) (List.take (Int.toNat 12) (b :: r))) < 16777216:=hr
  have hR : ∀ v',Begins (b :: r) v' → (List.drop (Int.toNat 1) (List.take (Int.toNat 9) (b :: r))).foldl nW 0 = 1152921504606846976 + v'.2.1 / pow10 v'.2.2.1 ∧ ((rd (List.drop (Int.toNat 9) (List.take (Int.toNat 12) (b :: r))) : Nat) : Int) = v'.2.1 % pow10 v'.2.2.1 * pow10 (6 - v'.2.2.1):=fun v' hv=>read23 hv (hk v' hv)
  have hB : B_u49f_l0 (acc,b :: r) C = bnd (br ((↑(List.getD (b :: r) (Int.toNat 12) 0).toNat : Int) == 3) (br (decide (IntKind.i64.wrap ((List.drop (Int.toNat 1) (List.take (Int.toNat 9) (b :: r))).foldl nW 0 - 1152921504606846976) < -1000000001)) (some (Sum.inr ([],5))) (br (decide (IntKind.i64.wrap ((List.drop (Int.toNat 1) (List.take (Int.toNat 9) (b :: r))).foldl nW 0 - 1152921504606846976) > 1000000000)) (some (Sum.inr ([],5))) (bnd (F_u48f 6) (fun y3=>bnd (F_u47f (IntKind.i64.wrap (IntKind.i64.wrap (IntKind.i64.wrap ((List.drop (Int.toNat 1) (List.take (Int.toNat 9) (b :: r))).foldl nW 0 - 1152921504606846976) * y3) + ((rd (List.drop (Int.toNat 9) (List.take (Int.toNat 12) (b :: r))) : Nat) : Int))) 6) (fun y4=>br (y4.2 != 0) (some (Sum.inr ([],5))) (some (Sum.inl (acc,b :: r,y4.1,13)))))))) (some (Sum.inl (acc,b :: r,((2 : Int),IntKind.i64.wrap ((List.drop (Int.toNat 1) (List.take (Int.toNat 9) (b :: r))).foldl nW 0 - 1152921504606846976),(0 : Int),([] : List UInt8),()),(13 : Int))))) (fun y1=>onSum y1 (fun y2=>tailI y2.1 y2.2.1 y2.2.2.1 y2.2.2.2 C) (fun y2=>some (Sum.inr y2))):=by
   unfold B_u49f_l0
   dsimp only
   rw [hb0,brTT,y2q (by omega),y2q hlen]
   show bnd (br (((b.toNat : Nat) : Int) == 1) _ (br (((b.toNat : Nat) : Int) == 2) _ (br (((b.toNat : Nat) : Int) == 3) _ _))) _ = _
   rw [beqF _ _ h1,brFF,beqF _ _ h2,brFF,beqT _ _ h3,brTT,y2q hn,y2q (by omega),y2q (by omega),y2q (by omega),implNum _ l8,y8q,y2q (by omega),y2q (by omega),y2q (by omega),implNum' _ (by omega) (by omega),y8q,y2q (by omega),y2q (by omega)]
   rfl
  generalize hY1 : (List.drop (Int.toNat 1) (List.take (Int.toNat 9) (b :: r))).foldl nW 0 = y1 at hB hR
  generalize rd (List.drop (Int.toNat 9) (List.take (Int.toNat 12) (b :: r))) = y2 at hB hR hrd
  have hH:=wrap_range (y1 - 1152921504606846976)
  have hH' : ∀ v',Begins (b :: r) v' → IntKind.i64.wrap (y1 - 1152921504606846976) = v'.2.1 / pow10 v'.2.2.1:=fun v' hv=>by
   obtain ⟨n1,n2,n3,_⟩:=nums23 hv.1 (hk v' hv)
   rw [(hR v' hv).1,y27q (by omega) (by omega)]
   omega
  generalize IntKind.i64.wrap (y1 - 1152921504606846976) = hi at hB hH hH'
  have h12 : ∀ v',Begins (b :: r) v' → ((List.getD (b :: r) (Int.toNat 12) 0).toNat : Int) = v'.1 ∧ (encV v').length = 13:=fun v' hv=>by
   obtain ⟨_,_,_,p,q⟩:=parts23 hv (hk v' hv)
   refine ⟨?_,q⟩
   show (((b :: r).getD 12 0).toNat : Int) = _
   rw [p,UInt8.toNat_ofNat']
   have:=hk v' hv
   omega
  by_cases h4 : ((List.getD (b :: r) (Int.toNat 12) 0).toNat : Int) = 3
  ·rw [beqT _ _ h4,brTT] at hB
   have hlo : ∀ v',Begins (b :: r) v' → -1000000000 ≤ hi ∧ hi ≤ 1000000000:=fun v' hv=>by
    have k3 : v'.1 = 3:=by rw [← (h12 v' hv).1]; exact h4
    obtain ⟨g1,g2,g3,g4,_⟩:=vok3 hv.1 k3
    obtain ⟨p0,_⟩:=pow_pos _ g3 g4
    rw [hH' v' hv]
    refine ⟨Int.le_ediv_of_mul_le p0 ?_,Int.ediv_le_of_le_mul p0 ?_⟩
    ·omega
    ·omega
   by_cases c1 : hi < -1000000001
   ·refine step_inr ?_ fun v' hv=>?_
    ·rw [hB,y2q c1]; rfl
    ·have:=hlo v' hv; omega
   by_cases c2 : hi > 1000000000
   ·refine step_inr ?_ fun v' hv=>?_
    ·rw [hB,y15q c1,y2q c2]; rfl
    ·have:=hlo v' hv; omega
   rw [y15q c1,y15q c2,p10_6,y8q,y27q (x:=hi * 1000000) (by omega) (by omega),y27q (x:=hi * 1000000 + (y2 : Int)) (by omega) (by omega),implDec _ (by omega) (by omega),y8q] at hB
   have hst : ∀ v',Begins (b :: r) v' → strip 6 (hi * 1000000 + (y2 : Int)) = (v'.2.1,v'.2.2.1):=fun v' hv=>by
    have k3 : v'.1 = 3:=by rw [← (h12 v' hv).1]; exact h4
    obtain ⟨_,_,_,_,_,e⟩:=nums23 hv.1 (.inr k3)
    rw [hH' v' hv,(hR v' hv).2,e]
    exact dec_of hv.1 k3
   by_cases c3 : (strip 6 (hi * 1000000 + (y2 : Int))).1 < -1000000000 ∨ (strip 6 (hi * 1000000 + (y2 : Int))).1 > 1000000000
   ·rw [if_pos c3] at hB
    refine step_inr ?_ fun v' hv=>?_
    ·rw [hB]; rfl
    ·have k3 : v'.1 = 3:=by rw [← (h12 v' hv).1]; exact h4
     obtain ⟨g1,g2,_⟩:=vok3 hv.1 k3
     rw [hst v' hv] at c3
     simp only at c3
     omega
   ·rw [if_neg c3] at hB
    refine y141q (v:=((3 : Int),(strip 6 (hi * 1000000 + (y2 : Int))).1,(strip 6 (hi * 1000000 + (y2 : Int))).2,([] : List UInt8),())) (n:=13) ha (by simp) ?_ fun v' hv=>?_
    ·rw [hB]; rfl
    ·have k3 : v'.1 = 3:=by rw [← (h12 v' hv).1]; exact h4
     obtain ⟨_,_,_,_,_,g⟩:=vok3 hv.1 k3
     refine ⟨?_,(h12 v' hv).2⟩
     rw [hst v' hv]
     exact g
  ·rw [beqF _ _ h4,brFF] at hB
   refine y141q (v:=((2 : Int),hi,(0 : Int),([] : List UInt8),())) (n:=13) ha (by simp) ?_ fun v' hv=>?_
   ·rw [hB]; rfl
   ·have k2 : v'.1 = 2:=by
     have e:=(h12 v' hv).1
     rcases hk v' hv with k | k
     ·exact k
     ·rw [k] at e; exact absurd e h4
    obtain ⟨_,_,g⟩:=vok2 hv.1 k2
    refine ⟨?_,(h12 v' hv).2⟩
    have:=hH' v' hv
    rw [show v'.2.2.1 = 0 by rw [g],show pow10 0 = 1 from rfl,Int.ediv_one] at this
    rw [this]
    exact g
 ·refine y141q (v:=ZV) (n:=13) ha (by simp [ZV]) ?_ fun v' hv=>?_
  ·unfold B_u49f_l0
   dsimp only
   rw [hb0,brTT,y2q (by omega),y2q hlen]
   show bnd (br (((b.toNat : Nat) : Int) == 1) _ (br (((b.toNat : Nat) : Int) == 2) _ (br (((b.toNat : Nat) : Int) == 3) _ _))) _ = _
   rw [beqF _ _ h1,brFF,beqF _ _ h2,brFF,beqT _ _ h3,brTT,y15q hn]
   rfl
  ·obtain ⟨p,_⟩:=parts23 hv (hk v' hv)
   omega
theorem implStep5 (b : UInt8) (r : List UInt8) (hl : (b :: r).length ≤ 4000) (ha : acc.length ≤ 10000) (hb0 : (!((b :: r) == ([] : List UInt8))) = true) (hlen : (0 : Int) < ((b :: r).length : Int))
  (h1 : ¬ ((b.toNat : Nat) : Int) = 1) (h2 : ¬ ((b.toNat : Nat) : Int) = 2) (h3 : ¬ ((b.toNat : Nat) : Int) = 3) (h4 : ¬ ((b.toNat : Nat) : Int) = 4) (h5 : ((b.toNat : Nat) : Int) = 5) (hk : ∀ v',Begins (b :: r) v' → v'.1 = 5) : StepI acc (b :: r) C:=by
 by_cases hn : ((b :: r).length : Int) ≥ 4
 ·have l3 : (List.drop (Int.toNat 1) (List.take (Int.toNat 4) (b :: r))).length = 3:=by simp only [List.length_drop,List.length_take]; show min 4 _ - 1 = 3; omega
  have hr:=rd_lt (List.drop (Int.toNat 1) (List.take (Int.toNat 4) (b :: r)))
  rw [l3] at hr
  have hrd : rd (List.drop (Int.toNat 1) (List.take (Int.toNat 4) (b :: r))) < 16777216:=hr
  refine y141q (v:=((5 : Int),((rd (List.drop (Int.toNat 1) (List.take (Int.toNat 4) (b :: r))) : Nat) : Int),(0 : Int),([] : List UInt8),())) (n:=4) ha (by simp) ?_ fun v' hv=>?_
  ·unfold B_u49f_l0
   dsimp only
   rw [hb0,brTT,y2q (by omega),y2q hlen]
   show bnd (br (((b.toNat : Nat) : Int) == 1) _ (br (((b.toNat : Nat) : Int) == 2) _ (br (((b.toNat : Nat) : Int) == 3) _ (br (((b.toNat : Nat) : Int) == 4) _ (br (((b.toNat : Nat) : Int) == 5) _ _))))) _ = _
   rw [beqF _ _ h1,brFF,beqF _ _ h2,brFF,beqF _ _ h3,brFF,beqF _ _ h4,brFF,beqT _ _ h5,brTT,y2q hn,y2q (by omega),y2q (by omega),y2q (by omega),implNum' _ (by omega) (by omega),y8q]
   rfl
  ·have k:=hk v' hv
   obtain ⟨g1,g2,g3⟩:=vok5 hv.1 k
   obtain ⟨_,q,e⟩:=hv
   rw [enc5 k] at e
   refine ⟨?_,by rw [enc5 k]; simp [y34q]⟩
   have e2 : List.drop (Int.toNat 1) (List.take (Int.toNat 4) (b :: r)) = be v'.2.1.toNat 3:=by
    rw [e]
    show List.drop 1 (List.take 4 (5 :: be v'.2.1.toNat 3 ++ q)) = _
    rw [List.cons_append,List.take_succ_cons,List.drop_succ_cons,List.drop_zero,List.take_append_of_le_length (by simp [y34q]),List.take_of_length_le (by simp [y34q])]
   rw [e2,rd_be' (by show v'.2.1.toNat < 16777216; omega),Int.toNat_of_nonneg g1]
   exact g3
 ·refine y141q (v:=ZV) (n:=4) ha (by simp [ZV]) ?_ fun v' hv=>?_
  ·unfold B_u49f_l0
   dsimp only
   rw [hb0,brTT,y2q (by omega),y2q hlen]
   show bnd (br (((b.toNat : Nat) : Int) == 1) _ (br (((b.toNat : Nat) : Int) == 2) _ (br (((b.toNat : Nat) : Int) == 3) _ (br (((b.toNat : Nat) : Int) == 4) _ (br (((b.toNat : Nat) : Int) == 5) _ _))))) _ = _
   rw [beqF _ _ h1,brFF,beqF _ _ h2,brFF,beqF _ _ h3,brFF,beqF _ _ h4,brFF,beqT _ _ h5,brTT,y15q hn]
   rfl
  ·have k:=hk v' hv
   obtain ⟨_,q,e⟩:=hv
   rw [enc5 k] at e
   have:=congrArg List.length e
   simp [y34q] at this hn
   omega
theorem implStep (b : UInt8) (r : List UInt8) (hl : (b :: r).length ≤ 4000) (ha : acc.length ≤ 10000) : StepI acc (b :: r) C:=by
 have hb0 : (!((b :: r) == ([] : List UInt8))) = true:=rfl
 have hlen : (0 : Int) < ((b :: r).length : Int):=by simp <;> omega
 by_cases h1 : ((b.toNat : Nat) : Int) = 1
 ·refine y141q (v:=ZV) (n:=1) ha (by simp [ZV]) ?_ fun v' hv=>?_
  ·unfold B_u49f_l0
   dsimp only
   rw [hb0,brTT,y2q (by omega),y2q hlen]
   show bnd (br (((b.toNat : Nat) : Int) == 1) _ _) _ = _
   rw [beqT _ _ h1]
   rfl
  ·have hb:=(u8n (b:=b) (n:=1) (by omega)).1 h1
   have:=y63q hv
   rw [hb] at this
   have k : v'.1 = 0:=by rcases this with h | h | h | h | h <;> first | exact h.1 | exact absurd h.2 (by decide)
   exact ⟨vok0 hv.1 k,by rw [enc0 k]; rfl⟩
 by_cases h2 : ((b.toNat : Nat) : Int) = 2
 ·have hb:=(u8n (b:=b) (n:=2) (by omega)).1 h2
  have hk : ∀ v',Begins (b :: r) v' → v'.1 = 1:=fun v' hv=>by
   have:=y63q hv
   rw [hb] at this
   rcases this with h | h | h | h | h <;> first | exact h.1 | exact absurd h.2 (by decide)
  by_cases hn : ((b :: r).length : Int) ≥ 2
  ·refine y141q (v:=((1 : Int),((((b :: r).getD 1 0).toNat : Nat) : Int),(0 : Int),([] : List UInt8),())) (n:=2) ha (by simp) ?_ fun v' hv=>?_
   ·unfold B_u49f_l0
    dsimp only
    have hlt : ((b :: r).getD (Int.toNat 1) 0).toNat < 256:=UInt8.toNat_lt _
    rw [hb0,brTT,y2q (by omega),y2q hlen]
    show bnd (br (((b.toNat : Nat) : Int) == 1) _ (br (((b.toNat : Nat) : Int) == 2) _ _)) _ = _
    rw [beqF _ _ h1,brFF,beqT _ _ h2,brTT,y2q hn,y2q (by omega),y2q (by omega),y27q (by omega) (by omega)]
    rfl
   ·have k:=hk v' hv
    obtain ⟨g1,g2,g3⟩:=vok1 hv.1 k
    obtain ⟨_,q,e⟩:=hv
    rw [enc1 k] at e
    refine ⟨?_,by rw [enc1 k]; rfl⟩
    rw [g3,e]
    have : (((2 :: [UInt8.ofNat v'.2.1.toNat] ++ q).getD 1 0).toNat : Int) = v'.2.1:=by
     show (((UInt8.ofNat v'.2.1.toNat).toNat : Nat) : Int) = _
     rw [UInt8.toNat_ofNat']
     omega
    exact kv_eq rfl this.symm rfl rfl
  ·refine y141q (v:=ZV) (n:=2) ha (by simp [ZV]) ?_ fun v' hv=>?_
   ·unfold B_u49f_l0
    dsimp only
    rw [hb0,brTT,y2q (by omega),y2q hlen]
    show bnd (br (((b.toNat : Nat) : Int) == 1) _ (br (((b.toNat : Nat) : Int) == 2) _ _)) _ = _
    rw [beqF _ _ h1,brFF,beqT _ _ h2,brTT,y15q hn]
    rfl
   ·have k:=hk v' hv
    obtain ⟨_,q,e⟩:=hv
    rw [enc1 k] at e
    rw [e] at hn
    simp at hn
    omega
 by_cases h3 : ((b.toNat : Nat) : Int) = 3
 ·have hb:=(u8n (b:=b) (n:=3) (by omega)).1 h3
  have hk : ∀ v',Begins (b :: r) v' → v'.1 = 2 ∨ v'.1 = 3:=fun v' hv=>by
   have:=y63q hv
   rw [hb] at this
   rcases this with h | h | h | h | h <;> first | exact h.1 | exact absurd h.2 (by decide)
  exact implStep3 b r hl ha hb0 hlen h1 h2 h3 hk
 by_cases h4 : ((b.toNat : Nat) : Int) = 4
 ·have hb:=(u8n (b:=b) (n:=4) (by omega)).1 h4
  have hk : ∀ v',Begins (b :: r) v' → v'.1 = 4:=fun v' hv=>by
   have:=y63q hv
   rw [hb] at this
   rcases this with h | h | h | h | h <;> first | exact h.1 | exact absurd h.2 (by decide)
  obtain ⟨i1,i2,i3⟩:=idxB_range (b :: r)
  have hx : strings_IndexByte 0 (b :: r) 0 = some (Go.Lib.indexByte (b :: r) 0):=rfl
  have hB : B_u49f_l0 (acc,b :: r) C = bnd (bnd (some (Go.Lib.indexByte (b :: r) 0)) fun y1=>br (decide (y1 < 0)) (some (Sum.inr (([] : List y0q),(5 : Int)))) (br (decide ((0 : Int) ≤ 1)) (br (decide (1 ≤ y1)) (br (decide (y1 ≤ ((b :: r).length : Int))) (some (Sum.inl (acc,b :: r,((4 : Int),(0 : Int),(0 : Int),List.drop (Int.toNat 1) (List.take (Int.toNat y1) (b :: r)),()),IntKind.i64.wrap (y1 + 1)))) none) none) none)) (fun y1=>onSum y1 (fun y2=>tailI y2.1 y2.2.1 y2.2.2.1 y2.2.2.2 C) (fun y2=>some (Sum.inr y2))):=by
   unfold B_u49f_l0
   dsimp only
   rw [hb0,brTT,y2q (by omega),y2q hlen]
   show bnd (br (((b.toNat : Nat) : Int) == 1) _ (br (((b.toNat : Nat) : Int) == 2) _ (br (((b.toNat : Nat) : Int) == 3) _ (br (((b.toNat : Nat) : Int) == 4) _ _)))) _ = _
   rw [beqF _ _ h1,brFF,beqF _ _ h2,brFF,beqF _ _ h3,brFF,beqT _ _ h4,brTT,hx]
   rfl
  rw [y8q] at hB
  by_cases hi : Go.Lib.indexByte (b :: r) 0 < 0
  ·refine step_inr ?_ fun v' hv=>?_
   ·rw [hB,y2q hi]
    rfl
   ·have k:=hk v' hv
    obtain ⟨_,q,e⟩:=hv
    rw [enc4 k] at e
    refine i3 hi ?_
    rw [e]
    simp
  ·have hi1 : 1 ≤ Go.Lib.indexByte (b :: r) 0:=by
    unfold Go.Lib.indexByte at hi ⊢
    rw [show (b == (0 : UInt8)) = false by rw [hb]; decide,if_neg (by simp)] at hi ⊢
    split at hi
    ·omega
    ·rename_i hne
     rw [if_neg hne]
     have:=(idxB_range r).1
     have : ¬ Go.Lib.indexByte r 0 = -1:=by simpa using hne
     omega
   generalize hI : Go.Lib.indexByte (b :: r) 0 = I at *
   obtain ⟨n,rfl⟩ : ∃ n : Nat,I = (n : Int):=⟨I.toNat,by omega⟩
   refine y141q (v:=((4 : Int),(0 : Int),(0 : Int),((b :: r).take n).drop 1,())) (n:=n + 1) ha ?_ ?_ fun v' hv=>?_
   ·show (((b :: r).take n).drop 1).length ≤ _
    simp only [List.length_drop,List.length_take]
    omega
   ·rw [hB,y15q hi,y2q (by omega),y2q hi1,y2q (by omega),y8q,y27q (by omega) (by omega)]
    rfl
   ·have k:=hk v' hv
    obtain ⟨g1,g2,g3⟩:=vok4 hv.1 k
    obtain ⟨_,q,e⟩:=hv
    have e':=e
    rw [enc4 k] at e
    have e2 : b :: r = (4 :: v'.2.2.2.1) ++ 0 :: q:=by rw [e]; simp
    have hz : (0 : UInt8) ∉ 4 :: v'.2.2.2.1:=by
     intro hm
     rcases List.mem_cons.1 hm with h | h
     ·exact absurd h (by decide)
     ·exact prn_nz g1 h
    have hn : (n : Int) = ((4 :: v'.2.2.2.1).length : Int):=by rw [← hI,e2]; exact idxB_cons _ _ hz
    have hn' : n = v'.2.2.2.1.length + 1:=by simp at hn; omega
    refine ⟨?_,by rw [enc4 k]; simp; omega⟩
    rw [g3]
    refine kv_eq rfl rfl rfl ?_
    show v'.2.2.2.1 = ((b :: r).take n).drop 1
    rw [e2,hn',List.take_append_of_le_length (by simp)]
    simp
 by_cases h5 : ((b.toNat : Nat) : Int) = 5
 ·have hb:=(u8n (b:=b) (n:=5) (by omega)).1 h5
  have hk : ∀ v',Begins (b :: r) v' → v'.1 = 5:=fun v' hv=>by
   have:=y63q hv
   rw [hb] at this
   rcases this with h | h | h | h | h <;> first | exact h.1 | exact absurd h.2 (by decide)
  exact implStep5 b r hl ha hb0 hlen h1 h2 h3 h4 h5 hk
 ·refine y141q (v:=ZV) (n:=0) ha (by simp [ZV]) ?_ fun v' hv=>?_
  ·unfold B_u49f_l0
   dsimp only
   rw [hb0,brTT,y2q (by omega),y2q hlen]
   show bnd (br (((b.toNat : Nat) : Int) == 1) _ (br (((b.toNat : Nat) : Int) == 2) _ (br (((b.toNat : Nat) : Int) == 3) _ (br (((b.toNat : Nat) : Int) == 4) _ (br (((b.toNat : Nat) : Int) == 5) _ _))))) _ = _
   rw [beqF _ _ h1,brFF,beqF _ _ h2,brFF,beqF _ _ h3,brFF,beqF _ _ h4,brFF,beqF _ _ h5,brFF]
   rfl
  ·have:=y63q hv
   rcases this with h | h | h | h | h <;> (rw [h.2] at h1 h2 h3 h4 h5; simp at h1 h2 h3 h4 h5)
end Go.Ev.T1
