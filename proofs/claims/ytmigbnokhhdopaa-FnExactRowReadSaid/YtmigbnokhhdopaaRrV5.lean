import Derived.Test.YtmigbnokhhdopaaRrV4
set_option linter.unusedSimpArgs false
set_option linter.unusedVariables false
set_option maxRecDepth 100000
namespace Go.Ev.T1
open Go Go.Proofs
theorem br_cg {ρ : Type} {b : Bool} {x x2 y y2 : Option ρ} (hx : x = x2) (hy : y = y2) : br b x y = br b x2 y2:=by rw [hx,hy]
theorem specDec (n : Int) (h1 : -4611686018427387904 ≤ n) (h2 : n ≤ 4611686018427387904) : F_u26f n 6 = some (if (strip 6 n).1 > 1000000000 ∨ (strip 6 n).1 < -1000000000 then (ZV,3) else ((3,(strip 6 n).1,(strip 6 n).2,[],()),0)):=by
 unfold F_u26f
 have h0 : F_u26f_l0 n 6 ZV = some (n,6,ZV):=by
  unfold F_u26f_l0
  show forG B_u26f_l0 (6 + 1) (n,6,ZV) = _
  rw [forG]
  unfold B_u26f_l0
  show br (decide ((6 : Int) > 6)) _ _ = _
  exact y15q (by omega) _ _
 have h : F_u26f_l2 n 6 ZV = _:=specStrip 6 n ((6 : Int).toNat + 1) h1 h2 (by omega) (by decide)
 refine Eq.trans (bnd_eq h0) (Eq.trans (bnd_eq h) ?_)
 show br (decide ((strip 6 n).1 > 1000000000)) _ (br (decide ((strip 6 n).1 < -1000000000)) _ _) = _
 by_cases a : (strip 6 n).1 > 1000000000
 ·rw [y2q a,if_pos (.inl a)]; rfl
 ·rw [y15q a]
  by_cases b : (strip 6 n).1 < -1000000000
  ·rw [y2q b,if_pos (.inr b)]; rfl
  ·rw [y15q b,if_neg (by omega)]
def SN (a : List UInt8) : Prop:=∃ (w : y0q) (n : Nat),F_u28f a = some (w,(n : Int)) ∧ (n ≠ 0 → Begins a w ∧ (encV w).length = n) ∧ ∀ v,Begins a v → n ≠ 0
theorem sn_no {a : List UInt8} {w : y0q} (h : F_u28f a = some (w,0)) (hn : ∀ v,¬ Begins a v) : SN a:=⟨w,0,h,fun h=>absurd rfl h,fun v hv=>absurd hv (hn v)⟩
theorem sn_yes {a : List UInt8} {w : y0q} {n : Nat} (h : F_u28f a = some (w,(n : Int))) (hb : Begins a w) (hn : (encV w).length = n) : SN a:=⟨w,n,h,fun _=>⟨hb,hn⟩,fun v _ e=>by have:=enc_pos w; omega⟩
theorem rd_from : ∀ (t : List UInt8) (n : Nat),t.foldl (fun n b=>n * 256 + b.toNat) n = n * 256 ^ t.length + rd t
 | [],n=>by simp [rd]
 | b :: t,n=>by
  have e:=rd_from t (0 * 256 + b.toNat)
  rw [List.foldl_cons,rd_from t]
  unfold rd at e ⊢
  rw [List.foldl_cons,e,List.length_cons,Nat.pow_succ]
  rw [Nat.add_mul,Nat.zero_mul,Nat.zero_add,Nat.mul_assoc,Nat.mul_comm 256,Nat.add_assoc]
theorem rd_cons (b : UInt8) (t : List UInt8) : rd (b :: t) = b.toNat * 256 ^ t.length + rd t:=by
 have:=rd_from t (0 * 256 + b.toNat)
 unfold rd at this ⊢
 rw [List.foldl_cons,this,Nat.zero_mul,Nat.zero_add]
theorem begins23 {r : List UInt8} {v : KV} (hv : VOK v) (k : v.1 = 2 ∨ v.1 = 3) (hl : 12 ≤ r.length) (e1 : r.take 8 = be (1152921504606846976 + v.2.1 / pow10 v.2.2.1).toNat 8) (e2 : (r.take 11).drop 8 = be (v.2.1 % pow10 v.2.2.1 * pow10 (6 - v.2.2.1)).toNat 3)
  (e3 : r.getD 11 0 = UInt8.ofNat v.1.toNat) : Begins (3 :: r) v:=by
 refine ⟨hv,r.drop 12, ?_⟩
 rw [enc23 k,← e1,← e2,← e3]
 have a1 : r.take 12 = r.take 11 ++ [r.getD 11 0]:=by
  rw [List.take_succ_eq_append_getElem (by omega)]
  simp [List.getD_eq_getElem?_getD,show 11 < r.length by omega]
 have a2 : r.take 11 = r.take 8 ++ (r.take 11).drop 8:=by
  have:=(List.take_append_drop 8 (r.take 11)).symm
  rw [List.take_take] at this
  exact this
 have a3 : r = r.take 12 ++ r.drop 12:=(List.take_append_drop 12 r).symm
 rw [List.cons_append]
 congr 1
 rw [← a2,← a1,← a3]
theorem rem_lt {v : KV} (h : VOK v) (k : v.1 = 2 ∨ v.1 = 3) : v.2.1 % pow10 v.2.2.1 * pow10 (6 - v.2.2.1) ≤ 999999:=by
 rcases k with k | k
 ·obtain ⟨h1,h2,h3⟩:=vok2 h k
  have hs : v.2.2.1 = 0:=by rw [h3]
  rw [hs,show pow10 0 = 1 from rfl,Int.emod_one]
  decide
 ·obtain ⟨h1,h2,h3,h4,_,_⟩:=vok3 h k
  generalize v.2.1 = n
  obtain h | h | h | h | h | h | h : v.2.2.1 = 0 ∨ v.2.2.1 = 1 ∨ v.2.2.1 = 2 ∨ v.2.2.1 = 3 ∨ v.2.2.1 = 4 ∨ v.2.2.1 = 5 ∨ v.2.2.1 = 6:=by omega
  all_goals rw [h]
  ·show n % 1 * 1000000 ≤ 999999; omega
  ·show n % 10 * 100000 ≤ 999999; omega
  ·show n % 100 * 10000 ≤ 999999; omega
  ·show n % 1000 * 1000 ≤ 999999; omega
  ·show n % 10000 * 100 ≤ 999999; omega
  ·show n % 100000 * 10 ≤ 999999; omega
  ·show n % 1000000 * 1 ≤ 999999; omega
theorem rem2 {v : KV} (h : VOK v) (k : v.1 = 2) : v.2.1 / pow10 v.2.2.1 = v.2.1 ∧ v.2.1 % pow10 v.2.2.1 * pow10 (6 - v.2.2.1) = 0:=by
 obtain ⟨h1,h2,h3⟩:=vok2 h k
 have hs : v.2.2.1 = 0:=by rw [h3]
 rw [hs,show pow10 0 = 1 from rfl,Int.emod_one,Int.ediv_one]
 exact ⟨rfl,by omega⟩
theorem read23s {r : List UInt8} {v : KV} (h : Begins (3 :: r) v) (k : v.1 = 2 ∨ v.1 = 3) :
  ((rd (r.take 8) : Nat) : Int) = 1152921504606846976 + v.2.1 / pow10 v.2.2.1 ∧ ((rd ((r.take 11).drop 8) : Nat) : Int) = v.2.1 % pow10 v.2.2.1 * pow10 (6 - v.2.2.1):=by
 obtain ⟨_,p1,p2,_,_⟩:=parts23 h k
 obtain ⟨n1,n2,n3,n4,n5,_⟩:=nums23 h.1 k
 have q1 : r.take 8 = _:=p1
 have q2 : (r.take 11).drop 8 = _:=p2
 rw [q1,q2]
 generalize v.2.1 / pow10 v.2.2.1 = q at *
 generalize v.2.1 % pow10 v.2.2.1 * pow10 (6 - v.2.2.1) = m at *
 obtain ⟨a,ha⟩ : ∃ a : Nat,1152921504606846976 + q = (a : Int):=⟨_,(Int.toNat_of_nonneg n1).symm⟩
 obtain ⟨c,rfl⟩ : ∃ c : Nat,m = (c : Int):=⟨_,(Int.toNat_of_nonneg n4).symm⟩
 rw [ha,Int.toNat_natCast,Int.toNat_natCast,rd_be' (by show a < 18446744073709551616; omega),rd_be' (by show c < 16777216; omega)]
 exact ⟨rfl,rfl⟩
end Go.Ev.T1
