import Derived.Test.YtmigbnokhhdopaaRrSz
import Derived.Test.YtmigbnokhhdopaaRrKbDef
import Derived.Test.YtmigbnokhhdopaaRrEvG
set_option linter.unusedSimpArgs false
set_option linter.unusedVariables false
set_option maxRecDepth 100000
namespace Go.Ev.T1
open Go Go.Proofs
theorem loop_run {T X : Type} {B : T → (T → Option X) → Option X} (emb : Nat → T) (N : Nat) (out : Option X) (hstep : ∀ i C,i < N → B (emb i) C = C (emb (i + 1))) (hend : ∀ C,B (emb N) C = out) : ∀ n i,i ≤ N → N < n + i → forG B n (emb i) = out
 | 0,i,h1,h2=>absurd h1 (by omega)
 | n + 1,i,h1,h2=>by
  simp only [forG]
  by_cases hi : i < N
  ·rw [hstep i _ hi]; exact loop_run emb N out hstep hend n (i + 1) hi (by omega)
  ·have : i = N:=by omega
   subst this; exact hend _
theorem specPrn (s : List UInt8) (hl : s.length ≤ 1048576) : Ans (F_u20f s) (some true) (some false) (Prn s):=by
 unfold F_u20f F_u20f_l0
 refine y26q (a:=.inl ()) (b:=.inr false) (y36q (fun i=>(s,((i : Nat) : Int))) s.length (fun i=>32 ≤ (s.getD i 0).toNat ∧ (s.getD i 0).toNat ≤ 126) (fun i C hi hb=>?_) (fun C _=>?_) (by omega)) rfl rfl
 ·unfold B_u20f_l0
  simp (disch:=omega) only [y10q,Int.toNat_natCast]
  refine y21q (y4q (by omega) (y4q (by omega) (y4q (by omega) (y5q fun _=>y4q (by omega) (y4q (by omega) (y5q fun _=>y39q)))))) ?_
  simp only [and_true]
  omega
 ·unfold B_u20f_l0
  exact y15q (by simp) _ _
theorem implPrn (s : List UInt8) (hl : s.length ≤ 1048576) : Ans (F_u51f s) (some true) (some false) (Prn s):=by
 unfold F_u51f F_u51f_l0
 refine y26q (a:=.inl ()) (b:=.inr false) (y36q (fun i=>(s,((i : Nat) : Int))) s.length (fun i=>32 ≤ (s.getD i 0).toNat ∧ (s.getD i 0).toNat ≤ 126) (fun i C hi hb=>?_) (fun C _=>?_) (by omega)) rfl rfl
 ·unfold B_u51f_l0
  simp (disch:=omega) only [y10q,Int.toNat_natCast]
  refine y21q (y4q (by omega) (y4q (by omega) (y4q (by omega) (y5q fun _=>y4q (by omega) (y4q (by omega) (y5q fun _=>y39q)))))) ?_
  simp only [and_true]
  omega
 ·unfold B_u51f_l0
  exact y15q (by simp) _ _
theorem len_pos {α : Type} (s : List α) : ((s.length : Int) > 0 ↔ ¬ s = []):=by
 cases s <;> simp <;> omega
theorem implValue (a : y0q) (hl : a.2.2.2.1.length ≤ 1048576) : Ans (F_u52f a) (some true) (some false) (VOK a):=by
 unfold F_u52f
 simp only [y44q,y130q,not_dec,eqI_dec,eqS_dec,andB_true,andB_dec]
 refine y21q (y60q (fun h0=>y20q) fun h0=>y60q (fun h1=>y5q fun _=>y5q fun _=>y20q) fun h1=>y60q (fun h2=>y5q fun _=>y5q fun _=>y20q) fun h2 =>
  y60q (fun h3=>y5q fun _=>y5q fun _=>y5q fun _=>y5q fun _=>y60q (fun _=>y4q (by decide) (y5q fun _=>y20q)) fun _=>y20q) fun h3 =>
  y60q (fun h4=>y5q fun _=>y13q (implPrn _ hl) rfl fun _=>y20q) fun h4=>y32q fun h5=>y5q fun _=>y5q fun _=>y20q) ?_
 unfold VOK
 generalize a.1 = k
 generalize a.2.1 = n
 generalize a.2.2.1 = c
 generalize a.2.2.2.1 = s
 have e : ((s.length : Int) > 200) ↔ ¬ s.length ≤ 200:=by omega
 rw [e]
 by_cases k0 : k = 0
 ·subst k0; simp
 by_cases k1 : k = 1
 ·subst k1; simp <;> grind
 by_cases k2 : k = 2
 ·subst k2; simp <;> grind
 by_cases k3 : k = 3
 ·subst k3
  simp
  by_cases c0 : c = 0
  ·subst c0; simp
  ·simp [c0]
   by_cases c1 : 0 < c
   ·simp [c1] <;> grind
   ·simp [c1] <;> grind
 by_cases k4 : k = 4
 ·subst k4; simp; constructor
  ·rintro ⟨a,b,c,d⟩; exact ⟨c,d,b,a⟩
  ·rintro ⟨c,d,b,a⟩; exact ⟨a,b,c,d⟩
 ·simp [k0,k1,k2,k3,k4]
theorem specValue (a : y0q) (hl : a.2.2.2.1.length ≤ 1048576) : Ans (F_u21f a) (some true) (some false) (VOK a):=by
 unfold F_u21f
 simp only [y44q,y130q,not_dec]
 refine y21q (y13q (Y:=y0q ⊕ Bool) (a:=.inl a) (b:=.inr false) (y60q (fun h4=>y5q fun _=>y60q (fun h3=>y5q fun _=>y39q) fun h3=>y39q) fun h4=>y60q (fun h3=>y5q fun _=>y39q) fun h3=>y39q) rfl fun _ =>
  y60q (fun h0=>y20q) fun h0=>y60q (fun h1=>y117q fun _=>y20q) fun h1=>y60q (fun h2=>y32q fun _=>y20q) fun h2 =>
  y60q (fun h3=>y32q fun _=>y32q fun _=>y32q fun _=>y32q fun _=>y117q fun _=>y4q (by decide) y20q) fun h3 =>
  y60q (fun h5=>y32q fun _=>y20q) fun h5=>y32q fun h4=>y32q fun _=>y13q (specPrn _ hl) rfl fun _=>y20q) ?_
 unfold VOK
 simp only [len_pos]
 generalize a.1 = k
 generalize a.2.1 = n
 generalize a.2.2.1 = c
 generalize a.2.2.2.1 = s
 have e : ((s.length : Int) ≤ 200) ↔ s.length ≤ 200:=by omega
 rw [e]
 by_cases k0 : k = 0
 ·subst k0; simp <;> grind
 by_cases k1 : k = 1
 ·subst k1; simp <;> grind
 by_cases k2 : k = 2
 ·subst k2; simp <;> grind
 by_cases k3 : k = 3
 ·subst k3; simp <;> grind
 by_cases k4 : k = 4
 ·subst k4; simp <;> grind
 by_cases k5 : k = 5
 ·subst k5; simp <;> grind
 ·simp [k0,k1,k2,k3,k4,k5]
theorem specPower (n : Int) (h0 : 0 ≤ n) (h6 : n ≤ 6) : F_u24f n = some (pow10 n):=by
 obtain rfl | rfl | rfl | rfl | rfl | rfl | rfl : n = 0 ∨ n = 1 ∨ n = 2 ∨ n = 3 ∨ n = 4 ∨ n = 5 ∨ n = 6:=by omega
 all_goals decide +kernel
theorem fl_neg {N p : Int} (hp : 0 < p) (h : Int.tmod N p < 0) : Int.tdiv N p - 1 = N / p ∧ Int.tmod N p + p = N % p:=by
 have h1:=Int.mul_tdiv_add_tmod N p
 have h2 : -p < Int.tmod N p:=Int.neg_lt_of_neg_lt (by have:=Int.lt_tmod_of_pos N hp; omega)
 have:=(Int.ediv_emod_unique (a:=N) (b:=p) (q:=Int.tdiv N p - 1) (r:=Int.tmod N p + p) hp).2 ⟨by rw [Int.mul_sub]; omega,by omega,by omega⟩
 exact ⟨this.1.symm,this.2.symm⟩
theorem fl_pos {N p : Int} (hp : 0 < p) (h : 0 ≤ Int.tmod N p) : Int.tdiv N p = N / p ∧ Int.tmod N p = N % p:=by
 have h1:=Int.mul_tdiv_add_tmod N p
 have h2:=Int.tmod_lt_of_pos N hp
 have:=(Int.ediv_emod_unique (a:=N) (b:=p) (q:=Int.tdiv N p) (r:=Int.tmod N p) hp).2 ⟨by omega,by omega,by omega⟩
 exact ⟨this.1.symm,this.2.symm⟩
theorem num_ok (N sc p : Int) (hp : pow10 sc = p) (hp0 : 0 < p) (h1 : -1000000000 ≤ N) (h2 : N ≤ 1000000000) (h3 : 0 ≤ sc) (h4 : sc ≤ 6) :
  -1000000000 ≤ N / p ∧ N / p ≤ 1000000000 ∧ 0 ≤ N % p * pow10 (6 - sc) ∧ N % p * pow10 (6 - sc) ≤ 16777216:=by
 have e1 : p * pow10 (6 - sc) = 1000000 ∧ 0 ≤ pow10 (6 - sc):=by
  rw [← hp]
  obtain rfl | rfl | rfl | rfl | rfl | rfl | rfl : sc = 0 ∨ sc = 1 ∨ sc = 2 ∨ sc = 3 ∨ sc = 4 ∨ sc = 5 ∨ sc = 6:=by omega
  all_goals decide
 have e2:=Int.emod_nonneg N (by omega : p ≠ 0)
 have e3:=Int.emod_lt_of_pos N hp0
 have e4:=Int.natAbs_ediv_le_natAbs N p
 have e5:=Int.mul_nonneg e2 e1.2
 have e6:=Int.mul_le_mul_of_nonneg_right (Int.le_of_lt e3) e1.2
 omega
theorem pow_pos (sc : Int) (h3 : 0 ≤ sc) (h4 : sc ≤ 6) : 0 < pow10 sc ∧ pow10 sc ≤ 1000000:=by
 obtain rfl | rfl | rfl | rfl | rfl | rfl | rfl : sc = 0 ∨ sc = 1 ∨ sc = 2 ∨ sc = 3 ∨ sc = 4 ∨ sc = 5 ∨ sc = 6:=by omega
 all_goals decide
theorem beqT (a b : Int) (h : a = b) : (a == b) = true:=by simp [h]
theorem beqF (a b : Int) (h : ¬ a = b) : (a == b) = false:=by simp [h]
theorem cap_ok {n : Nat} (h : n ≤ 100000) : n ≤ capN:=Nat.le_trans h (by decide +kernel)
theorem flat_le' : ∀ (l : List KV),(∀ v ∈ l,VOK v) → (l.flatMap encV).length ≤ 202 * l.length
 | [],_=>by simp
 | v :: r,h=>by
  have h1:=flat_le' r fun x hx=>h x (List.mem_cons_of_mem _ hx)
  have h2:=encV_le v (h v List.mem_cons_self)
  simp only [List.flatMap_cons,List.length_append,List.length_cons]
  omega
theorem take_next {l : List y0q} {i : Nat} (hi : i < l.length) : l.take (i + 1) = l.take i ++ [l.getD i y18q]:=by
 rw [List.take_succ_eq_append_getElem hi]
 simp [List.getD_eq_getElem?_getD,hi]
theorem getD_mem {l : List y0q} {i : Nat} (hi : i < l.length) : l.getD i y18q ∈ l:=by
 simp [List.getD_eq_getElem?_getD,hi]
end Go.Ev.T1
