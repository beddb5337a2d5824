import Derived.Test.YtmigbnokhhdopaaGreatRbSz
import Derived.Test.YtmigbnokhhdopaaGreatRbKbDef
import Derived.Test.YtmigbnokhhdopaaGreatRbEvG
set_option linter.unusedSimpArgs false
set_option linter.unusedVariables false
set_option maxRecDepth 100000
namespace Go.Ev.T1
open Go Go.Proofs
theorem loop_run {T X : Type} {B : T → (T → Option X) → Option X} (emb : Nat → T) (N : Nat) (out : Option X) (hstep : ∀ i C,i < N → B (emb i) C = C (emb (i + 1))) (hend : ∀ C,B (emb N) C = out) : ∀ n i,i ≤ N → N < n + i → forG B n (emb i) = out
 | 0,i,h1,h2=>absurd h1 (by omega)
 | n + 1,i,h1,h2=>by
  simp only [forG]
  by_cases hi : i < N
  ·rw [hstep i _ hi]; exact loop_run emb N out hstep hend n (i + 1) hi (by omega)
  ·have : i = N:=by omega
   subst this; exact hend _
theorem specPrn (s : List UInt8) (hl : s.length ≤ 1048576) : Ans (F_u21f s) (some true) (some false) (Prn s):=by
 unfold F_u21f F_u21f_l0
 refine y28q (a:=.inl ()) (b:=.inr false) (y35q (fun i=>(s,((i : Nat) : Int))) s.length (fun i=>32 ≤ (s.getD i 0).toNat ∧ (s.getD i 0).toNat ≤ 126) (fun i C hi hb=>?_) (fun C _=>?_) (by omega)) rfl rfl
 ·unfold B_u21f_l0
  simp (disch:=omega) only [y10q,Int.toNat_natCast]
  refine y20q (y4q (by omega) (y4q (by omega) (y4q (by omega) (y6q fun _=>y4q (by omega) (y4q (by omega) (y6q fun _=>y37q)))))) ?_
  simp only [and_true]
  omega
 ·unfold B_u21f_l0
  exact y14q (by simp) _ _
theorem implPrn (s : List UInt8) (hl : s.length ≤ 1048576) : Ans (F_u56f s) (some true) (some false) (Prn s):=by
 unfold F_u56f F_u56f_l0
 refine y28q (a:=.inl ()) (b:=.inr false) (y35q (fun i=>(s,((i : Nat) : Int))) s.length (fun i=>32 ≤ (s.getD i 0).toNat ∧ (s.getD i 0).toNat ≤ 126) (fun i C hi hb=>?_) (fun C _=>?_) (by omega)) rfl rfl
 ·unfold B_u56f_l0
  simp (disch:=omega) only [y10q,Int.toNat_natCast]
  refine y20q (y4q (by omega) (y4q (by omega) (y4q (by omega) (y6q fun _=>y4q (by omega) (y4q (by omega) (y6q fun _=>y37q)))))) ?_
  simp only [and_true]
  omega
 ·unfold B_u56f_l0
  exact y14q (by simp) _ _
theorem len_pos {α : Type} (s : List α) : ((s.length : Int) > 0 ↔ ¬ s = []):=by
 cases s <;> simp <;> omega
theorem implValue (a : y1q) (hl : a.2.2.2.1.length ≤ 1048576) : Ans (F_u57f a) (some true) (some false) (VOK a):=by
 unfold F_u57f
 simp only [y42q,y106q,not_dec,eqI_dec,eqS_dec,andB_true,andB_dec]
 refine y20q (y62q (fun h0=>y22q) fun h0=>y62q (fun h1=>y6q fun _=>y6q fun _=>y22q) fun h1=>y62q (fun h2=>y6q fun _=>y6q fun _=>y22q) fun h2 =>
  y62q (fun h3=>y6q fun _=>y6q fun _=>y6q fun _=>y6q fun _=>y62q (fun _=>y4q (by decide) (y6q fun _=>y22q)) fun _=>y22q) fun h3 =>
  y62q (fun h4=>y6q fun _=>y13q (implPrn _ hl) rfl fun _=>y22q) fun h4=>y33q fun h5=>y6q fun _=>y6q fun _=>y22q) ?_
 unfold VOK
 generalize a.1 = k
 generalize a.2.1 = n
 generalize a.2.2.1 = c
 generalize a.2.2.2.1 = s
 have e : ((s.length : Int) > 200) ↔ ¬ s.length ≤ 200:=by omega
 rw [e]
 by_cases k0 : k = 0
 ·subst k0; simp
 by_cases k1 : k = 1
 ·subst k1; simp <;> grind
 by_cases k2 : k = 2
 ·subst k2; simp <;> grind
 by_cases k3 : k = 3
 ·subst k3
  simp
  by_cases c0 : c = 0
  ·subst c0; simp
  ·simp [c0]
   by_cases c1 : 0 < c
   ·simp [c1] <;> grind
   ·simp [c1] <;> grind
 by_cases k4 : k = 4
 ·subst k4; simp; constructor
  ·rintro ⟨a,b,c,d⟩; exact ⟨c,d,b,a⟩
  ·rintro ⟨c,d,b,a⟩; exact ⟨a,b,c,d⟩
 ·simp [k0,k1,k2,k3,k4]
theorem specValue (a : y1q) (hl : a.2.2.2.1.length ≤ 1048576) : Ans (F_u22f a) (some true) (some false) (VOK a):=by
 unfold F_u22f
 simp only [y42q,y106q,not_dec]
 refine y20q (y13q (Y:=y1q ⊕ Bool) (a:=.inl a) (b:=.inr false) (y62q (fun h4=>y6q fun _=>y62q (fun h3=>y6q fun _=>y37q) fun h3=>y37q) fun h4=>y62q (fun h3=>y6q fun _=>y37q) fun h3=>y37q) rfl fun _ =>
  y62q (fun h0=>y22q) fun h0=>y62q (fun h1=>y120q fun _=>y22q) fun h1=>y62q (fun h2=>y33q fun _=>y22q) fun h2 =>
  y62q (fun h3=>y33q fun _=>y33q fun _=>y33q fun _=>y33q fun _=>y120q fun _=>y4q (by decide) y22q) fun h3 =>
  y62q (fun h5=>y33q fun _=>y22q) fun h5=>y33q fun h4=>y33q fun _=>y13q (specPrn _ hl) rfl fun _=>y22q) ?_
 unfold VOK
 simp only [len_pos]
 generalize a.1 = k
 generalize a.2.1 = n
 generalize a.2.2.1 = c
 generalize a.2.2.2.1 = s
 have e : ((s.length : Int) ≤ 200) ↔ s.length ≤ 200:=by omega
 rw [e]
 by_cases k0 : k = 0
 ·subst k0; simp <;> grind
 by_cases k1 : k = 1
 ·subst k1; simp <;> grind
 by_cases k2 : k = 2
 ·subst k2; simp <;> grind
 by_cases k3 : k = 3
 ·subst k3; simp <;> grind
 by_cases k4 : k = 4
 ·subst k4; simp <;> grind
 by_cases k5 : k = 5
 ·subst k5; simp <;> grind
 ·simp [k0,k1,k2,k3,k4,k5]
theorem specPower (n : Int) (h0 : 0 ≤ n) (h6 : n ≤ 6) : F_u27f n = some (pow10 n):=by
 obtain rfl | rfl | rfl | rfl | rfl | rfl | rfl : n = 0 ∨ n = 1 ∨ n = 2 ∨ n = 3 ∨ n = 4 ∨ n = 5 ∨ n = 6:=by omega
 all_goals decide +kernel
theorem sbytes_step (n j : Nat) (l : List Int) (C : (Int × List Int × Int) → Option (List Int)) (hj : j < l.length) (hl : l.length ≤ 1048576) (hn : n < 9223372036854775808) :
  B_u36f_l0 ((n : Int),l,(j : Int)) C = C (((n / 256 : Nat) : Int),l.set j (((UInt8.ofNat n).toNat : Nat) : Int),(j : Int) - 1):=by
 unfold B_u36f_l0
 have e2 : IntKind.i64.wrap (Int.tdiv (n : Int) 256) = ((n / 256 : Nat) : Int):=by
  rw [show Int.tdiv (n : Int) 256 = ((n / 256 : Nat) : Int) from rfl,y21q (by omega) (by omega)]
 have e3 : IntKind.i64.wrap ((j : Int) - 1) = (j : Int) - 1:=y21q (by omega) (by omega)
 have e4 : IntKind.u8.wrap (Int.tmod (n : Int) 256) = ((UInt8.ofNat n).toNat : Int):=by
  rw [show Int.tmod (n : Int) 256 = ((n % 256 : Nat) : Int) from rfl]
  simp [IntKind.wrap,UInt8.toNat_ofNat',IntKind.bits,IntKind.signed]
 show br (decide ((j : Int) ≥ 0)) (br (!(256 : Int) == 0) (br (decide (0 ≤ (j : Int))) (br (decide ((j : Int) < l.length)) (br (!(256 : Int) == 0) (C (IntKind.i64.wrap (Int.tdiv (n : Int) 256),l.set (Int.toNat (j : Int)) (IntKind.u8.wrap (Int.tmod (n : Int) 256)),IntKind.i64.wrap ((j : Int) - 1))) none) none) none) none) (some l) = _
 rw [y2q (by omega),show (!(256 : Int) == 0) = true from rfl]
 show br (decide _) _ _ = _
 rw [y2q (by omega)]
 show br true (C _) none = _
 show C _ = _
 rw [e2,e3,e4,Int.toNat_natCast]
theorem sbytes_rounds : ∀ (j : Nat) (n : Nat) (l : List Int) (f : Nat),j ≤ l.length → l.length ≤ 1048576 → n < 9223372036854775808 → j < f →
  forG B_u36f_l0 f ((n : Int),l,(j : Int) - 1) = some (((be n j).map fun b=>((b.toNat : Nat) : Int)) ++ l.drop j)
 | 0,n,l,f + 1,hj,hl,hn,hf=>by
  simp only [forG,be,List.map_nil,List.nil_append,List.drop_zero]
  unfold B_u36f_l0
  exact y14q (by simp) _ _
 | j + 1,n,l,f + 1,hj,hl,hn,hf=>by
  simp only [forG]
  rw [show (((j + 1 : Nat) : Int) - 1) = (j : Int) by omega,sbytes_step n j l _ (by omega) hl hn,sbytes_rounds j (n / 256) _ f (by rw [List.length_set]; omega) (by rw [List.length_set]; exact hl) (by omega) (by omega)]
  have e5 : (l.set j (((UInt8.ofNat n).toNat : Nat) : Int)).drop j = (((UInt8.ofNat n).toNat : Nat) : Int) :: l.drop (j + 1):=by
   rw [List.drop_eq_getElem_cons (by rw [List.length_set]; omega),List.drop_set_of_lt (by omega)]
   simp
  rw [e5]
  simp [be]
theorem specBytes (n K : Nat) (hK : K ≤ 1000) (hn : n < 9223372036854775808) : F_u36f (n : Int) (K : Int) = some (be n K):=by
 unfold F_u36f
 rw [show ((K : Int) == (K : Int)) = true by simp]
 rw [show ∀ (x : Option (List UInt8)),br true x none = x from fun _=>rfl,y2q (by omega),y2q (by have : (1000 : Nat) ≤ capN:=(by decide +kernel); omega)]
 have e3 : IntKind.i64.wrap ((K : Int) - 1) = (K : Int) - 1:=y21q (by omega) (by omega)
 unfold F_u36f_l0
 rw [e3,Int.toNat_natCast,sbytes_rounds K n _ _ (by simp) (by simp; omega) hn (by simp)]
 simp only [y5q,Option.some.injEq,List.drop_replicate,Nat.sub_self,List.replicate_zero,List.append_nil,List.map_map]
 conv=>rhs; rw [← List.map_id (be n K)]
 refine List.map_congr_left fun b _=>?_
 simp
theorem specBytes' (n : Int) (K : Nat) (h0 : 0 ≤ n) (hK : K ≤ 1000) (hn : n < 9223372036854775808) : F_u36f n (K : Int) = some (be n.toNat K):=by
 have:=specBytes n.toNat K hK (by omega)
 rwa [Int.toNat_of_nonneg h0] at this
theorem fl_neg {N p : Int} (hp : 0 < p) (h : Int.tmod N p < 0) : Int.tdiv N p - 1 = N / p ∧ Int.tmod N p + p = N % p:=by
 have h1:=Int.mul_tdiv_add_tmod N p
 have h2 : -p < Int.tmod N p:=Int.neg_lt_of_neg_lt (by have:=Int.lt_tmod_of_pos N hp; omega)
 have:=(Int.ediv_emod_unique (a:=N) (b:=p) (q:=Int.tdiv N p - 1) (r:=Int.tmod N p + p) hp).2 ⟨by rw [Int.mul_sub]; omega,by omega,by omega⟩
 exact ⟨this.1.symm,this.2.symm⟩
theorem fl_pos {N p : Int} (hp : 0 < p) (h : 0 ≤ Int.tmod N p) : Int.tdiv N p = N / p ∧ Int.tmod N p = N % p:=by
 have h1:=Int.mul_tdiv_add_tmod N p
 have h2:=Int.tmod_lt_of_pos N hp
 have:=(Int.ediv_emod_unique (a:=N) (b:=p) (q:=Int.tdiv N p) (r:=Int.tmod N p) hp).2 ⟨by omega,by omega,by omega⟩
 exact ⟨this.1.symm,this.2.symm⟩
theorem num_ok (N sc p : Int) (hp : pow10 sc = p) (hp0 : 0 < p) (h1 : -1000000000 ≤ N) (h2 : N ≤ 1000000000) (h3 : 0 ≤ sc) (h4 : sc ≤ 6) :
  -1000000000 ≤ N / p ∧ N / p ≤ 1000000000 ∧ 0 ≤ N % p * pow10 (6 - sc) ∧ N % p * pow10 (6 - sc) ≤ 16777216:=by
 have e1 : p * pow10 (6 - sc) = 1000000 ∧ 0 ≤ pow10 (6 - sc):=by
  rw [← hp]
  obtain rfl | rfl | rfl | rfl | rfl | rfl | rfl : sc = 0 ∨ sc = 1 ∨ sc = 2 ∨ sc = 3 ∨ sc = 4 ∨ sc = 5 ∨ sc = 6:=by omega
  all_goals decide
 have e2:=Int.emod_nonneg N (by omega : p ≠ 0)
 have e3:=Int.emod_lt_of_pos N hp0
 have e4:=Int.natAbs_ediv_le_natAbs N p
 have e5:=Int.mul_nonneg e2 e1.2
 have e6:=Int.mul_le_mul_of_nonneg_right (Int.le_of_lt e3) e1.2
 omega
theorem pow_pos (sc : Int) (h3 : 0 ≤ sc) (h4 : sc ≤ 6) : 0 < pow10 sc ∧ pow10 sc ≤ 1000000:=by
 obtain rfl | rfl | rfl | rfl | rfl | rfl | rfl : sc = 0 ∨ sc = 1 ∨ sc = 2 ∨ sc = 3 ∨ sc = 4 ∨ sc = 5 ∨ sc = 6:=by omega
 all_goals decide
theorem specSplit (v : KV) (h : VOK v) (hk : v.1 = 2 ∨ v.1 = 3) : F_u35f v = some (v.2.1 / pow10 v.2.2.1,v.2.1 % pow10 v.2.2.1 * pow10 (6 - v.2.2.1)):=by
 unfold F_u35f
 rcases hk with z | z
 ·have hs : v.2.2.1 = 0:=by
   rcases h with h | h | h | h | h | h <;> first | (exfalso; omega) | exact h.2.2.2.1
  rw [z,hs]
  show some (v.2.1,(0 : Int)) = _
  simp [pow10,Int.emod_one]
 ·obtain ⟨h1,h2,h3,h4⟩ : -1000000000 ≤ v.2.1 ∧ v.2.1 ≤ 1000000000 ∧ 0 ≤ v.2.2.1 ∧ v.2.2.1 ≤ 6:=by
   rcases h with h | h | h | h | h | h <;> first | (exfalso; omega) | exact ⟨h.2.1,h.2.2.1,h.2.2.2.1,h.2.2.2.2.1⟩
  obtain ⟨p0,p6⟩:=pow_pos _ h3 h4
  obtain ⟨n1,n2,n3,n4⟩:=num_ok v.2.1 v.2.2.1 _ rfl p0 h1 h2 h3 h4
  rw [z]
  show bnd (F_u27f v.2.2.1) _ = _
  rw [specPower _ h3 h4,y5q,show (!pow10 v.2.2.1 == 0) = true by simp; omega]
  have hmod:=Int.emod_lt_of_pos v.2.1 p0
  have hmod0:=Int.emod_nonneg v.2.1 (by omega : pow10 v.2.2.1 ≠ 0)
  have hp6 : IntKind.i64.wrap (6 - v.2.2.1) = 6 - v.2.2.1:=y21q (by omega) (by omega)
  show bnd (br (decide (Int.tmod v.2.1 (pow10 v.2.2.1) < 0)) _ _) _ = _
  by_cases hr : Int.tmod v.2.1 (pow10 v.2.2.1) < 0
  ·obtain ⟨f1,f2⟩:=fl_neg p0 hr
   rw [y2q hr,y5q]
   dsimp only
   rw [hp6,specPower _ (by omega) (by omega),y5q,y21q (x:=Int.tdiv v.2.1 (pow10 v.2.2.1)) (by omega) (by omega),f1,f2,y21q (x:=v.2.1 / _) (by omega) (by omega),y21q (x:=v.2.1 % pow10 v.2.2.1) (by omega) (by omega),y21q (by omega) (by omega)]
  ·obtain ⟨f1,f2⟩:=fl_pos p0 (Int.not_lt.1 hr)
   rw [y14q hr,y5q]
   dsimp only
   rw [hp6,specPower _ (by omega) (by omega),y5q,f1,f2,y21q (x:=v.2.1 / _) (by omega) (by omega),y21q (by omega) (by omega)]
theorem beqT (a b : Int) (h : a = b) : (a == b) = true:=by simp [h]
theorem beqF (a b : Int) (h : ¬ a = b) : (a == b) = false:=by simp [h]
theorem y159q {n : Nat} (h : n ≤ 100000) : n ≤ capN:=Nat.le_trans h (by decide +kernel)
theorem flat_le' : ∀ (l : List KV),(∀ v ∈ l,VOK v) → (l.flatMap encV).length ≤ 202 * l.length
 | [],_=>by simp
 | v :: r,h=>by
  have h1:=flat_le' r fun x hx=>h x (List.mem_cons_of_mem _ hx)
  have h2:=encV_le v (h v List.mem_cons_self)
  simp only [List.flatMap_cons,List.length_append,List.length_cons]
  omega
theorem specKey_step (l : List y1q) (acc : List UInt8) (i : Nat) (hi : i < l.length) (hl : l.length ≤ 16) (hacc : acc.length ≤ 202 * i) (hs : (l.getD i y16q).2.2.2.1.length ≤ 1048576) (C : (List y1q × List UInt8 × Int) → Option ((List UInt8) ⊕ ((List UInt8) × Int))) :
  Ans (B_u37f_l0 (l,acc,(i : Int)) C) (C (l,acc ++ encV (l.getD i y16q),((i + 1 : Nat) : Int))) (some (.inr ([],1))) (VOK (l.getD i y16q)):=by
 unfold B_u37f_l0
 obtain ⟨v,hv0⟩ : ∃ v,l.getD i y16q = v:=⟨_,rfl⟩
 rw [hv0] at hs
 simp (disch:=omega) only [y10q,Int.toNat_natCast,hv0]
 refine y20q (y4q (by omega) (y4q (by omega) (y4q (by omega) (y13q (Q:=True) (specValue _ hs) rfl fun hv=>?_)))) (by rw [and_true])
 refine ans_end ?_
 have hle:=encV_le v hv
 show br (v.1 == 0) _ _ = _
 by_cases k0 : v.1 = 0
 ·rw [beqT _ _ k0]
  show br (decide _) _ _ = _
  rw [y2q (y159q (by simp; omega))]
  have e : encV v = [1]:=by simp [encV,k0]
  rw [e]
 rw [beqF _ _ k0]
 show br (v.1 == 1) _ _ = _
 by_cases k1 : v.1 = 1
 ·obtain ⟨h0,h1⟩ : 0 ≤ v.2.1 ∧ v.2.1 ≤ 1:=by rcases hv with h | h | h | h | h | h <;> first | (exfalso; omega) | exact ⟨h.2.1,h.2.2.1⟩
  have hw : IntKind.u8.wrap v.2.1 = v.2.1:=by
   simp [IntKind.wrap,IntKind.bits,IntKind.signed]
   omega
  rw [beqT _ _ k1]
  show br (decide _) _ _ = _
  rw [y2q (y159q (by simp; omega)),y2q (y159q (by simp; omega)),hw]
  have e : encV v = [2,UInt8.ofNat v.2.1.toNat]:=by simp [encV,k1]
  rw [e]
  simp
 rw [beqF _ _ k1]
 show br (v.1 == 2) _ _ = _
 have num : v.1 = 2 ∨ v.1 = 3 → (bnd (F_u35f v) fun y2=>br (decide (acc.length + [3].length ≤ capN)) (bnd (F_u36f (IntKind.i64.wrap (y2.1 + 1152921504606846976)) 8) fun y3=>br (decide ((acc ++ [3]).length + y3.length ≤ capN)) (bnd (F_u36f y2.2 3) fun y4 =>
   br (decide ((acc ++ [3] ++ y3).length + y4.length ≤ capN)) (br (decide ((acc ++ [3] ++ y3 ++ y4).length + (List.map (fun n=>UInt8.ofNat n.toNat) [IntKind.u8.wrap v.1]).length ≤ capN)) (C (l,acc ++ [3] ++ y3 ++ y4 ++ List.map (fun n=>UInt8.ofNat n.toNat) [IntKind.u8.wrap v.1],((i + 1 : Nat) : Int))) none) none) none) none) = C (l,acc ++ encV v,((i + 1 : Nat) : Int)):=by
  intro hk
  obtain ⟨n1,n2,n3,n4⟩ : -1000000000000000 ≤ v.2.1 / pow10 v.2.2.1 ∧ v.2.1 / pow10 v.2.2.1 ≤ 1000000000000000 ∧ 0 ≤ v.2.1 % pow10 v.2.2.1 * pow10 (6 - v.2.2.1) ∧ v.2.1 % pow10 v.2.2.1 * pow10 (6 - v.2.2.1) ≤ 16777216:=by
   rcases hk with z | z
   ·obtain ⟨g1,g2,g3⟩ : -1000000000000000 ≤ v.2.1 ∧ v.2.1 ≤ 1000000000000000 ∧ v.2.2.1 = 0:=by rcases hv with h | h | h | h | h | h <;> first | (exfalso; omega) | exact ⟨h.2.1,h.2.2.1,h.2.2.2.1⟩
    rw [g3]
    simp [pow10,Int.emod_one]
    omega
   ·obtain ⟨h1,h2,h3,h4⟩ : -1000000000 ≤ v.2.1 ∧ v.2.1 ≤ 1000000000 ∧ 0 ≤ v.2.2.1 ∧ v.2.2.1 ≤ 6:=by
     rcases hv with h | h | h | h | h | h <;> first | (exfalso; omega) | exact ⟨h.2.1,h.2.2.1,h.2.2.2.1,h.2.2.2.2.1⟩
    have:=num_ok v.2.1 v.2.2.1 _ rfl (pow_pos _ h3 h4).1 h1 h2 h3 h4
    omega
  have hw : IntKind.u8.wrap v.1 = v.1:=by
   simp [IntKind.wrap,IntKind.bits,IntKind.signed]
   omega
  rw [specSplit v hv hk,y5q]
  dsimp only
  rw [y21q (by omega) (by omega),y2q (y159q (by simp; omega)),show (8 : Int) = ((8 : Nat) : Int) from rfl,specBytes' _ 8 (by omega) (by omega) (by omega),y5q,y2q (y159q (by simp [y31q]; omega)),show (3 : Int) = ((3 : Nat) : Int) from rfl,specBytes' _ 3 n3 (by omega) (by omega),y5q,
   y2q (y159q (by simp [y31q]; omega)),y2q (y159q (by simp [y31q]; omega)),hw]
  have e : encV v = 3 :: (be (v.2.1 / pow10 v.2.2.1 + 1152921504606846976).toNat 8 ++ be (v.2.1 % pow10 v.2.2.1 * pow10 (6 - v.2.2.1)).toNat 3 ++ [UInt8.ofNat v.1.toNat]):=by
   unfold encV
   rw [if_neg (by omega),if_neg (by omega),if_pos hk,Int.add_comm]
  rw [e]
  simp
 by_cases k2 : v.1 = 2
 ·rw [beqT _ _ k2]
  exact num (.inl k2)
 rw [beqF _ _ k2]
 show br (v.1 == 3) _ _ = _
 by_cases k3 : v.1 = 3
 ·rw [beqT _ _ k3]
  exact num (.inr k3)
 rw [beqF _ _ k3]
 show br (v.1 == 4) _ _ = _
 by_cases k4 : v.1 = 4
 ·have hS : v.2.2.2.1.length ≤ 200:=by rcases hv with h | h | h | h | h | h <;> first | (exfalso; omega) | exact h.2.2.2.2
  rw [beqT _ _ k4]
  show br (decide _) _ _ = _
  rw [y2q (y159q (by simp; omega)),y2q (y159q (by simp; omega)),y2q (y159q (by simp; omega))]
  have e : encV v = 4 :: (v.2.2.2.1 ++ [0]):=by simp [encV,k4]
  rw [e]
  simp
 rw [beqF _ _ k4]
 show br (v.1 == 5) _ _ = _
 have k5 : v.1 = 5 ∧ 0 ≤ v.2.1 ∧ v.2.1 ≤ 3652058:=by rcases hv with h | h | h | h | h | h <;> first | (exfalso; omega) | exact ⟨h.1,h.2.1,h.2.2.1⟩
 rw [beqT _ _ k5.1]
 show br (decide _) _ _ = _
 rw [y2q (y159q (by simp; omega)),show (3 : Int) = ((3 : Nat) : Int) from rfl,specBytes' _ 3 k5.2.1 (by omega) (by omega),y5q,y2q (y159q (by simp [y31q]; omega))]
 have e : encV v = 5 :: be v.2.1.toNat 3:=by simp [encV,k5.1]
 rw [e]
 simp
theorem take_next {l : List y1q} {i : Nat} (hi : i < l.length) : l.take (i + 1) = l.take i ++ [l.getD i y16q]:=by
 rw [List.take_succ_eq_append_getElem hi]
 simp [List.getD_eq_getElem?_getD,hi]
theorem getD_mem {l : List y1q} {i : Nat} (hi : i < l.length) : l.getD i y16q ∈ l:=by
 simp [List.getD_eq_getElem?_getD,hi]
theorem specKey (l : List y1q) (hs : ∀ v ∈ l,v.2.2.2.1.length ≤ 1048576) : F_u37f l = some (KB l):=by
 unfold F_u37f
 by_cases h16 : (l.length : Int) > 16
 ·rw [y2q h16,KB_neg (fun h=>by omega)]
 rw [y14q h16]
 have hl : l.length ≤ 16:=by omega
 have key : Ans (F_u37f_l0 l [] 0) (some (.inl (l.flatMap encV))) (some (.inr ([],1))) (∀ i,i < l.length → VOK (l.getD i y16q)):=by
  unfold F_u37f_l0
  refine y35q (fun i=>(l,(l.take i).flatMap encV,((i : Nat) : Int))) l.length (fun i=>VOK (l.getD i y16q)) (fun i C hi hb=>?_) (fun C _=>?_) (by omega)
  ·have hacc : ((l.take i).flatMap encV).length ≤ 202 * i:=by
    have:=flat_le' (l.take i) fun x hx=>by
     obtain ⟨j,hj,rfl⟩:=List.mem_take_iff_getElem.1 hx
     have:=hb j (by omega)
     simpa [List.getD_eq_getElem?_getD,show j < l.length by omega] using this
    rw [List.length_take] at this
    omega
   have:=specKey_step l ((l.take i).flatMap encV) i hi hl hacc (hs _ (getD_mem hi)) C
   rw [take_next hi,List.flatMap_append,List.flatMap_cons,List.flatMap_nil,List.append_nil]
   exact this
  ·unfold B_u37f_l0
   dsimp only
   rw [List.take_length]
   exact y14q (by simp) _ _
 by_cases hv : ∀ v ∈ l,VOK v
 ·rw [key.1 fun i hi=>hv _ (getD_mem hi),KB_pos hl hv]
  rfl
 ·rw [key.2 fun h=>hv fun v hm=>by
   obtain ⟨i,hi,rfl⟩:=List.mem_iff_getElem.1 hm
   have:=h i hi
   simpa [List.getD_eq_getElem?_getD,hi] using this,KB_neg fun h=>hv h.2]
  rfl
end Go.Ev.T1
