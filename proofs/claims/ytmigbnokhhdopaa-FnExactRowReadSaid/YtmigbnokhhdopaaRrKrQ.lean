import Derived.Test.YtmigbnokhhdopaaRrKrF
import Derived.Test.YtmigbnokhhdopaaRrKbDef
import Derived.Test.YtmigbnokhhdopaaRrEvG
set_option linter.unusedSimpArgs false
set_option linter.unusedVariables false
set_option maxRecDepth 100000
namespace Go.Ev.T2
open Go Go.Proofs Go.Ev.T1
theorem implPrn (s : List UInt8) (hl : s.length ≤ 1048576) : Ans (F_u51f s) (some true) (some false) (Prn s):=by
 unfold F_u51f F_u51f_l0
 refine y26q (a:=.inl ()) (b:=.inr false) (y36q (fun i=>(s,((i : Nat) : Int))) s.length (fun i=>32 ≤ (s.getD i 0).toNat ∧ (s.getD i 0).toNat ≤ 126) (fun i C hi hb=>?_) (fun C _=>?_) (by omega)) rfl rfl
 ·unfold B_u51f_l0
  simp (disch:=omega) only [y10q,Int.toNat_natCast]
  refine y21q (y4q (by omega) (y4q (by omega) (y4q (by omega) (y5q fun _=>y4q (by omega) (y4q (by omega) (y5q fun _=>y39q)))))) ?_
  simp only [and_true]
  omega
 ·unfold B_u51f_l0
  exact y15q (by simp) _ _
theorem implValue (a : KV) (hl : a.2.2.2.1.length ≤ 1048576) : Ans (F_u52f a) (some true) (some false) (VOK a):=by
 unfold F_u52f
 simp only [y44q,y130q,not_dec,eqI_dec,eqS_dec,andB_true,andB_dec]
 refine y21q (y60q (fun h0=>y20q) fun h0=>y60q (fun h1=>y5q fun _=>y5q fun _=>y20q) fun h1=>y60q (fun h2=>y5q fun _=>y5q fun _=>y20q) fun h2 =>
  y60q (fun h3=>y5q fun _=>y5q fun _=>y5q fun _=>y5q fun _=>y60q (fun _=>y4q (by decide) (y5q fun _=>y20q)) fun _=>y20q) fun h3 =>
  y60q (fun h4=>y5q fun _=>y13q (implPrn _ hl) rfl fun _=>y20q) fun h4=>y32q fun h5=>y5q fun _=>y5q fun _=>y20q) ?_
 unfold VOK
 generalize a.1 = k
 generalize a.2.1 = n
 generalize a.2.2.1 = c
 generalize a.2.2.2.1 = s
 have e : ((s.length : Int) > 200) ↔ ¬ s.length ≤ 200:=by omega
 rw [e]
 by_cases k0 : k = 0
 ·subst k0; simp
 by_cases k1 : k = 1
 ·subst k1; simp <;> grind
 by_cases k2 : k = 2
 ·subst k2; simp <;> grind
 by_cases k3 : k = 3
 ·subst k3
  simp
  by_cases c0 : c = 0
  ·subst c0; simp
  ·simp [c0]
   by_cases c1 : 0 < c
   ·simp [c1] <;> grind
   ·simp [c1] <;> grind
 by_cases k4 : k = 4
 ·subst k4; simp; constructor
  ·rintro ⟨a,b,c,d⟩; exact ⟨c,d,b,a⟩
  ·rintro ⟨c,d,b,a⟩; exact ⟨a,b,c,d⟩
 ·simp [k0,k1,k2,k3,k4]
theorem value_yes {a : KV} (hl : a.2.2.2.1.length ≤ 1048576) (h : VOK a) : ∃ k,u52f k a = some true:=by
 have:=lm_u52f a
 rw [(implValue a hl).1 h] at this
 exact lm_some this
theorem value_no {a : KV} (hl : a.2.2.2.1.length ≤ 1048576) (h : ¬ VOK a) : ∃ k,u52f k a = some false:=by
 have:=lm_u52f a
 rw [(implValue a hl).2 h] at this
 exact lm_some this
theorem implP10 (n : Int) (h0 : 0 ≤ n) (h6 : n ≤ 6) : F_u48f n = some (pow10 n):=by
 obtain rfl | rfl | rfl | rfl | rfl | rfl | rfl : n = 0 ∨ n = 1 ∨ n = 2 ∨ n = 3 ∨ n = 4 ∨ n = 5 ∨ n = 6:=by omega
 all_goals decide +kernel
theorem p10_ok (n : Int) (h0 : 0 ≤ n) (h6 : n ≤ 6) : ∃ k,u48f k n = some (pow10 n):=by
 have:=lm_u48f n
 rw [implP10 n h0 h6] at this
 exact lm_some this
theorem bytes_step (n j : Nat) (l : List Int) (C : (Int × List Int × Int) → Option (List Int)) (hj : j < l.length) (hl : l.length ≤ 1048576) :
  B_u72f_l0 ((n : Int),l,(j : Int)) C = C (((n / 256 : Nat) : Int),l.set j (((UInt8.ofNat n).toNat : Nat) : Int),(j : Int) - 1):=by
 unfold B_u72f_l0
 rw [y2q (by simp),y2q (by simp),y2q (by simp; omega),y2q (by omega)]
 have e2 : Int.fdiv (n : Int) (2 ^ min (Int.toNat 8) IntKind.i64.bits) = ((n / 256 : Nat) : Int):=by
  show Int.fdiv (n : Int) 256 = _
  rw [Int.fdiv_eq_ediv_of_nonneg _ (by omega)]
  omega
 have e3 : IntKind.i64.wrap ((j : Int) - 1) = (j : Int) - 1:=y27q (by omega) (by omega)
 have e4 : (IntKind.u8.wrap (n : Int)) = ((UInt8.ofNat n).toNat : Int):=by
  simp [IntKind.wrap,UInt8.toNat_ofNat',IntKind.bits,IntKind.signed]
 show C (_,_,_) = _
 simp only [e2,e3,e4,Int.toNat_natCast]
theorem bytes_rounds : ∀ (j : Nat) (n : Nat) (l : List Int) (f : Nat),j ≤ l.length → l.length ≤ 1048576 → j < f →
  forG B_u72f_l0 f ((n : Int),l,(j : Int) - 1) = some (((be n j).map fun b=>((b.toNat : Nat) : Int)) ++ l.drop j)
 | 0,n,l,f + 1,hj,hl,hf=>by
  simp only [forG,be,List.map_nil,List.nil_append,List.drop_zero]
  unfold B_u72f_l0
  exact y15q (by simp) _ _
 | j + 1,n,l,f + 1,hj,hl,hf=>by
  simp only [forG]
  rw [show (((j + 1 : Nat) : Int) - 1) = (j : Int) by omega,bytes_step n j l _ (by omega) hl,bytes_rounds j (n / 256) _ f (by rw [List.length_set]; omega) (by rw [List.length_set]; exact hl) (by omega)]
  have e5 : (l.set j (((UInt8.ofNat n).toNat : Nat) : Int)).drop j = (((UInt8.ofNat n).toNat : Nat) : Int) :: l.drop (j + 1):=by
   rw [List.drop_eq_getElem_cons (by rw [List.length_set]; omega),List.drop_set_of_lt (by omega)]
   simp
  rw [e5]
  simp [be]
theorem implBytes (n K : Nat) (hK : K ≤ 1000) : F_u72f (n : Int) (K : Int) = some (be n K):=by
 unfold F_u72f
 rw [show ((K : Int) == (K : Int)) = true by simp]
 rw [show ∀ (x : Option (List UInt8)),br true x none = x from fun _=>rfl,y2q (by omega),y2q (by have : (1000 : Nat) ≤ capN:=(by decide +kernel); omega)]
 have e3 : IntKind.i64.wrap ((K : Int) - 1) = (K : Int) - 1:=y27q (by omega) (by omega)
 unfold F_u72f_l0
 rw [e3,Int.toNat_natCast,bytes_rounds K n _ _ (by simp) (by simp; omega) (by simp)]
 simp only [y8q,Option.some.injEq,List.drop_replicate,Nat.sub_self,List.replicate_zero,List.append_nil,List.map_map]
 conv=>rhs; rw [← List.map_id (be n K)]
 refine List.map_congr_left fun b _=>?_
 simp
theorem bytes_ok (n : Int) (K : Nat) (h0 : 0 ≤ n) (hK : K ≤ 1000) : ∃ k,u72f k n (K : Int) = some (be n.toNat K):=by
 have:=lm_u72f n (K : Int)
 have e:=implBytes n.toNat K hK
 rw [Int.toNat_of_nonneg h0] at e
 rw [e] at this
 exact lm_some this
end Go.Ev.T2
