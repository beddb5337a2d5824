import Derived.Test.YtmigbnokhhdopaaRrV2
import Derived.Test.YtmigbnokhhdopaaRrQ2
set_option linter.unusedSimpArgs false
set_option linter.unusedVariables false
set_option maxRecDepth 100000
namespace Go.Ev.T1
open Go Go.Proofs
abbrev KvR:=List y0q ⊕ (List y0q × Int)
theorem brFF {ρ : Type} (x y : Option ρ) : br false x y = y:=rfl
theorem brTT {ρ : Type} (x y : Option ρ) : br true x y = x:=rfl
theorem KB1 {v : KV} (h : VOK v) : KB [v] = (encV v,0):=by
 rw [KB_pos (by simp) (by simpa using h)]
 simp
theorem KB1n {v : KV} (h : ¬ VOK v) : KB [v] = ([],1):=KB_neg fun h'=>h (h'.2 v (by simp))
noncomputable def tailI (acc : List y0q) (s : List UInt8) (v : y0q) (n : Int) (C : (List y0q × List UInt8) → Option KvR) : Option KvR :=
 br (n == 0) (some (.inr ([],5))) (br (decide (n > (s.length : Int))) (some (.inr ([],5))) (bnd (u0f 0 [v]) fun y3=>br (y3.2 != 0) (some (.inr ([],5))) (br (decide (0 ≤ n)) (br (decide (n ≤ (s.length : Int))) (br (!(y3.1 == List.take (Int.toNat n) s)) (some (.inr ([],5)))
  (br (decide (acc.length + [v].length ≤ capN)) (br (decide (0 ≤ n)) (br (decide (n ≤ (s.length : Int))) (C (acc ++ [v],List.drop (Int.toNat n) s)) none) none) none)) none) none)))
def Good (s : List UInt8) (v : y0q) (n : Nat) : Prop:=n ≠ 0 ∧ n ≤ s.length ∧ VOK v ∧ encV v = s.take n
theorem tail_good {acc : List y0q} {s : List UInt8} {v : y0q} {n : Nat} {C : (List y0q × List UInt8) → Option KvR} (hS : v.2.2.2.1.length ≤ 1048576) (ha : acc.length ≤ 10000) (h : Good s v n) : tailI acc s v (n : Int) C = C (acc ++ [v],s.drop n):=by
 obtain ⟨h1,h2,h3,h4⟩:=h
 unfold tailI
 rw [beqF _ _ (by omega),brFF,y15q (by omega),implKey [v] (by simpa using hS),KB1 h3,y8q]
 show br false _ _ = _
 rw [brFF,y2q (by omega),y2q (by omega),Int.toNat_natCast]
 show br (!(encV v == List.take n s)) _ _ = _
 rw [show (encV v == List.take n s) = true by rw [h4]; simp,Bool.not_true,brFF,y2q (cap_ok (by simp; omega)),y2q (by omega),y2q (by omega)]
theorem tail_bad {acc : List y0q} {s : List UInt8} {v : y0q} {n : Nat} {C : (List y0q × List UInt8) → Option KvR} (hS : v.2.2.2.1.length ≤ 1048576) (h : ¬ Good s v n) : tailI acc s v (n : Int) C = some (.inr ([],5)):=by
 unfold tailI
 by_cases h1 : n = 0
 ·rw [beqT _ _ (by omega),brTT]
 by_cases h2 : n ≤ s.length
 ·rw [beqF _ _ (by omega),brFF,y15q (by omega),implKey [v] (by simpa using hS),y8q]
  by_cases h3 : VOK v
  ·rw [KB1 h3]
   show br false _ _ = _
   rw [brFF,y2q (by omega),y2q (by omega),Int.toNat_natCast]
   show br (!(encV v == List.take n s)) _ _ = _
   rw [show (encV v == List.take n s) = false by simpa using fun h4=>h ⟨h1,h2,h3,h4⟩]
   rfl
  ·rw [KB1n h3]
   rfl
 ·rw [beqF _ _ (by omega),brFF,y2q (by omega)]
def StepI (acc : List y0q) (s : List UInt8) (C : (List y0q × List UInt8) → Option KvR) : Prop :=
 (∀ v,Begins s v → B_u49f_l0 (acc,s) C = C (acc ++ [v],s.drop (encV v).length)) ∧ ((∀ v,¬ Begins s v) → B_u49f_l0 (acc,s) C = some (.inr ([],5)))
theorem good_begins {s : List UInt8} {v : y0q} {n : Nat} (h : Good s v n) : Begins s v:=⟨h.2.2.1,s.drop n,by rw [h.2.2.2,List.take_append_drop]⟩
theorem begins_good {s : List UInt8} {v : y0q} (h : Begins s v) : Good s v (encV v).length:=by
 obtain ⟨hv,r,e⟩:=h
 have:=enc_pos v
 exact ⟨by omega,by rw [e,List.length_append]; omega,hv,by rw [e,List.take_append_of_le_length (Nat.le_refl _),List.take_length]⟩
variable {acc : List y0q} {s : List UInt8} {C : (List y0q × List UInt8) → Option KvR}
theorem y141q {v : y0q} {n : Nat} (ha : acc.length ≤ 10000) (hS : v.2.2.2.1.length ≤ 1048576) (hB : B_u49f_l0 (acc,s) C = tailI acc s v (n : Int) C) (hu : ∀ v',Begins s v' → v' = v ∧ (encV v').length = n) : StepI acc s C:=by
 refine ⟨fun v' h=>?_,fun h=>?_⟩
 ·obtain ⟨rfl,e⟩:=hu v' h
  subst e
  rw [hB,tail_good hS ha (begins_good h)]
 ·rw [hB,tail_bad hS fun hg=>h v (good_begins hg)]
theorem step_inr (hB : B_u49f_l0 (acc,s) C = some (.inr ([],5))) (hu : ∀ v',¬ Begins s v') : StepI acc s C:=⟨fun v h=>absurd h (hu v),fun _=>hB⟩
theorem idxB_cons : ∀ (S r : List UInt8),(0 : UInt8) ∉ S → Go.Lib.indexByte (S ++ 0 :: r) 0 = (S.length : Int)
 | [],r,_=>by simp [Go.Lib.indexByte]
 | b :: S,r,h=>by
  have hb : ¬ b = 0:=fun e=>h (by rw [e]; exact List.mem_cons_self)
  have ih:=idxB_cons S r (fun h'=>h (List.mem_cons_of_mem _ h'))
  have hbb : (b == (0 : UInt8)) = false:=by simpa using hb
  simp only [List.cons_append,Go.Lib.indexByte,hbb,ih]
  rw [if_neg (by simp),if_neg (by simp <;> omega)]
  simp
theorem idxB_range : ∀ (l : List UInt8), -1 ≤ Go.Lib.indexByte l 0 ∧ Go.Lib.indexByte l 0 < l.length ∧ (Go.Lib.indexByte l 0 < 0 → (0 : UInt8) ∉ l)
 | []=>by simp [Go.Lib.indexByte]
 | b :: l=>by
  obtain ⟨h1,h2,h3⟩:=idxB_range l
  unfold Go.Lib.indexByte
  by_cases hb : b = 0
  ·subst hb
   simp
  ·have hbb : (b == (0 : UInt8)) = false:=by simpa using hb
   rw [hbb,if_neg (by simp)]
   by_cases hi : Go.Lib.indexByte l 0 = -1
   ·rw [hi]
    refine ⟨by simp,by simp; omega,fun _ hm=>?_⟩
    rcases List.mem_cons.1 hm with e | e
    ·exact hb e.symm
    ·exact h3 (by omega) e
   ·rw [if_neg (by simpa using hi)]
    refine ⟨by omega,by simp only [List.length_cons]; omega,fun h=>absurd h (by omega)⟩
theorem prn_nz {S : List UInt8} (h : Prn S) : (0 : UInt8) ∉ S:=by
 intro hm
 obtain ⟨i,hi,e⟩:=List.mem_iff_getElem.1 hm
 have:=(h i hi).1
 simp [List.getD_eq_getElem?_getD,hi,e] at this
theorem u8n {b : UInt8} {n : Nat} (hn : n < 256) : ((b.toNat : Nat) : Int) = (n : Int) ↔ b = UInt8.ofNat n:=by
 constructor
 ·intro h
  apply UInt8.toNat_inj.1
  rw [UInt8.toNat_ofNat']
  omega
 ·intro h
  rw [h,UInt8.toNat_ofNat']
  omega
end Go.Ev.T1
