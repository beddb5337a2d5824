import Derived.Test.YtmigbnokhhdopaaRrV1
set_option linter.unusedSimpArgs false
set_option linter.unusedVariables false
set_option maxRecDepth 100000
namespace Go.Ev.T1
open Go Go.Proofs
theorem y63q {b : UInt8} {r : List UInt8} {v : KV} (h : Begins (b :: r) v) : (v.1 = 0 ∧ b = 1) ∨ (v.1 = 1 ∧ b = 2) ∨ ((v.1 = 2 ∨ v.1 = 3) ∧ b = 3) ∨ (v.1 = 4 ∧ b = 4) ∨ (v.1 = 5 ∧ b = 5):=by
 obtain ⟨hv,q,e⟩:=h
 unfold encV at e
 split at e
 ·rename_i k; simp at e; exact .inl ⟨k,e.1⟩
 ·split at e
  ·rename_i k; simp at e; exact .inr (.inl ⟨k,e.1⟩)
  ·split at e
   ·rename_i k; simp at e; exact .inr (.inr (.inl ⟨k,e.1⟩))
   ·split at e
    ·rename_i k; simp at e; exact .inr (.inr (.inr (.inl ⟨k,e.1⟩)))
    ·rename_i k0 k1 k2 k4
     simp at e
     refine .inr (.inr (.inr (.inr ⟨?_,e.1⟩)))
     rcases hv with h | h | h | h | h | h <;> first | exact absurd h.1 (by omega) | exact h.1
theorem kv_eq {a b : KV} (h1 : a.1 = b.1) (h2 : a.2.1 = b.2.1) (h3 : a.2.2.1 = b.2.2.1) (h4 : a.2.2.2.1 = b.2.2.2.1) : a = b:=by
 obtain ⟨a1,a2,a3,a4,_⟩:=a
 obtain ⟨b1,b2,b3,b4,_⟩:=b
 simp at h1 h2 h3 h4
 rw [h1,h2,h3,h4]
theorem vok0 {v : KV} (h : VOK v) (k : v.1 = 0) : v = ZV:=by
 rcases h with h | h | h | h | h | h <;> first | exact absurd h.1 (by omega) | exact kv_eq h.1 h.2.1 h.2.2.1 h.2.2.2
theorem vok1 {v : KV} (h : VOK v) (k : v.1 = 1) : 0 ≤ v.2.1 ∧ v.2.1 ≤ 1 ∧ v = (1,v.2.1,0,[],()):=by
 rcases h with h | h | h | h | h | h <;> first | exact absurd h.1 (by omega) | exact ⟨h.2.1,h.2.2.1,kv_eq h.1 rfl h.2.2.2.1 h.2.2.2.2⟩
theorem vok2 {v : KV} (h : VOK v) (k : v.1 = 2) : -1000000000000000 ≤ v.2.1 ∧ v.2.1 ≤ 1000000000000000 ∧ v = (2,v.2.1,0,[],()):=by
 rcases h with h | h | h | h | h | h <;> first | exact absurd h.1 (by omega) | exact ⟨h.2.1,h.2.2.1,kv_eq h.1 rfl h.2.2.2.1 h.2.2.2.2⟩
theorem vok3 {v : KV} (h : VOK v) (k : v.1 = 3) : -1000000000 ≤ v.2.1 ∧ v.2.1 ≤ 1000000000 ∧ 0 ≤ v.2.2.1 ∧ v.2.2.1 ≤ 6 ∧ (v.2.2.1 = 0 ∨ Int.tmod v.2.1 10 ≠ 0) ∧ v = (3,v.2.1,v.2.2.1,[],()):=by
 rcases h with h | h | h | h | h | h <;> first | exact absurd h.1 (by omega) | exact ⟨h.2.1,h.2.2.1,h.2.2.2.1,h.2.2.2.2.1,h.2.2.2.2.2.1,kv_eq h.1 rfl rfl h.2.2.2.2.2.2⟩
theorem vok4 {v : KV} (h : VOK v) (k : v.1 = 4) : Prn v.2.2.2.1 ∧ v.2.2.2.1.length ≤ 200 ∧ v = (4,0,0,v.2.2.2.1,()):=by
 rcases h with h | h | h | h | h | h <;> first | exact absurd h.1 (by omega) | exact ⟨h.2.2.2.1,h.2.2.2.2,kv_eq h.1 h.2.1 h.2.2.1 rfl⟩
theorem vok5 {v : KV} (h : VOK v) (k : v.1 = 5) : 0 ≤ v.2.1 ∧ v.2.1 ≤ 3652058 ∧ v = (5,v.2.1,0,[],()):=by
 rcases h with h | h | h | h | h | h <;> first | exact absurd h.1 (by omega) | exact ⟨h.2.1,h.2.2.1,kv_eq h.1 rfl h.2.2.2.1 h.2.2.2.2⟩
theorem enc0 {v : KV} (k : v.1 = 0) : encV v = [1]:=by simp [encV,k]
theorem enc1 {v : KV} (k : v.1 = 1) : encV v = [2,UInt8.ofNat v.2.1.toNat]:=by simp [encV,k]
theorem enc23 {v : KV} (k : v.1 = 2 ∨ v.1 = 3) : encV v = 3 :: (be (1152921504606846976 + v.2.1 / pow10 v.2.2.1).toNat 8 ++ be (v.2.1 % pow10 v.2.2.1 * pow10 (6 - v.2.2.1)).toNat 3 ++ [UInt8.ofNat v.1.toNat]):=by
 unfold encV
 rw [if_neg (by omega),if_neg (by omega),if_pos k]
theorem enc4 {v : KV} (k : v.1 = 4) : encV v = 4 :: (v.2.2.2.1 ++ [0]):=by simp [encV,k]
theorem enc5 {v : KV} (k : v.1 = 5) : encV v = 5 :: be v.2.1.toNat 3:=by simp [encV,k]
theorem enc_pos (v : KV) : 0 < (encV v).length:=by
 unfold encV
 (repeat' split) <;> simp
theorem parts23 {s : List UInt8} {v : KV} (h : Begins s v) (k : v.1 = 2 ∨ v.1 = 3) :
  13 ≤ s.length ∧ (s.take 9).drop 1 = be (1152921504606846976 + v.2.1 / pow10 v.2.2.1).toNat 8 ∧ (s.take 12).drop 9 = be (v.2.1 % pow10 v.2.2.1 * pow10 (6 - v.2.2.1)).toNat 3 ∧ s.getD 12 0 = UInt8.ofNat v.1.toNat ∧ (encV v).length = 13:=by
 obtain ⟨hv,r,e⟩:=h
 rw [enc23 k] at e
 generalize hA : (1152921504606846976 + v.2.1 / pow10 v.2.2.1).toNat = A at e ⊢
 generalize hB : (v.2.1 % pow10 v.2.2.1 * pow10 (6 - v.2.2.1)).toNat = B at e ⊢
 have l8:=y34q 8 A
 have l3:=y34q 3 B
 refine ⟨?_, ?_, ?_, ?_, ?_⟩
 ·rw [e]; simp [l8,l3]; omega
 ·rw [e,List.cons_append,List.take_succ_cons,List.drop_succ_cons,List.drop_zero,List.append_assoc,List.append_assoc,List.take_append_of_le_length (by omega),List.take_of_length_le (by omega)]
 ·rw [e,List.cons_append,List.take_succ_cons,List.drop_succ_cons,List.append_assoc,List.append_assoc,List.take_append,l8,List.take_of_length_le (by omega),List.drop_append,l8,List.drop_of_length_le (by omega)]
  simp [List.take_append,l3]
 ·rw [e,List.cons_append,List.getD_cons_succ,List.append_assoc,List.append_assoc]
  simp [List.getD_eq_getElem?_getD,List.getElem?_append_right,l8,l3]
 ·rw [enc23 k]
  simp [y34q]
theorem nums23 {v : KV} (h : VOK v) (k : v.1 = 2 ∨ v.1 = 3) : 0 ≤ 1152921504606846976 + v.2.1 / pow10 v.2.2.1 ∧ -1000000000000000 ≤ v.2.1 / pow10 v.2.2.1 ∧ v.2.1 / pow10 v.2.2.1 ≤ 1000000000000000 ∧ 0 ≤ v.2.1 % pow10 v.2.2.1 * pow10 (6 - v.2.2.1) ∧ v.2.1 % pow10 v.2.2.1 * pow10 (6 - v.2.2.1) < 16777216 ∧
  v.2.1 / pow10 v.2.2.1 * 1000000 + v.2.1 % pow10 v.2.2.1 * pow10 (6 - v.2.2.1) = v.2.1 * pow10 (6 - v.2.2.1):=by
 rcases k with k | k
 ·obtain ⟨h1,h2,h3⟩:=vok2 h k
  have hs : v.2.2.1 = 0:=by rw [h3]
  rw [hs]
  have p0 : pow10 0 = 1:=rfl
  have p6 : pow10 (6 - 0) = 1000000:=rfl
  rw [p0,p6,Int.ediv_one,Int.emod_one]
  omega
 ·obtain ⟨h1,h2,h3,h4,_,_⟩:=vok3 h k
  obtain ⟨p0,p6⟩:=pow_pos _ h3 h4
  obtain ⟨n1,n2,n3,n4⟩:=num_ok v.2.1 v.2.2.1 _ rfl p0 h1 h2 h3 h4
  have e1 : pow10 v.2.2.1 * pow10 (6 - v.2.2.1) = 1000000 ∧ 0 < pow10 (6 - v.2.2.1):=by
   obtain h | h | h | h | h | h | h : v.2.2.1 = 0 ∨ v.2.2.1 = 1 ∨ v.2.2.1 = 2 ∨ v.2.2.1 = 3 ∨ v.2.2.1 = 4 ∨ v.2.2.1 = 5 ∨ v.2.2.1 = 6:=by omega
   all_goals (rw [h]; decide)
  have e3:=Int.emod_lt_of_pos v.2.1 p0
  have e6:=Int.mul_le_mul_of_nonneg_right (Int.le_of_lt e3) (Int.le_of_lt e1.2)
  have e7:=Int.mul_ediv_add_emod v.2.1 (pow10 v.2.2.1)
  refine ⟨by omega,by omega,by omega,n3,by omega, ?_⟩
  rw [← e1.1,← Int.mul_assoc,← Int.add_mul,Int.mul_comm (v.2.1 / pow10 v.2.2.1),e7]
end Go.Ev.T1
