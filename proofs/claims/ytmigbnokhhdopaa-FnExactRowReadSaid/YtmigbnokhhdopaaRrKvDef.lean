import Derived.Test.YtmigbnokhhdopaaRrKbDef
set_option linter.unusedSimpArgs false
set_option linter.unusedVariables false
namespace Go.Ev.T1
open Go Go.Proofs
def rd (s : List UInt8) : Nat:=s.foldl (fun n b=>n * 256 + b.toNat) 0
theorem rd_append (s : List UInt8) (b : UInt8) : rd (s ++ [b]) = rd s * 256 + b.toNat:=by simp [rd]
theorem rd_be : ∀ (k n : Nat),rd (be n k) = n % 256 ^ k
 | 0,n=>by simp [be,rd,Nat.mod_one]
 | k + 1,n=>by
  rw [be,rd_append,rd_be k,Nat.pow_succ,Nat.mul_comm (256 ^ k) 256,Nat.mod_mul]
  simp [UInt8.toNat_ofNat']
  omega
theorem rd_be' {k n : Nat} (h : n < 256 ^ k) : rd (be n k) = n:=by rw [rd_be,Nat.mod_eq_of_lt h]
theorem be_rd (s : List UInt8) : be (rd s) s.length = s:=by
 have key : ∀ (n : Nat) (s : List UInt8),s.length = n → be (rd s) n = s:=by
  intro n
  induction n with
  | zero=>intro s h; rw [List.length_eq_zero_iff.1 h]; rfl
  | succ n ih =>
   intro s h
   obtain ⟨t,b,rfl⟩ : ∃ t b,s = t ++ [b]:=by
    rcases List.eq_nil_or_concat s with e | ⟨t,b,e⟩
    ·rw [e] at h; simp at h
    ·exact ⟨t,b,by rw [e,List.concat_eq_append]⟩
   have hb:=b.toNat_lt
   rw [List.length_append] at h
   simp only [List.length_singleton,Nat.add_right_cancel_iff] at h
   rw [rd_append,be,show (rd t * 256 + b.toNat) / 256 = rd t by omega,ih t h]
   congr 2
   apply UInt8.toNat_inj.1
   rw [UInt8.toNat_ofNat']
   omega
 exact key _ s rfl
theorem rd_lt (s : List UInt8) : rd s < 256 ^ s.length:=by
 have key : ∀ (n : Nat) (s : List UInt8),s.length = n → rd s < 256 ^ n:=by
  intro n
  induction n with
  | zero=>intro s h; rw [List.length_eq_zero_iff.1 h]; decide
  | succ n ih =>
   intro s h
   obtain ⟨t,b,rfl⟩ : ∃ t b,s = t ++ [b]:=by
    rcases List.eq_nil_or_concat s with e | ⟨t,b,e⟩
    ·rw [e] at h; simp at h
    ·exact ⟨t,b,by rw [e,List.concat_eq_append]⟩
   have hb:=b.toNat_lt
   rw [List.length_append] at h
   simp only [List.length_singleton,Nat.add_right_cancel_iff] at h
   have:=ih t h
   rw [rd_append,Nat.pow_succ]
   omega
 exact key _ s rfl
def Begins (s : List UInt8) (v : KV) : Prop:=VOK v ∧ ∃ r,s = encV v ++ r
end Go.Ev.T1
