import Derived.Test.YtmigbnokhhdopaaRrEvG
section
set_option linter.unusedSimpArgs false
set_option linter.unusedVariables false
namespace Go.Ev
def SmT (n : Nat) : (t : Ty) → t.den → Prop
 | .int k,v=>Rng k v
 | .bool,_=>True
 | .str,s=>s.length ≤ n
 | .sl t,xs=>xs.length ≤ n ∧ ∀ x ∈ xs,SmT n t x
 | .unit,_=>True
 | .any,_=>True
 | .osl _ _,_=>True
 | .mp _ _,_=>True
 | .omp _ _,_=>True
 | .pair a b,x=>SmT n a x.1 ∧ SmT n b x.2
theorem rd_smT {H : Type} : ∀ (t : Ty) (x : t.den) (d : DataW H),Rd t x d → SmT maxLen t x
 | .int k,v,d,h=>h.2
 | .bool,_,_,_=>trivial
 | .str,s,d,h=>h.2
 | .unit,_,_,_=>trivial
 | .any,_,_,_=>trivial
 | .osl _ _,_,_,_=>trivial
 | .mp _ _,_,_,_=>trivial
 | .omp _ _,_,_,_=>trivial
 | .pair a b,x,d,⟨p,ps,_,h1,h2⟩=>⟨rd_smT a x.1 p h1,rd_smT b x.2 _ h2⟩
 | .sl t,xs,d,h=>by
  rcases h with ⟨_,rfl⟩ | ⟨es,sp,_,hl,hm,he⟩
  ·exact ⟨Nat.zero_le _,fun x hx=>by simp at hx⟩
  ·refine ⟨hm,fun x hx=>?_⟩
   obtain ⟨i,hi,rfl⟩:=List.mem_iff_getElem.1 hx
   have h1 : es[i]? = some es[i]:=List.getElem?_eq_getElem (by omega)
   have:=rd_smT t _ _ (he i _ h1)
   rwa [show xs.getD i t.zero = xs[i] by simp [List.getD_eq_getElem?_getD,hi]] at this
end Go.Ev
end
