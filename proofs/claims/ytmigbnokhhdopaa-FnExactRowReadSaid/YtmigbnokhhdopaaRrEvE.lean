import Derived.Test.YtmigbnokhhdopaaRrEvD
import Derived.MapKept
import Derived.Carry
set_option linter.unusedSimpArgs false
set_option linter.unusedVariables false
set_option linter.unusedSectionVars false
section
namespace Go.Ev
open Go.RowKit (Below)
section
variable {w0 : Base} {G0 : Nat → Prop} {N : Nat} {F : List (Nat × Obj)} {m : St} {e : Env} {tm : Array Value} {os ov : List (Nat × Obj)} {st : Bool} {Gd Hd : Nat → Prop} {L : Nat}
def Bk (m : St) (os : List (Nat × Obj)) : AT → SV → Value → List Nat → Prop
 | .io (.osl T t), .one (.sub id n sz j off),v,cl=>m.D id ∧ ∀ U u n' xs ys z,find os id = some (.row U u n' xs) → setP T t ys u (xs.getD j u.zero) off = some z → ∀ w' G',(∀ b,m.G b → G' b ∧ w'.heap[b]? = m.w.heap[b]?) → (∀ b ∈ cl,w'.heap[b]? = m.w.heap[b]?) →
   ∀ bl0,RowAt w' G' T t ys v → RowIn w' G' t ys v bl0 → bl0.Nodup → (∀ b ∈ cl,b ∉ bl0) → ∃ bn,RowAt w' G' U u (xs.set j z) (m.ν id) ∧ RowIn w' G' u (xs.set j z) (m.ν id) bn ∧ bn.Nodup ∧ ∀ b ∈ bn,b ∈ bl0 ++ cl
 | _,_,_,cl=>cl = []
def Bks (m : St) (os : List (Nat × Obj)) : List AT → List SV → List Value → List Nat → Prop
 | [],[],[],cl=>cl = []
 | a :: r,s :: vs,v :: l,cl=>∃ c1 c2,cl = c1 ++ c2 ∧ Bk m os a s v c1 ∧ Bks m os r vs l c2
 | _,_,_,_=>False
theorem sub_back {T U id n j off : Nat} {t u : Ty} {xs : List u.den} {xs0 : List t.den} {v : Value} (ho : Ob m id (.row U u n xs)) (hf : find os id = some (.row U u n xs)) (hl : Lv m (.sub id n u.size j off) v) (hg : getP T t u (xs.getD j u.zero) off = some xs0) :
  ∃ bl cl,RowAt m.w m.G T t xs0 v ∧ RowIn m.w m.G t xs0 v bl ∧ (bl ++ cl).Nodup ∧ (∀ b ∈ bl ++ cl,b ∈ m.σ n) ∧ Bk m os (.io (.osl T t)) (.one (.sub id n u.size j off)) v cl:=by
 obtain ⟨h1,h2,h3,h4,_⟩:=ho
 obtain ⟨hD,_,⟨b,len,c,e1,hj⟩,hv,_⟩:=hl
 rw [e1] at h1 h2 h4
 obtain ⟨bls,hσ,hbl,hel⟩:=rowIn_inv (b:=b) h2 rfl
 have h1':=h1
 rcases h1' with ⟨e,_⟩ | ⟨b',c',cs,e,hh,k1,k2,k3,hx⟩
 ·simp at e
 simp only [Value.slice.injEq,Option.some.injEq,Addr.mk.injEq,and_true] at e
 obtain ⟨rfl,rfl,rfl⟩:=e
 obtain ⟨cj,q1,q2,q3⟩:=hel j hj
 obtain ⟨cj',q4,q5⟩:=hx j hj
 have:=y23q q4 q1 (by rw [q5.length,q2])
 subst this
 have hnd : (b :: bls.flatten).Nodup:=by rw [← hσ]; exact h3
 have hndf:=(List.nodup_cons.1 hnd).2
 have hbnot : ∀ k,b ∉ bls.getD k []:=fun k hk=>(List.nodup_cons.1 hnd).1 (y17q hk)
 obtain ⟨v',blp,r1,r2,r3,r4,r5,r6,r7⟩:=setP_own u _ off cj' (bls.getD j []) xs0 hg q5 q3 (getD_nodup hndf)
 obtain ⟨g1,_⟩:=h4 b rfl j hj off r6
 have hvv:=cells1 q4 r1 g1
 rw [← hv] at hvv
 subst hvv
 have hblpσ : ∀ p ∈ blp,p ∈ m.σ n:=fun p hp=>by rw [hσ]; exact List.mem_cons_of_mem _ (y17q (r4 p hp))
 refine ⟨blp,(m.σ n).filter (fun p=>decide (p ∉ blp)),r2,r3,List.nodup_append.2 ⟨r5,h3.filter _,fun p hp q hq e=>?_⟩,fun p hp=>?_,hD, ?_⟩
 ·subst e
  have:=(List.mem_filter.1 hq).2
  simp only [decide_eq_true_eq] at this
  exact this hp
 ·rcases List.mem_append.1 hp with hp | hp
  ·exact hblpσ p hp
  ·exact (List.mem_filter.1 hp).1
 ·intro U' u' n' xs' ys z hf' hz w' G' hG hcl bl0 w1 w2 w3 w4
  rw [hf] at hf'
  cases hf'
  have hcm : ∀ p,p ∈ m.σ n → p ∉ blp → p ∈ (m.σ n).filter (fun p=>decide (p ∉ blp)):=fun p h1 h2=>List.mem_filter.2 ⟨h1,by simpa using h2⟩
  have hinel : ∀ k p,p ∈ bls.getD k [] → p ∈ m.σ n:=fun k p hp=>by rw [hσ]; exact List.mem_cons_of_mem _ (y17q hp)
  obtain ⟨x1,bl',x2,x3,x4⟩:=r7 ys z hz w' G' hG (fun p hp hq=>hcl p (hcm p (hinel j p hp) hq)) bl0 w1 w2
  have hbm : b ∈ m.σ n:=by rw [hσ]; exact List.mem_cons_self
  have hbp : b ∉ blp:=fun h=>hbnot j (r4 b h)
  have hheap : w'.heap[b]? = m.w.heap[b]?:=hcl b (hcm b hbm hbp)
  have hother : ∀ k,k ≠ j → ∀ q ∈ bls.getD k [],q ∉ blp:=fun k hk q hq hp=>hk (getD_apart hndf hq (r4 q hp))
  obtain ⟨y1,y2⟩:=row_set (w':=w') (G':=G') (cs':=cs) (z:=z) (bl':=bl') h1 hel hbl hG (fun k hk q hq=>hcl q (hcm q (hinel k q hq) (hother k hk q hq))) (by rw [hheap]; exact hh) k3
   (fun k d _ _ _ hc=>y41q hc hheap) hj (y41q q4 hheap) x1 x2
  rw [e1]
  refine ⟨_,y1,y2,List.nodup_cons.2 ⟨fun hm=>?_,y102q bls j bl' hndf (x4 w3 fun p hp hq=>w4 p (hcm p (hinel j p hp) hq)) fun p hp k hk hk'=>?_⟩,fun p hp=>?_⟩
  ·rcases y51q bls j bl' b hm with hm | ⟨k,_,_,hm⟩
   ·rcases x3 b hm with ⟨h,_⟩ | h
    ·exact hbnot j h
    ·exact w4 b (hcm b hbm hbp) h
   ·exact hbnot k hm
  ·rcases x3 p hp with ⟨h,_⟩ | h
   ·exact hk (getD_apart hndf hk' h)
   ·exact w4 p (hcm p (hinel k p hk') (hother k hk p hk')) h
  ·rcases List.mem_cons.1 hp with e | hp
   ·subst e; exact List.mem_append_right _ (hcm _ hbm hbp)
   ·rcases y51q bls j bl' p hp with hp | ⟨k,hk,_,hp⟩
    ·rcases x3 p hp with ⟨h,h'⟩ | h
     ·exact List.mem_append_right _ (hcm p (hinel j p h) h')
     ·exact List.mem_append_left _ h
    ·exact List.mem_append_right _ (hcm p (hinel k p hp) (hother k hk p hp))
theorem bindG1_sound (hk : Tk m os ov st Gd) (hL : ∀ b,m.H b → Hd b) (hV : ∀ i vs,find ov i = some (.var vs) → Hd (m.β i)) {a : AT} {s : SV} {x : a.den} {v : Value} (hn : (ids1 os a s).Nodup) (h : bindG1 st os ov a s = some x) (hs : Sv m s v) :
  ∃ bl cl,ArgG m.w Gd Hd a x v bl ∧ Bk m os a s v cl ∧ (bl ++ cl).Nodup ∧ ∀ b ∈ bl ++ cl,∃ i ∈ ids1 os a s,blk os m i b:=by
 have plain : ∀ {P : Prop},P → (([] : List Nat) ++ ([] : List Nat)).Nodup ∧ ∀ b ∈ ([] : List Nat) ++ ([] : List Nat),∃ i ∈ ids1 os a s,blk os m i b:=fun _=>⟨List.nodup_nil,fun b hb=>by simp at hb⟩
 have isv : ∀ (t : Ty) (x : t.den),(idsT t s.cells).Nodup → takeSV st os ov t s = some x → ∃ bl,(∃ cs,AsVal t cs v ∧ Val m.w Gd t x cs ∧ Inn m.w Gd t x cs bl) ∧ (bl ++ []).Nodup ∧ ∀ b ∈ bl ++ [],∃ i ∈ idsT t s.cells,blk os m i b:=by
  intro t x hn h
  obtain ⟨cs,h1,h2,bl,h3,h4,h5⟩:=y83q hk hn h hs
  exact ⟨bl,⟨cs,h1,h2,h3⟩,by rw [List.append_nil]; exact h4,by rw [List.append_nil]; exact h5⟩
 cases a with
 | val t=>exact ⟨[],[],⟨rfl,y129q hk.hov hk.hG hL hV hk.hR h hs⟩,rfl,plain h⟩
 | ptr t=>exact ⟨[],[],⟨rfl,y129q hk.hov hk.hG hL hV hk.hR h hs⟩,rfl,plain h⟩
 | clo f ts=>exact ⟨[],[],⟨rfl,y129q hk.hov hk.hG hL hV hk.hR h hs⟩,rfl,plain h⟩
 | srt Ts=>simp [bindG1,y40q] at h
 | own t =>
  simp only [bindG1] at h
  simp only [ids1] at hn ⊢
  obtain ⟨bl,h1,h2,h3⟩:=isv t x hn h
  exact ⟨bl,[],h1,rfl,h2,h3⟩
 | var t =>
  cases s with
  | one y =>
   cases y with
   | loc id off =>
    cases off with
    | succ=>simp [bindG1,y40q] at h
    | zero =>
     simp only [bindG1] at h
     cases hf : find os id with
     | none=>simp [hf] at h
     | some o =>
      cases o with
      | var l =>
       simp only [hf] at h
       simp only [ids1,hf] at hn ⊢
       have hnd:=List.nodup_cons.1 hn
       obtain ⟨cs,T,hh,hr⟩:=hk.ho id _ hf
       obtain ⟨hv,bl,h3,h4,h5⟩:=takeC_sound hk t l x cs hnd.2 h hr
       have hβ : blk os m id (m.β id):=by unfold blk; rw [hf]
       refine ⟨bl ++ [m.β id],[],⟨m.β id,cs,T,bl,hs.2,hh,hv,h3,rfl⟩,rfl, ?_,fun b hb=>?_⟩
       ·rw [List.append_nil]
        refine List.nodup_append.2 ⟨h4,by simp,fun p hp q hq e=>?_⟩
        subst e
        simp only [List.mem_singleton] at hq
        subst hq
        obtain ⟨i,hi,hb⟩:=h5 _ hp
        have:=hk.inj i id _ hb hβ
        subst this
        exact hnd.1 hi
       ·rw [List.append_nil] at hb
        rcases List.mem_append.1 hb with hb | hb
        ·obtain ⟨i,hi,hb⟩:=h5 _ hb
         exact ⟨i,List.mem_cons_of_mem _ hi,hb⟩
        ·simp only [List.mem_singleton] at hb
         subst hb
         exact ⟨id,List.mem_cons_self,hβ⟩
      | _=>simp [hf] at h
   | _=>simp [bindG1,y40q] at h
  | _=>simp [bindG1,y40q] at h
 | io t =>
  by_cases hsub : ∃ T u id n sz j off,t = .osl T u ∧ s = .one (.sub id n sz j off)
  ·obtain ⟨T,u,id,n,sz,j,off,rfl,rfl⟩:=hsub
   simp only [bindG1] at h
   cases hf : find os id with
   | none=>simp [hf] at h
   | some o =>
    cases o with
    | row U r n' xs =>
     simp only [hf] at h
     cases hc : Nat.beq n n' && Nat.beq sz r.size with
     | false=>simp [hc] at h
     | true =>
      simp only [hc] at h
      rw [Bool.and_eq_true] at hc
      have h1:=Nat.eq_of_beq_eq_true hc.1
      have h2:=Nat.eq_of_beq_eq_true hc.2
      subst h1; subst h2
      obtain ⟨bl,cl,r1,r2,r3,r4,r5⟩:=sub_back (os:=os) (hk.ho id _ hf) hf hs h
      have hs0 : Lv m (.sub id n r.size j off) v:=hs
      exact ⟨bl,cl,⟨[v],rfl,⟨v,rfl,hs0.oneCell⟩,v,rfl,r1.grow hk.hG,r2.grow hk.hG⟩,r5,r3,fun b hb=>⟨id,by simp [ids1,idsT,SV.cells],by unfold blk; rw [hf]; exact r4 b hb⟩⟩
    | _=>simp [hf] at h
  ·have h' : takeSV st os ov t s = some x:=by
    cases t with
    | osl T u =>
     cases s with
     | one y =>
      cases y with
      | sub id n sz j off=>exact absurd ⟨T,u,id,n,sz,j,off,rfl,rfl⟩ hsub
      | _=>exact h
     | _=>exact h
    | _=>exact h
   have hb : ∀ cl,Bk m os (.io t) s v cl ↔ cl = []:=by
    intro cl
    cases t with
    | osl T u =>
     cases s with
     | one y =>
      cases y with
      | sub id n sz j off=>exact absurd ⟨T,u,id,n,sz,j,off,rfl,rfl⟩ hsub
      | _=>exact Iff.rfl
     | _=>exact Iff.rfl
    | _=>exact Iff.rfl
   have hi : ids1 os (.io t) s = idsT t s.cells:=by cases s <;> rfl
   rw [hi] at hn ⊢
   obtain ⟨bl,h1,h2,h3⟩:=isv t x hn h'
   exact ⟨bl,[],h1,(hb []).2 rfl,h2,h3⟩
theorem bindG_sound (hk : Tk m os ov st Gd) (hL : ∀ b,m.H b → Hd b) (hV : ∀ i vs,find ov i = some (.var vs) → Hd (m.β i)) : ∀ (ats : List AT) (vs : List SV) (x : ATs.den ats) (l : List Value),(ioIds os ats vs).Nodup → bindG st os ov ats vs = some x → R2 (Sv m) vs l →
  ∃ bl cl,ArgsG m.w Gd Hd ats x l bl ∧ Bks m os ats vs l cl ∧ (bl ++ cl).Nodup ∧ ∀ b ∈ bl ++ cl,∃ i ∈ ioIds os ats vs,blk os m i b
 | [],[],x,l,hn,h,hl=>by
  cases l with
  | nil=>exact ⟨[],[],⟨rfl,rfl⟩,rfl,List.nodup_nil,fun b hb=>by simp at hb⟩
  | cons=>exact absurd hl (by simp [R2])
 | a :: r,v :: vs,x,l,hn,h,hl=>by
  cases l with
  | nil=>exact absurd hl (by simp [R2])
  | cons u l =>
   obtain ⟨h1,h2⟩:=hl
   simp only [ioIds] at hn ⊢
   have hnd:=List.nodup_append.1 hn
   simp only [bindG] at h
   cases hx : bindG1 st os ov a v with
   | none=>simp [hx] at h
   | some y =>
    cases hy : bindG st os ov r vs with
    | none=>simp [hx,hy] at h
    | some z =>
     simp only [hx,hy,Option.some.injEq] at h
     subst h
     obtain ⟨b1,c1,a1,a2,a3,a4⟩:=bindG1_sound hk hL hV hnd.1 hx h1
     obtain ⟨b2,c2,d1,d2,d3,d4⟩:=bindG_sound hk hL hV r vs z l hnd.2.1 hy h2
     have hap : ∀ p ∈ b1 ++ c1,∀ q ∈ b2 ++ c2,p ≠ q:=fun p hp q hq e=>by
      subst e
      obtain ⟨i,hi,k1⟩:=a4 p hp
      obtain ⟨j,hj,k2⟩:=d4 p hq
      exact hnd.2.2 i hi j hj (hk.inj i j p k1 k2)
     have n1:=List.nodup_append.1 a3
     have n2:=List.nodup_append.1 d3
     refine ⟨b1 ++ b2,c1 ++ c2,⟨b1,b2,rfl,a1,d1⟩,⟨c1,c2,rfl,a2,d2⟩, ?_,fun b hb=>?_⟩
     ·refine List.nodup_append.2 ⟨List.nodup_append.2 ⟨n1.1,n2.1,fun p hp q hq=>hap p (List.mem_append_left _ hp) q (List.mem_append_left _ hq)⟩,List.nodup_append.2 ⟨n1.2.1,n2.2.1,fun p hp q hq=>hap p (List.mem_append_right _ hp) q (List.mem_append_right _ hq)⟩,fun p hp q hq=>?_⟩
      rcases List.mem_append.1 hp with hp | hp <;> rcases List.mem_append.1 hq with hq | hq
      ·exact n1.2.2 p hp q hq
      ·exact hap p (List.mem_append_left _ hp) q (List.mem_append_right _ hq)
      ·exact fun e=>hap q (List.mem_append_right _ hq) p (List.mem_append_left _ hp) e.symm
      ·exact n2.2.2 p hp q hq
     ·have : b ∈ b1 ++ c1 ∨ b ∈ b2 ++ c2:=by
       simp only [List.mem_append] at hb ⊢
       rcases hb with (h | h) | (h | h)
       ·exact .inl (.inl h)
       ·exact .inr (.inl h)
       ·exact .inl (.inr h)
       ·exact .inr (.inr h)
      rcases this with h | h
      ·obtain ⟨i,hi,k⟩:=a4 b h
       exact ⟨i,List.mem_append_left _ hi,k⟩
      ·obtain ⟨i,hi,k⟩:=d4 b h
       exact ⟨i,List.mem_append_right _ hi,k⟩
 | [],_ :: _,x,l,hn,h,hl=>by simp [bindG] at h
 | _ :: _,[],x,l,hn,h,hl=>by simp [bindG] at h
theorem putIo_next : ∀ (t : Ty) (e : Env) (x : t.den) (l : List V) (e1 : Env),putIo e t x l = some e1 → e.next ≤ e1.next ∧ e1.slots = e.slots
 | .osl T t,e,ys,l,e1,h=>by
  match l with
  | []=>simp [putIo] at h
  | _ :: _ :: _=>rename_i v _ _; cases v <;> simp [putIo] at h
  | [v] =>
   cases v with
   | row id=>simp only [putIo,Option.some.injEq] at h; subst h; exact ⟨Nat.le_succ _,rfl⟩
   | nil=>simp only [putIo,Option.some.injEq] at h; subst h; exact ⟨Nat.le_refl _,rfl⟩
   | _=>simp [putIo] at h
 | .pair a b,e,x,l,e1,h=>by
  simp only [putIo] at h
  cases h1 : putIo e a x.1 (takeN a.size l) with
  | none=>simp [h1] at h
  | some e2 =>
   simp only [h1] at h
   obtain ⟨k1,k2⟩:=putIo_next a e x.1 _ e2 h1
   obtain ⟨k3,k4⟩:=putIo_next b e2 x.2 _ e1 h
   exact ⟨Nat.le_trans k1 k3,k4.trans k2⟩
 | .omp k u,e,ys,l,e1,h=>by
  match l with
  | []=>simp [putIo] at h
  | _ :: _ :: _=>rename_i v _ _; cases v <;> simp [putIo] at h
  | [v] =>
   cases v with
   | map id=>simp only [putIo,Option.some.injEq] at h; subst h; exact ⟨Nat.le_refl _,rfl⟩
   | _=>simp [putIo] at h
 | .int _,e,_,_,e1,h | .bool,e,_,_,e1,h | .str,e,_,_,e1,h | .sl _,e,_,_,e1,h | .unit,e,_,_,e1,h | .any,e,_,_,e1,h | .mp _ _,e,_,_,e1,h=>by simp only [putIo,Option.some.injEq] at h; subst h; exact ⟨Nat.le_refl _,rfl⟩
theorem putIo_sound : ∀ (t : Ty) (x : t.den) (m : St) (e e1 : Env) (l : List V) (cs : List Value) (bl rest : List Nat),Inn m.w m.G t x cs bl → cs.length = t.size → R2 (Lv m) l cs → (∀ i ∈ idsT t l,find F i = none) → putIo e t x l = some e1 → Wait w0 G0 N F L m e tm (bl ++ rest) → e1.next ≤ L →
  ∃ m',Grow m m' ∧ (∀ i,m'.D i → m.D i ∨ (e.next ≤ i ∧ i < e1.next)) ∧ Wait w0 G0 N F L m' e1 tm rest
 | .osl T t,ys,m,e,e1,l,cs,bl,rest,⟨v,ec,hr,hi⟩,_,hl,hF,h,hw,hL=>by
  subst ec
  match l,hl with
  | [u],⟨hu,_⟩ =>
   cases u with
   | row id =>
    simp only [putIo,Option.some.injEq] at h
    subst h
    obtain ⟨hD,e2,_⟩:=hu
    have hnd:=List.nodup_append.1 hw.nd
    obtain ⟨m',g,hD',hw'⟩:=hw.again (id:=id) (T:=T) (t:=t) (xs:=ys) (bn:=bl) (bx:=bl) (Nat.lt_of_lt_of_le (Nat.lt_succ_self _) hL) hD (hF id (by simp [idsT])) (fun _ h=>h) hnd.1 (by rw [← e2]; exact hr) (by rw [← e2]; exact hi)
    exact ⟨m',g,fun i hi=>((hD' i).1 hi).imp (fun h=>h) fun h=>by subst h; exact ⟨Nat.le_refl _,Nat.lt_succ_self _⟩,hw'⟩
   | nil =>
    simp only [putIo,Option.some.injEq] at h
    subst h
    exact ⟨m, .refl m,fun i h=>.inl h,hw.perm (List.nodup_append.1 hw.nd).2.1 fun b hb=>List.mem_append_right _ hb⟩
   | _=>simp [putIo] at h
 | .pair a b,x,m,e,e1,l,cs,bl,rest,⟨c1,c2,b1,b2,ec,el,eb,i1,i2⟩,hlen,hl,hF,h,hw,hL=>by
  subst ec; subst eb
  simp only [putIo] at h
  rw [takeN_eq,y101q] at h
  cases h1 : putIo e a x.1 (l.take a.size) with
  | none=>simp [h1] at h
  | some e2 =>
   simp only [h1] at h
   obtain ⟨k1,_⟩:=putIo_next a e x.1 _ e2 h1
   obtain ⟨k2,_⟩:=putIo_next b e2 x.2 _ e1 h
   simp only [idsT] at hF
   rw [takeN_eq,y101q] at hF
   have hlt : R2 (Lv m) (l.take a.size) c1:=by
    have:=hl.take a.size
    rwa [← el,List.take_left,el] at this
   have hld : R2 (Lv m) (l.drop a.size) c2:=by
    have:=hl.drop a.size
    rwa [← el,List.drop_left,el] at this
   simp only [Ty.size,List.length_append] at hlen
   rw [List.append_assoc] at hw
   obtain ⟨m1,g1,d1,w1⟩:=putIo_sound a x.1 m e e2 _ c1 b1 (b2 ++ rest) i1 el hlt (fun i hi=>hF i (List.mem_append_left _ hi)) h1 hw (Nat.le_trans k2 hL)
   obtain ⟨m2,g2,d2,w2⟩:=putIo_sound b x.2 m1 e2 e1 _ c2 b2 rest (by rw [g1.w,g1.G]; exact i2) (by omega) (hld.imp fun _ _ hx=>Lv.le g1.le hx) (fun i hi=>hF i (List.mem_append_right _ hi)) h w1 hL
   refine ⟨m2,g1.trans g2,fun i hi=>?_,w2⟩
   rcases d2 i hi with h | ⟨h1,h2⟩
   ·rcases d1 i h with h | ⟨h1,h2⟩
    ·exact .inl h
    ·exact .inr ⟨h1,by omega⟩
   ·exact .inr ⟨by omega,h2⟩
 | .omp k v,ys,m,e,e1,l,cs,bl,rest,⟨b,ec,eb,hm⟩,_,hl,hF,h,hw,hL=>by
  subst ec; subst eb
  match l,hl with
  | [u],⟨hu,_⟩ =>
   cases u with
   | map id =>
    simp only [putIo,Option.some.injEq] at h
    subst h
    obtain ⟨hD,e2⟩:=hu
    simp only [Value.map.injEq,Option.some.injEq] at e2
    subst e2
    exact ⟨m, .refl m,fun i h=>.inl h,hw.backMap hD (hF id (by simp [idsT])) hm⟩
   | _=>simp [putIo] at h
 | .int _,x,m,e,e1,l,cs,bl,rest,hi,_,hl,hF,h,hw,_ | .bool,x,m,e,e1,l,cs,bl,rest,hi,_,hl,hF,h,hw,_ | .str,x,m,e,e1,l,cs,bl,rest,hi,_,hl,hF,h,hw,_
 | .sl _,x,m,e,e1,l,cs,bl,rest,hi,_,hl,hF,h,hw,_ | .unit,x,m,e,e1,l,cs,bl,rest,hi,_,hl,hF,h,hw,_ | .any,x,m,e,e1,l,cs,bl,rest,hi,_,hl,hF,h,hw,_ | .mp _ _,x,m,e,e1,l,cs,bl,rest,hi,_,hl,hF,h,hw,_=>by
  simp only [putIo,Option.some.injEq] at h
  subst h
  exact ⟨m, .refl m,fun i h=>.inl h,hw.perm (List.nodup_append.1 hw.nd).2.1 fun b hb=>List.mem_append_right _ hb⟩
theorem cells_of_asVal {m : St} {s : SV} {t : Ty} {cs : List Value} {v : Value} {x : t.den} {G : Nat → Prop} (hs : Sv m s v) (ha : AsVal t cs v) (hv : Val m.w G t x cs) (h1 : ∀ u ∈ cs,u.oneCell' = true ∧ u.cells = #[u]) (ht : s.isTup = false) : R2 (Lv m) s.cells cs:=by
 obtain ⟨cs',e,hr⟩:=hs.cells ht
 have hc : v.cells = cs.toArray:=by
  unfold AsVal at ha
  cases hg : t.isAgg with
  | true=>rw [hg] at ha; rw [ha]; rfl
  | false =>
   rw [hg] at ha
   simp only at ha
   subst ha
   exact (h1 v (by simp)).2
 rw [e] at hc
 rw [List.toArray_inj hc] at hr
 exact hr
theorem Val.cells1 {w : World} {G : Nat → Prop} : ∀ {t : Ty} {x : t.den} {cs : List Value},Val w G t x cs → ∀ u ∈ cs,u.oneCell' = true ∧ u.cells = #[u]
 | .int _,_,_,h,u,hu=>by simp only [Val] at h; subst h; simp at hu; subst hu; exact ⟨rfl,rfl⟩
 | .bool,_,_,h,u,hu=>by simp only [Val] at h; subst h; simp at hu; subst hu; exact ⟨rfl,rfl⟩
 | .str,_,_,⟨_,h,_⟩,u,hu=>by subst h; simp at hu; subst hu; exact ⟨rfl,rfl⟩
 | .unit,_,_,h,u,hu=>by simp only [Val] at h; subst h; simp at hu
 | .any,_,_,⟨_,h,h1⟩,u,hu=>by subst h; simp at hu; subst hu; exact h1
 | .osl _ _,_,_,⟨_,h,h1⟩,u,hu=>by subst h; simp at hu; subst hu; exact h1
 | .omp _ _,_,_,⟨_,h,h1⟩,u,hu=>by subst h; simp at hu; subst hu; exact h1
 | .mp _ _,_,_,h,u,hu=>by rcases h with ⟨h,_⟩ | ⟨_,_,_,h,_⟩ <;> subst h <;> simp at hu <;> subst hu <;> exact ⟨rfl,rfl⟩
 | .sl _,_,_,⟨_,_,_,h,_⟩,u,hu=>by subst h; simp at hu; subst hu; exact ⟨rfl,rfl⟩
 | .pair _ _,_,_,⟨c1,c2,e,h1,h2⟩,u,hu=>by
  subst e
  rcases List.mem_append.1 hu with hu | hu
  ·exact Val.cells1 h1 u hu
  ·exact Val.cells1 h2 u hu
theorem putIo_tup {t : Ty} {x : t.den} {s : SV} (h : s.isTup = true) {m : St} {v : Value} {cs : List Value} {w : World} {G : Nat → Prop} (hs : Sv m s v) (ha : AsVal t cs v) (hv : Val w G t x cs) : False:=by
 cases s with
 | tup l =>
  obtain ⟨xs,e,_⟩:=hs
  unfold AsVal at ha
  cases hg : t.isAgg with
  | true=>rw [hg] at ha; rw [e] at ha; cases ha
  | false =>
   rw [hg] at ha
   simp only at ha
   subst ha
   have:=(Val.cells1 hv v (by simp)).1
   rw [e] at this
   simp [Value.oneCell'] at this
 | _=>simp [SV.isTup] at h
theorem putG1_cases {a : AT} {s : SV} {p : Sigma Ty.den} {e e1 : Env} (h : putG1 os e a s p = some e1) :
  (∃ t id y,a = .var t ∧ s = .one (.loc id 0) ∧ cast? p.1 t p.2 = some y ∧ e1 = ⟨(openV e t y).1.slots,(id, .var (openV e t y).2) :: (openV e t y).1.objs,(openV e t y).1.next⟩) ∨
  (∃ T t id n sz j off ys U r n' xs z,a = .io (.osl T t) ∧ s = .one (.sub id n sz j off) ∧ cast? p.1 (.osl T t) p.2 = some ys ∧ find os id = some (.row U r n' xs) ∧ setP T t ys r (xs.getD j r.zero) off = some z ∧ e1 = e.back id (.row U r e.next (xs.set j z))) ∨
  (∃ t y,a = .io t ∧ (¬ ∃ T u id n sz j off,t = .osl T u ∧ s = .one (.sub id n sz j off)) ∧ cast? p.1 t p.2 = some y ∧ putIo e t y s.cells = some e1):=by
 obtain ⟨u,x⟩:=p
 cases a with
 | var t =>
  cases s with
  | one q =>
   cases q with
   | loc id off =>
    cases off with
    | succ=>simp [putG1] at h
    | zero =>
     simp only [putG1] at h
     cases hc : cast? u t x with
     | none=>simp [hc] at h
     | some y =>
      simp only [hc,Option.some.injEq] at h
      exact .inl ⟨t,id,y,rfl,rfl,hc,h.symm⟩
   | _=>simp [putG1] at h
  | _=>simp [putG1] at h
 | io t =>
  by_cases hsub : ∃ T u id n sz j off,t = .osl T u ∧ s = .one (.sub id n sz j off)
  ·obtain ⟨T,t',id,n,sz,j,off,rfl,rfl⟩:=hsub
   simp only [putG1] at h
   cases hc : cast? u (.osl T t') x with
   | none=>simp [hc] at h
   | some ys =>
    cases hf : find os id with
    | none=>simp [hc,hf] at h
    | some o =>
     cases o with
     | row U r n' xs =>
      simp only [hc,hf] at h
      cases hz : setP T t' ys r (xs.getD j r.zero) off with
      | none=>rw [hz] at h; cases h
      | some z =>
       rw [hz] at h
       simp only [Option.some.injEq] at h
       exact .inr (.inl ⟨T,t',id,n,sz,j,off,ys,U,r,n',xs,z,rfl,rfl,hc,hf,hz,h.symm⟩)
     | _=>simp [hc,hf] at h
  ·have h' : (match cast? u t x with
     | some y=>putIo e t y s.cells
     | none=>none) = some e1:=by
    cases t with
    | osl T t' =>
     cases s with
     | one q =>
      cases q with
      | sub id n sz j off=>exact absurd ⟨T,t',id,n,sz,j,off,rfl,rfl⟩ hsub
      | _=>exact h
     | _=>exact h
    | _=>exact h
   cases hc : cast? u t x with
   | none=>simp [hc] at h'
   | some y =>
    simp only [hc] at h'
    exact .inr (.inr ⟨t,y,rfl,hsub,hc,h'⟩)
 | _=>simp [putG1] at h
theorem putG1_next {a : AT} {s : SV} {p : Sigma Ty.den} {e e1 : Env} (h : putG1 os e a s p = some e1) : e.next ≤ e1.next ∧ e1.slots = e.slots:=by
 rcases putG1_cases h with ⟨t,id,y,_,_,_,rfl⟩ | ⟨T,t,id,n,sz,j,off,ys,U,r,n',xs,z,_,_,_,_,_,rfl⟩ | ⟨t,y,_,_,_,h⟩
 ·exact ⟨y68q t e y,openV_slots t e y⟩
 ·exact ⟨Nat.le_succ _,rfl⟩
 ·exact putIo_next _ _ _ _ _ h
theorem putG_next : ∀ (ats : List AT) (vs : List SV) (ps : List (Sigma Ty.den)) (e e1 : Env),putG os e ats vs ps = some e1 → e.next ≤ e1.next ∧ e1.slots = e.slots
 | [],[],[],e,e1,h=>by simp only [putG,Option.some.injEq] at h; subst h; exact ⟨Nat.le_refl _,rfl⟩
 | a :: r,v :: vs,ps,e,e1,h=>by
  simp only [putG] at h
  cases hi : isIo a with
  | false=>simp only [hi] at h; exact putG_next r vs ps e e1 h
  | true =>
   simp only [hi] at h
   cases ps with
   | nil=>simp at h
   | cons p ps =>
    simp only at h
    cases h1 : putG1 os e a v p with
    | none=>simp [h1] at h
    | some e2 =>
     simp only [h1] at h
     obtain ⟨k1,k2⟩:=putG1_next h1
     obtain ⟨k3,k4⟩:=putG_next r vs ps e2 e1 h
     exact ⟨Nat.le_trans k1 k3,k4.trans k2⟩
 | [],[],_ :: _,e,e1,h=>by simp [putG] at h
 | [],_ :: _,ps,e,e1,h=>by simp [putG] at h
 | _ :: _,[],ps,e,e1,h=>by simp [putG] at h
theorem putG1_sound {m0 : St} {a : AT} {s : SV} {p : Sigma Ty.den} {v : Value} {e1 : Env} {b2 cl rest : List Nat} (hout : OutG m.w m.G a p v b2) (hs : Sv m s v) (hbk : Bk m0 os a s v cl)
  (hν : ∀ i,m0.D i → m.D i ∧ m.ν i = m0.ν i) (hG : ∀ b,m0.G b → m.G b ∧ m.w.heap[b]? = m0.w.heap[b]?) (hcl : ∀ b ∈ cl,m.w.heap[b]? = m0.w.heap[b]?) (hF : ∀ i ∈ ids1 os a s,find F i = none)
  (h : putG1 os e a s p = some e1) (hw : Wait w0 G0 N F L m e tm ((b2 ++ cl) ++ rest)) (hL : e1.next ≤ L) :
  ∃ m',Grow m m' ∧ (∀ i,m'.D i → m.D i ∨ (e.next ≤ i ∧ i < e1.next)) ∧ Wait w0 G0 N F L m' e1 tm rest:=by
 obtain ⟨u,x⟩:=p
 rcases putG1_cases h with ⟨t,id,y,rfl,rfl,hc,rfl⟩ | ⟨T,t,id,n,sz,j,off,ys,U,r,n',xs,z,rfl,rfl,hc,hf,hz,rfl⟩ | ⟨t,y,rfl,hsub,hc,h⟩
 ·obtain ⟨ht,b,cs,T,bl',hv,hh,hval,hin,rfl⟩:=hout
  simp only at ht hc
  subst ht
  obtain ⟨_,hc⟩:=cast?_some hc
  subst hc
  have : cl = []:=hbk
  subst this
  obtain ⟨hD,hv2⟩:=hs
  have hb : b = m.β id:=by
   rw [hv] at hv2
   simp only [Value.pointer.injEq,Option.some.injEq,Addr.mk.injEq] at hv2
   exact hv2.1
  subst hb
  rw [List.append_nil,List.append_assoc] at hw
  obtain ⟨m',g,d,w1,r1⟩:=y146q (rest:=[m.β id] ++ rest) u x m e cs bl' ([m.β id] ++ rest) hval hin hw hL
  have hβ : m'.β id = m.β id:=g.le.β id hD
  have hFi : find F id = none:=hF id (by simp [ids1])
  rw [← hβ] at w1
  exact ⟨m',g,d,w1.back (T:=T) (cs:=cs) (g.le.D id hD) hFi (by rw [g.w,hβ]; exact hh) r1⟩
 ·obtain ⟨ht,cs,hA,hval,hin⟩:=hout
  simp only at ht hc
  subst ht
  obtain ⟨_,hc⟩:=cast?_some hc
  subst hc
  obtain ⟨v',e2,r1,r2⟩:=hin
  simp only [AsVal,Ty.isAgg] at hA
  rw [hA] at e2
  simp only [List.cons.injEq,and_true] at e2
  subst e2
  obtain ⟨hD0,hbk⟩:=hbk
  have hnd:=List.nodup_append.1 hw.nd
  have hnd2:=List.nodup_append.1 hnd.1
  obtain ⟨bn,k1,k2,k3,k4⟩:=hbk U r n' xs _ z hf hz m.w m.G hG hcl b2 r1 r2 hnd2.1 fun b hb hb'=>hnd2.2.2 b hb' b hb rfl
  obtain ⟨hD,hν1⟩:=hν id hD0
  obtain ⟨m',g,hD',hw'⟩:=hw.again (id:=id) (T:=U) (t:=r) (xs:=xs.set j z) (bn:=bn) (Nat.lt_of_lt_of_le (Nat.lt_succ_self _) hL) hD (hF id (by simp [ids1,idsT,SV.cells])) k4 k3 (by rw [hν1]; exact k1) (by rw [hν1]; exact k2)
  exact ⟨m',g,fun i hi=>((hD' i).1 hi).imp (fun h=>h) fun h=>by subst h; exact ⟨Nat.le_refl _,Nat.lt_succ_self _⟩,hw'⟩
 ·obtain ⟨ht,cs,hA,hval,hin⟩:=hout
  simp only at ht hc
  subst ht
  obtain ⟨_,hc⟩:=cast?_some hc
  subst hc
  have hcn : cl = []:=by
   have hb : Bk m0 os (.io u) s v cl ↔ cl = []:=by
    cases u with
    | osl T u =>
     cases s with
     | one y =>
      cases y with
      | sub id n sz j off=>exact absurd ⟨T,u,id,n,sz,j,off,rfl,rfl⟩ hsub
      | _=>exact Iff.rfl
     | _=>exact Iff.rfl
    | _=>exact Iff.rfl
   exact hb.1 hbk
  subst hcn
  rw [List.append_nil] at hw
  have htup : s.isTup = false:=by
   cases hq : s.isTup with
   | false=>rfl
   | true=>exact (putIo_tup (x:=x) hq hs hA hval).elim
  exact putIo_sound u x m e e1 s.cells cs b2 rest hin hval.length (cells_of_asVal hs hA hval hval.cells1 htup) (fun i hi=>hF i (by cases s <;> exact hi)) h hw hL
theorem Bk.nil {m0 : St} {a : AT} {s : SV} {v : Value} {cl : List Nat} (hi : isIo a = false) (h : Bk m0 os a s v cl) : cl = []:=by
 cases a <;> first | exact h | simp [isIo] at hi
theorem putG_sound {m0 : St} : ∀ (ats : List AT) (vs : List SV) (l : List Value) (ps : List (Sigma Ty.den)) (m : St) (e e1 : Env) (b2 cl rest : List Nat),OutsG m.w m.G ats l ps b2 → R2 (Sv m) vs l → Bks m0 os ats vs l cl →
  (∀ i,m0.D i → m.D i ∧ m.ν i = m0.ν i) → (∀ b,m0.G b → m.G b ∧ m.w.heap[b]? = m0.w.heap[b]?) → (∀ b ∈ cl,m.w.heap[b]? = m0.w.heap[b]?) → (∀ i ∈ ioIds os ats vs,find F i = none) →
  putG os e ats vs ps = some e1 → Wait w0 G0 N F L m e tm ((b2 ++ cl) ++ rest) → e1.next ≤ L →
  ∃ m',Grow m m' ∧ (∀ i,m'.D i → m.D i ∨ (e.next ≤ i ∧ i < e1.next)) ∧ Wait w0 G0 N F L m' e1 tm rest
 | [],[],l,ps,m,e,e1,b2,cl,rest,ho,hvs,hbk,hν,hG,hcl,hF,h,hw,hL=>by
  cases ps with
  | nil =>
   simp only [putG,Option.some.injEq] at h
   subst h
   exact ⟨m, .refl m,fun i h=>.inl h,hw.perm (List.nodup_append.1 hw.nd).2.1 fun b hb=>List.mem_append_right _ hb⟩
  | cons=>simp [putG] at h
 | a :: r,s :: vs,[],ps,m,e,e1,b2,cl,rest,ho,hvs,hbk,hν,hG,hcl,hF,h,hw,hL=>by simp [R2] at hvs
 | a :: r,s :: vs,v :: l,ps,m,e,e1,b2,cl,rest,ho,hvs,hbk,hν,hG,hcl,hF,h,hw,hL=>by
  obtain ⟨c1,c2,rfl,k1,k2⟩:=hbk
  obtain ⟨hs,hvs⟩:=hvs
  simp only [ioIds] at hF
  simp only [putG] at h
  simp only [OutsG] at ho
  cases hi : isIo a with
  | false =>
   simp only [hi] at h ho
   have:=k1.nil hi
   subst this
   exact putG_sound r vs l ps m e e1 b2 c2 rest ho hvs k2 hν hG hcl (fun i hm=>hF i (List.mem_append_right _ hm)) h hw hL
  | true =>
   simp only [hi] at h ho
   obtain ⟨p,ps',p1,p2,rfl,rfl,o1,o2⟩:=ho
   simp only at h
   cases h1 : putG1 os e a s p with
   | none=>simp [h1] at h
   | some e2 =>
    simp only [h1] at h
    obtain ⟨n1,_⟩:=putG1_next h1
    obtain ⟨n2,_⟩:=putG_next r vs ps' e2 e1 h
    have hsub : ∀ b,b ∈ (p1 ++ c1) ++ ((p2 ++ c2) ++ rest) ↔ b ∈ ((p1 ++ p2) ++ (c1 ++ c2)) ++ rest:=fun b=>by
     simp only [List.mem_append]
     constructor
     ·rintro ((h | h) | (h | h) | h)
      ·exact .inl (.inl (.inl h))
      ·exact .inl (.inr (.inl h))
      ·exact .inl (.inl (.inr h))
      ·exact .inl (.inr (.inr h))
      ·exact .inr h
     ·rintro (((h | h) | (h | h)) | h)
      ·exact .inl (.inl h)
      ·exact .inr (.inl (.inl h))
      ·exact .inl (.inr h)
      ·exact .inr (.inl (.inr h))
      ·exact .inr (.inr h)
    have hnd : ((p1 ++ c1) ++ ((p2 ++ c2) ++ rest)).Nodup:=by
     have hp : (((p1 ++ p2) ++ (c1 ++ c2)) ++ rest).Perm ((p1 ++ c1) ++ ((p2 ++ c2) ++ rest)):=by
      have e1 : ((p1 ++ p2) ++ (c1 ++ c2)).Perm ((p1 ++ c1) ++ (p2 ++ c2)):=by
       rw [List.append_assoc,List.append_assoc]
       refine List.Perm.append_left p1 ?_
       rw [← List.append_assoc,← List.append_assoc]
       exact List.perm_append_comm.append_right c2
      have e2:=e1.append_right rest
      rwa [List.append_assoc (p1 ++ c1)] at e2
     exact hp.nodup_iff.1 hw.nd
    obtain ⟨m1,g1,d1,w1⟩:=putG1_sound (m0:=m0) (m:=m) (F:=F) (os:=os) (cl:=c1) (rest:=(p2 ++ c2) ++ rest) o1 hs k1 hν hG (fun b hb=>hcl b (List.mem_append_left _ hb)) (fun i hm=>hF i (List.mem_append_left _ hm)) h1 (hw.perm hnd fun b hb=>(hsub b).1 hb) (Nat.le_trans n2 hL)
    obtain ⟨m2,g2,d2,w2⟩:=putG_sound (m0:=m0) r vs l ps' m1 e2 e1 p2 c2 rest (by rw [g1.w,g1.G]; exact o2) (hvs.imp fun _ _ hx=>Sv.le g1.le hx) k2 (fun i hi=>⟨g1.le.D i (hν i hi).1,(g1.le.ν i (hν i hi).1).trans (hν i hi).2⟩) (fun b hb=>by rw [g1.G,g1.w]; exact hG b hb) (fun b hb=>by rw [g1.w]; exact hcl b (List.mem_append_right _ hb)) (fun i hm=>hF i (List.mem_append_right _ hm)) h w1 hL
    refine ⟨m2,g1.trans g2,fun i hi=>?_,w2⟩
    rcases d2 i hi with h | ⟨h1,h2⟩
    ·rcases d1 i h with h | ⟨h1,h2⟩
     ·exact .inl h
     ·exact .inr ⟨h1,by omega⟩
    ·exact .inr ⟨by omega,h2⟩
 | [],_ :: _,l,ps,m,e,e1,b2,cl,rest,ho,hvs,hbk,hν,hG,hcl,hF,h,hw,hL=>by simp [putG] at h
 | _ :: _,[],l,ps,m,e,e1,b2,cl,rest,ho,hvs,hbk,hν,hG,hcl,hF,h,hw,hL=>by simp [putG] at h
end
end Go.Ev
end
section
namespace Go.Ev
open Go.RowKit (Below)
theorem Val.closed {w w' : World} {G G' : Nat → Prop} : ∀ {t : Ty} {x : t.den} {cs : List Value},t.closed = true → Val w G t x cs → Val w' G' t x cs
 | .int _,_,_,_,h=>h
 | .bool,_,_,_,h=>h
 | .str,_,_,_,h=>h
 | .unit,_,_,_,h=>h
 | .osl _ _,_,_,_,h=>h
 | .pair a b,x,_,hf,⟨c1,c2,e,h1,h2⟩=>by
  simp only [Ty.closed,Bool.and_eq_true] at hf
  exact ⟨c1,c2,e,Val.closed hf.1 h1,Val.closed hf.2 h2⟩
 | .sl _,_,_,hf,_=>by simp [Ty.closed] at hf
 | .any,_,_,hf,_=>by simp [Ty.closed] at hf
 | .mp _ _,_,_,hf,_=>by simp [Ty.closed] at hf
 | .omp _ _,_,_,_,h=>h
theorem Inn.closed {w : World} {G G' : Nat → Prop} : ∀ {t : Ty} {x : t.den} {cs : List Value} {bl : List Nat},t.closed = true → Inn w G t x cs bl → Inn w G' t x cs bl
 | .int _,_,_,_,_,h | .bool,_,_,_,_,h | .str,_,_,_,_,h | .unit,_,_,_,_,h=>h
 | .pair a b,x,_,_,hf,⟨c1,c2,b1,b2,e1,e2,e3,h1,h2⟩=>by
  simp only [Ty.closed,Bool.and_eq_true] at hf
  exact ⟨c1,c2,b1,b2,e1,e2,e3,Inn.closed hf.1 h1,Inn.closed hf.2 h2⟩
 | .sl _,_,_,_,hf,_=>by simp [Ty.closed] at hf
 | .any,_,_,_,hf,_=>by simp [Ty.closed] at hf
 | .mp _ _,_,_,_,hf,_=>by simp [Ty.closed] at hf
 | .omp k v,xs,_,_,hf,⟨b,e,e2,es,cl,hh,hr⟩=>by
  simp only [Ty.closed,Bool.and_eq_true] at hf
  refine ⟨b,e,e2,es,cl,hh,hr.imp ?_⟩
  rintro p q ⟨⟨c,h1,h2⟩,d,h3,h4⟩
  exact ⟨⟨c,Val.closed hf.1 h1,h2⟩,d,Val.closed hf.2 h3,h4⟩
 | .osl T t,xs,_,_,hf,⟨v,e,hr,hi⟩=>by
  have ht : t.closed = true:=hf
  refine ⟨v,e, ?_, ?_⟩
  ·rcases hr with h | ⟨b,c,cs,e,hh,h1,h2,h3,hx⟩
   ·exact .inl h
   ·exact .inr ⟨b,c,cs,e,hh,h1,h2,h3,fun j hj=>by
     obtain ⟨cs',k1,k2⟩:=hx j hj
     exact ⟨cs',k1,Val.closed ht k2⟩⟩
  ·rcases hi with h | ⟨b,e,bls,e2,hl,hx⟩
   ·exact .inl h
   ·exact .inr ⟨b,e,bls,e2,hl,fun j hj=>by
     obtain ⟨cs,k1,k2,k3⟩:=hx j hj
     exact ⟨cs,k1,k2,Inn.closed ht k3⟩⟩
theorem ResG.closed {w : World} {G G' : Nat → Prop} : ∀ {ps : List (Sigma Ty.den)} {l : List Value} {bl : List Nat},(∀ p ∈ ps,p.1.closed = true) → ResG w G ps l bl → ResG w G' ps l bl
 | [],_,_,_,h=>h
 | p :: ps,v :: l,bl,hc,⟨b1,b2,e,⟨cs,h1,h2,h3⟩,h4⟩=>⟨b1,b2,e,⟨cs,h1,Val.closed (hc p List.mem_cons_self) h2,Inn.closed (hc p List.mem_cons_self) h3⟩,ResG.closed (fun q hq=>hc q (List.mem_cons_of_mem _ hq)) h4⟩
 | _ :: _,[],_,_,h=>h.elim
theorem OutG.closed {w : World} {G G' : Nat → Prop} {a : AT} {p : Sigma Ty.den} {v : Value} {bl : List Nat} (hc : p.1.closed = true) (h : OutG w G a p v bl) : OutG w G' a p v bl:=by
 cases a with
 | var t =>
  obtain ⟨ht,b,cs,T,bl',h1,h2,h3,h4,h5⟩:=h
  exact ⟨ht,b,cs,T,bl',h1,h2,Val.closed hc h3,Inn.closed hc h4,h5⟩
 | io t =>
  obtain ⟨ht,cs,h1,h2,h3⟩:=h
  exact ⟨ht,cs,h1,Val.closed hc h2,Inn.closed hc h3⟩
 | _=>exact h.elim
theorem OutsG.closed {w : World} {G G' : Nat → Prop} : ∀ {ats : List AT} {l : List Value} {ps : List (Sigma Ty.den)} {bl : List Nat},(∀ p ∈ ps,p.1.closed = true) → OutsG w G ats l ps bl → OutsG w G' ats l ps bl
 | [],[],_,_,_,h=>h
 | [],_ :: _,_,_,_,h=>h.elim
 | _ :: _,[],_,_,_,h=>h.elim
 | a :: r,v :: l,ps,bl,hc,h=>by
  simp only [OutsG] at h ⊢
  cases hi : isIo a with
  | false=>simp only [hi] at h ⊢; exact OutsG.closed hc h
  | true =>
   simp only [hi] at h ⊢
   obtain ⟨p,ps',b1,b2,rfl,e2,h1,h2⟩:=h
   exact ⟨p,ps',b1,b2,rfl,e2,OutG.closed (hc p List.mem_cons_self) h1,OutsG.closed (fun q hq=>hc q (List.mem_cons_of_mem _ hq)) h2⟩
theorem Val.grow {w : World} {G G' : Nat → Prop} (hG : ∀ b,G b → G' b) {t : Ty} {x : t.den} {cs : List Value} (h : Val w G t x cs) : Val w G' t x cs:=Val.mono (fun b hb=>⟨hG b hb,rfl⟩) t x cs h
theorem ResG.grow {w : World} {G G' : Nat → Prop} (hG : ∀ b,G b → G' b) : ∀ {ps : List (Sigma Ty.den)} {l : List Value} {bl : List Nat},ResG w G ps l bl → ResG w G' ps l bl
 | [],_,_,h=>h
 | p :: ps,v :: l,bl,⟨b1,b2,e,⟨cs,h1,h2,h3⟩,h4⟩=>⟨b1,b2,e,⟨cs,h1,h2.grow hG,h3.grow hG⟩,ResG.grow hG h4⟩
 | _ :: _,[],_,h=>h.elim
theorem OutG.grow {w : World} {G G' : Nat → Prop} (hG : ∀ b,G b → G' b) {a : AT} {p : Sigma Ty.den} {v : Value} {bl : List Nat} (h : OutG w G a p v bl) : OutG w G' a p v bl:=by
 cases a with
 | var t =>
  obtain ⟨ht,b,cs,T,bl',h1,h2,h3,h4,h5⟩:=h
  exact ⟨ht,b,cs,T,bl',h1,h2,h3.grow hG,h4.grow hG,h5⟩
 | io t =>
  obtain ⟨ht,cs,h1,h2,h3⟩:=h
  exact ⟨ht,cs,h1,h2.grow hG,h3.grow hG⟩
 | _=>exact h.elim
theorem OutsG.grow {w : World} {G G' : Nat → Prop} (hG : ∀ b,G b → G' b) : ∀ {ats : List AT} {l : List Value} {ps : List (Sigma Ty.den)} {bl : List Nat},OutsG w G ats l ps bl → OutsG w G' ats l ps bl
 | [],[],_,_,h=>h
 | [],_ :: _,_,_,h=>h.elim
 | _ :: _,[],_,_,h=>h.elim
 | a :: r,v :: l,ps,bl,h=>by
  simp only [OutsG] at h ⊢
  cases hi : isIo a with
  | false=>simp only [hi] at h ⊢; exact OutsG.grow hG h
  | true =>
   simp only [hi] at h ⊢
   obtain ⟨p,ps',b1,b2,rfl,e2,h1,h2⟩:=h
   exact ⟨p,ps',b1,b2,rfl,e2,h1.grow hG,OutsG.grow hG h2⟩
theorem parts_closed : ∀ {ts : List Ty} {y : den1 ts},y131q ts = true → ∀ p ∈ parts ts y,p.1.closed = true
 | [],_,_,p,h=>by simp [parts] at h
 | [t],x,hc,p,h=>by
  simp only [y131q,Bool.and_true] at hc
  simp only [parts,List.mem_singleton] at h
  subst h; exact hc
 | t :: u :: r,x,hc,p,h=>by
  simp only [y131q,Bool.and_eq_true] at hc
  simp only [parts,List.mem_cons] at h
  rcases h with h | h
  ·subst h; exact hc.1
  ·exact parts_closed (ts:=u :: r) (y:=x.2) (by simp only [y131q,Bool.and_eq_true]; exact hc.2) p h
theorem noOwn_ids : ∀ {t : Ty} {l : List V},t.noOwn = true → idsT t l = []
 | .osl _ _,_,h=>by simp [Ty.noOwn] at h
 | .pair a b,l,h=>by
  simp only [Ty.noOwn,Bool.and_eq_true] at h
  simp only [idsT,noOwn_ids h.1,noOwn_ids h.2,List.append_nil]
 | .omp _ _,_,h=>by simp [Ty.noOwn] at h
 | .int _,_,_ | .bool,_,_ | .str,_,_ | .sl _,_,_ | .unit,_,_ | .any,_,_ | .mp _ _,_,_=>rfl
section
variable {st : Bool} {os ov : List (Nat × Obj)}
theorem takeC_ids : ∀ {t : Ty} {l : List V} {x : t.den},takeC st os ov t l = some x → ∀ i ∈ idsT t l,∃ o,find os i = some o
 | .pair a b,l,x,h,i,hi=>by
  simp only [takeC] at h
  simp only [idsT,List.mem_append] at hi
  cases h1 : takeC st os ov a (takeN a.size l) with
  | none=>simp [h1] at h
  | some y =>
   cases h2 : takeC st os ov b (dropN a.size l) with
   | none=>simp [h1,h2] at h
   | some z =>
    rcases hi with hi | hi
    ·exact takeC_ids h1 i hi
    ·exact takeC_ids h2 i hi
 | .osl T t,l,x,h,i,hi=>by
  match l with
  | []=>simp [idsT] at hi
  | _ :: _ :: _=>rename_i v _ _; cases v <;> simp [idsT] at hi
  | [v] =>
   cases v with
   | row id =>
    simp only [idsT,List.mem_singleton] at hi
    subst hi
    simp only [takeC] at h
    cases hf : find os i with
    | none=>simp [hf] at h
    | some o=>exact ⟨o,rfl⟩
   | rng id sz lo hi' =>
    simp only [idsT,List.mem_singleton] at hi
    subst hi
    cases lo with
    | succ=>simp [takeC] at h
    | zero =>
     simp only [takeC] at h
     cases hf : find os i with
     | none=>simp [hf] at h
     | some o=>exact ⟨o,rfl⟩
   | sub id n sz j off=>simp [takeC] at h
   | _=>simp [idsT] at hi
 | .omp k v,l,x,h,i,hi=>by
  match l with
  | []=>simp [idsT] at hi
  | _ :: _ :: _=>rename_i v _ _; cases v <;> simp [idsT] at hi
  | [v] =>
   cases v with
   | map id =>
    simp only [idsT,List.mem_singleton] at hi
    subst hi
    simp only [takeC] at h
    cases hf : find os i with
    | none=>simp [hf] at h
    | some o=>exact ⟨o,rfl⟩
   | _=>simp [idsT] at hi
 | .int _,_,_,_,i,hi | .bool,_,_,_,i,hi | .str,_,_,_,i,hi | .sl _,_,_,_,i,hi | .unit,_,_,_,i,hi | .any,_,_,_,i,hi | .mp _ _,_,_,_,i,hi=>by simp [idsT] at hi
theorem takeT_ids {t : Ty} {l : List V} {x : t.den} (h : takeT st os ov t l = some x) : ∀ i ∈ idsT t l,∃ o,find os i = some o:=by
 unfold takeT at h
 cases ht : t.noOwn with
 | true=>intro i hi; rw [noOwn_ids ht] at hi; simp at hi
 | false=>rw [ht] at h; exact takeC_ids h
theorem takeSV_ids {t : Ty} {s : SV} {x : t.den} (h : takeSV st os ov t s = some x) : ∀ i ∈ idsT t s.cells,∃ o,find os i = some o:=by
 unfold takeSV at h
 cases s with
 | tup l=>simp at h
 | one y =>
  cases ha : t.isAgg with
  | true=>simp [ha] at h
  | false=>simp only [ha] at h; exact takeT_ids h
 | agg l =>
  cases ha : t.isAgg with
  | false=>simp [ha] at h
  | true=>simp only [ha] at h; exact takeT_ids h
theorem bindG1_ids {a : AT} {s : SV} {x : a.den} (h : bindG1 st os ov a s = some x) : ∀ i ∈ ids1 os a s,∃ o,find os i = some o:=by
 cases a with
 | var t =>
  cases s with
  | one y =>
   cases y with
   | loc id off =>
    cases off with
    | succ=>simp [bindG1,y40q] at h
    | zero =>
     simp only [bindG1] at h
     cases hf : find os id with
     | none=>simp [hf] at h
     | some o =>
      cases o with
      | var l =>
       simp only [hf] at h
       intro i hi
       simp only [ids1,hf,List.mem_cons] at hi
       rcases hi with hi | hi
       ·subst hi; exact ⟨_,hf⟩
       ·exact takeC_ids h i hi
      | _=>simp [hf] at h
   | _=>simp [bindG1,y40q] at h
  | _=>simp [bindG1,y40q] at h
 | own t=>exact fun i hi=>takeSV_ids (by simpa only [bindG1] using h) i (by cases s <;> exact hi)
 | io t =>
  by_cases hsub : ∃ T u id n sz j off,t = .osl T u ∧ s = .one (.sub id n sz j off)
  ·obtain ⟨T,u,id,n,sz,j,off,rfl,rfl⟩:=hsub
   simp only [bindG1] at h
   intro i hi
   simp only [ids1,idsT,SV.cells,List.mem_singleton] at hi
   subst hi
   cases hf : find os i with
   | none=>simp [hf] at h
   | some o=>exact ⟨o,rfl⟩
  ·have h' : takeSV st os ov t s = some x:=by
    cases t with
    | osl T u =>
     cases s with
     | one y =>
      cases y with
      | sub id n sz j off=>exact absurd ⟨T,u,id,n,sz,j,off,rfl,rfl⟩ hsub
      | _=>exact h
     | _=>exact h
    | _=>exact h
   exact fun i hi=>takeSV_ids h' i (by cases s <;> exact hi)
 | _=>intro i hi; simp [ids1] at hi
theorem bindG_ids : ∀ {ats : List AT} {vs : List SV} {x : ATs.den ats},bindG st os ov ats vs = some x → ∀ i ∈ ioIds os ats vs,∃ o,find os i = some o
 | [],[],_,_,i,hi=>by simp [ioIds] at hi
 | [],_ :: _,_,h,_,_=>by simp [bindG] at h
 | _ :: _,[],_,h,_,_=>by simp [bindG] at h
 | a :: r,v :: vs,x,h,i,hi=>by
  simp only [bindG] at h
  simp only [ioIds,List.mem_append] at hi
  cases hx : bindG1 st os ov a v with
  | none=>simp [hx] at h
  | some y =>
   cases hy : bindG st os ov r vs with
   | none=>simp [hx,hy] at h
   | some z =>
    rcases hi with hi | hi
    ·exact bindG1_ids hx i hi
    ·exact bindG_ids hy i hi
end
theorem Kept.with {B : Base} {w w' : World} {M : Nat → Prop} {pins : List (Nat × Value)} (h : Kept B w) (k : Kept ⟨w,B.o,M,pins⟩ w') (hM : ∀ b,M b → Mine B b) : Kept B w' :=
 ⟨k.os.trans h.os,k.tape.trans h.tape,k.output.trans h.output,Nat.le_trans h.size k.size,fun i hi hm=>(k.block i (Nat.lt_of_lt_of_le hi h.size) fun hMi=>by
  rcases hM i hMi with q | q
  ·exact absurd hi (Nat.not_lt.2 q)
  ·exact hm q).trans (h.block i hi hm),k.old,h.oldM,h.oldS⟩
section
variable {P : Program} {w0 : Base} {G0 : Nat → Prop} {N : Nat} {F : List (Nat × Obj)} {m : St} {e : Env} {tm : Array Value} {Γ : Tab} {ρ : Type} {os : List (Nat × Obj)} {st : Bool}
def Called (w0 : Base) (G0 : Nat → Prop) (N : Nat) (F : List (Nat × Obj)) (m : St) (e : Env) (tm : Array Value) (K : SV → Env → Option ρ) (r : ρ) (en : Ending) (w' : World) : Prop :=
 ∃ v m' e' s,en = .returned v ∧ m'.w = w' ∧ Stp m e m' e' ∧ Rel w0 G0 N F m' e' tm ∧ Sv m' s v ∧ K s e' = some r
theorem callG_tail {f k : Nat} {c : Con} {vs : List SV} {args : List Value} {K : SV → Env → Option ρ} {r : ρ} (hcon : GenCon P w0.o f c) (hR : Rel w0 G0 N F m e tm) (hfr : Fr m e) (hvs : R2 (Sv m) vs args)
  {fl : List Nat} {Gd Hd : Nat → Prop} {x : ATs.den c.args} {y : den1 c.res} (hnd : (ioIds e.objs c.args vs).Nodup) (hy : c.fn k x = some y) {m1 : St} (hl1 : m.le m1) (hw1 : m1.w = m.w) (hD1 : m1.D = m.D) (hν1 : m1.ν = m.ν)
  (hR1 : Rel w0 G0 N F m1 ⟨e.slots,freezeAll fl (eraseAll (ioIds e.objs c.args vs) e.objs),e.next⟩ tm)
  (hap : ∀ i b,i ∈ ioIds e.objs c.args vs → blk e.objs m1 i b → (¬ m1.G b ∧ ¬ m1.H b ∧ b < m1.w.heap.size ∧ Mine w0 b) ∧ ∀ j,¬ blk (freezeAll fl (eraseAll (ioIds e.objs c.args vs) e.objs) ++ F) m1 j b)
  (hk : Tk m1 e.objs (freezeAll fl (eraseAll (ioIds e.objs c.args vs) e.objs)) st Gd) (hbind : bindG st e.objs (freezeAll fl (eraseAll (ioIds e.objs c.args vs) e.objs)) c.args vs = some x)
  (hGd : ∀ b,Gd b → m1.G b ∨ ∃ i,blk (freezeAll fl (eraseAll (ioIds e.objs c.args vs) e.objs) ++ F) m1 i b) (hHd : ∀ b,Hd b ↔ m1.H b ∨ ∃ i,blk (freezeAll fl (eraseAll (ioIds e.objs c.args vs) e.objs) ++ F) m1 i b)
  (hm : y131q c.res = true ∨ Gd = m1.G) (h : backG nmW c vs e.objs e.next ⟨e.slots,freezeAll fl (eraseAll (ioIds e.objs c.args vs) e.objs),e.next⟩ y K = some r) :
  Calls P f args.toArray m.w (Called w0 G0 N F m e tm K r):=by
 generalize hov : freezeAll fl (eraseAll (ioIds e.objs c.args vs) e.objs) = ov at hR1 hap hk hbind hGd hHd h
 have hvs1 : R2 (Sv m1) vs args:=hvs.imp fun _ _ hx=>Sv.le hl1 hx
 obtain ⟨bl,cl,a1,a2,a3,a4⟩:=bindG_sound (Hd:=Hd) hk (fun b hb=>(hHd b).2 (.inl hb)) (fun i vs hf=>(hHd _).2 (.inr ⟨i,y38q (by unfold blk; rw [hf])⟩)) _ _ _ _ hnd hbind hvs1
 have hids:=bindG_ids hbind
 have hout : ∀ b ∈ bl ++ cl,(¬ m1.G b ∧ ¬ m1.H b ∧ b < m1.w.heap.size ∧ Mine w0 b) ∧ ∀ j,¬ blk (ov ++ F) m1 j b:=fun b hb=>by
  obtain ⟨i,hi,hbi⟩:=a4 b hb
  exact hap i b hi hbi
 have hnG : ∀ b ∈ bl,¬ Gd b:=fun b hb hg=>by
  obtain ⟨⟨o1,_⟩,o5⟩:=hout b (List.mem_append_left _ hb)
  exact (hGd b hg).elim o1 fun ⟨j,hj⟩=>o5 j hj
 have hnH : ∀ b ∈ bl,¬ Hd b:=fun b hb hg=>by
  obtain ⟨⟨_,o2,_⟩,o5⟩:=hout b (List.mem_append_left _ hb)
  exact ((hHd b).1 hg).elim o2 fun ⟨j,hj⟩=>o5 j hj
 have hblk1 : ∀ j b,blk (ov ++ F) m1 j b → b < m1.w.heap.size:=fun j b hj=>(hR1.ok.out j b hj).2.2.1
 have hGlive : ∀ b,Gd b → b < m1.w.heap.size:=fun b hb=>(hGd b hb).elim (hR1.ok.liveG b) fun ⟨j,hj⟩=>hblk1 j b hj
 have hHlive : ∀ b,Hd b → b < m1.w.heap.size:=fun b hb=>((hHd b).1 hb).elim (hR1.ok.liveH b) fun ⟨j,hj⟩=>hblk1 j b hj
 have hmine : ∀ b,Mine w0 b → w0.o.heap.size ≤ b:=fun b hb=>by
  rcases hb with hb | hb
  ·exact Nat.le_trans hR1.ok.base.oldS hb
  ·exact hR1.ok.base.oldM b hb
 have n12:=List.nodup_append.1 a3
 rw [← hw1]
 refine Calls.mono (hcon k x y m1.w Gd Hd args bl hR1.ok.base.old hGlive hHlive (fun b hb=>(hHd b).2 ((hGd b hb).imp (hR1.ok.gh b) fun h=>h)) a1 n12.1 (fun b hb=>⟨hnG b hb,hnH b hb,(hout b (List.mem_append_left _ hb)).1.2.2.1,hmine b (hout b (List.mem_append_left _ hb)).1.2.2.2⟩) hy) ?_
 rintro en w' ⟨l,G',b1,b2,rfl,hkept,hG',hres,houts,hnd2,hb12⟩
 obtain ⟨G2,hG2a,hG2b,hG2c,hres2,houts2⟩ : ∃ G2 : Nat → Prop,(∀ b,m1.G b → G2 b) ∧ (∀ b,G2 b → (m1.G b ∨ m1.w.heap.size ≤ b ∨ b ∈ bl) ∧ b < w'.heap.size) ∧ (∀ b ∈ b1 ++ b2,¬ G2 b) ∧
   ResG w' G2 (takeN c.nres (parts c.res y)) l b1 ∧ OutsG w' G2 c.args args (dropN c.nres (parts c.res y)) b2:=by
  rcases hm with hcl | hgd
  ·have hpc:=parts_closed (y:=y) hcl
   refine ⟨m1.G,fun _ h=>h,fun b hb=>⟨.inl hb,Nat.lt_of_lt_of_le (hR1.ok.liveG b hb) hkept.size⟩,fun b hb hg=>?_,ResG.closed (fun p hp=>hpc p (by rw [takeN_eq] at hp; exact List.mem_of_mem_take hp)) hres,OutsG.closed (fun p hp=>hpc p (by rw [y101q] at hp; exact List.mem_of_mem_drop hp)) houts⟩
   rcases (hb12 b hb).2.2 with h | h
   ·have:=hR1.ok.liveG b hg; omega
   ·exact (hout b (List.mem_append_left _ h)).1.1 hg
  ·subst hgd
   refine ⟨fun b=>m1.G b ∨ G' b,fun _ h=>.inl h,fun b hb=>?_,fun b hb hg=>?_, ?_, ?_⟩
   ·rcases hb with hb | hb
    ·exact ⟨.inl hb,Nat.lt_of_lt_of_le (hR1.ok.liveG b hb) hkept.size⟩
    ·exact hG' b hb
   ·rcases hg with hg | hg
    ·rcases (hb12 b hb).2.2 with h | h
     ·have:=hR1.ok.liveG b hg; omega
     ·exact (hout b (List.mem_append_left _ h)).1.1 hg
    ·exact (hb12 b hb).1 hg
   ·exact ResG.grow (fun b hb=>.inr hb) hres
   ·exact OutsG.grow (fun b hb=>.inr hb) houts
 let m2 : St:={ m1 with w:=w',G:=G2,H:=fun b=>m1.H b ∨ G2 b }
 have hsame : ∀ b,b < m1.w.heap.size → b ∉ bl → w'.heap[b]? = m1.w.heap[b]?:=fun b hb hn=>hkept.block b hb hn
 have hle : m1.le m2:=⟨fun b hb=>⟨hG2a b hb,hsame b (hR1.ok.liveG b hb) fun h=>(hout b (List.mem_append_left _ h)).1.1 hb⟩,fun b hb=>⟨.inl hb,hsame b (hR1.ok.liveH b hb) fun h=>(hout b (List.mem_append_left _ h)).1.2.1 hb⟩,fun _ h=>h,fun _ _=>rfl,fun _ _=>rfl,fun _ _=>rfl,fun _ _=>rfl⟩
 have hbase2 : Kept w0 w':=hR1.ok.base.with hkept fun b hb=>(hout b (List.mem_append_left _ hb)).1.2.2.2
 have hnobody : ∀ b,(m1.w.heap.size ≤ b ∨ b ∈ bl) → Mine w0 b ∧ ∀ i,¬ blk (ov ++ F) m1 i b:=fun b hb=>by
  rcases hb with h | h
  ·exact ⟨.inl (Nat.le_trans hR1.ok.base.size h),fun i hi=>by have:=hblk1 i b hi; omega⟩
  ·exact ⟨(hout b (List.mem_append_left _ h)).1.2.2.2,(hout b (List.mem_append_left _ h)).2⟩
 have hR2 : Rel w0 G0 N F m2 ⟨e.slots,ov,e.next⟩ tm:=hR1.world hle (hR1.ok.world2 hle hbase2 (fun i b hb=>hsame b (hblk1 i b hb) fun h=>(hout b (List.mem_append_left _ h)).2 i hb) (fun b hb=>⟨(hG2b b hb).1.imp (fun h=>h) (hnobody b),(hG2b b hb).2⟩) (fun b hb=>by
  rcases hb with hb | hb
  ·exact ⟨.inl hb,Nat.lt_of_lt_of_le (hR1.ok.liveH b hb) hkept.size⟩
  ·exact ⟨(hG2b b hb).1.imp (hR1.ok.gh b) (hnobody b),(hG2b b hb).2⟩) hkept.size fun b hb=>.inr hb)
 have hb12' : ∀ b ∈ b1 ++ b2,¬ m2.G b ∧ ¬ m2.H b ∧ b < m2.w.heap.size ∧ Mine w0 b ∧ (∀ i,¬ blk (ov ++ F) m2 i b) ∧ b ∉ cl:=fun b hb=>by
  have h2:=hb12 b hb
  have hnew : m1.w.heap.size ≤ b ∨ b ∈ bl:=h2.2.2
  have hH : ¬ m1.H b:=fun hh=>by
   rcases hnew with h | h
   ·have:=hR1.ok.liveH b hh; omega
   ·exact (hout b (List.mem_append_left _ h)).1.2.1 hh
  refine ⟨hG2c b hb,fun hh=>hh.elim hH (hG2c b hb),h2.2.1, ?_,fun i hi=>?_,fun hc=>?_⟩
  ·rcases hnew with h | h
   ·exact .inl (Nat.le_trans hR1.ok.base.size h)
   ·exact (hout b (List.mem_append_left _ h)).1.2.2.2
  ·have hi : blk (ov ++ F) m1 i b:=by
    rw [← blk_le hle hR1.ok.objs]; exact hi
   rcases hnew with h | h
   ·have:=hblk1 i b hi; omega
   ·exact (hout b (List.mem_append_left _ h)).2 i hi
  ·rcases hnew with h | h
   ·have:=(hout b (List.mem_append_right _ hc)).1.2.2.1; omega
   ·exact n12.2.2 b h b hc rfl
 have hcl' : ∀ b ∈ cl,¬ m2.G b ∧ ¬ m2.H b ∧ b < m2.w.heap.size ∧ Mine w0 b ∧ ∀ i,¬ blk (ov ++ F) m2 i b:=fun b hb=>by
  obtain ⟨⟨o1,o2,o3,o4⟩,o5⟩:=hout b (List.mem_append_right _ hb)
  have hg : ¬ G2 b:=fun hg=>(hG2b b hg).1.elim o1 fun h=>h.elim (fun h=>by omega) fun h=>n12.2.2 b h b hb rfl
  refine ⟨hg,fun hh=>hh.elim o2 hg,Nat.lt_of_lt_of_le o3 hkept.size,o4,fun i hi=>o5 i ?_⟩
  rw [← blk_le hle hR1.ok.objs]; exact hi
 have nn:=List.nodup_append.1 hnd2
 have hW : Wait w0 G0 N F (e.next + nmW) m2 ⟨e.slots,ov,e.next⟩ tm ((b2 ++ cl) ++ (b1 ++ [])):=by
  have hmem : ∀ b,b ∈ (b2 ++ cl) ++ (b1 ++ []) → b ∈ b1 ++ b2 ∨ b ∈ cl:=fun b hb=>by
   simp only [List.mem_append,List.append_nil] at hb ⊢
   rcases hb with (h | h) | h
   ·exact .inl (.inr h)
   ·exact .inr h
   ·exact .inl (.inl h)
  refine ⟨hR2,fun i h1 h2 hd=>hfr i h1 h2 (by rw [← hD1]; exact hd),fun i b hb hm=>?_, ?_,fun b hb=>?_⟩
  ·rcases hmem b hm with h | h
   ·exact (hb12' b h).2.2.2.2.1 i hb
   ·exact (hcl' b h).2.2.2.2 i hb
  ·rw [List.append_nil]
   refine List.nodup_append.2 ⟨List.nodup_append.2 ⟨nn.2.1,n12.2.1,fun p hp q hq e=>?_⟩,nn.1,fun p hp q hq e=>?_⟩
   ·subst e; exact (hb12' p (List.mem_append_right _ hp)).2.2.2.2.2 hq
   ·subst e
    rcases List.mem_append.1 hp with hp | hp
    ·exact nn.2.2 p hq p hp rfl
    ·exact (hb12' p (List.mem_append_left _ hq)).2.2.2.2.2 hp
  ·rcases hmem b hb with h | h
   ·have:=hb12' b h; exact ⟨this.1,this.2.1,this.2.2.1,this.2.2.2.1⟩
   ·have:=hcl' b h; exact ⟨this.1,this.2.1,this.2.2.1,this.2.2.2.1⟩
 unfold backG at h
 cases hp : putG e.objs ⟨e.slots,ov,e.next⟩ c.args vs (dropN (lenN c.res - nIo c.args) (parts c.res y)) with
 | none=>simp [hp] at h
 | some e1 =>
  simp only [hp] at h
  cases hl : Nat.ble (openAll e1 (takeN (lenN c.res - nIo c.args) (parts c.res y))).1.next (e.next + nmW) with
  | false=>simp [hl] at h
  | true =>
   simp only [hl] at h
   have hle2:=Nat.le_of_ble_eq_true hl
   have hn1:=openAll_next (takeN (lenN c.res - nIo c.args) (parts c.res y)) e1
   obtain ⟨p1,p2⟩:=putG_next _ _ _ _ _ hp
   have p1 : e.next ≤ e1.next:=p1
   obtain ⟨m3,g3,d3,w3⟩:=putG_sound (m0:=m1) c.args vs args _ m2 _ e1 b2 cl (b1 ++ []) houts2 (hvs1.imp fun _ _ hx=>Sv.le hle hx) a2 (fun i hi=>⟨hi,rfl⟩) (fun b hb=>⟨hG2a b hb,(hle.G b hb).2⟩) (fun b hb=>hsame b (hout b (List.mem_append_right _ hb)).1.2.2.1 fun h=>n12.2.2 b h b hb rfl) (fun i hi=>by
    obtain ⟨o,ho⟩:=hids i hi
    exact hR.disj i o ho) hp hW (by omega)
   obtain ⟨m4,g4,d4,w4,r4⟩:=openAll_sound (rest:=[]) _ m3 e1 l b1 (by rw [g3.w,g3.G]; exact hres2) w3 hle2
   refine ⟨asRes l,m4,_,_,rfl,by rw [g4.w,g3.w],⟨(hl1.trans hle).trans (g3.le.trans g4.le),fun i hi=>?_,by omega,hle2,(openAll_slots _ e1).trans p2⟩,w4.rel,svRes_sv r4,h⟩
   rcases d4 i hi with h | ⟨h1,h2⟩
   ·rcases d3 i h with h | ⟨h1,h2⟩
    ·exact .inl (by rw [← hD1]; exact h)
    ·exact .inr ⟨h1,by omega⟩
   ·have : e.next ≤ e1.next:=p1
    exact .inr ⟨by omega,h2⟩
theorem callG_sound {f k : Nat} {c : Con} {vs : List SV} {args : List Value} {K : SV → Env → Option ρ} {r : ρ} (hcon : GenCon P w0.o f c) (hR : Rel w0 G0 N F m e tm) (hfr : Fr m e) (hvs : R2 (Sv m) vs args)
  (h : evCallG k nmW c vs e K = some r) : Calls P f args.toArray m.w (Called w0 G0 N F m e tm K r):=by
 unfold evCallG at h
 cases hn : nodupN (ioIds e.objs c.args vs) with
 | false=>simp [hn] at h
 | true =>
  simp only [hn] at h
  have hnd:=y82q _ hn
  cases hc : y131q c.res with
  | true =>
   simp only [hc] at h
   cases hb : bindG false e.objs (eraseAll (ioIds e.objs c.args vs) e.objs) c.args vs with
   | none=>simp [hb] at h
   | some x =>
    simp only [hb] at h
    obtain ⟨y,hy,h⟩:=y80q h
    obtain ⟨m1,l1,w1,D1,β1,ν1,hR1,hk,hap⟩:=rel_part hR (ioIds e.objs c.args vs) []
    refine callG_tail (fl:=[]) (Gd:=fun b=>m1.G b ∨ ∃ i,blk (eraseAll (ioIds e.objs c.args vs) e.objs ++ F) m1 i b) (Hd:=fun b=>m1.H b ∨ ∃ i,blk (eraseAll (ioIds e.objs c.args vs) e.objs ++ F) m1 i b) hcon hR hfr hvs hnd hy l1 w1 D1 ν1 hR1 hap
     (st:=false) ⟨hk.ho,hk.hov,fun b hb=>.inl hb,fun _ i o b hf hb=>.inr ⟨i,y38q (by
      have hf' : find (eraseAll (ioIds e.objs c.args vs) e.objs) i = some o:=hf
      exact frzB_blk hf' hb)⟩,hk.inj⟩ hb (fun b hb=>hb) (fun b=>Iff.rfl) (.inl hc) h
  | false =>
   simp only [hc] at h
   cases hb : bindG true e.objs (freezeAll (y75q e.objs vs) (eraseAll (ioIds e.objs c.args vs) e.objs)) c.args vs with
   | none=>simp [hb] at h
   | some x =>
    simp only [hb] at h
    obtain ⟨y,hy,h⟩:=y80q h
    obtain ⟨m1,l1,w1,D1,β1,ν1,hR1,hk,hap⟩:=rel_part hR (ioIds e.objs c.args vs) (y75q e.objs vs)
    exact callG_tail (Hd:=fun b=>m1.H b ∨ ∃ i,blk (freezeAll (y75q e.objs vs) (eraseAll (ioIds e.objs c.args vs) e.objs) ++ F) m1 i b) hcon hR hfr hvs hnd hy l1 w1 D1 ν1 hR1 hap hk hb (fun b hb=>.inl hb) (fun b=>Iff.rfl) (.inr rfl) h
theorem call_sound {Δ : List (Nat × Con)} (hΔ : ∀ f c,(f,c) ∈ Δ → (c.gen = false → ConOk P w0.o f c) ∧ Enters' P f ∧ (c.gen = true → GenCon P w0.o f c)) {k f : Nat} {vs : List SV} {args : List Value} {K : SV → Env → Option ρ} {r : ρ} (hR : Rel w0 G0 N F m e tm) (hfr : Fr m e) (hvs : R2 (Sv m) vs args)
  (h : evCall k f vs e K Δ = some r) : Enters' P f ∧ Calls P f args.toArray m.w (Called w0 G0 N F m e tm K r):=by
 induction Δ with
 | nil=>simp [evCall] at h
 | cons p Δ ih =>
  obtain ⟨g,c⟩:=p
  have ih:=ih fun f c hm=>hΔ f c (List.mem_cons_of_mem _ hm)
  simp only [evCall] at h
  cases hg : Nat.beq f g with
  | false=>rw [hg] at h; exact ih h
  | true =>
   have:=Nat.eq_of_beq_eq_true hg
   subst this
   obtain ⟨hcon,hent,hgen⟩:=hΔ f c List.mem_cons_self
   rw [hg] at h
   simp only at h
   cases hgn : c.gen with
   | true =>
    rw [hgn] at h
    exact ⟨hent,callG_sound (hgen hgn) hR hfr hvs h⟩
   | false =>
   rw [hgn] at h
   simp only at h
   have hcon:=hcon hgn
   have hob : ∀ i o,find e.objs i = some o → Ob m i o:=fun i o hi=>(hR.obj i o hi).2
   cases hfl : y149q c.res with
   | true =>
    rw [hfl] at h
    simp only at h
    cases hb : y48q false e.objs c.args vs with
    | none=>rw [hb] at h; exact ih h
    | some x =>
     rw [hb] at h
     obtain ⟨y,hy,hK⟩:=y80q h
     refine ⟨hent,Calls.mono (hcon k x y m.w (fun b=>b < m.w.heap.size) args hR.ok.base.old (fun _ h=>h) hy (y106q hob (fun b hb=>hR.ok.liveG b hb) hR.ok.liveH (fun i vs hi=>(hR.ok.out i _ (y38q (by unfold blk; rw [hi]))).2.2.1) (fun _ i o b hi hm=>?_) _ _ _ _ hb hvs)) ?_⟩
     ·exact (hR.ok.out i b (y38q (frzB_blk hi hm))).2.2.1
     ·intro en w' ⟨l,e1,hbel,hres⟩
      have hle : m.le { m with w:=w' }:=⟨fun b hb=>⟨hb,hbel.block b (hR.ok.liveG b hb)⟩,fun b hb=>⟨hb,hbel.block b (hR.ok.liveH b hb)⟩,fun _ h=>h,fun _ _=>rfl,fun _ _=>rfl,fun _ _=>rfl,fun _ _=>rfl⟩
      refine ⟨asRes l,{ m with w:=w' },e,_,e1,rfl, .same hle rfl rfl,hR.world hle (hR.ok.world hle (hR.ok.base.trans hbel) (fun i b hb=>hbel.block b (hR.ok.out i b hb).2.2.1) (fun b hb=>⟨.inl hb, ?_⟩) (fun b hb=>⟨.inl hb, ?_⟩) hbel.size hR.ok.gh),Ress.sv (Ress.flat hfl hres),hK⟩
      ·exact Nat.lt_of_lt_of_le (hR.ok.liveG b hb) hbel.size
      ·exact Nat.lt_of_lt_of_le (hR.ok.liveH b hb) hbel.size
   | false =>
    rw [hfl] at h
    simp only at h
    cases hb : y48q true (e.freeze (y75q e.objs vs)).objs c.args vs with
    | none=>rw [hb] at h; exact ih h
    | some x =>
     rw [hb] at h
     obtain ⟨y,hy,hK⟩:=y80q h
     obtain ⟨m1,l1,hw1,hD1,hR1⟩:=hR.freeze (y75q e.objs vs)
     have hvs1 : R2 (Sv m1) vs args:=hvs.imp fun _ _ hx=>Sv.le l1 hx
     have hnx : (e.freeze (y75q e.objs vs)).next = e.next:=rfl
     have hsl : (e.freeze (y75q e.objs vs)).slots = e.slots:=rfl
     generalize e.freeze (y75q e.objs vs) = e1 at hb hK hR1 hnx hsl
     have hob1 : ∀ i o,find e1.objs i = some o → Ob m1 i o:=fun i o hi=>(hR1.obj i o hi).2
     rw [← hw1]
     refine ⟨hent,Calls.mono (hcon k x y m1.w m1.G args hR1.ok.base.old hR1.ok.liveG hy (y106q hob1 (fun b hb=>hb) hR1.ok.liveH (fun i vs hi=>(hR1.ok.out i _ (y38q (by unfold blk; rw [hi]))).2.2.1) (fun h=>by simp at h) _ _ _ _ hb hvs1)) ?_⟩
     intro en w' ⟨l,e2,hbel,hres⟩
     let m2 : St:={ m1 with w:=w',G:=grown m1.G m1.w w',H:=grown m1.H m1.w w' }
     have hle : m1.le m2:=⟨fun b hb=>⟨.inl hb,hbel.block b (hR1.ok.liveG b hb)⟩,fun b hb=>⟨.inl hb,hbel.block b (hR1.ok.liveH b hb)⟩,fun _ h=>h,fun _ _=>rfl,fun _ _=>rfl,fun _ _=>rfl,fun _ _=>rfl⟩
     have gr : ∀ {A : Nat → Prop},(∀ b,A b → b < m1.w.heap.size) → ∀ b,grown A m1.w w' b → (A b ∨ m1.w.heap.size ≤ b) ∧ b < w'.heap.size:=by
      intro A hA b hb
      rcases hb with hb | ⟨h1,h2⟩
      ·exact ⟨.inl hb,Nat.lt_of_lt_of_le (hA b hb) hbel.size⟩
      ·exact ⟨.inr h1,h2⟩
     exact ⟨asRes l,m2,e1,_,e2,rfl, .same (l1.trans hle) hD1 hnx hsl,hR1.world hle (hR1.ok.world hle (hR1.ok.base.trans hbel) (fun i b hb=>hbel.block b (hR1.ok.out i b hb).2.2.1) (gr hR1.ok.liveG) (gr hR1.ok.liveH) hbel.size fun b hb=>hb.imp (hR1.ok.gh b) id),Ress.sv hres,hK⟩
end
end Go.Ev
end
section
namespace Go.Ev
open Go.RowKit (Below)
open Go.Sort (HoldsK putRowK flatK get_flatK size_flatK)
open Go.Proofs (LessB SWB)
theorem sortAt_mem {f T : Nat} : ∀ {Δ : List (Nat × Con)},sortAt f T Δ = true → ∃ c,(f,c) ∈ Δ ∧ ∃ Ts,c.args = [.srt Ts] ∧ memT Ts T = true
 | [],h=>by simp [sortAt] at h
 | (g,c) :: r,h=>by
  simp only [sortAt] at h
  cases hg : Nat.beq f g with
  | false =>
   rw [hg] at h
   obtain ⟨c',h1,h2⟩:=sortAt_mem h
   exact ⟨c',List.mem_cons_of_mem _ h1,h2⟩
  | true =>
   have:=Nat.eq_of_beq_eq_true hg
   subst this
   rw [hg] at h
   simp only at h
   split at h
   ·rename_i Ts hc
    exact ⟨c,List.mem_cons_self,Ts,hc,h⟩
   ·cases h
section
variable {P : Program} {w0 : Base} {G0 : Nat → Prop} {N : Nat} {F : List (Nat × Obj)} {m : St} {e : Env} {tm : Array Value} {Γ : Tab} {ρ : Type}
theorem Rel.sorted (hR : Rel w0 G0 N F m e tm) {id U q : Nat} {t : Ty} (ht : t.noOwn = true) {xs ys : List t.den} (ho : find e.objs id = some (.row U t q xs)) {w' : World} (h1 : w'.os = m.w.os) (h2 : w'.tape = m.w.tape) (h3 : w'.output = m.w.output) (h4 : m.w.heap.size ≤ w'.heap.size)
  (h5 : ∀ b,b < m.w.heap.size → (m.ν id).ownBlock ≠ some b → w'.heap[b]? = m.w.heap[b]?) (h6 : RowAt w' m.G U t ys (m.ν id)) : m.le { m with w:=w' } ∧ Rel w0 G0 N F { m with w:=w' } (e.setObj id (.row U t q ys)) tm:=by
 obtain ⟨_,g1,g2,_,g4⟩:=(hR.obj id _ ho).2
 have hσ : m.σ q = (m.ν id).ownBlock.toList:=g1.is_own ht
 have hbk : ∀ b,(m.ν id).ownBlock = some b → blk (e.objs ++ F) m id b:=fun b hb=>y38q (by unfold blk; rw [ho]; simp only [hσ,hb]; simp)
 have hle : m.le { m with w:=w' }:=⟨fun b hb=>⟨hb,h5 b (hR.ok.liveG b hb) fun hh=>(hR.ok.out id b (hbk b hh)).1 hb⟩,fun b hb=>⟨hb,h5 b (hR.ok.liveH b hb) fun hh=>(hR.ok.out id b (hbk b hh)).2.1 hb⟩,fun _ h=>h,fun _ _=>rfl,fun _ _=>rfl,fun _ _=>rfl,fun _ _=>rfl⟩
 have hbase : Kept w0 w':=by
  have hb:=hR.ok.base
  have hnew : ∀ k,(m.ν id).ownBlock = some k → Mine w0 k:=fun k hh=>(hR.ok.out id k (hbk k hh)).2.2.2
  refine ⟨h1.trans hb.os,h2.trans hb.tape,h3.trans hb.output,Nat.le_trans hb.size h4,fun k hk hm=>?_,⟨h1.trans hb.old.os,h2.trans hb.old.tape,h3.trans hb.old.output,Nat.le_trans hb.old.size h4,fun k hk=>?_⟩,hb.oldM,hb.oldS⟩
  ·rw [h5 k (Nat.lt_of_lt_of_le hk hb.size) fun hh=>(hnew k hh).elim (fun h=>by omega) hm]
   exact hb.block k hk hm
  ·rw [h5 k (Nat.lt_of_lt_of_le hk hb.old.size) fun hh=>(hnew k hh).elim (fun h=>by have:=hb.oldS; omega) fun h=>by have:=hb.oldM k h; omega]
   exact hb.old.block k hk
 have hfind : find (e.objs ++ F) id = some (.row U t q xs):=y91q ho
 have hold : ∀ j,j ≠ id → blk (upd (e.objs ++ F) id (.row U t q ys)) { m with w:=w' } j = blk (e.objs ++ F) m j:=fun j hj=>by
  unfold blk
  rw [y46q,if_neg (fun e=>hj e.symm)]
 have hsame : blk (upd (e.objs ++ F) id (.row U t q ys)) { m with w:=w' } id = blk (e.objs ++ F) m id:=by
  unfold blk
  rw [y46q,if_pos rfl,hfind]
  rfl
 have hall : ∀ j,blk (upd (e.objs ++ F) id (.row U t q ys)) { m with w:=w' } j = blk (e.objs ++ F) m j:=fun j=>by
  by_cases hj : j = id
  ·subst hj; exact hsame
  ·exact hold j hj
 refine ⟨hle,hR.objs hle _ _ (ObjsOk.congr (os:=upd (e.objs ++ F) id (.row U t q ys)) ?_ (upd_left _ ho)) (fun i o hf=>?_)⟩
 ·refine ⟨hbase,fun j p hf=>?_,fun j k b g1 g2=>hR.ok.inj j k b (by rw [← hall]; exact g1) (by rw [← hall]; exact g2),fun j b g1=>?_,fun b hg=>Nat.lt_of_lt_of_le (hR.ok.liveG b hg) h4,fun b hg=>Nat.lt_of_lt_of_le (hR.ok.liveH b hg) h4,hR.ok.subG,hR.ok.gh⟩
  ·rw [y46q] at hf
   by_cases hj : id = j
   ·subst hj
    rw [if_pos rfl,hfind] at hf
    simp only [Option.map_some,Option.some.injEq] at hf
    subst hf
    exact ⟨(hR.ok.objs _ _ hfind).1,h6,by show RowIn w' m.G t ys (m.ν id) (m.σ q); rw [hσ]; exact h6.inn ht,g2,HdOk.none ht,g4⟩
   ·rw [if_neg hj] at hf
    have hD:=hR.ok.objs j p hf
    refine ⟨hD.1,Ob.le hle hD.1 hD.2 (e.objs ++ F) hf fun b hh=>h5 b (hR.ok.out j b hh).2.2.1 fun hn=>hj (hR.ok.inj _ _ b (hbk b hn) hh)⟩
  ·rw [hall] at g1
   obtain ⟨a1,a2,a3,a4⟩:=hR.ok.out j b g1
   exact ⟨a1,a2,Nat.lt_of_lt_of_le a3 h4,a4⟩
 ·rw [y46q] at hf
  by_cases hi : id = i
  ·subst hi; exact hR.disj _ _ ho
  ·rw [if_neg hi] at hf; exact hR.disj _ _ hf
theorem notGen {c : Con} {os : List (Nat × Obj)} {st : Bool} {vs : List SV} {x : ATs.den c.args} (hf : y149q c.res = true) (hb : y48q st os c.args vs = some x) : c.gen = false:=by
 have h1 : ∀ (ats : List AT) (vs : List SV) (x : ATs.den ats),y48q st os ats vs = some x → hasIo ats = false:=by
  intro ats
  induction ats with
  | nil=>intro _ _ _; rfl
  | cons a r ih =>
   intro vs x h
   cases vs with
   | nil=>simp [y48q] at h
   | cons v vs =>
    simp only [y48q] at h
    cases hx : y40q st os a v with
    | none=>simp [hx] at h
    | some y =>
     cases hy : y48q st os r vs with
     | none=>simp [hx,hy] at h
     | some z =>
      have:=ih vs z hy
      cases a with
      | var t=>simp [y40q] at hx
      | io t=>simp [y40q] at hx
      | own t=>simp [y40q] at hx
      | _=>exact this
 have h2 : ∀ ts : List Ty,y149q ts = true → noOwnAll ts = true:=by
  have h3 : ∀ t : Ty,t.flat = true → t.noOwn = true:=by
   intro t
   induction t with
   | pair a b iha ihb=>intro h; simp only [Ty.flat,Bool.and_eq_true] at h; simp only [Ty.noOwn,Bool.and_eq_true]; exact ⟨iha h.1,ihb h.2⟩
   | osl T t=>intro h; simp [Ty.flat] at h
   | omp k v=>intro h; simp [Ty.flat] at h
   | _=>intro _; rfl
  intro ts
  induction ts with
  | nil=>intro _; rfl
  | cons t r ih=>intro h; simp only [y149q,Bool.and_eq_true] at h; simp only [noOwnAll,Bool.and_eq_true]; exact ⟨h3 t h.1,ih h.2⟩
 unfold Con.gen
 rw [h1 _ _ _ hb,h2 _ hf]
 rfl
theorem evLess_sound {Δ : List (Nat × Con)} (hΔ : DelOk P w0.o Δ) {k h : Nat} {cs : List Cap} {cv : List Value} {i j : Int} {z : Bool} (hR : Rel w0 G0 N F m e tm) (hc : R2 (Cp m) cs cv) (hl : evLess k h cs e.objs i j Δ = some z) :
  Enters' P h ∧ Calls P h (#[.int .i64 i, .int .i64 j] ++ cv.toArray) m.w fun en w'=>en = .returned (.bool z) ∧ Below m.w.heap.size m.w w':=by
 induction Δ with
 | nil=>simp [evLess] at hl
 | cons p Δ ih =>
  obtain ⟨g,c⟩:=p
  have ih:=ih fun f c hm=>hΔ f c (List.mem_cons_of_mem _ hm)
  simp only [evLess] at hl
  cases hg : Nat.beq h g with
  | false=>rw [hg] at hl; exact ih hl
  | true =>
   have:=Nat.eq_of_beq_eq_true hg
   subst this
   obtain ⟨hcon0,hent,_⟩:=hΔ h c List.mem_cons_self
   rw [hg] at hl
   simp only at hl
   cases hfl : y149q c.res with
   | false=>rw [hfl] at hl; simp at hl
   | true =>
    rw [hfl] at hl
    simp only at hl
    cases hb : y48q false e.objs c.args (.one (.i .i64 i) :: .one (.i .i64 j) :: cs.map capSV) with
    | none=>rw [hb] at hl; simp at hl
    | some x =>
     rw [hb] at hl
     obtain ⟨y,hy,hK⟩:=y80q hl
     have hcon:=hcon0 (notGen hfl hb)
     have hvs : R2 (Sv m) (.one (.i .i64 i) :: .one (.i .i64 j) :: cs.map capSV) (.int .i64 i :: .int .i64 j :: cv):=by
      refine ⟨rfl,rfl, ?_⟩
      have key : ∀ (cs : List Cap) (l : List Value),R2 (Cp m) cs l → R2 (Sv m) (cs.map capSV) l:=by
       intro cs
       induction cs with
       | nil=>intro l hl; cases l with
        | nil=>trivial
        | cons=>exact absurd hl (by simp [R2])
       | cons c cs ih=>intro l hl; cases l with
        | nil=>exact absurd hl (by simp [R2])
        | cons v l =>
         refine ⟨?_,ih l hl.2⟩
         have h1:=hl.1
         cases c with
         | loc id=>exact h1
         | el t x =>
          obtain ⟨b,o,cs',e,h⟩:=h1
          exact ⟨b,o,cs',by simpa using e,h⟩
      exact key cs cv hc
     have hob : ∀ i o,find e.objs i = some o → Ob m i o:=fun i o hi=>(hR.obj i o hi).2
     have harg:=y106q (Gd:=fun b=>b < m.w.heap.size) hob (fun b hb=>hR.ok.liveG b hb) hR.ok.liveH (fun i vs hi=>(hR.ok.out i _ (y38q (by unfold blk; rw [hi]))).2.2.1) (fun _ i o b hi hm=>(hR.ok.out i b (y38q (frzB_blk hi hm))).2.2.1) _ _ _ _ hb hvs
     have hcall:=hcon k x y m.w (fun b=>b < m.w.heap.size) _ hR.ok.base.old (fun _ h=>h) hy harg
     refine ⟨hent, ?_⟩
     have e1 : (#[.int .i64 i, .int .i64 j] ++ cv.toArray : Array Value) = (Value.int .i64 i :: .int .i64 j :: cv).toArray:=by simp
     rw [e1]
     refine Calls.mono hcall ?_
     rintro en w' ⟨l,e2,hbel,hres⟩
     refine ⟨?_,hbel⟩
     have hsv:=Ress.sv (m:={ m with w:=w',G:=grown (fun b=>b < m.w.heap.size) m.w w' }) (Ress.flat (w':=w') (G':=grown (fun b=>b < m.w.heap.size) m.w w') hfl hres)
     unfold asBoolV at hK
     split at hK
     ·rename_i q hq
      rw [hq] at hsv
      have hb' : asRes l = .bool q:=hsv
      rw [e2,hb']
      simp only [Option.some.injEq] at hK
      rw [hK]
     ·cases hK
theorem swb_rowAt {α : Type} [Inhabited α] {enc : α → List Value} {k : Nat} (hk : ∀ x,(enc x).length = k) {w W : World} {b U : Nat} {d0 dk : Array α} {cur : List Value} (hh : w.heap[b]? = some (.cells cur.toArray U (0,0))) (hH : HoldsK enc k w b 0 d0) (hs : dk.size = d0.size) (h : SWB enc k w b 0 dk W) :
  (∃ cur' : List Value,W.heap[b]? = some (.cells cur'.toArray U (0,0)) ∧ cur'.length = cur.length) ∧ ∀ j,j < dk.size → CellsAt W b (j * k) (enc dk[j]!):=by
 have hb : b < w.heap.size:=heap_lt hh
 constructor
 ·have:=Below.block h b hb
  refine ⟨(Go.Sort.putCells id 0 (flatK enc k dk) cur.toArray).toList, ?_,by simp [Go.Sort.putCells]⟩
  rw [this]
  simp only [putRowK,Go.Sort.putRow,Go.Sort.mapBlock,Array.getElem?_modify,hh,if_true,Option.map_some,Go.Sort.onCells,Array.toArray_toList]
 ·intro j hj q v hq
  have hq' : q < k:=by rw [← hk dk[j]!]; exact (List.getElem?_eq_some_iff.1 hq).1
  have:=(HoldsK.cell (SWB.holds h hb hH hs) hj hq').1
  rw [Nat.zero_add] at this
  rw [this]
  congr 1
  rw [List.getElem!_eq_getElem?_getD,hq]; rfl
theorem sort_sound {Δ : List (Nat × Con)} (hΓ : TabOk P Γ) (hΔ : DelOk P w0.o Δ) (hR : Rel w0 G0 N F m e tm) {k f T id h : Nat} {cs : List Cap} {args : List Value} {K : SV → Env → Option ρ} {r : ρ} (hvs : R2 (Sv m) [.one (.ifc T id), .one (.clo h cs)] args) (hh : evSort Γ Δ k f T id h cs e K = some r) :
  Enters' P f ∧ Calls P f args.toArray m.w fun en w'=>∃ v m' e' s,en = .returned v ∧ m'.w = w' ∧ Stp m e m' e' ∧ Rel w0 G0 N F m' e' tm ∧ Sv m' s v ∧ K s e' = some r:=by
 obtain ⟨a1,a2,rfl⟩ : ∃ a1 a2,args = [a1,a2]:=by
  match args,hvs with
  | [a1,a2],_=>exact ⟨a1,a2,rfl⟩
 obtain ⟨⟨hid,e1, -⟩,⟨cv,e2,hc⟩, -⟩:=hvs
 subst e1; subst e2
 unfold evSort at hh
 cases hsa : sortAt f T Δ with
 | false=>rw [hsa] at hh; simp at hh
 | true =>
  obtain ⟨c,hmem,Ts,hargs,hmt⟩:=sortAt_mem hsa
  obtain ⟨-,hent,hsrt, -⟩:=hΔ f c hmem
  unfold SrtCon at hsrt
  rw [hargs] at hsrt
  have hst : StableOk P f T:=hsrt T hmt
  refine ⟨hent, ?_⟩
  rw [hsa] at hh
  cases hf : find Γ T with
  | none=>rw [hf] at hh; simp at hh
  | some ti =>
   rw [hf] at hh
   cases ho : e.obj id with
   | none=>rw [ho] at hh; simp at hh
   | some o =>
    cases o with
    | row U t q xs =>
     rw [ho] at hh
     simp only at hh
     cases hty : isSl ti.ty t && t.noOwn with
     | false=>rw [hty] at hh; simp at hh
     | true =>
      rw [hty] at hh
      simp only at hh
      obtain ⟨hcap,hh⟩:=y25q hh
      obtain ⟨ys,hys,hK⟩:=y80q hh
      have hty2:=Bool.and_eq_true_iff.1 hty
      have ht:=hty2.2
      have ho' : find e.objs id = some (.row U t q xs):=ho
      have hrow : RowAt m.w m.G U t xs (m.ν id):=(hR.obj id _ ho').2.1
      have hbk : ∀ b,(m.ν id).ownBlock = some b → blk (e.objs ++ F) m id b:=fun b hb=>y38q (by
       unfold blk
       rw [ho']
       simp only [((hR.obj id _ ho').2.2.1).is_own ht,hb]
       simp)
      obtain ⟨hu,hpos,tj,hj,htj,i,z,zs,hi,hsz, -⟩:=y65q hΓ hf (isSl_of hty2.1)
      by_cases hsm : xs.length ≤ 1
      ·rw [srt_small hsm] at hys
       obtain rfl:=Option.some.inj hys
       have key : ∃ A n c,m.ν id = .slice A n c ∧ n ≤ 1:=by
        rcases hrow with ⟨g,_⟩ | ⟨b,c,cur,g,_⟩
        ·exact ⟨_,_,_,g,by omega⟩
        ·exact ⟨_,_,_,g,hsm⟩
       obtain ⟨A,n,c,hν,hn⟩:=key
       have:=hst.tiny A n c hn (.func h) #[] cv.toArray m.w
       rw [← hν] at this
       refine Calls.mono this ?_
       rintro en w' ⟨rfl,hbel⟩
       have hr' : RowAt w' m.G U t xs (m.ν id):=RowAt.mono (fun b hb=>⟨hb,hbel.block b (hR.ok.liveG b hb)⟩) hrow fun a n c hs=>hbel.block _ (hR.ok.out id a.block (hbk _ (by rw [hs]; rfl))).2.2.1
       obtain ⟨g1,g2⟩:=hR.sorted ht ho' hbel.os hbel.tape hbel.output hbel.size (fun b hb _=>hbel.block b hb) hr'
       exact ⟨_,{ m with w:=w' },e.setObj id (.row U t q xs), .tup [],rfl,rfl, .same g1 rfl rfl,g2,⟨[],rfl,trivial⟩,hK⟩
      ·obtain ⟨lt,⟨hlt,hspec⟩,rfl⟩:=srt_some hys hsm
       rcases hrow with ⟨_,g⟩ | ⟨b,cp,cur,hν,hhp,hc1,hc2,hc3,hx⟩
       ·subst g; simp at hsm
       ·-- the elements' own cells
        have hx' : ∀ j : Fin xs.length,∃ cs',CellsAt m.w b (j.1 * t.size) cs' ∧ Val m.w m.G t (xs.getD j.1 t.zero) cs':=fun j=>hx j.1 j.2
        obtain ⟨cj,hcj⟩ : ∃ cj : Fin xs.length → List Value,∀ j,CellsAt m.w b (j.1 * t.size) (cj j) ∧ Val m.w m.G t (xs.getD j.1 t.zero) (cj j):=⟨fun j=>Classical.choose (hx' j),fun j=>Classical.choose_spec (hx' j)⟩
        haveI : Inhabited (Fin xs.length):=⟨⟨0,by omega⟩⟩
        let d : Array (Fin xs.length):=(List.finRange xs.length).toArray
        have hds : d.size = xs.length:=by simp [d]
        have hdg : ∀ j (hj : j < xs.length),d[j]! = ⟨j,hj⟩:=fun j hj=>by
         rw [getElem!_pos d j (by rw [hds]; exact hj)]; simp [d]
        have hklen : ∀ x,(cj x).length = t.size:=fun x=>(hcj x).2.length
        have hH : HoldsK cj t.size m.w b 0 d:=by
         intro q hq
         rw [size_flatK,hds] at hq
         have hq1 : q / t.size < xs.length:=Nat.div_lt_of_lt_mul (by rw [Nat.mul_comm]; exact hq)
         have hq2 : q % t.size < t.size:=Nat.mod_lt _ hpos
         constructor
         ·rw [show _root_.id (flatK cj t.size d)[q]! = (flatK cj t.size d)[q]! from rfl,get_flatK _ _ _ _ (by rw [hds]; exact hq),hdg _ hq1]
          have:=(hcj ⟨q / t.size,hq1⟩).1 (q % t.size) ((cj ⟨q / t.size,hq1⟩)[q % t.size]!) (by
           rw [List.getElem!_eq_getElem?_getD,List.getElem?_eq_getElem (by rw [hklen]; exact hq2)]; rfl)
          rw [← this]
          congr 2
          show 0 + q = q / t.size * t.size + q % t.size
          rw [Nat.mul_comm,Nat.div_add_mod]; omega
         ·simp [World.frozen?,hhp]
        have hbl : b < m.w.heap.size:=heap_lt hhp
        have world : ∀ (dk : Array (Fin xs.length)) (W : World),SWB cj t.size m.w b 0 dk W → dk.size = xs.length → m.le { m with w:=W } ∧ Rel w0 G0 N F { m with w:=W } (e.setObj id (.row U t q (dk.toList.map fun q=>xs.getD q.1 t.zero))) tm:=by
         intro dk W hS hds2
         obtain ⟨⟨cur',g1,g2⟩,g3⟩:=swb_rowAt hklen hhp hH (hds2.trans hds.symm) hS
         have hother : ∀ b',b' < m.w.heap.size → b' ≠ b → W.heap[b']? = m.w.heap[b']?:=fun b' hb' hne=>by
          rw [Below.block hS b' hb']
          simp only [putRowK,Go.Sort.putRow,Go.Sort.mapBlock,Array.getElem?_modify,if_neg (Ne.symm hne)]
         have hown : (m.ν id).ownBlock = some b:=by rw [hν]; rfl
         have hGb : ∀ b',m.G b' → m.G b' ∧ W.heap[b']? = m.w.heap[b']?:=fun b' hg=>⟨hg,hother b' (hR.ok.liveG b' hg) fun e=>(hR.ok.out id b (hbk b hown)).1 (e ▸ hg)⟩
         have hos : W.os = m.w.os:=by have:=Below.os hS; exact this
         have htp : W.tape = m.w.tape:=by have:=Below.tape hS; exact this
         have hou : W.output = m.w.output:=by have:=Below.output hS; exact this
         refine hR.sorted ht ho' hos htp hou (SWB.le hS) (fun b' hb' hne=>hother b' hb' fun e=>hne (by rw [hown,e])) ?_
         refine .inr ⟨b,cp,cur',by rw [hν]; simp [hds2],g1,by simpa [hds2] using hc1,hc2,by rw [g2]; exact hc3,fun j hj=>?_⟩
         have hj' : j < dk.size:=by simpa using hj
         refine ⟨cj dk[j]!,g3 j hj', ?_⟩
         have : (dk.toList.map fun q=>xs.getD q.1 t.zero).getD j t.zero = xs.getD dk[j]!.1 t.zero:=by
          rw [getElem!_pos dk j hj']
          simp [List.getD_eq_getElem?_getD,hj']
         rw [this]
         exact Val.mono hGb _ _ _ (hcj _).2
        obtain ⟨U',ie,hU1,hU2,hrun⟩:=hst.many
        have e3 : U' = ti.elem:=by
         rw [hu] at hU1
         simpa using hU1.symm
        subst e3
        have e4 : ie.size = t.size:=by
         rw [hi] at hU2
         obtain rfl:=Option.some.inj hU2
         exact hsz
        rw [e4] at hrun
        have hless : LessB P h cv.toArray cj t.size (fun p q=>lt (xs.getD p.1 t.zero) (xs.getD q.1 t.zero)) b 0 d.size m.w:=by
         intro W dk hS hds2 i j hi hj
         rw [hds] at hds2 hi hj
         obtain ⟨gle,gR⟩:=world dk W hS hds2
         have hmap : ∀ q,q < xs.length → (dk.toList.map fun q=>xs.getD q.1 t.zero).getD q t.zero = xs.getD dk[q]!.1 t.zero:=fun q hq=>by
          rw [getElem!_pos dk q (by omega)]
          simp [List.getD_eq_getElem?_getD,show q < dk.size by omega]
         have hsp:=hspec (dk.toList.map fun q=>xs.getD q.1 t.zero) (by simp [hds2]) (fun y hy=>by
          obtain ⟨q,_,rfl⟩:=List.mem_map.1 hy
          rw [List.getD_eq_getElem?_getD,List.getElem?_eq_getElem q.2]
          exact List.getElem_mem q.2) i j hi hj
         rw [hmap i hi,hmap j hj] at hsp
         exact (evLess_sound hΔ gR (hc.imp fun _ _ hx=>Cp.le gle hx) hsp).2
        have hcl:=by
         have hentH : Enters' P h:=by
          have hsp:=hspec xs rfl (fun y hy=>hy) 0 0 (by omega) (by omega)
          have hz:=world d m.w (SWB.start hH) hds
          have hxs : (d.toList.map fun q=>xs.getD q.1 t.zero) = xs:=by
           apply List.ext_getElem (by simp [d])
           intro q h1 h2
           simp [d,List.getD_eq_getElem?_getD,h2]
          rw [hxs] at hz
          exact (evLess_sound hΔ hz.2 (hc.imp fun _ _ hx=>Cp.le hz.1 hx) hsp).1
         exact hrun cj hklen (fun x=>Val.oneCells (m:=m) (hcj x).2) _ (hlt.on fun p : Fin xs.length=>xs.getD p.1 t.zero) h cv.toArray hentH b 0 cp d (by omega) (by rw [hds]; unfold capN at hcap; omega) m.w hless hH hbl
        rw [hds,← hν] at hcl
        refine Calls.mono hcl ?_
        rintro en w' ⟨rfl,hS⟩
        have hlen : (stab (fun p q : Fin xs.length=>lt (xs.getD p.1 t.zero) (xs.getD q.1 t.zero)) d.toList).toArray.size = xs.length:=by
         simp [stab_length,d]
        obtain ⟨g1,g2⟩:=world _ w' hS hlen
        have hxs : (d.toList.map fun q=>xs.getD q.1 t.zero) = xs:=by
         apply List.ext_getElem (by simp [d])
         intro q h1 h2
         simp [d,List.getD_eq_getElem?_getD,h2]
        have hfin : ((stab (fun p q : Fin xs.length=>lt (xs.getD p.1 t.zero) (xs.getD q.1 t.zero)) d.toList).toArray.toList.map fun q=>xs.getD q.1 t.zero) = stab lt xs:=by
         have:=stab_map (lt:=lt) (fun q : Fin xs.length=>xs.getD q.1 t.zero) d.toList
         rw [hxs] at this
         exact this
        rw [hfin] at g2
        exact ⟨_,{ m with w:=w' },e.setObj id (.row U t q (stab lt xs)), .tup [],rfl,rfl, .same g1 rfl rfl,g2,⟨[],rfl,trivial⟩,hK⟩
    | _=>rw [ho] at hh; simp at hh
end
end Go.Ev
end
section
namespace Go.Ev
open Go.RowKit (Below)
theorem Val.uniq {w w' : World} {G G' : Nat → Prop} : ∀ {t : Ty} {x : t.den} {cs ds : List Value},t.flat = true → Val w G t x cs → Val w' G' t x ds → cs = ds
 | .int _,_,_,_,_,h,k=>by simp only [Val] at h k; rw [h,k]
 | .bool,_,_,_,_,h,k=>by simp only [Val] at h k; rw [h,k]
 | .str,_,_,_,_,⟨s,h,e⟩,⟨s',k,e'⟩=>by
  subst h; subst k
  obtain ⟨⟨l⟩⟩:=s
  obtain ⟨⟨l'⟩⟩:=s'
  simp only at e e'
  subst e; subst e'
  rfl
 | .unit,_,_,_,_,h,k=>by simp only [Val] at h k; rw [h,k]
 | .pair a b,x,_,_,hf,⟨c1,c2,e,h1,h2⟩,⟨d1,d2,e',k1,k2⟩=>by
  simp only [Ty.flat,Bool.and_eq_true] at hf
  rw [e,e',Val.uniq hf.1 h1 k1,Val.uniq hf.2 h2 k2]
 | .sl _,_,_,_,hf,_,_=>by simp [Ty.flat] at hf
 | .any,_,_,_,hf,_,_=>by simp [Ty.flat] at hf
 | .osl _ _,_,_,_,hf,_,_=>by simp [Ty.flat] at hf
 | .mp _ _,_,_,_,hf,_,_=>by simp [Ty.flat] at hf
 | .omp _ _,_,_,_,hf,_,_=>by simp [Ty.flat] at hf
theorem AsVal.uniq {t : Ty} {cs : List Value} {v v' : Value} (h : AsVal t cs v) (k : AsVal t cs v') : v = v':=by
 unfold AsVal at h k
 cases ha : t.isAgg with
 | true=>rw [ha] at h k; rw [h,k]
 | false=>rw [ha] at h k; rw [h] at k; simpa using k
theorem eqT_eq : ∀ {t : Ty} {x y : t.den},t.flat = true → eqT t x y = true → x = y
 | .int _,x,y,_,h=>by simpa [eqT,eqI] using h
 | .bool,x,y,_,h=>by simpa [eqT,eqB] using h
 | .str,x,y,_,h=>by simpa [eqT,eqS] using h
 | .unit,_,_,_,_=>rfl
 | .pair a b,x,y,hf,h=>by
  simp only [Ty.flat,Bool.and_eq_true] at hf
  simp only [eqT,andB,Bool.and_eq_true] at h
  exact Prod.ext (eqT_eq hf.1 h.1) (eqT_eq hf.2 h.2)
 | .sl _,_,_,hf,_=>by simp [Ty.flat] at hf
 | .any,_,_,hf,_=>by simp [Ty.flat] at hf
 | .osl _ _,_,_,hf,_=>by simp [Ty.flat] at hf
 | .mp _ _,_,_,hf,_=>by simp [Ty.flat] at hf
 | .omp _ _,_,_,hf,_=>by simp [Ty.flat] at hf
def plainV : Value → Bool
 | .int _ _ | .bool _ | .string _=>true
 | _=>false
theorem Val.plain {w : World} {G : Nat → Prop} : ∀ {t : Ty} {x : t.den} {cs : List Value},t.flat = true → Val w G t x cs → ∀ c ∈ cs,plainV c = true
 | .int _,_,_,_,h,c,hc=>by simp only [Val] at h; subst h; simp at hc; subst hc; rfl
 | .bool,_,_,_,h,c,hc=>by simp only [Val] at h; subst h; simp at hc; subst hc; rfl
 | .str,_,_,_,⟨s,h,_⟩,c,hc=>by subst h; simp at hc; subst hc; rfl
 | .unit,_,_,_,h,c,hc=>by simp only [Val] at h; subst h; simp at hc
 | .pair a b,x,_,hf,⟨c1,c2,e,h1,h2⟩,c,hc=>by
  simp only [Ty.flat,Bool.and_eq_true] at hf
  subst e
  rcases List.mem_append.1 hc with hc | hc
  ·exact Val.plain hf.1 h1 c hc
  ·exact Val.plain hf.2 h2 c hc
 | .sl _,_,_,hf,_,_,_=>by simp [Ty.flat] at hf
 | .any,_,_,hf,_,_,_=>by simp [Ty.flat] at hf
 | .osl _ _,_,_,hf,_,_,_=>by simp [Ty.flat] at hf
 | .mp _ _,_,_,hf,_,_,_=>by simp [Ty.flat] at hf
 | .omp _ _,_,_,hf,_,_,_=>by simp [Ty.flat] at hf
theorem sameBits_plain {v : Value} (h : plainV v = true) (n : Nat) : Instr.sameBits n v v = true:=by
 cases v <;> simp [plainV] at h <;> cases n <;> simp [Instr.sameBits,MapKept.bytes_beq]
theorem sameBits_flat {w : World} {G : Nat → Prop} {t : Ty} {x : t.den} {cs : List Value} {v : Value} (hf : t.flat = true) (h : Val w G t x cs) (ha : AsVal t cs v) (n : Nat) : Instr.sameBits (n + 1) v v = true:=by
 have hp:=Val.plain hf h
 unfold AsVal at ha
 cases hg : t.isAgg with
 | false =>
  rw [hg] at ha
  simp only at ha
  subst ha
  exact sameBits_plain (hp v (by simp)) _
 | true =>
  rw [hg] at ha
  simp only at ha
  subst ha
  simp only [Instr.sameBits,beq_self_eq_true,Bool.true_and,List.all_eq_true]
  intro p hpm
  have : ∀ l : List Value,(∀ c ∈ l,plainV c = true) → ∀ p ∈ l.zip l,Instr.sameBits n p.1 p.2 = true:=by
   intro l
   induction l with
   | nil=>intro _ p hp; simp at hp
   | cons a l ih =>
    intro hl p hp
    simp only [List.zip_cons_cons,List.mem_cons] at hp
    rcases hp with rfl | hp
    ·exact sameBits_plain (hl a (by simp)) n
    ·exact ih (fun c hc=>hl c (by simp [hc])) p hp
  exact this _ (by simpa using hp) p hpm
section
variable {P : Program} {Γ : Tab} {w : World} {G : Nat → Prop}
theorem checkKey_run (hΓ : TabOk P Γ) (em : Bool) : ∀ (n : Nat) (T : Nat) (ti : TI) (x : ti.ty.den) (cs : List Value) (v : Value) (w' : World),find Γ T = some ti → (ti.ty.isAgg = true → ti.elem = 0) → ti.ty.flat = true → ti.ty.dep ≤ n →
  Val w G ti.ty x cs → AsVal ti.ty cs v → (Instr.checkKey em (n + 1) T v).run P w' = .ok () w'
 | n,T,ti,x,cs,v,w',hf,h00,hfl,hn,hx,hv=>by
  have hT:=hΓ T ti hf
  cases ha : ti.ty.isAgg with
  | true =>
   obtain ⟨fs,hus,hft,hnm,hst,_,_⟩:=hT.eqq ha hfl (h00 ha)
   simp only [AsVal,ha] at hv
   subst hv
   rw [Instr.checkKey]
   simp only [Sem.run_bind,run_underlying hus,Result.andThen_ok]
   rw [← Array.forIn_toList]
   have key : ∀ (fl : List Field) (t : Ty) (off : Nat) (x : t.den),y35q Γ fl t off = true → namesOk Γ fl = true → t.flat = true → t.dep ≤ n → Val w G t x (cs.drop off) →
     (forIn fl PUnit.unit fun f _=>(do
      if f.name ≠ "_" then Instr.checkKey em n f.type (← part f.type cs.toArray f.offset)
      pure (ForInStep.yield PUnit.unit) : Sem (ForInStep PUnit))).run P w' = .ok PUnit.unit w':=by
    intro fl
    induction fl with
    | nil=>intro t off x _ _ _ _ _; simp
    | cons f fl ih =>
     intro t off x hft hnm hfl hdep hx
     obtain ⟨a,t2,rfl⟩ : ∃ a t2,t = .pair a t2:=by
      cases t <;> first | (simp [y35q] at hft; done) | exact ⟨_,_,rfl⟩
     simp only [y35q,Bool.and_eq_true] at hft
     obtain ⟨⟨h1,h2⟩,h3⟩:=hft
     have h1:=Nat.eq_of_beq_eq_true h1
     simp only [namesOk,Bool.and_eq_true,Bool.not_eq_true',beq_eq_false_iff_ne] at hnm
     cases hff : find Γ f.type with
     | none=>simp [hff] at h2
     | some tf =>
      simp only [hff] at h2
      have hta:=tyEq_eq' h2
      subst hta
      simp only [Ty.flat,Bool.and_eq_true] at hfl
      simp only [Ty.dep] at hdep
      obtain ⟨c1,c2,e1,v1,v2⟩:=hx
      have l1:=v1.length
      obtain ⟨p,hp,ap⟩:=part_run hΓ hff cs.toArray off (by simpa using e1) l1 w'
      obtain ⟨k,rfl⟩ : ∃ k,n = k + 1:=⟨n - 1,by omega⟩
      have he:=checkKey_run hΓ em k f.type tf x.1 c1 p w' hff (fun hag=>by have:=hnm.1.2; rw [hff] at this; simpa [hag] using this) hfl.1 (by omega) v1 ap
      have hr:=ih t2 (off + tf.ty.size) x.2 h3 hnm.2 hfl.2 (by omega) (by rw [← List.drop_drop,e1,← l1,List.drop_left]; exact v2)
      rw [← h1] at hp
      have hne : f.name ≠ "_" := hnm.1.1
      simp only [List.forIn_cons,Sem.run_bind,hne,ne_eq,not_false_eq_true,if_true,Result.andThen_ok,hp,he,Sem.run_pure]
      exact hr
   have:=key fs.toList ti.ty 0 x hft hnm hfl hn (by simpa using hx)
   simp at this ⊢
   rw [this]
   rfl
  | false =>
   simp only [AsVal,ha] at hv
   subst hv
   cases ht : ti.ty with
   | int k=>simp [Instr.checkKey,run_underlying (hT.int k ht)]
   | bool=>simp [Instr.checkKey,run_underlying (hT.bool ht)]
   | str=>simp [Instr.checkKey,run_underlying (hT.str ht)]
   | sl t=>rw [ht] at hfl; simp [Ty.flat] at hfl
   | osl U t=>rw [ht] at hfl; simp [Ty.flat] at hfl
   | any=>rw [ht] at hfl; simp [Ty.flat] at hfl
   | mp k v=>rw [ht] at hfl; simp [Ty.flat] at hfl
   | omp k v=>rw [ht] at hfl; simp [Ty.flat] at hfl
   | pair a b=>rw [ht] at ha; simp [Ty.isAgg] at ha
   | unit=>rw [ht] at ha; simp [Ty.isAgg] at ha
def Ent (w : World) (G : Nat → Prop) (k v : Ty) (p : k.den × v.den) (e : MapEntry) : Prop:=(∃ c,Val w G k p.1 c ∧ AsVal k c e.key) ∧ ∃ c,Val w G v p.2 c ∧ AsVal v c e.val
theorem dep_small (hΓ : TabOk P Γ) {T : Nat} {ti : TI} (hf : find Γ T = some ti) (h00 : ti.ty.isAgg = true → ti.elem = 0) (hfl : ti.ty.flat = true) : ti.ty.dep ≤ 1000:=by
 cases ha : ti.ty.isAgg with
 | true =>
  obtain ⟨_,_,_,_,_,_,h⟩:=(hΓ T ti hf).eqq ha hfl (h00 ha)
  exact h
 | false=>cases ht : ti.ty <;> rw [ht] at ha <;> simp [Ty.isAgg] at ha <;> simp [Ty.dep]
theorem equal_run (hΓ : TabOk P Γ) {T : Nat} {ti : TI} (hf : find Γ T = some ti) (h00 : ti.ty.isAgg = true → ti.elem = 0) (hfl : ti.ty.flat = true) {x y : ti.ty.den} {cs ds : List Value} {u v : Value}
  (hx : Val w G ti.ty x cs) (hu : AsVal ti.ty cs u) (hy : Val w G ti.ty y ds) (hv : AsVal ti.ty ds v) (w' : World) : (Op.equal T u v).run P w' = .ok (eqT ti.ty x y) w' :=
 eqIn_run hΓ 9999 T ti ti.ty rfl x y cs ds u v w' hf h00 hfl (by have:=dep_small hΓ hf h00 hfl; omega) hx hu hy hv
def First (k v : Ty) (x : k.den) (xs : List (k.den × v.den)) (j : Nat) : Prop:=(∃ q,xs[j]? = some q ∧ eqT k x q.1 = true) ∧ ∀ i q,i < j → xs[i]? = some q → eqT k x q.1 = false
theorem First.zero {k v : Ty} {x : k.den} {q : k.den × v.den} {xs : List (k.den × v.den)} (h : eqT k x q.1 = true) : First k v x (q :: xs) 0:=⟨⟨q,rfl,h⟩,fun i q hi=>absurd hi (Nat.not_lt_zero _)⟩
theorem First.succ {k v : Ty} {x : k.den} {q : k.den × v.den} {xs : List (k.den × v.den)} {j : Nat} (h : eqT k x q.1 = false) (hj : First k v x xs j) : First k v x (q :: xs) (j + 1):=by
 obtain ⟨⟨p,h1,h2⟩,h3⟩:=hj
 refine ⟨⟨p,by simpa using h1,h2⟩,fun i r hi hr=>?_⟩
 cases i with
 | zero=>simp at hr; subst hr; exact h
 | succ i=>exact h3 i r (by omega) (by simpa using hr)
theorem asking_run (hΓ : TabOk P Γ) {T : Nat} {ti : TI} (hf : find Γ T = some ti) (h00 : ti.ty.isAgg = true → ti.elem = 0) (hfl : ti.ty.flat = true) {v : Ty} {x : ti.ty.den} {cs : List Value} {u : Value} (hx : Val w G ti.ty x cs) (hu : AsVal ti.ty cs u) (w' : World) :
  ∀ (xs : List (ti.ty.den × v.den)) (es : List MapEntry) (i : Nat),R2 (Ent w G ti.ty v) xs es →
   ((Instr.findAsking T u es i).run P w' = .ok none w' ∧ ∀ q ∈ xs,eqT ti.ty x q.1 = false) ∨ ∃ j e,(Instr.findAsking T u es i).run P w' = .ok (some (i + j,e.val)) w' ∧ es[j]? = some e ∧ First ti.ty v x xs j
 | [],[],i,_=>.inl ⟨by simp [Instr.findAsking],fun q hq=>by simp at hq⟩
 | q :: xs,e :: es,i,⟨⟨⟨c,h1,h2⟩,_⟩,hr⟩=>by
  have he:=equal_run hΓ hf h00 hfl hx hu h1 h2 w'
  cases hq : eqT ti.ty x q.1 with
  | true =>
   rw [hq] at he
   exact .inr ⟨0,e,by simp [Instr.findAsking,he],by simp,First.zero hq⟩
  | false =>
   rw [hq] at he
   rcases asking_run hΓ hf h00 hfl hx hu w' xs es (i + 1) hr with ⟨k1,k2⟩ | ⟨j,e0,k1,k2,k3⟩
   ·refine .inl ⟨by simp [Instr.findAsking,he,k1],fun p hp=>?_⟩
    rcases List.mem_cons.1 hp with rfl | hp
    ·exact hq
    ·exact k2 p hp
   ·exact .inr ⟨j + 1,e0,by simp [Instr.findAsking,he,k1]; omega,by simpa using k2,First.succ hq k3⟩
theorem now_run {t v : Ty} {d : TypeDesc} (hd : ∀ (x y : t.den) (c c' : List Value) (u u' : Value),Val w G t x c → AsVal t c u → Val w G t y c' → AsVal t c' u' → Instr.sameNow d u u' = some (eqT t x y)) {x : t.den} {cs : List Value} {u : Value} (hx : Val w G t x cs) (hu : AsVal t cs u) :
  ∀ (xs : List (t.den × v.den)) (es : List MapEntry) (i : Nat),R2 (Ent w G t v) xs es →
   (Instr.findNow d u es i = some none ∧ ∀ q ∈ xs,eqT t x q.1 = false) ∨ ∃ j e,Instr.findNow d u es i = some (some (i + j,e.val)) ∧ es[j]? = some e ∧ First t v x xs j
 | [],[],i,_=>.inl ⟨by simp [Instr.findNow],fun q hq=>by simp at hq⟩
 | q :: xs,e :: es,i,⟨⟨⟨c,h1,h2⟩,_⟩,hr⟩=>by
  have he:=hd x q.1 cs c u e.key hx hu h1 h2
  cases hq : eqT t x q.1 with
  | true =>
   rw [hq] at he
   exact .inr ⟨0,e,by simp [Instr.findNow,he],by simp,First.zero hq⟩
  | false =>
   rw [hq] at he
   rcases now_run hd hx hu xs es (i + 1) hr with ⟨k1,k2⟩ | ⟨j,e0,k1,k2,k3⟩
   ·refine .inl ⟨by simp [Instr.findNow,he,k1],fun p hp=>?_⟩
    rcases List.mem_cons.1 hp with rfl | hp
    ·exact hq
    ·exact k2 p hp
   ·exact .inr ⟨j + 1,e0,by simp [Instr.findNow,he,k1]; omega,by simpa using k2,First.succ hq k3⟩
def NowOk (w : World) (G : Nat → Prop) (d : TypeDesc) (t : Ty) : Prop:=∀ (x y : t.den) (c c' : List Value) (u u' : Value),Val w G t x c → AsVal t c u → Val w G t y c' → AsVal t c' u' → Instr.sameNow d u u' = some (eqT t x y)
theorem now_ok {T : Nat} {ti : TI} (hT : TyOk P Γ T ti) (hfl : ti.ty.flat = true) (ha : ti.ty.isAgg = false) : ∃ d,P.underlying T = some d ∧ NowOk w G d ti.ty:=by
 cases ht : ti.ty with
 | int k =>
  refine ⟨_,hT.int k ht, ?_⟩
  intro x y c c' u u' h1 h2 h3 h4
  simp only [AsVal,Ty.isAgg] at h2 h4
  simp only [Val] at h1 h3
  subst h2; subst h4
  simp only [List.cons.injEq,and_true] at h1 h3
  subst h1; subst h3
  simp [Instr.sameNow,eqT,eqI]
 | bool =>
  refine ⟨_,hT.bool ht, ?_⟩
  intro x y c c' u u' h1 h2 h3 h4
  simp only [AsVal,Ty.isAgg] at h2 h4
  simp only [Val] at h1 h3
  subst h2; subst h4
  simp only [List.cons.injEq,and_true] at h1 h3
  subst h1; subst h3
  simp [Instr.sameNow,eqT,eqB]
 | str =>
  refine ⟨_,hT.str ht, ?_⟩
  intro x y c c' u u' h1 h2 h3 h4
  simp only [AsVal,Ty.isAgg] at h2 h4
  obtain ⟨s,h1,e1⟩:=h1
  obtain ⟨s',h3,e3⟩:=h3
  subst h2; subst h4
  simp only [List.cons.injEq,and_true] at h1 h3
  subst h1; subst h3
  subst e1; subst e3
  obtain ⟨⟨l⟩⟩:=s
  obtain ⟨⟨l'⟩⟩:=s'
  simp only [Instr.sameNow,eqT,eqS,Option.some.injEq]
  rw [Bool.eq_iff_iff,MapKept.bytes_beq]
  simp
 | sl t=>rw [ht] at hfl; simp [Ty.flat] at hfl
 | osl U t=>rw [ht] at hfl; simp [Ty.flat] at hfl
 | any=>rw [ht] at hfl; simp [Ty.flat] at hfl
 | mp k v=>rw [ht] at hfl; simp [Ty.flat] at hfl
 | omp k v=>rw [ht] at hfl; simp [Ty.flat] at hfl
 | pair a b=>rw [ht] at ha; simp [Ty.isAgg] at ha
 | unit=>rw [ht] at ha; simp [Ty.isAgg] at ha
theorem findKey_run (hΓ : TabOk P Γ) {T : Nat} {ti : TI} (hf : find Γ T = some ti) (h00 : ti.ty.isAgg = true → ti.elem = 0) (hfl : ti.ty.flat = true) {v : Ty} {x : ti.ty.den} {cs : List Value} {u : Value} (hx : Val w G ti.ty x cs) (hu : AsVal ti.ty cs u) (w' : World)
  {xs : List (ti.ty.den × v.den)} {es : List MapEntry} (hr : R2 (Ent w G ti.ty v) xs es) :
   ((Instr.findKey T u es).run P w' = .ok none w' ∧ ∀ q ∈ xs,eqT ti.ty x q.1 = false) ∨ ∃ j e,(Instr.findKey T u es).run P w' = .ok (some (j,e.val)) w' ∧ es[j]? = some e ∧ First ti.ty v x xs j:=by
 have hT:=hΓ T ti hf
 cases ha : ti.ty.isAgg with
 | true =>
  obtain ⟨fs,hus,_⟩:=hT.eqq ha hfl (h00 ha)
  have hcu : ∃ l,u = .agg l:=by
   simp only [AsVal,ha] at hu
   exact ⟨_,hu⟩
  obtain ⟨l,rfl⟩:=hcu
  match xs,es,hr with
  | [],[],_=>exact .inl ⟨by simp [Instr.findKey,run_underlying hus,Instr.findNow],fun q hq=>by simp at hq⟩
  | q :: xs,e :: es,hr =>
   have h1 : (Instr.findKey T (.agg l) (e :: es)).run P w' = (Instr.findAsking T (.agg l) (e :: es)).run P w':=by
    simp [Instr.findKey,run_underlying hus,Instr.findNow,Instr.sameNow]
   rw [h1]
   have:=asking_run hΓ hf h00 hfl hx hu w' (q :: xs) (e :: es) 0 hr
   simpa using this
 | false =>
  obtain ⟨d,hd,hs⟩:=now_ok (w:=w) (G:=G) hT hfl ha
  rcases now_run hs hx hu xs es 0 hr with ⟨k1,k2⟩ | ⟨j,e0,k1,k2,k3⟩
  ·exact .inl ⟨by simp [Instr.findKey,run_underlying hd,k1],k2⟩
  ·exact .inr ⟨j,e0,by simp [Instr.findKey,run_underlying hd,k1],k2,k3⟩
theorem mfind_none {k v : Ty} {x : k.den} : ∀ {xs : List (k.den × v.den)},(∀ q ∈ xs,eqT k x q.1 = false) → mfind k v x xs = none
 | [],_=>rfl
 | q :: xs,h=>by simp only [mfind,h q (by simp)]; exact mfind_none fun p hp=>h p (by simp [hp])
theorem mfind_first {k v : Ty} {x : k.den} : ∀ {xs : List (k.den × v.den)} {j : Nat},First k v x xs j → ∃ q,xs[j]? = some q ∧ eqT k x q.1 = true ∧ mfind k v x xs = some q.2
 | [],j,⟨⟨q,h,_⟩,_⟩=>by simp at h
 | q :: xs,0,⟨⟨p,h,he⟩,_⟩=>by simp at h; subst h; exact ⟨q,rfl,he,by simp only [mfind,he]⟩
 | q :: xs,j + 1,⟨⟨p,h,he⟩,hb⟩=>by
  have h0:=hb 0 q (by omega) rfl
  obtain ⟨r,h1,h2,h3⟩:=mfind_first (xs:=xs) (j:=j) ⟨⟨p,by simpa using h,he⟩,fun i q hi hq=>hb (i + 1) q (by omega) (by simpa using hq)⟩
  exact ⟨r,by simpa using h1,h2,by simp only [mfind,h0]; exact h3⟩
theorem mset_none {k v : Ty} {x : k.den} {y : v.den} : ∀ {xs : List (k.den × v.den)},(∀ q ∈ xs,eqT k x q.1 = false) → mset k v x y xs = xs ++ [(x,y)]
 | [],_=>rfl
 | q :: xs,h=>by simp only [mset,h q (by simp)]; rw [mset_none fun p hp=>h p (by simp [hp])]; rfl
theorem mset_first {k v : Ty} {x : k.den} {y : v.den} : ∀ {xs : List (k.den × v.den)} {j : Nat},First k v x xs j → ∃ q,xs[j]? = some q ∧ eqT k x q.1 = true ∧ mset k v x y xs = xs.set j (q.1,y)
 | [],j,⟨⟨q,h,_⟩,_⟩=>by simp at h
 | q :: xs,0,⟨⟨p,h,he⟩,_⟩=>by simp at h; subst h; exact ⟨q,rfl,he,by simp only [mset,he]; rfl⟩
 | q :: xs,j + 1,⟨⟨p,h,he⟩,hb⟩=>by
  have h0:=hb 0 q (by omega) rfl
  obtain ⟨r,h1,h2,h3⟩:=mset_first (y:=y) (xs:=xs) (j:=j) ⟨⟨p,by simpa using h,he⟩,fun i q hi hq=>hb (i + 1) q (by omega) (by simpa using hq)⟩
  exact ⟨r,by simpa using h1,h2,by simp only [mset,h0]; rw [h3]; rfl⟩
end
section
variable {P : Program} {w0 : Base} {G0 : Nat → Prop} {N : Nat} {F : List (Nat × Obj)} {m : St} {e : Env} {tm : Array Value} {Γ : Tab} {ρ : Type}
theorem bnd_some0 {α β : Type} {x : α} {f : α → Option β} : bnd (some x) f = f x:=rfl
theorem isMap_of {u k v : Ty} (h : isMap u k v = true) : (u = .mp k v ∨ u = .omp k v) ∧ k.flat = true ∧ v.flat = true:=by
 cases u with
 | mp k' v' =>
  simp only [isMap,Bool.and_eq_true] at h
  exact ⟨.inl (by rw [y64q h.1.1.1,y64q h.1.1.2]),h.1.2,h.2⟩
 | omp k' v' =>
  simp only [isMap,Bool.and_eq_true] at h
  exact ⟨.inr (by rw [y64q h.1.1.1,y64q h.1.1.2]),h.1.2,h.2⟩
 | _=>simp [isMap] at h
theorem decAll_nil {t : Ty} {s : SV} {x : t.den} {v : Value} (h : decAll false [] t s = some x) (hs : Sv m s v) : ∃ cs,Val m.w m.G t x cs ∧ AsVal t cs v :=
 decAll_val (os:=[]) (st:=false) (Gd:=m.G) (fun i o h=>by simp [find] at h) (fun b hb=>hb) (fun _ i o b h=>by simp [find] at h) h hs
theorem asMap_run {p : V} {pv : Value} (hR : Rel w0 G0 N F m e tm) {k v : Ty} {xs : List (k.den × v.den)} (h : asMap e p = some ⟨(k,v),xs⟩) (hp : Lv m p pv) : ∃ es : Array MapEntry,R2 (Ent m.w m.G k v) xs es.toList ∧
  ((pv = .map none ∧ es = #[]) ∨ ∃ b cl,pv = .map (some b) ∧ m.w.heap[b]? = some (.map es cl)):=by
 cases p with
 | map id =>
  simp only [asMap] at h
  cases ho : e.obj id with
  | none=>simp [ho] at h
  | some o =>
   cases o with
   | map k' v' ys =>
    simp only [ho,Option.some.injEq,Sigma.mk.injEq,Prod.mk.injEq] at h
    obtain ⟨⟨rfl,rfl⟩,h⟩:=h
    obtain rfl:=eq_of_heq h
    obtain ⟨es,cl,hh,hr⟩:=(hR.obj id _ ho).2
    obtain ⟨_,rfl⟩:=hp
    exact ⟨es,hr, .inr ⟨_,cl,rfl,hh⟩⟩
   | _=>simp [ho] at h
 | mp k' v' ys =>
  simp only [asMap,Option.some.injEq,Sigma.mk.injEq,Prod.mk.injEq] at h
  obtain ⟨⟨rfl,rfl⟩,h⟩:=h
  obtain rfl:=eq_of_heq h
  rcases hp with ⟨e1,e2⟩ | ⟨b,es,cl,e1,_,hh,hr⟩
  ·simp only [List.cons.injEq,and_true] at e1
   subst e1; subst e2
   exact ⟨#[],trivial, .inl ⟨rfl,rfl⟩⟩
  ·simp only [List.cons.injEq,and_true] at e1
   subst e1
   exact ⟨es,hr, .inr ⟨b,cl,rfl,hh⟩⟩
 | _=>simp [asMap] at h
theorem zero_run (hΓ : TabOk P Γ) {V : Nat} {tv : TI} (hf : find Γ V = some tv) (w : World) : ∃ z cs,(zeroValue V).run P w = .ok z w ∧ AsVal tv.ty cs z ∧ Val m.w m.G tv.ty tv.ty.zero cs:=by
 obtain ⟨i,z,cs,hi,_,_,hz,_,ha,hr⟩:=(hΓ V tv hf).info
 exact ⟨z,cs,by simp [zeroValue,typeInfo,hi,hz],ha,zero_val (hr m)⟩
theorem lookup_sound (hΓ : TabOk P Γ) (hR : Rel w0 G0 N F m e tm) {T : Nat} {ti : TI} (hf : find Γ T = some ti) {p : V} {x : SV} {ok : Bool} {K : SV → Env → Option ρ} {r : ρ} (h : evLookup ti.ty p x ok e K = some r) {pv xv : Value} (hp : Lv m p pv) (hx : Sv m x xv) :
  ∃ s z,(Instr.lookup T pv xv ok).run P m.w = .ok z m.w ∧ Sv m s z ∧ K s e = some r:=by
 unfold evLookup at h
 cases hm : asMap e p with
 | none=>simp [hm] at h
 | some q =>
  obtain ⟨⟨k,v⟩,xs⟩:=q
  simp only [hm] at h
  cases hi : isMap ti.ty k v with
  | false=>simp [hi] at h
  | true =>
   cases hd : decAll false [] k x with
   | none=>simp [hi,hd] at h
   | some a =>
    simp only [hi,hd] at h
    obtain ⟨hty,hkf,hvf⟩:=isMap_of hi
    obtain ⟨KT,VT,tk,tv,hu,hfk,rfl,_,h0,hfv,rfl,_⟩:=(hΓ T ti hf).mp k v hty
    obtain ⟨es,hr,hes⟩:=asMap_run hR hm hp
    obtain ⟨cs,hv,ha⟩:=decAll_nil hd hx
    have hck : ∀ em,(Instr.checkKey em 10000 KT xv).run P m.w = .ok () m.w:=fun em=>checkKey_run hΓ em 9999 KT tk a cs xv m.w hfk h0 hkf (by have:=dep_small hΓ hfk h0 hkf; omega) hv ha
    have hfin : ∃ (z : Value) (c : List Value),(Instr.lookup T pv xv ok).run P m.w = .ok (if ok then .tuple #[z, .bool (mhas tk.ty tv.ty a xs)] else z) m.w ∧ Val m.w m.G tv.ty (mgetD tk.ty tv.ty a xs) c ∧ AsVal tv.ty c z:=by
     rcases findKey_run hΓ hfk h0 hkf hv ha m.w hr with ⟨k1,k2⟩ | ⟨j,e0,k1,k2,k3⟩
     ·obtain ⟨z,c,hz,hza,hzv⟩:=zero_run (m:=m) hΓ hfv m.w
      have e1:=mfind_none k2
      refine ⟨z,c, ?_,by simp only [mgetD,e1]; exact hzv,hza⟩
      have e2 : mhas tk.ty tv.ty a xs = false:=by simp only [mhas,e1]
      rw [e2]
      rcases hes with ⟨rfl,rfl⟩ | ⟨b,cl,rfl,hh⟩
      ·simp [Instr.lookup,run_underlying hu,hck,k1,hz]
      ·simp [Instr.lookup,run_underlying hu,MapKept.run_getObj_map hh,hck,k1,hz]
     ·obtain ⟨q,q1,q2,q3⟩:=mfind_first k3
      obtain ⟨e1,g1,_,c,g2,g3⟩:=hr.get j q q1
      rw [k2] at g1
      obtain rfl:=Option.some.inj g1
      refine ⟨e0.val,c, ?_,by simp only [mgetD,q3]; exact g2,g3⟩
      have e2 : mhas tk.ty tv.ty a xs = true:=by simp only [mhas,q3]
      rw [e2]
      rcases hes with ⟨rfl,rfl⟩ | ⟨b,cl,rfl,hh⟩
      ·simp at k2
      ·simp [Instr.lookup,run_underlying hu,MapKept.run_getObj_map hh,hck,k1]
    obtain ⟨z,c,hrun,hzv,hza⟩:=hfin
    cases ok with
    | false=>exact ⟨ofTy tv.ty (mgetD tk.ty tv.ty a xs),z,by simpa using hrun,sv_ofTy hzv hza,h⟩
    | true =>
     refine ⟨.tup [(tv.ty.isAgg,enc tv.ty (mgetD tk.ty tv.ty a xs) []),(false,[.b (mhas tk.ty tv.ty a xs)])],_,by simpa using hrun,⟨[z, .bool (mhas tk.ty tv.ty a xs)],rfl, ?_, ?_,trivial⟩,h⟩
     ·have he:=Val.enc (m:=m) hzv
      unfold AsVal at hza
      cases hg : tv.ty.isAgg with
      | true =>
       rw [hg] at hza
       exact .inl ⟨rfl,c,hza,he⟩
      | false =>
       rw [hg] at hza
       simp only at hza
       subst hza
       cases hE : enc tv.ty (mgetD tk.ty tv.ty a xs) [] with
       | nil=>rw [hE] at he; exact absurd he (by simp [R2])
       | cons y l =>
        rw [hE] at he
        cases l with
        | nil=>exact .inr ⟨rfl,y,rfl,he.1⟩
        | cons=>exact absurd he.2 (by simp [R2])
     ·exact .inr ⟨rfl,_,rfl,rfl⟩
def y90q (w : World) (b : Nat) (o : Go.Obj) : World:={ w with heap:=w.heap.setIfInBounds b o }
theorem y69q (w : World) (b c : Nat) (o : Go.Obj) (h : c ≠ b) : (y90q w b o).heap[c]? = w.heap[c]?:=by
 simp [y90q,Ne.symm h]
theorem ObjsOk.wroteMap {os : List (Nat × Obj)} (h : ObjsOk w0 G0 m os) {i b : Nat} (hb : blk os m i b) (o : Go.Obj) :
  m.le { m with w:=y90q m.w b o } ∧ Kept w0 (y90q m.w b o) ∧ (∀ j c,j ≠ i → blk os m j c → (y90q m.w b o).heap[c]? = m.w.heap[c]?) ∧ m.w.heap.size = (y90q m.w b o).heap.size:=by
 obtain ⟨o1,o2,o3,o4⟩:=h.out i b hb
 have hk:=h.base
 refine ⟨⟨fun c hc=>⟨hc,y69q _ _ _ _ fun e=>o1 (e ▸ hc)⟩,fun c hc=>⟨hc,y69q _ _ _ _ fun e=>o2 (e ▸ hc)⟩,fun _ h=>h,fun _ _=>rfl,fun _ _=>rfl,fun _ _=>rfl,fun _ _=>rfl⟩, ?_,fun j c hj hc=>y69q _ _ _ _ fun e=>hj (h.inj j i b (e ▸ hc) hb),by simp [y90q]⟩
 refine ⟨hk.os,hk.tape,hk.output,by simpa [y90q] using hk.size,fun c hc hm=>(y69q _ _ _ _ ?_).trans (hk.block c hc hm), ?_,hk.oldM,hk.oldS⟩
 ·rintro rfl
  rcases o4 with o4 | o4
  ·exact absurd hc (Nat.not_lt.2 o4)
  ·exact hm o4
 ·have hge : w0.o.heap.size ≤ b:=by
   rcases o4 with o4 | o4
   ·exact Nat.le_trans hk.oldS o4
   ·exact hk.oldM b o4
  have ho:=hk.old
  exact ⟨ho.os,ho.tape,ho.output,by simpa [y90q] using ho.size,fun c hc=>(y69q _ _ _ _ (by omega)).trans (ho.block c hc)⟩
theorem r2_set {α β : Type} {r : α → β → Prop} : ∀ {l : List α} {l' : List β} {j : Nat} {a : α} {b : β},R2 r l l' → r a b → R2 r (l.set j a) (l'.set j b)
 | [],[],_,_,_,h,_=>h
 | x :: l,y :: l',0,a,b,⟨_,h⟩,hab=>⟨hab,h⟩
 | x :: l,y :: l',j + 1,a,b,⟨h0,h⟩,hab=>⟨h0,r2_set h hab⟩
theorem mapSet_sound (hΓ : TabOk P Γ) (hR : Rel w0 G0 N F m e tm) {T : Nat} {ti : TI} (hf : find Γ T = some ti) {p : V} {x y : SV} {K : SV → Env → Option ρ} {r : ρ} (h : evMapSet ti.ty p x y e K = some r) {pv xv yv : Value} (hp : Lv m p pv) (hx : Sv m x xv) (hy : Sv m y yv) :
  ∃ m' e',(Instr.mapUpdate T pv xv yv).run P m.w = .ok () m'.w ∧ Stp m e m' e' ∧ Rel w0 G0 N F m' e' tm ∧ K (.tup []) e' = some r:=by
 unfold evMapSet at h
 cases p with
 | map id =>
  simp only at h
  cases ho : e.obj id with
  | none=>simp [ho] at h
  | some o =>
   cases o with
   | map k v xs =>
    simp only [ho] at h
    cases hi : isMap ti.ty k v with
    | false=>simp [hi] at h
    | true =>
     cases hd : decAll false [] k x with
     | none=>simp [hi,hd] at h
     | some a =>
      cases hd2 : decAll false [] v y with
      | none=>simp [hi,hd,hd2] at h
      | some b =>
       simp only [hi,hd,hd2,bnd_some0] at h
       obtain ⟨hty,hkf,hvf⟩:=isMap_of hi
       obtain ⟨KT,VT,tk,tv,hu,hfk,rfl,_,h0,hfv,rfl,_⟩:=(hΓ T ti hf).mp k v hty
       obtain ⟨es,cl,hh,hr⟩:=(hR.obj id _ ho).2
       obtain ⟨hD,rfl⟩:=hp
       obtain ⟨cs,hv,ha⟩:=decAll_nil hd hx
       obtain ⟨ds,hw,hwa⟩:=decAll_nil hd2 hy
       have hck : ∀ em,(Instr.checkKey em 10000 KT xv).run P m.w = .ok () m.w:=fun em=>checkKey_run hΓ em 9999 KT tk a cs xv m.w hfk h0 hkf (by have:=dep_small hΓ hfk h0 hkf; omega) hv ha
       have hbk : blk (e.objs ++ F) m id (m.β id):=y38q (by
        have ho' : find e.objs id = some (.map tk.ty tv.ty xs):=ho
        simp [blk,ho'])
       have fin : ∃ es' cl',(Instr.mapUpdate T (.map (some (m.β id))) xv yv).run P m.w = .ok () (y90q m.w (m.β id) (.map es' cl')) ∧ R2 (Ent m.w m.G tk.ty tv.ty) (mset tk.ty tv.ty a b xs) es'.toList:=by
        rcases findKey_run hΓ hfk h0 hkf hv ha m.w hr with ⟨k1,k2⟩ | ⟨j,e0,k1,k2,k3⟩
        ·refine ⟨es.push { key:=xv,val:=yv,born:=cl },cl + 1, ?_, ?_⟩
         ·simp [Instr.mapUpdate,run_underlying hu,MapKept.run_getObj_map hh,hck,k1,MapKept.run_setObj_map _ hh,y90q]
         ·rw [mset_none k2,Array.toList_push]
          exact hr.append ⟨⟨⟨cs,hv,ha⟩,ds,hw,hwa⟩,trivial⟩
        ·obtain ⟨q,q1,q2,q3⟩:=mset_first (y:=b) k3
         obtain ⟨e1,g1,⟨c0,g2,g3⟩,_⟩:=hr.get j q q1
         rw [k2] at g1
         obtain rfl:=Option.some.inj g1
         have hxq:=eqT_eq hkf q2
         subst hxq
         have hkey : e0.key = xv:=by
          have:=Val.uniq hkf g2 hv
          subst this
          exact g3.uniq ha
         have hsb : Instr.sameBits 10000 e0.key xv = true:=by rw [hkey]; exact sameBits_flat hkf hv ha 9999
         have k2' : es[j]? = some e0:=by simpa using k2
         refine ⟨es.modify j fun e=>{ e with key:=xv,val:=yv },cl, ?_, ?_⟩
         ·simp [Instr.mapUpdate,run_underlying hu,MapKept.run_getObj_map hh,hck,k1,MapKept.run_setObj_map _ hh,y90q,k2',Instr.keyThatStays,hsb]
         ·rw [q3]
          have e2 : (es.modify j fun e=>{ e with key:=xv,val:=yv }).toList = es.toList.set j { e0 with key:=xv,val:=yv }:=by
           apply List.ext_getElem?
           intro i
           simp only [Array.getElem?_toList,Array.getElem?_modify,List.getElem?_set]
           by_cases hij : j = i
           ·subst hij
            have hlt : j < es.size:=(Array.getElem?_eq_some_iff.1 k2').1
            have he0 : es[j] = e0:=(Array.getElem?_eq_some_iff.1 k2').2
            simp [k2',hlt,he0]
           ·simp [hij]
          rw [e2]
          exact r2_set hr ⟨⟨cs,hv,ha⟩,ds,hw,hwa⟩
       obtain ⟨es',cl',hrun,hr'⟩:=fin
       obtain ⟨hle,hbase,hoth,hsz⟩:=hR.ok.wroteMap hbk (.map es' cl')
       have hnG : ∀ c,m.G c → (y90q m.w (m.β id) (.map es' cl')).heap[c]? = m.w.heap[c]?:=fun c hc=>(hle.G c hc).2
       refine ⟨_,e.setObj id (.map tk.ty tv.ty (mset tk.ty tv.ty a b xs)),hrun, .same hle rfl rfl, ?_,h⟩
       refine hR.objs hle _ _ (ObjsOk.congr (hR.ok.put hle id _ _ (y91q ho) hbase hoth (fun _ hb=>hb) (fun _ hb=>hb) hsz hR.ok.gh ?_ ?_) (upd_left _ ho)) (fun i o hf=>?_)
       ·refine ⟨es',cl', ?_,hr'.imp ?_⟩
        ·exact (MapKept.heap_set hh).1
        ·rintro p q ⟨⟨c,h1,h2⟩,d,h3,h4⟩
         exact ⟨⟨c,Val.mono (fun b hb=>⟨hb,hnG b hb⟩) _ _ _ h1,h2⟩,d,Val.mono (fun b hb=>⟨hb,hnG b hb⟩) _ _ _ h3,h4⟩
       ·intro c hc
        unfold blk at hc
        rw [y46q,if_pos rfl,y91q ho] at hc
        simp only [Option.map_some] at hc
        have hc : c = m.β id:=hc
        rw [hc]; exact hbk
       ·rw [y46q] at hf
        by_cases hi : id = i
        ·subst hi; exact hR.disj _ _ ho
        ·rw [if_neg hi] at hf; exact hR.disj _ _ hf
   | _=>simp [ho] at h
 | _=>simp at h
theorem makeMap_sound (hR : Rel w0 G0 N F m e tm) {T : Nat} (k v : Ty) (hfr : ¬ m.D e.next) :
  ∃ m' z,(Instr.makeMap T none).run P m.w = .ok z m'.w ∧ Stp m e m' (e.new (.map k v [])) ∧ Rel w0 G0 N F m' (e.new (.map k v [])) tm ∧ Lv m' (.map e.next) z:=by
 have hG : ∀ b,m.G b → (m.w.alloc (.map #[] 0)).heap[b]? = m.w.heap[b]?:=fun b hb=>Below.heap_alloc _ _ _ (hR.ok.liveG b hb)
 obtain ⟨m',hle,hw,hD,hβ,_,_,hok⟩:=hR.ok.newMap (m.w.alloc (.map #[] 0)) k v [] m.w.heap.size (hR.ok.base.alloc hR.ok.base.size _) hG (fun b hb=>Below.heap_alloc _ _ _ (hR.ok.liveH b hb)) (by simp) (fun i b hb=>Below.heap_alloc _ _ _ (hR.ok.out i b hb).2.2.1)
  ⟨#[],0,(MapKept.heap_alloc m.w _).1,trivial⟩ hfr ⟨.inl hR.ok.base.size,fun hg=>by have:=hR.ok.liveG _ hg; omega,fun hg=>by have:=hR.ok.liveH _ hg; omega,fun i hi=>by have:=(hR.ok.out i _ hi).2.2.1; omega⟩
 exact ⟨m', .map (some m.w.heap.size),by rw [hw]; rfl, .new hle hD rfl,hR.push hfr hle _ hok,(hD _).2 (.inr rfl),by rw [hβ]⟩
end
end Go.Ev
end
